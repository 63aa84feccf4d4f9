/- The conditions of functions, off their texts. Printed by a program; Lean checks each one. -/
import Derived.Test.YtblgkpfnjlobjaaNames
import Derived.Test.YtblgkpfnjlobjaaV9
namespace Go.Proofs.Ytblgkpfnjlobjaa
open Go Go.V
set_option maxRecDepth 100000
theorem c_laws_FnCrewNewShare (v0 : Value) (w : World) (R : Value → World → Prop) (h :
  LenV v0 fun t11 =>
  BinV BinOp.gtr t11 (Value.int IntKind.i64 1048576) fun t12 =>
  SplitV t12
  (R (Value.bool true) w)
  (CallV Try.prog N.spec_DrawCrewNew [v0] w fun t15 w_1 =>
  ExtractV t15 0 fun t16 =>
  ExtractV t15 1 fun t17 =>
  CallV Try.prog N.impl_CrewNew [t16, t17] w_1 fun t21 w_2 =>
  ExtractV t21 0 fun t22 =>
  ExtractV t21 1 fun t23 =>
  BoxV T.impl_Crew (Value.agg #[Value.slice none 0 0, Value.slice none 0 0, Value.slice none 0 0, Value.slice none 0 0]) w_2 fun t5 w_3 =>
  StoreV 4 t5 t22 w_3 fun w_4 =>
  CallV Try.prog N.spec_CrewNew [t16, t17] w_4 fun t27 w_5 =>
  ExtractV t27 0 fun t28 =>
  ExtractV t27 1 fun t29 =>
  BoxV T.impl_Crew (Value.agg #[Value.slice none 0 0, Value.slice none 0 0, Value.slice none 0 0, Value.slice none 0 0]) w_5 fun t7 w_6 =>
  StoreV 4 t7 t28 w_6 fun w_7 =>
  BoolV BinOp.neq t23 t29 fun t32 =>
  SplitV t32
  (BoolV BinOp.eql t23 t29 fun t45 =>
  SplitV t45
  (LoadV true 4 t5 w_7 fun t47 =>
  LoadV true 4 t7 w_7 fun t48 =>
  CallV Try.prog N.laws_sameCrew [t47, t48] w_7 fun t49 w_8 =>
  R t49 w_8)
  (R (Value.bool false) w_7))
  (LoadV true 4 t5 w_7 fun t34 =>
  LoadV true 4 t7 w_7 fun t35 =>
  CallV Try.prog N.laws_sameCrew [t34, t35] w_7 fun t36 w_9 =>
  NotV t36 fun t37 =>
  SplitV t37
  (BoolV BinOp.eql t23 t29 fun t45_1 =>
  SplitV t45_1
  (LoadV true 4 t5 w_9 fun t47_1 =>
  LoadV true 4 t7 w_9 fun t48_1 =>
  CallV Try.prog N.laws_sameCrew [t47_1, t48_1] w_9 fun t49_1 w_10 =>
  R t49_1 w_10)
  (R (Value.bool false) w_9))
  (NotV t23 fun t41 =>
  SplitV t41
  (BoolV BinOp.eql t23 t29 fun t45_2 =>
  SplitV t45_2
  (LoadV true 4 t5 w_9 fun t47_2 =>
  LoadV true 4 t7 w_9 fun t48_2 =>
  CallV Try.prog N.laws_sameCrew [t47_2, t48_2] w_9 fun t49_2 w_11 =>
  R t49_2 w_11)
  (R (Value.bool false) w_9))
  (LoopV [Value.int IntKind.i64 1] w_9 fun s _ w_12 K =>
  FAddrV 0 t5 fun t52 =>
  LoadV false 1 t52 w_12 fun t53 =>
  LenV t53 fun t54 =>
  BinV BinOp.lss (nthV s 0) t54 fun t55 =>
  SplitV t55
  (DrawV w_12 fun S w_13 =>
  FAddrV 0 t5 fun t58 =>
  LoadS S false 1 t58 w_13 fun t59 =>
  IdxV 1 t59 (nthV s 0) fun t61 =>
  LoadS S false 1 t61 w_13 fun t62 =>
  LenV t62 fun t63 =>
  FAddrV 0 t5 fun t64 =>
  LoadS S false 1 t64 w_13 fun t65 =>
  BinV BinOp.sub (nthV s 0) (Value.int IntKind.i64 1) fun t67 =>
  IdxV 1 t65 t67 fun t68 =>
  LoadS S false 1 t68 w_13 fun t69 =>
  LenV t69 fun t70 =>
  BinV BinOp.gtr t63 t70 fun t71 =>
  SplitV t71
  (R (Value.bool false) w_13)
  (FAddrV 0 t5 fun t73 =>
  LoadS S false 1 t73 w_13 fun t74 =>
  IdxV 1 t74 (Value.int IntKind.i64 0) fun t75 =>
  LoadS S false 1 t75 w_13 fun t76 =>
  LenV t76 fun t77 =>
  FAddrV 0 t5 fun t78 =>
  LoadS S false 1 t78 w_13 fun t79 =>
  IdxV 1 t79 (nthV s 0) fun t81 =>
  LoadS S false 1 t81 w_13 fun t82 =>
  LenV t82 fun t83 =>
  BinV BinOp.sub t77 t83 fun t84 =>
  BinV BinOp.gtr t84 (Value.int IntKind.i64 1) fun t85 =>
  SplitV t85
  (R (Value.bool false) w_13)
  (BinV BinOp.add (nthV s 0) (Value.int IntKind.i64 1) fun t57 =>
  K [t57] w_13)))
  (R (Value.bool true) w_12)))))) :
    Calls Try.prog N.laws_FnCrewNewShare #[v0] w (Ret R) :=
  callsB (args := [v0]) ⟨(annOf [(9, [9])]), (annOf []), []⟩ Try.func14 rfl (cast (by kernel_rfl) h)

end Go.Proofs.Ytblgkpfnjlobjaa
