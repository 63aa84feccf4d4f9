/- The conditions of functions, off their texts. Printed by a program; Lean checks each one. -/
import Derived.Test.YtblgkpfnjlobjaaNames
import Derived.Test.YtblgkpfnjlobjaaV9
namespace Go.Proofs.Ytblgkpfnjlobjaa
open Go Go.V
set_option maxRecDepth 100000
theorem c_laws_FnFold (v0 : Value) (w : World) (R : Value → World → Prop) (h :
  LenV v0 fun t13 =>
  BinV BinOp.gtr t13 (Value.int IntKind.i64 1048576) fun t14 =>
  SplitV t14
  (R (Value.bool true) w)
  (CallV Try.prog N.spec_DrawFoldNode [v0] w fun t17 w_1 =>
  ExtractV t17 0 fun t18 =>
  ExtractV t17 1 fun t19 =>
  CallV Try.prog N.impl_FoldNode [t18, t19] w_1 fun t23 w_2 =>
  ExtractV t23 0 fun t24 =>
  ExtractV t23 1 fun t25 =>
  CallV Try.prog N.spec_FoldNode [t18, t19] w_2 fun t29 w_3 =>
  ExtractV t29 0 fun t30 =>
  ExtractV t29 1 fun t31 =>
  BoolV BinOp.neq t25 t31 fun t34 =>
  SplitV t34
  (BoolV BinOp.eql t25 t31 fun t47 =>
  SplitV t47
  (CallV Try.prog N.laws_samePlan [t24, t30] w_3 fun t51 w_4 =>
  R t51 w_4)
  (R (Value.bool false) w_3))
  (CallV Try.prog N.laws_samePlan [t24, t30] w_3 fun t38 w_5 =>
  NotV t38 fun t39 =>
  SplitV t39
  (BoolV BinOp.eql t25 t31 fun t47_1 =>
  SplitV t47_1
  (CallV Try.prog N.laws_samePlan [t24, t30] w_5 fun t51_1 w_6 =>
  R t51_1 w_6)
  (R (Value.bool false) w_5))
  (NotV t25 fun t43 =>
  SplitV t43
  (BoolV BinOp.eql t25 t31 fun t47_2 =>
  SplitV t47_2
  (CallV Try.prog N.laws_samePlan [t24, t30] w_5 fun t51_2 w_7 =>
  R t51_2 w_7)
  (R (Value.bool false) w_5))
  (CallV Try.prog N.impl_ValueOf [t18, t19] w_5 fun t56 w_8 =>
  ExtractV t56 0 fun t57 =>
  ExtractV t56 1 fun t58 =>
  LoopV [Value.int IntKind.i64 0] w_8 fun s _ w_9 K =>
  LenV t18 fun t61 =>
  BinV BinOp.lss (nthV s 0) t61 fun t62 =>
  SplitV t62
  (DrawV w_9 fun S w_10 =>
  BinV BinOp.neq (nthV s 0) t19 fun t67 =>
  SplitV t67
  (IdxV 3 t24 (nthV s 0) fun t71 =>
  LoadS S true 3 t71 w_10 fun t72 =>
  IdxV 3 t18 (nthV s 0) fun t75 =>
  LoadS S true 3 t75 w_10 fun t76 =>
  CallV Try.prog N.laws_sameNode [t72, t76] w_10 fun t77 w_11 =>
  Chg S w_10 w_11 ∧
  NotV t77 fun t78 =>
  SplitV t78
  (R (Value.bool false) w_11)
  (BinV BinOp.add (nthV s 0) (Value.int IntKind.i64 1) fun t64 =>
  K [t64] w_11))
  (BinV BinOp.add (nthV s 0) (Value.int IntKind.i64 1) fun t64_1 =>
  K [t64_1] w_10))
  (CallV Try.prog N.impl_PlanValid [t24] w_9 fun t81 w_12 =>
  SplitV t81
  (SplitV t58
  (IdxV 3 t24 t19 fun t88 =>
  FAddrV 0 t88 fun t89 =>
  LoadV false 1 t89 w_12 fun t90 =>
  BinV BinOp.eql t90 (Value.int IntKind.i64 0) fun t91 =>
  SplitV t91
  (IdxV 3 t24 t19 fun t96 =>
  FAddrV 2 t96 fun t97 =>
  LoadV false 1 t97 w_12 fun t98 =>
  CallV Try.prog N.laws_sameRow [t98, t57] w_12 fun t100 w_13 =>
  SplitV t100
  (LenV t24 fun t104 =>
  LenV t18 fun t106 =>
  BinV BinOp.eql t104 t106 fun t107 =>
  R t107 w_13)
  (R (Value.bool false) w_13))
  (R (Value.bool false) w_12))
  (R (Value.bool false) w_12))
  (R (Value.bool false) w_12))))))) :
    Calls Try.prog N.laws_FnFold #[v0] w (Ret R) :=
  callsB (args := [v0]) ⟨(annOf [(10, [11])]), (annOf []), []⟩ Try.func7 rfl (cast (by kernel_rfl) h)

end Go.Proofs.Ytblgkpfnjlobjaa
