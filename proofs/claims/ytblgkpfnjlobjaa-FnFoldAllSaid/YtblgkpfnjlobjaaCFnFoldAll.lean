/- The conditions of functions, off their texts. Printed by a program; Lean checks each one. -/
import Derived.Test.YtblgkpfnjlobjaaNames
import Derived.Test.YtblgkpfnjlobjaaV9
namespace Go.Proofs.Ytblgkpfnjlobjaa
open Go Go.V
set_option maxRecDepth 100000
theorem c_laws_FnFoldAll (v0 : Value) (w : World) (R : Value → World → Prop) (h :
  LenV v0 fun t11 =>
  BinV BinOp.gtr t11 (Value.int IntKind.i64 1048576) fun t12 =>
  SplitV t12
  (R (Value.bool true) w)
  (CallV Try.prog N.spec_DrawFoldAll [v0] w fun t15 w_1 =>
  ExtractV t15 0 fun t16 =>
  ExtractV t15 1 fun t17 =>
  CallV Try.prog N.impl_FoldAll [t16, t17] w_1 fun t21 w_2 =>
  ExtractV t21 0 fun t22 =>
  ExtractV t21 1 fun t23 =>
  CallV Try.prog N.spec_FoldAll [t16, t17] w_2 fun t27 w_3 =>
  ExtractV t27 0 fun t28 =>
  ExtractV t27 1 fun t29 =>
  BoolV BinOp.neq t23 t29 fun t32 =>
  SplitV t32
  (BoolV BinOp.eql t23 t29 fun t45 =>
  SplitV t45
  (CallV Try.prog N.laws_samePlan [t22, t28] w_3 fun t49 w_4 =>
  R t49 w_4)
  (R (Value.bool false) w_3))
  (CallV Try.prog N.laws_samePlan [t22, t28] w_3 fun t36 w_5 =>
  NotV t36 fun t37 =>
  SplitV t37
  (BoolV BinOp.eql t23 t29 fun t45_1 =>
  SplitV t45_1
  (CallV Try.prog N.laws_samePlan [t22, t28] w_5 fun t49_1 w_6 =>
  R t49_1 w_6)
  (R (Value.bool false) w_5))
  (NotV t23 fun t41 =>
  SplitV t41
  (BoolV BinOp.eql t23 t29 fun t45_2 =>
  SplitV t45_2
  (CallV Try.prog N.laws_samePlan [t22, t28] w_5 fun t49_2 w_7 =>
  R t49_2 w_7)
  (R (Value.bool false) w_5))
  (LoopV [Value.int IntKind.i64 0] w_5 fun s _ w_8 K =>
  LenV t16 fun t53 =>
  BinV BinOp.lss (nthV s 0) t53 fun t54 =>
  SplitV t54
  (DrawV w_8 fun S w_9 =>
  CallV Try.prog N.laws_hasInt [t17, nthV s 0] w_9 fun t59 w_10 =>
  Chg S w_9 w_10 ∧
  SplitV t59
  (IdxV 3 t22 (nthV s 0) fun t63 =>
  FAddrV 0 t63 fun t64 =>
  LoadS S false 1 t64 w_10 fun t65 =>
  BinV BinOp.neq t65 (Value.int IntKind.i64 0) fun t66 =>
  SplitV t66
  (R (Value.bool false) w_10)
  (CallV Try.prog N.laws_hasInt [t17, nthV s 0] w_10 fun t71 w_11 =>
  Chg S w_10 w_11 ∧
  NotV t71 fun t72 =>
  SplitV t72
  (IdxV 3 t22 (nthV s 0) fun t76 =>
  LoadS S true 3 t76 w_11 fun t77 =>
  IdxV 3 t16 (nthV s 0) fun t80 =>
  LoadS S true 3 t80 w_11 fun t81 =>
  CallV Try.prog N.laws_sameNode [t77, t81] w_11 fun t82 w_12 =>
  Chg S w_11 w_12 ∧
  NotV t82 fun t83 =>
  SplitV t83
  (R (Value.bool false) w_12)
  (BinV BinOp.add (nthV s 0) (Value.int IntKind.i64 1) fun t56 =>
  K [t56] w_12))
  (BinV BinOp.add (nthV s 0) (Value.int IntKind.i64 1) fun t56_1 =>
  K [t56_1] w_11)))
  (CallV Try.prog N.laws_hasInt [t17, nthV s 0] w_10 fun t71_1 w_13 =>
  Chg S w_10 w_13 ∧
  NotV t71_1 fun t72_1 =>
  SplitV t72_1
  (IdxV 3 t22 (nthV s 0) fun t76_1 =>
  LoadS S true 3 t76_1 w_13 fun t77_1 =>
  IdxV 3 t16 (nthV s 0) fun t80_1 =>
  LoadS S true 3 t80_1 w_13 fun t81_1 =>
  CallV Try.prog N.laws_sameNode [t77_1, t81_1] w_13 fun t82_1 w_14 =>
  Chg S w_13 w_14 ∧
  NotV t82_1 fun t83_1 =>
  SplitV t83_1
  (R (Value.bool false) w_14)
  (BinV BinOp.add (nthV s 0) (Value.int IntKind.i64 1) fun t56_2 =>
  K [t56_2] w_14))
  (BinV BinOp.add (nthV s 0) (Value.int IntKind.i64 1) fun t56_3 =>
  K [t56_3] w_13)))
  (CallV Try.prog N.impl_PlanValid [t22] w_8 fun t87 w_15 =>
  SplitV t87
  (LenV t22 fun t90 =>
  LenV t16 fun t92 =>
  BinV BinOp.eql t90 t92 fun t93 =>
  R t93 w_15)
  (R (Value.bool false) w_15))))))) :
    Calls Try.prog N.laws_FnFoldAll #[v0] w (Ret R) :=
  callsB (args := [v0]) ⟨(annOf [(9, [9])]), (annOf []), []⟩ Try.func10 rfl (cast (by kernel_rfl) h)

end Go.Proofs.Ytblgkpfnjlobjaa
