/- The conditions of functions, off their texts. Printed by a program; Lean checks each one. -/
import Derived.Test.YtokfjjjfecblgaaNames
import Derived.Test.YtokfjjjfecblgaaV9
namespace Go.Proofs.Ytokfjjjfecblgaa
open Go Go.V
set_option maxRecDepth 100000
theorem c_laws_FnCutNumbers (v0 : Value) (w : World) (R : Value → World → Prop) (h :
  LenV v0 fun t16 =>
  BinV BinOp.gtr t16 (Value.int IntKind.i64 1048576) fun t17 =>
  SplitV t17
  (R (Value.bool true) w)
  (CallV Try.prog N.spec_DrawPlanCut [v0] w fun t20 w_1 =>
  ExtractV t20 0 fun t21 =>
  ExtractV t20 1 fun t22 =>
  CallV Try.prog N.impl_PlanCut [t21, t22] w_1 fun t26 w_2 =>
  ExtractV t26 0 fun t27 =>
  ExtractV t26 1 fun t28 =>
  ExtractV t26 2 fun t29 =>
  CallV Try.prog N.spec_PlanCut [t21, t22] w_2 fun t33 w_3 =>
  ExtractV t33 0 fun t34 =>
  ExtractV t33 1 fun t35 =>
  ExtractV t33 2 fun t36 =>
  BoolV BinOp.neq t29 t36 fun t39 =>
  SplitV t39
  (BoolV BinOp.eql t29 t36 fun t58 =>
  SplitV t58
  (CallV Try.prog N.laws_sameRow [t28, t35] w_3 fun t62 w_4 =>
  SplitV t62
  (CallV Try.prog N.laws_samePlan [t27, t34] w_4 fun t67 w_5 =>
  R t67 w_5)
  (R (Value.bool false) w_4))
  (R (Value.bool false) w_3))
  (CallV Try.prog N.laws_sameRow [t28, t35] w_3 fun t43 w_6 =>
  NotV t43 fun t44 =>
  SplitV t44
  (BoolV BinOp.eql t29 t36 fun t58_1 =>
  SplitV t58_1
  (CallV Try.prog N.laws_sameRow [t28, t35] w_6 fun t62_1 w_7 =>
  SplitV t62_1
  (CallV Try.prog N.laws_samePlan [t27, t34] w_7 fun t67_1 w_8 =>
  R t67_1 w_8)
  (R (Value.bool false) w_7))
  (R (Value.bool false) w_6))
  (CallV Try.prog N.laws_samePlan [t27, t34] w_6 fun t49 w_9 =>
  NotV t49 fun t50 =>
  SplitV t50
  (BoolV BinOp.eql t29 t36 fun t58_2 =>
  SplitV t58_2
  (CallV Try.prog N.laws_sameRow [t28, t35] w_9 fun t62_2 w_10 =>
  SplitV t62_2
  (CallV Try.prog N.laws_samePlan [t27, t34] w_10 fun t67_2 w_11 =>
  R t67_2 w_11)
  (R (Value.bool false) w_10))
  (R (Value.bool false) w_9))
  (NotV t29 fun t54 =>
  SplitV t54
  (BoolV BinOp.eql t29 t36 fun t58_3 =>
  SplitV t58_3
  (CallV Try.prog N.laws_sameRow [t28, t35] w_9 fun t62_3 w_12 =>
  SplitV t62_3
  (CallV Try.prog N.laws_samePlan [t27, t34] w_12 fun t67_3 w_13 =>
  R t67_3 w_13)
  (R (Value.bool false) w_12))
  (R (Value.bool false) w_9))
  (CallV Try.prog N.impl_CutKeep [t21, t22] w_9 fun t72 w_14 =>
  ExtractV t72 0 fun t73 =>
  ExtractV t72 1 fun t74 =>
  LoopV [Value.int IntKind.i64 0, Value.int IntKind.i64 0] w_14 fun s _ w_15 K =>
  LenV t21 fun t77 =>
  BinV BinOp.lss (nthV s 1) t77 fun t78 =>
  SplitV t78
  (CallV Try.prog N.laws_hasInt [t73, nthV s 1] w_15 fun t83 w_16 =>
  SplitV t83
  (IdxV 1 t28 (nthV s 1) fun t86 =>
  LoadV false 1 t86 w_16 fun t87 =>
  BinV BinOp.neq t87 (nthV s 0) fun t89 =>
  SplitV t89
  (R (Value.bool false) w_16)
  (BinV BinOp.add (nthV s 0) (Value.int IntKind.i64 1) fun t91 =>
  BinV BinOp.add (nthV s 1) (Value.int IntKind.i64 1) fun t80 =>
  K [t91, t80] w_16))
  (IdxV 1 t28 (nthV s 1) fun t94 =>
  LoadV false 1 t94 w_16 fun t95 =>
  BinV BinOp.neq t95 (Value.int IntKind.i64 (-1)) fun t96 =>
  SplitV t96
  (R (Value.bool false) w_16)
  (BinV BinOp.add (nthV s 1) (Value.int IntKind.i64 1) fun t80_1 =>
  K [nthV s 0, t80_1] w_16)))
  (SplitV t74
  (LenV t27 fun t101 =>
  BinV BinOp.eql (nthV s 0) t101 fun t102 =>
  R t102 w_15)
  (R (Value.bool false) w_15)))))))) :
    Calls Try.prog N.laws_FnCutNumbers #[v0] w (Ret R) :=
  callsB (args := [v0]) ⟨(annOf [(11, [13, 14])]), (annOf []), []⟩ Try.func4 rfl (cast (by kernel_rfl) h)

end Go.Proofs.Ytokfjjjfecblgaa
