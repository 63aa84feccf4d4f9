/- The conditions of functions, off their texts. Printed by a program; Lean checks each one. -/
import Derived.Test.YtokfjjjfecblgaaNames
import Derived.Test.YtokfjjjfecblgaaV9
namespace Go.Proofs.Ytokfjjjfecblgaa
open Go Go.V
set_option maxRecDepth 100000
theorem c_laws_FnCutEnds (v0 : Value) (w : World) (R : Value → World → Prop) (h :
  LenV v0 fun t16 =>
  BinV BinOp.gtr t16 (Value.int IntKind.i64 1048576) fun t17 =>
  SplitV t17
  (R (Value.bool true) w)
  (CallV Try.prog N.spec_DrawPlanCut [v0] w fun t20 w_1 =>
  ExtractV t20 0 fun t21 =>
  ExtractV t20 1 fun t22 =>
  CallV Try.prog N.impl_PlanCut [t21, t22] w_1 fun t26 w_2 =>
  ExtractV t26 0 fun t27 =>
  ExtractV t26 1 fun t28 =>
  ExtractV t26 2 fun t29 =>
  CallV Try.prog N.spec_PlanCut [t21, t22] w_2 fun t33 w_3 =>
  ExtractV t33 0 fun t34 =>
  ExtractV t33 1 fun t35 =>
  ExtractV t33 2 fun t36 =>
  BoolV BinOp.neq t29 t36 fun t39 =>
  SplitV t39
  (BoolV BinOp.eql t29 t36 fun t58 =>
  SplitV t58
  (CallV Try.prog N.laws_sameRow [t28, t35] w_3 fun t62 w_4 =>
  SplitV t62
  (CallV Try.prog N.laws_samePlan [t27, t34] w_4 fun t67 w_5 =>
  R t67 w_5)
  (R (Value.bool false) w_4))
  (R (Value.bool false) w_3))
  (CallV Try.prog N.laws_sameRow [t28, t35] w_3 fun t43 w_6 =>
  NotV t43 fun t44 =>
  SplitV t44
  (BoolV BinOp.eql t29 t36 fun t58_1 =>
  SplitV t58_1
  (CallV Try.prog N.laws_sameRow [t28, t35] w_6 fun t62_1 w_7 =>
  SplitV t62_1
  (CallV Try.prog N.laws_samePlan [t27, t34] w_7 fun t67_1 w_8 =>
  R t67_1 w_8)
  (R (Value.bool false) w_7))
  (R (Value.bool false) w_6))
  (CallV Try.prog N.laws_samePlan [t27, t34] w_6 fun t49 w_9 =>
  NotV t49 fun t50 =>
  SplitV t50
  (BoolV BinOp.eql t29 t36 fun t58_2 =>
  SplitV t58_2
  (CallV Try.prog N.laws_sameRow [t28, t35] w_9 fun t62_2 w_10 =>
  SplitV t62_2
  (CallV Try.prog N.laws_samePlan [t27, t34] w_10 fun t67_2 w_11 =>
  R t67_2 w_11)
  (R (Value.bool false) w_10))
  (R (Value.bool false) w_9))
  (NotV t29 fun t54 =>
  SplitV t54
  (BoolV BinOp.eql t29 t36 fun t58_3 =>
  SplitV t58_3
  (CallV Try.prog N.laws_sameRow [t28, t35] w_9 fun t62_3 w_12 =>
  SplitV t62_3
  (CallV Try.prog N.laws_samePlan [t27, t34] w_12 fun t67_3 w_13 =>
  R t67_3 w_13)
  (R (Value.bool false) w_12))
  (R (Value.bool false) w_9))
  (CallV Try.prog N.impl_PlanEnds [t27] w_9 fun t70 w_14 =>
  LoopV [Value.int IntKind.i64 0] w_14 fun s _ w_15 K =>
  LenV t70 fun t73 =>
  BinV BinOp.lss (nthV s 0) t73 fun t74 =>
  SplitV t74
  (LoopV [Value.bool false, Value.int IntKind.i64 0] w_15 fun s_1 _ w_16 K_1 =>
  LenV t22 fun t79 =>
  BinV BinOp.lss (nthV s_1 1) t79 fun t80 =>
  SplitV t80
  (DrawV w_16 fun S w_17 =>
  SplitV (nthV s_1 0)
  (BinV BinOp.add (nthV s_1 1) (Value.int IntKind.i64 1) fun t82 =>
  K_1 [Value.bool true, t82] w_17)
  (IdxV 1 t22 (nthV s_1 1) fun t88 =>
  LoadS S false 1 t88 w_17 fun t89 =>
  IdxV 1 t28 t89 fun t90 =>
  LoadS S false 1 t90 w_17 fun t91 =>
  IdxV 1 t70 (nthV s 0) fun t94 =>
  LoadS S false 1 t94 w_17 fun t95 =>
  BinV BinOp.eql t91 t95 fun t96 =>
  BinV BinOp.add (nthV s_1 1) (Value.int IntKind.i64 1) fun t82_1 =>
  K_1 [t96, t82_1] w_17))
  (NotV (nthV s_1 0) fun t99 =>
  SplitV t99
  (R (Value.bool false) w_16)
  (BinV BinOp.add (nthV s 0) (Value.int IntKind.i64 1) fun t76 =>
  K [t76] w_16)))
  (R (Value.bool true) w_15))))))) :
    Calls Try.prog N.laws_FnCutEnds #[v0] w (Ret R) :=
  callsB (args := [v0]) ⟨(annOf [(10, [12]), (14, [13, 14])]), (annOf []), []⟩ Try.func7 rfl (cast (by kernel_rfl) h)

end Go.Proofs.Ytokfjjjfecblgaa
