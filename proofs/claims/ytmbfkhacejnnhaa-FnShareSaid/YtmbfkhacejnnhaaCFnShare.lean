/- The conditions of functions, off their texts. Printed by a program; Lean checks each one. -/
import Derived.Test.YtmbfkhacejnnhaaNames
import Derived.Test.YtmbfkhacejnnhaaV9
namespace Go.Proofs.Ytmbfkhacejnnhaa
open Go Go.V
set_option maxRecDepth 100000
theorem c_laws_FnShare (v0 : Value) (w : World) (R : Value → World → Prop) (h :
  LenV v0 fun t16 =>
  BinV BinOp.gtr t16 (Value.int IntKind.i64 1048576) fun t17 =>
  SplitV t17
  (R (Value.bool true) w)
  (CallV Try.prog N.spec_DrawPlanShare [v0] w fun t19 w_1 =>
  CallV Try.prog N.impl_PlanShare [t19] w_1 fun t22 w_2 =>
  ExtractV t22 0 fun t23 =>
  ExtractV t22 1 fun t24 =>
  ExtractV t22 2 fun t25 =>
  CallV Try.prog N.spec_PlanShare [t19] w_2 fun t28 w_3 =>
  ExtractV t28 0 fun t29 =>
  ExtractV t28 1 fun t30 =>
  ExtractV t28 2 fun t31 =>
  BoolV BinOp.neq t25 t31 fun t34 =>
  SplitV t34
  (BoolV BinOp.eql t25 t31 fun t53 =>
  SplitV t53
  (CallV Try.prog N.laws_sameRow [t24, t30] w_3 fun t57 w_4 =>
  SplitV t57
  (CallV Try.prog N.laws_samePlan [t23, t29] w_4 fun t62 w_5 =>
  R t62 w_5)
  (R (Value.bool false) w_4))
  (R (Value.bool false) w_3))
  (CallV Try.prog N.laws_sameRow [t24, t30] w_3 fun t38 w_6 =>
  NotV t38 fun t39 =>
  SplitV t39
  (BoolV BinOp.eql t25 t31 fun t53_1 =>
  SplitV t53_1
  (CallV Try.prog N.laws_sameRow [t24, t30] w_6 fun t57_1 w_7 =>
  SplitV t57_1
  (CallV Try.prog N.laws_samePlan [t23, t29] w_7 fun t62_1 w_8 =>
  R t62_1 w_8)
  (R (Value.bool false) w_7))
  (R (Value.bool false) w_6))
  (CallV Try.prog N.laws_samePlan [t23, t29] w_6 fun t44 w_9 =>
  NotV t44 fun t45 =>
  SplitV t45
  (BoolV BinOp.eql t25 t31 fun t53_2 =>
  SplitV t53_2
  (CallV Try.prog N.laws_sameRow [t24, t30] w_9 fun t57_2 w_10 =>
  SplitV t57_2
  (CallV Try.prog N.laws_samePlan [t23, t29] w_10 fun t62_2 w_11 =>
  R t62_2 w_11)
  (R (Value.bool false) w_10))
  (R (Value.bool false) w_9))
  (NotV t25 fun t49 =>
  SplitV t49
  (BoolV BinOp.eql t25 t31 fun t53_3 =>
  SplitV t53_3
  (CallV Try.prog N.laws_sameRow [t24, t30] w_9 fun t57_3 w_12 =>
  SplitV t57_3
  (CallV Try.prog N.laws_samePlan [t23, t29] w_12 fun t62_3 w_13 =>
  R t62_3 w_13)
  (R (Value.bool false) w_12))
  (R (Value.bool false) w_9))
  (CallV Try.prog N.impl_ValuesOf [t19] w_9 fun t66 w_14 =>
  ExtractV t66 0 fun t67 =>
  ExtractV t66 1 fun t68 =>
  CallV Try.prog N.impl_ValuesOf [t23] w_14 fun t71 w_15 =>
  ExtractV t71 0 fun t72 =>
  ExtractV t71 1 fun t73 =>
  LoopV [Value.int IntKind.i64 0] w_15 fun s _ w_16 K =>
  LenV t19 fun t76 =>
  BinV BinOp.lss (nthV s 0) t76 fun t77 =>
  SplitV t77
  (DrawV w_16 fun S w_17 =>
  IdxV 1 t24 (nthV s 0) fun t82 =>
  LoadS S false 1 t82 w_17 fun t83 =>
  BinV BinOp.lss t83 (Value.int IntKind.i64 0) fun t84 =>
  SplitV t84
  (R (Value.bool false) w_17)
  (IdxV 1 t24 (nthV s 0) fun t88 =>
  LoadS S false 1 t88 w_17 fun t89 =>
  LenV t23 fun t91 =>
  BinV BinOp.geq t89 t91 fun t92 =>
  SplitV t92
  (R (Value.bool false) w_17)
  (IdxV 1 t67 (nthV s 0) fun t97 =>
  LoadS S false 1 t97 w_17 fun t98 =>
  IdxV 1 t24 (nthV s 0) fun t102 =>
  LoadS S false 1 t102 w_17 fun t103 =>
  IdxV 1 t72 t103 fun t104 =>
  LoadS S false 1 t104 w_17 fun t105 =>
  CallV Try.prog N.laws_sameRow [t98, t105] w_17 fun t106 w_18 =>
  Chg S w_17 w_18 ∧
  NotV t106 fun t107 =>
  SplitV t107
  (R (Value.bool false) w_18)
  (BinV BinOp.add (nthV s 0) (Value.int IntKind.i64 1) fun t79 =>
  K [t79] w_18))))
  (SplitV t68
  (SplitV t73
  (LenV t24 fun t115 =>
  LenV t19 fun t117 =>
  BinV BinOp.eql t115 t117 fun t118 =>
  R t118 w_16)
  (R (Value.bool false) w_16))
  (R (Value.bool false) w_16)))))))) :
    Calls Try.prog N.laws_FnShare #[v0] w (Ret R) :=
  callsB (args := [v0]) ⟨(annOf [(11, [14])]), (annOf []), []⟩ Try.func5 rfl (cast (by kernel_rfl) h)

end Go.Proofs.Ytmbfkhacejnnhaa
