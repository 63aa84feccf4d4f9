/- The conditions of functions, off their texts. Printed by a program; Lean checks each one. -/
import Derived.Test.YtokfjjjfecblgaaNames
import Derived.Test.YtokfjjjfecblgaaV9
namespace Go.Proofs.Ytokfjjjfecblgaa
open Go Go.V
set_option maxRecDepth 100000
theorem c_laws_FnCutAll (v0 : Value) (w : World) (R : Value → World → Prop) (h :
  LenV v0 fun t18 =>
  BinV BinOp.gtr t18 (Value.int IntKind.i64 1048576) fun t19 =>
  SplitV t19
  (R (Value.bool true) w)
  (CallV Try.prog N.spec_DrawPlanCut [v0] w fun t22 w_1 =>
  ExtractV t22 0 fun t23 =>
  ExtractV t22 1 fun t24 =>
  CallV Try.prog N.impl_PlanCut [t23, t24] w_1 fun t28 w_2 =>
  ExtractV t28 0 fun t29 =>
  ExtractV t28 1 fun t30 =>
  ExtractV t28 2 fun t31 =>
  CallV Try.prog N.spec_PlanCut [t23, t24] w_2 fun t35 w_3 =>
  ExtractV t35 0 fun t36 =>
  ExtractV t35 1 fun t37 =>
  ExtractV t35 2 fun t38 =>
  BoolV BinOp.neq t31 t38 fun t41 =>
  SplitV t41
  (BoolV BinOp.eql t31 t38 fun t60 =>
  SplitV t60
  (CallV Try.prog N.laws_sameRow [t30, t37] w_3 fun t64 w_4 =>
  SplitV t64
  (CallV Try.prog N.laws_samePlan [t29, t36] w_4 fun t69 w_5 =>
  R t69 w_5)
  (R (Value.bool false) w_4))
  (R (Value.bool false) w_3))
  (CallV Try.prog N.laws_sameRow [t30, t37] w_3 fun t45 w_6 =>
  NotV t45 fun t46 =>
  SplitV t46
  (BoolV BinOp.eql t31 t38 fun t60_1 =>
  SplitV t60_1
  (CallV Try.prog N.laws_sameRow [t30, t37] w_6 fun t64_1 w_7 =>
  SplitV t64_1
  (CallV Try.prog N.laws_samePlan [t29, t36] w_7 fun t69_1 w_8 =>
  R t69_1 w_8)
  (R (Value.bool false) w_7))
  (R (Value.bool false) w_6))
  (CallV Try.prog N.laws_samePlan [t29, t36] w_6 fun t51 w_9 =>
  NotV t51 fun t52 =>
  SplitV t52
  (BoolV BinOp.eql t31 t38 fun t60_2 =>
  SplitV t60_2
  (CallV Try.prog N.laws_sameRow [t30, t37] w_9 fun t64_2 w_10 =>
  SplitV t64_2
  (CallV Try.prog N.laws_samePlan [t29, t36] w_10 fun t69_2 w_11 =>
  R t69_2 w_11)
  (R (Value.bool false) w_10))
  (R (Value.bool false) w_9))
  (NotV t31 fun t56 =>
  SplitV t56
  (BoolV BinOp.eql t31 t38 fun t60_3 =>
  SplitV t60_3
  (CallV Try.prog N.laws_sameRow [t30, t37] w_9 fun t64_3 w_12 =>
  SplitV t64_3
  (CallV Try.prog N.laws_samePlan [t29, t36] w_12 fun t69_3 w_13 =>
  R t69_3 w_13)
  (R (Value.bool false) w_12))
  (R (Value.bool false) w_9))
  (CallV Try.prog N.impl_PlanEnds [t23] w_9 fun t74 w_14 =>
  CallV Try.prog N.impl_PlanCut [t23, t74] w_14 fun t75 w_15 =>
  ExtractV t75 0 fun t76 =>
  ExtractV t75 1 fun _ =>
  ExtractV t75 2 fun t78 =>
  BSliceV T.int 1 0 #[Value.int IntKind.i64 0] [] w_15 fun t81 w_16 =>
  CallV Try.prog N.impl_PlanCut [t23, t81] w_16 fun t82 w_17 =>
  ExtractV t82 0 fun t83 =>
  ExtractV t82 1 fun _ =>
  ExtractV t82 2 fun t85 =>
  SplitV t78
  (SplitV t85
  (CallV Try.prog N.laws_samePlan [t76, t23] w_17 fun t93 w_18 =>
  SplitV t93
  (LenV t83 fun t97 =>
  BinV BinOp.eql t97 (Value.int IntKind.i64 0) fun t98 =>
  R t98 w_18)
  (R (Value.bool false) w_18))
  (R (Value.bool false) w_17))
  (R (Value.bool false) w_17))))))) :
    Calls Try.prog N.laws_FnCutAll #[v0] w (Ret R) :=
  callsB (args := [v0]) ⟨(annOf []), (annOf []), []⟩ Try.func6 rfl (cast (by kernel_rfl) h)

end Go.Proofs.Ytokfjjjfecblgaa
