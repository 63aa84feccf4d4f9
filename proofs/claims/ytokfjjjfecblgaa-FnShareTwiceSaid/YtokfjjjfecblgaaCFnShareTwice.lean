/- The conditions of functions, off their texts. Printed by a program; Lean checks each one. -/
import Derived.Test.YtokfjjjfecblgaaNames
import Derived.Test.YtokfjjjfecblgaaV9
namespace Go.Proofs.Ytokfjjjfecblgaa
open Go Go.V
set_option maxRecDepth 100000
theorem c_laws_FnShareTwice (v0 : Value) (w : World) (R : Value → World → Prop) (h :
  LenV v0 fun t15 =>
  BinV BinOp.gtr t15 (Value.int IntKind.i64 1048576) fun t16 =>
  SplitV t16
  (R (Value.bool true) w)
  (CallV Try.prog N.spec_DrawPlanShare [v0] w fun t18 w_1 =>
  CallV Try.prog N.impl_PlanShare [t18] w_1 fun t21 w_2 =>
  ExtractV t21 0 fun t22 =>
  ExtractV t21 1 fun t23 =>
  ExtractV t21 2 fun t24 =>
  CallV Try.prog N.spec_PlanShare [t18] w_2 fun t27 w_3 =>
  ExtractV t27 0 fun t28 =>
  ExtractV t27 1 fun t29 =>
  ExtractV t27 2 fun t30 =>
  BoolV BinOp.neq t24 t30 fun t33 =>
  SplitV t33
  (BoolV BinOp.eql t24 t30 fun t52 =>
  SplitV t52
  (CallV Try.prog N.laws_sameRow [t23, t29] w_3 fun t56 w_4 =>
  SplitV t56
  (CallV Try.prog N.laws_samePlan [t22, t28] w_4 fun t61 w_5 =>
  R t61 w_5)
  (R (Value.bool false) w_4))
  (R (Value.bool false) w_3))
  (CallV Try.prog N.laws_sameRow [t23, t29] w_3 fun t37 w_6 =>
  NotV t37 fun t38 =>
  SplitV t38
  (BoolV BinOp.eql t24 t30 fun t52_1 =>
  SplitV t52_1
  (CallV Try.prog N.laws_sameRow [t23, t29] w_6 fun t56_1 w_7 =>
  SplitV t56_1
  (CallV Try.prog N.laws_samePlan [t22, t28] w_7 fun t61_1 w_8 =>
  R t61_1 w_8)
  (R (Value.bool false) w_7))
  (R (Value.bool false) w_6))
  (CallV Try.prog N.laws_samePlan [t22, t28] w_6 fun t43 w_9 =>
  NotV t43 fun t44 =>
  SplitV t44
  (BoolV BinOp.eql t24 t30 fun t52_2 =>
  SplitV t52_2
  (CallV Try.prog N.laws_sameRow [t23, t29] w_9 fun t56_2 w_10 =>
  SplitV t56_2
  (CallV Try.prog N.laws_samePlan [t22, t28] w_10 fun t61_2 w_11 =>
  R t61_2 w_11)
  (R (Value.bool false) w_10))
  (R (Value.bool false) w_9))
  (NotV t24 fun t48 =>
  SplitV t48
  (BoolV BinOp.eql t24 t30 fun t52_3 =>
  SplitV t52_3
  (CallV Try.prog N.laws_sameRow [t23, t29] w_9 fun t56_3 w_12 =>
  SplitV t56_3
  (CallV Try.prog N.laws_samePlan [t22, t28] w_12 fun t61_3 w_13 =>
  R t61_3 w_13)
  (R (Value.bool false) w_12))
  (R (Value.bool false) w_9))
  (CallV Try.prog N.impl_PlanShare [t22] w_9 fun t65 w_14 =>
  ExtractV t65 0 fun t66 =>
  ExtractV t65 1 fun t67 =>
  ExtractV t65 2 fun t68 =>
  LoopV [Value.int IntKind.i64 0] w_14 fun s _ w_15 K =>
  LenV t67 fun t71 =>
  BinV BinOp.lss (nthV s 0) t71 fun t72 =>
  SplitV t72
  (IdxV 1 t67 (nthV s 0) fun t77 =>
  LoadV false 1 t77 w_15 fun t78 =>
  BinV BinOp.neq t78 (nthV s 0) fun t80 =>
  SplitV t80
  (R (Value.bool false) w_15)
  (BinV BinOp.add (nthV s 0) (Value.int IntKind.i64 1) fun t74 =>
  K [t74] w_15))
  (SplitV t68
  (CallV Try.prog N.laws_samePlan [t66, t22] w_15 fun t85 w_16 =>
  SplitV t85
  (CallV Try.prog N.impl_ShareSaved [t22] w_16 fun t89 w_17 =>
  BinV BinOp.eql t89 (Value.int IntKind.i64 0) fun t90 =>
  R t90 w_17)
  (R (Value.bool false) w_16))
  (R (Value.bool false) w_15)))))))) :
    Calls Try.prog N.laws_FnShareTwice #[v0] w (Ret R) :=
  callsB (args := [v0]) ⟨(annOf [(10, [13])]), (annOf []), []⟩ Try.func3 rfl (cast (by kernel_rfl) h)

end Go.Proofs.Ytokfjjjfecblgaa
