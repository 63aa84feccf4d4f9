/- The conditions of functions, off their texts. Printed by a program; Lean checks each one. -/
import Derived.Test.YtokfjjjfecblgaaNames
import Derived.Test.YtokfjjjfecblgaaV9
namespace Go.Proofs.Ytokfjjjfecblgaa
open Go Go.V
set_option maxRecDepth 100000
theorem c_laws_FnExactPlanShare (v0 : Value) (w : World) (R : Value → World → Prop) (h :
  CallV Try.prog N.laws_szNodeS [v0, Value.int IntKind.i64 1048576] w fun t19 w_1 =>
  BinV BinOp.lss t19 (Value.int IntKind.i64 0) fun t21 =>
  SplitV t21
  (R (Value.bool true) w_1)
  (CallV Try.prog N.laws_toNodeS [v0] w_1 fun t24 w_2 =>
  CallV Try.prog N.spec_PlanShare [t24] w_2 fun t25 w_3 =>
  ExtractV t25 0 fun t26 =>
  ExtractV t25 1 fun t27 =>
  ExtractV t25 2 fun t28 =>
  CallV Try.prog N.laws_toNodeS [v0] w_3 fun t30 w_4 =>
  CallV Try.prog N.impl_PlanShare [t30] w_4 fun t33 w_5 =>
  ExtractV t33 0 fun t34 =>
  ExtractV t33 1 fun t35 =>
  ExtractV t33 2 fun t36 =>
  CallV Try.prog N.laws_eqNodeS [t34, t26] w_5 fun t39 w_6 =>
  NotV t39 fun t40 =>
  SplitV t40
  (R (Value.bool false) w_6)
  (CallV Try.prog N.laws_eqIntS [t35, t27] w_6 fun t44 w_7 =>
  NotV t44 fun t45 =>
  SplitV t45
  (R (Value.bool false) w_7)
  (BoolV BinOp.neq t36 t28 fun t50 =>
  SplitV t50
  (R (Value.bool false) w_7)
  (CallV Try.prog N.laws_toNodeS [v0] w_7 fun t54 w_8 =>
  CallV Try.prog N.laws_eqNodeS [t30, t54] w_8 fun t55 w_9 =>
  NotV t55 fun t56 =>
  SplitV t56
  (R (Value.bool false) w_9)
  (CallV Try.prog N.laws_markNodeS [t30, Value.int IntKind.i64 1] w_9 fun t59 w_10 =>
  BinV BinOp.lss t59 (Value.int IntKind.i64 0) fun t61 =>
  SplitV t61
  (R (Value.bool false) w_10)
  (CallV Try.prog N.laws_eqNodeS [t34, t26] w_10 fun t65 w_11 =>
  NotV t65 fun t66 =>
  SplitV t66
  (R (Value.bool false) w_11)
  (CallV Try.prog N.laws_eqIntS [t35, t27] w_11 fun t71 w_12 =>
  NotV t71 fun t72 =>
  SplitV t72
  (R (Value.bool false) w_12)
  (BoolV BinOp.neq t36 t28 fun t77 =>
  SplitV t77
  (R (Value.bool false) w_12)
  (CallV Try.prog N.laws_markNodeS [t34, Value.int IntKind.i64 1] w_12 fun t81 w_13 =>
  CallV Try.prog N.laws_markIntS [t35, t81] w_13 fun t84 w_14 =>
  CallV Try.prog N.laws_heldNodeS [t34, Value.int IntKind.i64 1] w_14 fun t87 w_15 =>
  BinV BinOp.lss t87 (Value.int IntKind.i64 0) fun t89 =>
  SplitV t89
  (R (Value.bool false) w_15)
  (CallV Try.prog N.laws_heldIntS [t35, t87] w_15 fun t92 w_16 =>
  BinV BinOp.lss t92 (Value.int IntKind.i64 0) fun t94 =>
  SplitV t94
  (R (Value.bool false) w_16)
  (BinV BinOp.neq t92 t84 fun t97 =>
  SplitV t97
  (R (Value.bool false) w_16)
  (CallV Try.prog N.laws_toNodeS [v0] w_16 fun t100 w_17 =>
  CallV Try.prog N.impl_PlanShare [t100] w_17 fun t101 w_18 =>
  ExtractV t101 0 fun t102 =>
  ExtractV t101 1 fun t103 =>
  ExtractV t101 2 fun t104 =>
  CallV Try.prog N.laws_eqNodeS [t102, t26] w_18 fun t107 w_19 =>
  NotV t107 fun t108 =>
  SplitV t108
  (R (Value.bool false) w_19)
  (CallV Try.prog N.laws_eqIntS [t103, t27] w_19 fun t112 w_20 =>
  NotV t112 fun t113 =>
  SplitV t113
  (R (Value.bool false) w_20)
  (BoolV BinOp.neq t104 t28 fun t118 =>
  SplitV t118
  (R (Value.bool false) w_20)
  (CallV Try.prog N.laws_heldNodeS [t34, Value.int IntKind.i64 1] w_20 fun t122 w_21 =>
  BinV BinOp.lss t122 (Value.int IntKind.i64 0) fun t124 =>
  SplitV t124
  (R (Value.bool false) w_21)
  (CallV Try.prog N.laws_heldIntS [t35, t122] w_21 fun t127 w_22 =>
  BinV BinOp.lss t127 (Value.int IntKind.i64 0) fun t129 =>
  SplitV t129
  (R (Value.bool false) w_22)
  (BinV BinOp.neq t127 t84 fun t132 =>
  SplitV t132
  (R (Value.bool false) w_22)
  (R (Value.bool true) w_22))))))))))))))))))) :
    Calls Try.prog N.laws_FnExactPlanShare #[v0] w (Ret R) :=
  callsB (args := [v0]) ⟨(annOf []), (annOf []), []⟩ Try.func5 rfl (cast (by kernel_rfl) h)

end Go.Proofs.Ytokfjjjfecblgaa
