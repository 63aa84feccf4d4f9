/- The conditions of functions, off their texts. Printed by a program; Lean checks each one. -/
import Derived.Test.YtokfjjjfecblgaaNames
import Derived.Test.YtokfjjjfecblgaaV9
namespace Go.Proofs.Ytokfjjjfecblgaa
open Go Go.V
set_option maxRecDepth 100000
theorem c_laws_FnExactPlanCut (v0 : Value) (v1 : Value) (w : World) (R : Value → World → Prop) (h :
  LenV v1 fun t21 =>
  BinV BinOp.gtr t21 (Value.int IntKind.i64 1048576) fun t22 =>
  SplitV t22
  (R (Value.bool true) w)
  (CallV Try.prog N.laws_szNodeS [v0, Value.int IntKind.i64 1048576] w fun t25 w_1 =>
  BinV BinOp.lss t25 (Value.int IntKind.i64 0) fun t27 =>
  SplitV t27
  (R (Value.bool true) w_1)
  (CallV Try.prog N.laws_toNodeS [v0] w_1 fun t30 w_2 =>
  CallV Try.prog N.laws_toIntS [v1] w_2 fun t32 w_3 =>
  CallV Try.prog N.spec_PlanCut [t30, t32] w_3 fun t33 w_4 =>
  ExtractV t33 0 fun t34 =>
  ExtractV t33 1 fun t35 =>
  ExtractV t33 2 fun t36 =>
  CallV Try.prog N.laws_toNodeS [v0] w_4 fun t38 w_5 =>
  CallV Try.prog N.laws_toIntS [v1] w_5 fun t40 w_6 =>
  CallV Try.prog N.impl_PlanCut [t38, t40] w_6 fun t44 w_7 =>
  ExtractV t44 0 fun t45 =>
  ExtractV t44 1 fun t46 =>
  ExtractV t44 2 fun t47 =>
  CallV Try.prog N.laws_eqNodeS [t45, t34] w_7 fun t50 w_8 =>
  NotV t50 fun t51 =>
  SplitV t51
  (R (Value.bool false) w_8)
  (CallV Try.prog N.laws_eqIntS [t46, t35] w_8 fun t55 w_9 =>
  NotV t55 fun t56 =>
  SplitV t56
  (R (Value.bool false) w_9)
  (BoolV BinOp.neq t47 t36 fun t61 =>
  SplitV t61
  (R (Value.bool false) w_9)
  (CallV Try.prog N.laws_toNodeS [v0] w_9 fun t65 w_10 =>
  CallV Try.prog N.laws_eqNodeS [t38, t65] w_10 fun t66 w_11 =>
  NotV t66 fun t67 =>
  SplitV t67
  (R (Value.bool false) w_11)
  (CallV Try.prog N.laws_toIntS [v1] w_11 fun t70 w_12 =>
  CallV Try.prog N.laws_eqIntS [t40, t70] w_12 fun t71 w_13 =>
  NotV t71 fun t72 =>
  SplitV t72
  (R (Value.bool false) w_13)
  (CallV Try.prog N.laws_markNodeS [t38, Value.int IntKind.i64 1] w_13 fun t75 w_14 =>
  CallV Try.prog N.laws_markIntS [t40, t75] w_14 fun t78 w_15 =>
  BinV BinOp.lss t78 (Value.int IntKind.i64 0) fun t80 =>
  SplitV t80
  (R (Value.bool false) w_15)
  (CallV Try.prog N.laws_eqNodeS [t45, t34] w_15 fun t84 w_16 =>
  NotV t84 fun t85 =>
  SplitV t85
  (R (Value.bool false) w_16)
  (CallV Try.prog N.laws_eqIntS [t46, t35] w_16 fun t90 w_17 =>
  NotV t90 fun t91 =>
  SplitV t91
  (R (Value.bool false) w_17)
  (BoolV BinOp.neq t47 t36 fun t96 =>
  SplitV t96
  (R (Value.bool false) w_17)
  (CallV Try.prog N.laws_markNodeS [t45, Value.int IntKind.i64 1] w_17 fun t100 w_18 =>
  CallV Try.prog N.laws_markIntS [t46, t100] w_18 fun t103 w_19 =>
  CallV Try.prog N.laws_heldNodeS [t45, Value.int IntKind.i64 1] w_19 fun t106 w_20 =>
  BinV BinOp.lss t106 (Value.int IntKind.i64 0) fun t108 =>
  SplitV t108
  (R (Value.bool false) w_20)
  (CallV Try.prog N.laws_heldIntS [t46, t106] w_20 fun t111 w_21 =>
  BinV BinOp.lss t111 (Value.int IntKind.i64 0) fun t113 =>
  SplitV t113
  (R (Value.bool false) w_21)
  (BinV BinOp.neq t111 t103 fun t116 =>
  SplitV t116
  (R (Value.bool false) w_21)
  (CallV Try.prog N.laws_toNodeS [v0] w_21 fun t119 w_22 =>
  CallV Try.prog N.laws_toIntS [v1] w_22 fun t121 w_23 =>
  CallV Try.prog N.impl_PlanCut [t119, t121] w_23 fun t122 w_24 =>
  ExtractV t122 0 fun t123 =>
  ExtractV t122 1 fun t124 =>
  ExtractV t122 2 fun t125 =>
  CallV Try.prog N.laws_eqNodeS [t123, t34] w_24 fun t128 w_25 =>
  NotV t128 fun t129 =>
  SplitV t129
  (R (Value.bool false) w_25)
  (CallV Try.prog N.laws_eqIntS [t124, t35] w_25 fun t133 w_26 =>
  NotV t133 fun t134 =>
  SplitV t134
  (R (Value.bool false) w_26)
  (BoolV BinOp.neq t125 t36 fun t139 =>
  SplitV t139
  (R (Value.bool false) w_26)
  (CallV Try.prog N.laws_heldNodeS [t45, Value.int IntKind.i64 1] w_26 fun t143 w_27 =>
  BinV BinOp.lss t143 (Value.int IntKind.i64 0) fun t145 =>
  SplitV t145
  (R (Value.bool false) w_27)
  (CallV Try.prog N.laws_heldIntS [t46, t143] w_27 fun t148 w_28 =>
  BinV BinOp.lss t148 (Value.int IntKind.i64 0) fun t150 =>
  SplitV t150
  (R (Value.bool false) w_28)
  (BinV BinOp.neq t148 t103 fun t153 =>
  SplitV t153
  (R (Value.bool false) w_28)
  (R (Value.bool true) w_28))))))))))))))))))))) :
    Calls Try.prog N.laws_FnExactPlanCut #[v0, v1] w (Ret R) :=
  callsB (args := [v0, v1]) ⟨(annOf []), (annOf []), []⟩ Try.func10 rfl (cast (by kernel_rfl) h)

end Go.Proofs.Ytokfjjjfecblgaa
