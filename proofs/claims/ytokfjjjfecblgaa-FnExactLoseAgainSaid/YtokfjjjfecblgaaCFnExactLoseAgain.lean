/- The conditions of functions, off their texts. Printed by a program; Lean checks each one. -/
import Derived.Test.YtokfjjjfecblgaaNames
import Derived.Test.YtokfjjjfecblgaaV9
namespace Go.Proofs.Ytokfjjjfecblgaa
open Go Go.V
set_option maxRecDepth 100000
theorem c_laws_FnExactLoseAgain (v0 : Value) (v1 : Value) (v2 : Value) (w : World) (R : Value → World → Prop) (h :
  LenV v1 fun t21 =>
  BinV BinOp.gtr t21 (Value.int IntKind.i64 1048576) fun t22 =>
  SplitV t22
  (R (Value.bool true) w)
  (LenV v2 fun t24 =>
  BinV BinOp.gtr t24 (Value.int IntKind.i64 1048576) fun t25 =>
  SplitV t25
  (R (Value.bool true) w)
  (CallV Try.prog N.laws_szNodeS [v0, Value.int IntKind.i64 1048576] w fun t28 w_1 =>
  BinV BinOp.lss t28 (Value.int IntKind.i64 0) fun t30 =>
  SplitV t30
  (R (Value.bool true) w_1)
  (CallV Try.prog N.laws_toNodeS [v0] w_1 fun t33 w_2 =>
  CallV Try.prog N.laws_toIntS [v1] w_2 fun t35 w_3 =>
  CallV Try.prog N.laws_toIntS [v2] w_3 fun t37 w_4 =>
  CallV Try.prog N.spec_LoseAgain [t33, t35, t37] w_4 fun t38 w_5 =>
  ExtractV t38 0 fun t39 =>
  ExtractV t38 1 fun t40 =>
  CallV Try.prog N.laws_toNodeS [v0] w_5 fun t42 w_6 =>
  CallV Try.prog N.laws_toIntS [v1] w_6 fun t44 w_7 =>
  CallV Try.prog N.laws_toIntS [v2] w_7 fun t46 w_8 =>
  CallV Try.prog N.impl_LoseAgain [t42, t44, t46] w_8 fun t51 w_9 =>
  ExtractV t51 0 fun t52 =>
  ExtractV t51 1 fun t53 =>
  CallV Try.prog N.laws_eqIntS [t52, t39] w_9 fun t56 w_10 =>
  NotV t56 fun t57 =>
  SplitV t57
  (R (Value.bool false) w_10)
  (BoolV BinOp.neq t53 t40 fun t61 =>
  SplitV t61
  (R (Value.bool false) w_10)
  (CallV Try.prog N.laws_toNodeS [v0] w_10 fun t65 w_11 =>
  CallV Try.prog N.laws_eqNodeS [t42, t65] w_11 fun t66 w_12 =>
  NotV t66 fun t67 =>
  SplitV t67
  (R (Value.bool false) w_12)
  (CallV Try.prog N.laws_toIntS [v1] w_12 fun t70 w_13 =>
  CallV Try.prog N.laws_eqIntS [t44, t70] w_13 fun t71 w_14 =>
  NotV t71 fun t72 =>
  SplitV t72
  (R (Value.bool false) w_14)
  (CallV Try.prog N.laws_toIntS [v2] w_14 fun t75 w_15 =>
  CallV Try.prog N.laws_eqIntS [t46, t75] w_15 fun t76 w_16 =>
  NotV t76 fun t77 =>
  SplitV t77
  (R (Value.bool false) w_16)
  (CallV Try.prog N.laws_markNodeS [t42, Value.int IntKind.i64 1] w_16 fun t80 w_17 =>
  CallV Try.prog N.laws_markIntS [t44, t80] w_17 fun t83 w_18 =>
  CallV Try.prog N.laws_markIntS [t46, t83] w_18 fun t86 w_19 =>
  BinV BinOp.lss t86 (Value.int IntKind.i64 0) fun t88 =>
  SplitV t88
  (R (Value.bool false) w_19)
  (CallV Try.prog N.laws_eqIntS [t52, t39] w_19 fun t92 w_20 =>
  NotV t92 fun t93 =>
  SplitV t93
  (R (Value.bool false) w_20)
  (BoolV BinOp.neq t53 t40 fun t98 =>
  SplitV t98
  (R (Value.bool false) w_20)
  (CallV Try.prog N.laws_markIntS [t52, Value.int IntKind.i64 1] w_20 fun t102 w_21 =>
  CallV Try.prog N.laws_heldIntS [t52, Value.int IntKind.i64 1] w_21 fun t105 w_22 =>
  BinV BinOp.lss t105 (Value.int IntKind.i64 0) fun t107 =>
  SplitV t107
  (R (Value.bool false) w_22)
  (BinV BinOp.neq t105 t102 fun t110 =>
  SplitV t110
  (R (Value.bool false) w_22)
  (CallV Try.prog N.laws_toNodeS [v0] w_22 fun t113 w_23 =>
  CallV Try.prog N.laws_toIntS [v1] w_23 fun t115 w_24 =>
  CallV Try.prog N.laws_toIntS [v2] w_24 fun t117 w_25 =>
  CallV Try.prog N.impl_LoseAgain [t113, t115, t117] w_25 fun t118 w_26 =>
  ExtractV t118 0 fun t119 =>
  ExtractV t118 1 fun t120 =>
  CallV Try.prog N.laws_eqIntS [t119, t39] w_26 fun t123 w_27 =>
  NotV t123 fun t124 =>
  SplitV t124
  (R (Value.bool false) w_27)
  (BoolV BinOp.neq t120 t40 fun t128 =>
  SplitV t128
  (R (Value.bool false) w_27)
  (CallV Try.prog N.laws_heldIntS [t52, Value.int IntKind.i64 1] w_27 fun t132 w_28 =>
  BinV BinOp.lss t132 (Value.int IntKind.i64 0) fun t134 =>
  SplitV t134
  (R (Value.bool false) w_28)
  (BinV BinOp.neq t132 t102 fun t137 =>
  SplitV t137
  (R (Value.bool false) w_28)
  (R (Value.bool true) w_28)))))))))))))))))) :
    Calls Try.prog N.laws_FnExactLoseAgain #[v0, v1, v2] w (Ret R) :=
  callsB (args := [v0, v1, v2]) ⟨(annOf []), (annOf []), []⟩ Try.func11 rfl (cast (by kernel_rfl) h)

end Go.Proofs.Ytokfjjjfecblgaa
