/- The conditions of functions, off their texts. Printed by a program; Lean checks each one. -/
import Derived.Test.YtebllnbjldladaaNames
import Derived.Test.YtebllnbjldladaaV9
namespace Go.Proofs.Ytebllnbjldladaa
open Go Go.V
set_option maxRecDepth 100000
theorem c_laws_FnExactReadyOf (v0 : Value) (v1 : Value) (w : World) (R : Value → World → Prop) (h :
  LenV v1 fun t15 =>
  BinV BinOp.gtr t15 (Value.int IntKind.i64 1048576) fun t16 =>
  SplitV t16
  (R (Value.bool true) w)
  (CallV Try.prog N.laws_szNodeS [v0, Value.int IntKind.i64 1048576] w fun t19 w_1 =>
  BinV BinOp.lss t19 (Value.int IntKind.i64 0) fun t21 =>
  SplitV t21
  (R (Value.bool true) w_1)
  (CallV Try.prog N.laws_toNodeS [v0] w_1 fun t23 w_2 =>
  CallV Try.prog N.laws_toIntS [v1] w_2 fun t25 w_3 =>
  CallV Try.prog N.spec_ReadyOf [t23, t25] w_3 fun t26 w_4 =>
  CallV Try.prog N.laws_toNodeS [v0] w_4 fun t28 w_5 =>
  CallV Try.prog N.laws_toIntS [v1] w_5 fun t30 w_6 =>
  CallV Try.prog N.impl_ReadyOf [t28, t30] w_6 fun t33 w_7 =>
  CallV Try.prog N.laws_eqIntS [t33, t26] w_7 fun t36 w_8 =>
  NotV t36 fun t37 =>
  SplitV t37
  (R (Value.bool false) w_8)
  (CallV Try.prog N.laws_toNodeS [v0] w_8 fun t40 w_9 =>
  CallV Try.prog N.laws_eqNodeS [t28, t40] w_9 fun t41 w_10 =>
  NotV t41 fun t42 =>
  SplitV t42
  (R (Value.bool false) w_10)
  (CallV Try.prog N.laws_toIntS [v1] w_10 fun t45 w_11 =>
  CallV Try.prog N.laws_eqIntS [t30, t45] w_11 fun t46 w_12 =>
  NotV t46 fun t47 =>
  SplitV t47
  (R (Value.bool false) w_12)
  (CallV Try.prog N.laws_markNodeS [t28, Value.int IntKind.i64 1] w_12 fun t50 w_13 =>
  CallV Try.prog N.laws_markIntS [t30, t50] w_13 fun t53 w_14 =>
  BinV BinOp.lss t53 (Value.int IntKind.i64 0) fun t55 =>
  SplitV t55
  (R (Value.bool false) w_14)
  (CallV Try.prog N.laws_eqIntS [t33, t26] w_14 fun t59 w_15 =>
  NotV t59 fun t60 =>
  SplitV t60
  (R (Value.bool false) w_15)
  (CallV Try.prog N.laws_markIntS [t33, Value.int IntKind.i64 1] w_15 fun t64 w_16 =>
  CallV Try.prog N.laws_heldIntS [t33, Value.int IntKind.i64 1] w_16 fun t67 w_17 =>
  BinV BinOp.lss t67 (Value.int IntKind.i64 0) fun t69 =>
  SplitV t69
  (R (Value.bool false) w_17)
  (BinV BinOp.neq t67 t64 fun t72 =>
  SplitV t72
  (R (Value.bool false) w_17)
  (CallV Try.prog N.laws_toNodeS [v0] w_17 fun t74 w_18 =>
  CallV Try.prog N.laws_toIntS [v1] w_18 fun t76 w_19 =>
  CallV Try.prog N.impl_ReadyOf [t74, t76] w_19 fun t77 w_20 =>
  CallV Try.prog N.laws_eqIntS [t77, t26] w_20 fun t80 w_21 =>
  NotV t80 fun t81 =>
  SplitV t81
  (R (Value.bool false) w_21)
  (CallV Try.prog N.laws_heldIntS [t33, Value.int IntKind.i64 1] w_21 fun t84 w_22 =>
  BinV BinOp.lss t84 (Value.int IntKind.i64 0) fun t86 =>
  SplitV t86
  (R (Value.bool false) w_22)
  (BinV BinOp.neq t84 t64 fun t89 =>
  SplitV t89
  (R (Value.bool false) w_22)
  (R (Value.bool true) w_22))))))))))))) :
    Calls Try.prog N.laws_FnExactReadyOf #[v0, v1] w (Ret R) :=
  callsB (args := [v0, v1]) ⟨(annOf []), (annOf []), []⟩ Try.func8 rfl (cast (by kernel_rfl) h)

end Go.Proofs.Ytebllnbjldladaa
