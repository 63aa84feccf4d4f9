/- The conditions of functions, off their texts. Printed by a program; Lean checks each one. -/
import Derived.Test.YtinpkcjfnljigaaNames
import Derived.Test.YtinpkcjfnljigaaV9
namespace Go.Proofs.Ytinpkcjfnljigaa
open Go Go.V
set_option maxRecDepth 100000
theorem c_laws_FnExactCountsReady (v0 : Value) (w : World) (R : Value → World → Prop) (h :
  LenV v0 fun t11 =>
  BinV BinOp.gtr t11 (Value.int IntKind.i64 1048576) fun t12 =>
  SplitV t12
  (R (Value.bool true) w)
  (CallV Try.prog N.laws_toIntS [v0] w fun t14 w_1 =>
  CallV Try.prog N.spec_CountsReady [t14] w_1 fun t15 w_2 =>
  CallV Try.prog N.laws_toIntS [v0] w_2 fun t17 w_3 =>
  CallV Try.prog N.impl_CountsReady [t17] w_3 fun t19 w_4 =>
  CallV Try.prog N.laws_eqIntS [t19, t15] w_4 fun t22 w_5 =>
  NotV t22 fun t23 =>
  SplitV t23
  (R (Value.bool false) w_5)
  (CallV Try.prog N.laws_toIntS [v0] w_5 fun t26 w_6 =>
  CallV Try.prog N.laws_eqIntS [t17, t26] w_6 fun t27 w_7 =>
  NotV t27 fun t28 =>
  SplitV t28
  (R (Value.bool false) w_7)
  (CallV Try.prog N.laws_markIntS [t17, Value.int IntKind.i64 1] w_7 fun t31 w_8 =>
  BinV BinOp.lss t31 (Value.int IntKind.i64 0) fun t33 =>
  SplitV t33
  (R (Value.bool false) w_8)
  (CallV Try.prog N.laws_eqIntS [t19, t15] w_8 fun t37 w_9 =>
  NotV t37 fun t38 =>
  SplitV t38
  (R (Value.bool false) w_9)
  (CallV Try.prog N.laws_markIntS [t19, Value.int IntKind.i64 1] w_9 fun t42 w_10 =>
  CallV Try.prog N.laws_heldIntS [t19, Value.int IntKind.i64 1] w_10 fun t45 w_11 =>
  BinV BinOp.lss t45 (Value.int IntKind.i64 0) fun t47 =>
  SplitV t47
  (R (Value.bool false) w_11)
  (BinV BinOp.neq t45 t42 fun t50 =>
  SplitV t50
  (R (Value.bool false) w_11)
  (CallV Try.prog N.laws_toIntS [v0] w_11 fun t52 w_12 =>
  CallV Try.prog N.impl_CountsReady [t52] w_12 fun t53 w_13 =>
  CallV Try.prog N.laws_eqIntS [t53, t15] w_13 fun t56 w_14 =>
  NotV t56 fun t57 =>
  SplitV t57
  (R (Value.bool false) w_14)
  (CallV Try.prog N.laws_heldIntS [t19, Value.int IntKind.i64 1] w_14 fun t60 w_15 =>
  BinV BinOp.lss t60 (Value.int IntKind.i64 0) fun t62 =>
  SplitV t62
  (R (Value.bool false) w_15)
  (BinV BinOp.neq t60 t42 fun t65 =>
  SplitV t65
  (R (Value.bool false) w_15)
  (R (Value.bool true) w_15))))))))))) :
    Calls Try.prog N.laws_FnExactCountsReady #[v0] w (Ret R) :=
  callsB (args := [v0]) ⟨(annOf []), (annOf [])⟩ Try.func3 rfl (cast (by kernel_rfl) h)

end Go.Proofs.Ytinpkcjfnljigaa
