/- The conditions of functions, off their texts. Printed by a program; Lean checks each one. -/
import Derived.Test.YtpfabjjeacdikaaNames
import Derived.Test.YtpfabjjeacdikaaV9
namespace Go.Proofs.Ytpfabjjeacdikaa
open Go Go.V
set_option maxRecDepth 100000
theorem c_laws_FnExactShareFirst (v0 : Value) (w : World) (R : Value → World → Prop) (h :
  CallV Try.prog N.laws_szNodeS [v0, Value.int IntKind.i64 1048576] w fun t13 w_1 =>
  BinV BinOp.lss t13 (Value.int IntKind.i64 0) fun t15 =>
  SplitV t15
  (R (Value.bool true) w_1)
  (CallV Try.prog N.laws_toNodeS [v0] w_1 fun t17 w_2 =>
  CallV Try.prog N.spec_ShareFirst [t17] w_2 fun t18 w_3 =>
  CallV Try.prog N.laws_toNodeS [v0] w_3 fun t20 w_4 =>
  CallV Try.prog N.impl_ShareFirst [t20] w_4 fun t22 w_5 =>
  CallV Try.prog N.laws_eqIntS [t22, t18] w_5 fun t25 w_6 =>
  NotV t25 fun t26 =>
  SplitV t26
  (R (Value.bool false) w_6)
  (CallV Try.prog N.laws_toNodeS [v0] w_6 fun t29 w_7 =>
  CallV Try.prog N.laws_eqNodeS [t20, t29] w_7 fun t30 w_8 =>
  NotV t30 fun t31 =>
  SplitV t31
  (R (Value.bool false) w_8)
  (CallV Try.prog N.laws_markNodeS [t20, Value.int IntKind.i64 1] w_8 fun t34 w_9 =>
  BinV BinOp.lss t34 (Value.int IntKind.i64 0) fun t36 =>
  SplitV t36
  (R (Value.bool false) w_9)
  (CallV Try.prog N.laws_eqIntS [t22, t18] w_9 fun t40 w_10 =>
  NotV t40 fun t41 =>
  SplitV t41
  (R (Value.bool false) w_10)
  (CallV Try.prog N.laws_markIntS [t22, Value.int IntKind.i64 1] w_10 fun t45 w_11 =>
  CallV Try.prog N.laws_heldIntS [t22, Value.int IntKind.i64 1] w_11 fun t48 w_12 =>
  BinV BinOp.lss t48 (Value.int IntKind.i64 0) fun t50 =>
  SplitV t50
  (R (Value.bool false) w_12)
  (BinV BinOp.neq t48 t45 fun t53 =>
  SplitV t53
  (R (Value.bool false) w_12)
  (CallV Try.prog N.laws_toNodeS [v0] w_12 fun t55 w_13 =>
  CallV Try.prog N.impl_ShareFirst [t55] w_13 fun t56 w_14 =>
  CallV Try.prog N.laws_eqIntS [t56, t18] w_14 fun t59 w_15 =>
  NotV t59 fun t60 =>
  SplitV t60
  (R (Value.bool false) w_15)
  (CallV Try.prog N.laws_heldIntS [t22, Value.int IntKind.i64 1] w_15 fun t63 w_16 =>
  BinV BinOp.lss t63 (Value.int IntKind.i64 0) fun t65 =>
  SplitV t65
  (R (Value.bool false) w_16)
  (BinV BinOp.neq t63 t45 fun t68 =>
  SplitV t68
  (R (Value.bool false) w_16)
  (R (Value.bool true) w_16))))))))))) :
    Calls Try.prog N.laws_FnExactShareFirst #[v0] w (Ret R) :=
  callsB (args := [v0]) ⟨(annOf []), (annOf []), []⟩ Try.func8 rfl (cast (by kernel_rfl) h)

end Go.Proofs.Ytpfabjjeacdikaa
