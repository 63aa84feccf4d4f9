/- The conditions of functions, off their texts. Printed by a program; Lean checks each one. -/
import Derived.Test.YtpfabjjeacdikaaNames
import Derived.Test.YtpfabjjeacdikaaV9
namespace Go.Proofs.Ytpfabjjeacdikaa
open Go Go.V
set_option maxRecDepth 100000
theorem c_laws_FnExactShareSaved (v0 : Value) (w : World) (R : Value → World → Prop) (h :
  CallV Try.prog N.laws_szNodeS [v0, Value.int IntKind.i64 1048576] w fun t9 w_1 =>
  BinV BinOp.lss t9 (Value.int IntKind.i64 0) fun t11 =>
  SplitV t11
  (R (Value.bool true) w_1)
  (CallV Try.prog N.laws_toNodeS [v0] w_1 fun t13 w_2 =>
  CallV Try.prog N.spec_ShareSaved [t13] w_2 fun t14 w_3 =>
  CallV Try.prog N.laws_toNodeS [v0] w_3 fun t16 w_4 =>
  CallV Try.prog N.impl_ShareSaved [t16] w_4 fun t18 w_5 =>
  BinV BinOp.neq t18 t14 fun t21 =>
  SplitV t21
  (R (Value.bool false) w_5)
  (CallV Try.prog N.laws_toNodeS [v0] w_5 fun t24 w_6 =>
  CallV Try.prog N.laws_eqNodeS [t16, t24] w_6 fun t25 w_7 =>
  NotV t25 fun t26 =>
  SplitV t26
  (R (Value.bool false) w_7)
  (R (Value.bool true) w_7)))) :
    Calls Try.prog N.laws_FnExactShareSaved #[v0] w (Ret R) :=
  callsB (args := [v0]) ⟨(annOf []), (annOf []), []⟩ Try.func12 rfl (cast (by kernel_rfl) h)

end Go.Proofs.Ytpfabjjeacdikaa
