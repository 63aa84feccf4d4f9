/- The conditions of functions, off their texts. Printed by a program; Lean checks each one. -/
import Derived.Test.YtebllnbjldladaaNames
import Derived.Test.YtebllnbjldladaaV9
namespace Go.Proofs.Ytebllnbjldladaa
open Go Go.V
set_option maxRecDepth 100000
theorem c_laws_FnExactScheduleTurns (v0 : Value) (v1 : Value) (w : World) (R : Value → World → Prop) (h :
  CallV Try.prog N.laws_szNodeS [v0, Value.int IntKind.i64 1048576] w fun t13 w_1 =>
  BinV BinOp.lss t13 (Value.int IntKind.i64 0) fun t15 =>
  SplitV t15
  (R (Value.bool true) w_1)
  (CallV Try.prog N.laws_toNodeS [v0] w_1 fun t18 w_2 =>
  CallV Try.prog N.spec_ScheduleTurns [t18, v1] w_2 fun t20 w_3 =>
  ExtractV t20 0 fun t21 =>
  ExtractV t20 1 fun t22 =>
  CallV Try.prog N.laws_toNodeS [v0] w_3 fun t24 w_4 =>
  CallV Try.prog N.impl_ScheduleTurns [t24, v1] w_4 fun t28 w_5 =>
  ExtractV t28 0 fun t29 =>
  ExtractV t28 1 fun t30 =>
  BinV BinOp.neq t29 t21 fun t33 =>
  SplitV t33
  (R (Value.bool false) w_5)
  (BoolV BinOp.neq t30 t22 fun t37 =>
  SplitV t37
  (R (Value.bool false) w_5)
  (CallV Try.prog N.laws_toNodeS [v0] w_5 fun t41 w_6 =>
  CallV Try.prog N.laws_eqNodeS [t24, t41] w_6 fun t42 w_7 =>
  NotV t42 fun t43 =>
  SplitV t43
  (R (Value.bool false) w_7)
  (R (Value.bool true) w_7))))) :
    Calls Try.prog N.laws_FnExactScheduleTurns #[v0, v1] w (Ret R) :=
  callsB (args := [v0, v1]) ⟨(annOf []), (annOf []), []⟩ Try.func14 rfl (cast (by kernel_rfl) h)

end Go.Proofs.Ytebllnbjldladaa
