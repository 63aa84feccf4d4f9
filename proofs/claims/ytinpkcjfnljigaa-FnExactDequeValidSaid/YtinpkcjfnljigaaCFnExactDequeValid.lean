/- The conditions of functions, off their texts. Printed by a program; Lean checks each one. -/
import Derived.Test.YtinpkcjfnljigaaNames
import Derived.Test.YtinpkcjfnljigaaV9
namespace Go.Proofs.Ytinpkcjfnljigaa
open Go Go.V
set_option maxRecDepth 100000
theorem c_laws_FnExactDequeValid (v0 : Value) (w : World) (R : Value → World → Prop) (h :
  LenV v0 fun t7 =>
  BinV BinOp.gtr t7 (Value.int IntKind.i64 1048576) fun t8 =>
  SplitV t8
  (R (Value.bool true) w)
  (CallV Try.prog N.laws_toIntS [v0] w fun t10 w_1 =>
  CallV Try.prog N.spec_DequeValid [t10] w_1 fun t11 w_2 =>
  CallV Try.prog N.laws_toIntS [v0] w_2 fun t13 w_3 =>
  CallV Try.prog N.impl_DequeValid [t13] w_3 fun t15 w_4 =>
  BoolV BinOp.neq t15 t11 fun t18 =>
  SplitV t18
  (R (Value.bool false) w_4)
  (CallV Try.prog N.laws_toIntS [v0] w_4 fun t21 w_5 =>
  CallV Try.prog N.laws_eqIntS [t13, t21] w_5 fun t22 w_6 =>
  NotV t22 fun t23 =>
  SplitV t23
  (R (Value.bool false) w_6)
  (R (Value.bool true) w_6)))) :
    Calls Try.prog N.laws_FnExactDequeValid #[v0] w (Ret R) :=
  callsB (args := [v0]) ⟨(annOf []), (annOf [])⟩ Try.func5 rfl (cast (by kernel_rfl) h)

end Go.Proofs.Ytinpkcjfnljigaa
