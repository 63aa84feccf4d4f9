/- The conditions of functions, off their texts. Printed by a program; Lean checks each one. -/
import Derived.Test.YtblgkpfnjlobjaaNames
import Derived.Test.YtblgkpfnjlobjaaV9
namespace Go.Proofs.Ytblgkpfnjlobjaa
open Go Go.V
set_option maxRecDepth 100000
theorem c_laws_FnExactFoldSame (v0 : Value) (v1 : Value) (w : World) (R : Value → World → Prop) (h :
  CallV Try.prog N.laws_szNodeS [v0, Value.int IntKind.i64 1048576] w fun t12 w_1 =>
  BinV BinOp.lss t12 (Value.int IntKind.i64 0) fun t14 =>
  SplitV t14
  (R (Value.bool true) w_1)
  (CallV Try.prog N.laws_szNodeS [v1, t12] w_1 fun t17 w_2 =>
  BinV BinOp.lss t17 (Value.int IntKind.i64 0) fun t19 =>
  SplitV t19
  (R (Value.bool true) w_2)
  (CallV Try.prog N.laws_toNodeS [v0] w_2 fun t21 w_3 =>
  CallV Try.prog N.laws_toNodeS [v1] w_3 fun t23 w_4 =>
  CallV Try.prog N.spec_FoldSame [t21, t23] w_4 fun t24 w_5 =>
  CallV Try.prog N.laws_toNodeS [v0] w_5 fun t26 w_6 =>
  CallV Try.prog N.laws_toNodeS [v1] w_6 fun t28 w_7 =>
  CallV Try.prog N.impl_FoldSame [t26, t28] w_7 fun t31 w_8 =>
  BoolV BinOp.neq t31 t24 fun t34 =>
  SplitV t34
  (R (Value.bool false) w_8)
  (CallV Try.prog N.laws_toNodeS [v0] w_8 fun t37 w_9 =>
  CallV Try.prog N.laws_eqNodeS [t26, t37] w_9 fun t38 w_10 =>
  NotV t38 fun t39 =>
  SplitV t39
  (R (Value.bool false) w_10)
  (CallV Try.prog N.laws_toNodeS [v1] w_10 fun t42 w_11 =>
  CallV Try.prog N.laws_eqNodeS [t28, t42] w_11 fun t43 w_12 =>
  NotV t43 fun t44 =>
  SplitV t44
  (R (Value.bool false) w_12)
  (R (Value.bool true) w_12)))))) :
    Calls Try.prog N.laws_FnExactFoldSame #[v0, v1] w (Ret R) :=
  callsB (args := [v0, v1]) ⟨(annOf []), (annOf []), []⟩ Try.func6 rfl (cast (by kernel_rfl) h)

end Go.Proofs.Ytblgkpfnjlobjaa
