/- The conditions of functions, off their texts. Printed by a program; Lean checks each one. -/
import Derived.Test.YtblgkpfnjlobjaaNames
import Derived.Test.YtblgkpfnjlobjaaV9
namespace Go.Proofs.Ytblgkpfnjlobjaa
open Go Go.V
set_option maxRecDepth 100000
theorem c_laws_FnFoldSameBoth (v0 : Value) (w : World) (R : Value → World → Prop) (h :
  LenV v0 fun t8 =>
  BinV BinOp.gtr t8 (Value.int IntKind.i64 1048576) fun t9 =>
  SplitV t9
  (R (Value.bool true) w)
  (CallV Try.prog N.spec_DrawFoldSame [v0] w fun t12 w_1 =>
  ExtractV t12 0 fun t13 =>
  ExtractV t12 1 fun t14 =>
  CallV Try.prog N.impl_FoldSame [t13, t14] w_1 fun t17 w_2 =>
  CallV Try.prog N.spec_FoldSame [t13, t14] w_2 fun t20 w_3 =>
  BoolV BinOp.neq t17 t20 fun t23 =>
  SplitV t23
  (BoolV BinOp.eql t17 t20 fun t26 =>
  R t26 w_3)
  (CallV Try.prog N.impl_FoldSame [t14, t13] w_3 fun t29 w_4 =>
  BoolV BinOp.eql t29 t17 fun t31 =>
  SplitV t31
  (CallV Try.prog N.impl_FoldSame [t13, t13] w_4 fun t35 w_5 =>
  CallV Try.prog N.impl_PlanValid [t13] w_5 fun t37 w_6 =>
  BoolV BinOp.eql t35 t37 fun t38 =>
  R t38 w_6)
  (R (Value.bool false) w_4)))) :
    Calls Try.prog N.laws_FnFoldSameBoth #[v0] w (Ret R) :=
  callsB (args := [v0]) ⟨(annOf []), (annOf []), []⟩ Try.func8 rfl (cast (by kernel_rfl) h)

end Go.Proofs.Ytblgkpfnjlobjaa
