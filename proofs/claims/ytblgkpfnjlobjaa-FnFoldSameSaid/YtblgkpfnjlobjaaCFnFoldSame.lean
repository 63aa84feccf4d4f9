/- The conditions of functions, off their texts. Printed by a program; Lean checks each one. -/
import Derived.Test.YtblgkpfnjlobjaaNames
import Derived.Test.YtblgkpfnjlobjaaV9
namespace Go.Proofs.Ytblgkpfnjlobjaa
open Go Go.V
set_option maxRecDepth 100000
theorem c_laws_FnFoldSame (v0 : Value) (w : World) (R : Value → World → Prop) (h :
  LenV v0 fun t12 =>
  BinV BinOp.gtr t12 (Value.int IntKind.i64 1048576) fun t13 =>
  SplitV t13
  (R (Value.bool true) w)
  (CallV Try.prog N.spec_DrawFoldSame [v0] w fun t16 w_1 =>
  ExtractV t16 0 fun t17 =>
  ExtractV t16 1 fun t18 =>
  CallV Try.prog N.impl_FoldSame [t17, t18] w_1 fun t21 w_2 =>
  CallV Try.prog N.spec_FoldSame [t17, t18] w_2 fun t24 w_3 =>
  BoolV BinOp.neq t21 t24 fun t27 =>
  SplitV t27
  (BoolV BinOp.eql t21 t24 fun t30 =>
  R t30 w_3)
  (CallV Try.prog N.impl_ValuesOf [t17] w_3 fun t33 w_4 =>
  ExtractV t33 0 fun t34 =>
  ExtractV t33 1 fun t35 =>
  CallV Try.prog N.impl_ValuesOf [t18] w_4 fun t38 w_5 =>
  ExtractV t38 0 fun t39 =>
  ExtractV t38 1 fun t40 =>
  SplitV t35
  (SplitV t40
  (CallV Try.prog N.laws_sameRows [t34, t39] w_5 fun t49 w_6 =>
  BoolV BinOp.eql t21 t49 fun t51 =>
  R t51 w_6)
  (BoolV BinOp.eql t21 (Value.bool false) fun t51_1 =>
  R t51_1 w_5))
  (BoolV BinOp.eql t21 (Value.bool false) fun t51_2 =>
  R t51_2 w_5)))) :
    Calls Try.prog N.laws_FnFoldSame #[v0] w (Ret R) :=
  callsB (args := [v0]) ⟨(annOf []), (annOf []), []⟩ Try.func11 rfl (cast (by kernel_rfl) h)

end Go.Proofs.Ytblgkpfnjlobjaa
