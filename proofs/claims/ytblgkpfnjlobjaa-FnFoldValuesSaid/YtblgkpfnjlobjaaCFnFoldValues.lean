/- The conditions of functions, off their texts. Printed by a program; Lean checks each one. -/
import Derived.Test.YtblgkpfnjlobjaaNames
import Derived.Test.YtblgkpfnjlobjaaV9
namespace Go.Proofs.Ytblgkpfnjlobjaa
open Go Go.V
set_option maxRecDepth 100000
theorem c_laws_FnFoldValues (v0 : Value) (w : World) (R : Value → World → Prop) (h :
  LenV v0 fun t10 =>
  BinV BinOp.gtr t10 (Value.int IntKind.i64 1048576) fun t11 =>
  SplitV t11
  (R (Value.bool true) w)
  (CallV Try.prog N.spec_DrawFoldNode [v0] w fun t14 w_1 =>
  ExtractV t14 0 fun t15 =>
  ExtractV t14 1 fun t16 =>
  CallV Try.prog N.impl_FoldNode [t15, t16] w_1 fun t20 w_2 =>
  ExtractV t20 0 fun t21 =>
  ExtractV t20 1 fun t22 =>
  CallV Try.prog N.spec_FoldNode [t15, t16] w_2 fun t26 w_3 =>
  ExtractV t26 0 fun t27 =>
  ExtractV t26 1 fun t28 =>
  BoolV BinOp.neq t22 t28 fun t31 =>
  SplitV t31
  (BoolV BinOp.eql t22 t28 fun t44 =>
  SplitV t44
  (CallV Try.prog N.laws_samePlan [t21, t27] w_3 fun t48 w_4 =>
  R t48 w_4)
  (R (Value.bool false) w_3))
  (CallV Try.prog N.laws_samePlan [t21, t27] w_3 fun t35 w_5 =>
  NotV t35 fun t36 =>
  SplitV t36
  (BoolV BinOp.eql t22 t28 fun t44_1 =>
  SplitV t44_1
  (CallV Try.prog N.laws_samePlan [t21, t27] w_5 fun t48_1 w_6 =>
  R t48_1 w_6)
  (R (Value.bool false) w_5))
  (NotV t22 fun t40 =>
  SplitV t40
  (BoolV BinOp.eql t22 t28 fun t44_2 =>
  SplitV t44_2
  (CallV Try.prog N.laws_samePlan [t21, t27] w_5 fun t48_2 w_7 =>
  R t48_2 w_7)
  (R (Value.bool false) w_5))
  (CallV Try.prog N.impl_FoldSame [t15, t21] w_5 fun t52 w_8 =>
  R t52 w_8))))) :
    Calls Try.prog N.laws_FnFoldValues #[v0] w (Ret R) :=
  callsB (args := [v0]) ⟨(annOf []), (annOf []), []⟩ Try.func12 rfl (cast (by kernel_rfl) h)

end Go.Proofs.Ytblgkpfnjlobjaa
