/- The conditions of functions, off their texts. Printed by a program; Lean checks each one. -/
import Derived.Test.YtebllnbjldladaaNames
import Derived.Test.YtebllnbjldladaaV9
namespace Go.Proofs.Ytebllnbjldladaa
open Go Go.V
set_option maxRecDepth 100000
theorem c_laws_FnRoundsOne (v0 : Value) (w : World) (R : Value → World → Prop) (h :
  LenV v0 fun t12 =>
  BinV BinOp.gtr t12 (Value.int IntKind.i64 1048576) fun t13 =>
  SplitV t13
  (R (Value.bool true) w)
  (CallV Try.prog N.spec_DrawScheduleTurns [v0] w fun t16 w_1 =>
  ExtractV t16 0 fun t17 =>
  ExtractV t16 1 fun t18 =>
  CallV Try.prog N.impl_ScheduleTurns [t17, t18] w_1 fun t22 w_2 =>
  ExtractV t22 0 fun t23 =>
  ExtractV t22 1 fun t24 =>
  CallV Try.prog N.spec_ScheduleTurns [t17, t18] w_2 fun t28 w_3 =>
  ExtractV t28 0 fun t29 =>
  ExtractV t28 1 fun t30 =>
  BoolV BinOp.neq t24 t30 fun t33 =>
  SplitV t33
  (BoolV BinOp.eql t24 t30 fun t45 =>
  SplitV t45
  (BinV BinOp.eql t23 t29 fun t49 =>
  R t49 w_3)
  (R (Value.bool false) w_3))
  (BinV BinOp.neq t23 t29 fun t37 =>
  SplitV t37
  (BoolV BinOp.eql t24 t30 fun t45_1 =>
  SplitV t45_1
  (BinV BinOp.eql t23 t29 fun t49_1 =>
  R t49_1 w_3)
  (R (Value.bool false) w_3))
  (NotV t24 fun t41 =>
  SplitV t41
  (BoolV BinOp.eql t24 t30 fun t45_2 =>
  SplitV t45_2
  (BinV BinOp.eql t23 t29 fun t49_2 =>
  R t49_2 w_3)
  (R (Value.bool false) w_3))
  (CallV Try.prog N.impl_ScheduleTurns [t17, Value.int IntKind.i64 1] w_3 fun t53 w_4 =>
  ExtractV t53 0 fun t54 =>
  ExtractV t53 1 fun t55 =>
  SplitV t55
  (LenV t17 fun t60 =>
  BinV BinOp.eql t54 t60 fun t61 =>
  SplitV t61
  (BinV BinOp.geq t54 t23 fun t66 =>
  R t66 w_4)
  (R (Value.bool false) w_4))
  (R (Value.bool false) w_4)))))) :
    Calls Try.prog N.laws_FnRoundsOne #[v0] w (Ret R) :=
  callsB (args := [v0]) ⟨(annOf []), (annOf []), []⟩ Try.func6 rfl (cast (by kernel_rfl) h)

end Go.Proofs.Ytebllnbjldladaa
