/- The conditions of functions, off their texts. Printed by a program; Lean checks each one. -/
import Derived.Test.YtpfabjjeacdikaaNames
import Derived.Test.YtpfabjjeacdikaaV9
namespace Go.Proofs.Ytpfabjjeacdikaa
open Go Go.V
set_option maxRecDepth 100000
theorem c_laws_FnShareSaved (v0 : Value) (w : World) (R : Value → World → Prop) (h :
  LenV v0 fun t10 =>
  BinV BinOp.gtr t10 (Value.int IntKind.i64 1048576) fun t11 =>
  SplitV t11
  (R (Value.bool true) w)
  (CallV Try.prog N.spec_DrawShareSaved [v0] w fun t13 w_1 =>
  CallV Try.prog N.impl_ShareSaved [t13] w_1 fun t15 w_2 =>
  CallV Try.prog N.spec_ShareSaved [t13] w_2 fun t17 w_3 =>
  BinV BinOp.neq t15 t17 fun t20 =>
  SplitV t20
  (BinV BinOp.eql t15 t17 fun t27 =>
  R t27 w_3)
  (BinV BinOp.lss t17 (Value.int IntKind.i64 0) fun t23 =>
  SplitV t23
  (BinV BinOp.eql t15 t17 fun t27_1 =>
  R t27_1 w_3)
  (CallV Try.prog N.impl_PlanShare [t13] w_3 fun t30 w_4 =>
  ExtractV t30 0 fun t31 =>
  ExtractV t30 1 fun _ =>
  ExtractV t30 2 fun t33 =>
  SplitV t33
  (LenV t31 fun t37 =>
  LenV t13 fun t39 =>
  BinV BinOp.sub t39 t15 fun t41 =>
  BinV BinOp.eql t37 t41 fun t42 =>
  SplitV t42
  (BinV BinOp.geq t15 (Value.int IntKind.i64 0) fun t46 =>
  SplitV t46
  (LenV t13 fun t51 =>
  BinV BinOp.lss t15 t51 fun t52 =>
  SplitV t52
  (R (Value.bool true) w_4)
  (LenV t13 fun t55 =>
  BinV BinOp.eql t55 (Value.int IntKind.i64 0) fun t56 =>
  R t56 w_4))
  (R (Value.bool false) w_4))
  (R (Value.bool false) w_4))
  (R (Value.bool false) w_4))))) :
    Calls Try.prog N.laws_FnShareSaved #[v0] w (Ret R) :=
  callsB (args := [v0]) ⟨(annOf []), (annOf []), []⟩ Try.func10 rfl (cast (by kernel_rfl) h)

end Go.Proofs.Ytpfabjjeacdikaa
