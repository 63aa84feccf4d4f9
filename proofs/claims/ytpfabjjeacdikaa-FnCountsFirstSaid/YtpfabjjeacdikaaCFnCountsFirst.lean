/- The conditions of functions, off their texts. Printed by a program; Lean checks each one. -/
import Derived.Test.YtpfabjjeacdikaaNames
import Derived.Test.YtpfabjjeacdikaaV9
namespace Go.Proofs.Ytpfabjjeacdikaa
open Go Go.V
set_option maxRecDepth 100000
theorem c_laws_FnCountsFirst (v0 : Value) (w : World) (R : Value → World → Prop) (h :
  LenV v0 fun t7 =>
  BinV BinOp.gtr t7 (Value.int IntKind.i64 1048576) fun t8 =>
  SplitV t8
  (R (Value.bool true) w)
  (CallV Try.prog N.spec_DrawCountsOf [v0] w fun t10 w_1 =>
  CallV Try.prog N.impl_CountsOf [t10] w_1 fun t12 w_2 =>
  CallV Try.prog N.spec_CountsOf [t10] w_2 fun t14 w_3 =>
  CallV Try.prog N.laws_sameRow [t12, t14] w_3 fun t17 w_4 =>
  NotV t17 fun t18 =>
  SplitV t18
  (CallV Try.prog N.laws_sameRow [t12, t14] w_4 fun t26 w_5 =>
  R t26 w_5)
  (LenV t14 fun t21 =>
  BinV BinOp.eql t21 (Value.int IntKind.i64 0) fun t22 =>
  SplitV t22
  (CallV Try.prog N.laws_sameRow [t12, t14] w_4 fun t26_1 w_6 =>
  R t26_1 w_6)
  (CallV Try.prog N.impl_CountsReady [t12] w_4 fun t28 w_7 =>
  BSliceV T.int 1 0 #[Value.int IntKind.i64 0] [] w_7 fun t30 w_8 =>
  CallV Try.prog N.impl_ReadyOf [t10, t30] w_8 fun t31 w_9 =>
  CallV Try.prog N.laws_sameRow [t28, t31] w_9 fun t32 w_10 =>
  R t32 w_10)))) :
    Calls Try.prog N.laws_FnCountsFirst #[v0] w (Ret R) :=
  callsB (args := [v0]) ⟨(annOf []), (annOf []), []⟩ Try.func4 rfl (cast (by kernel_rfl) h)

end Go.Proofs.Ytpfabjjeacdikaa
