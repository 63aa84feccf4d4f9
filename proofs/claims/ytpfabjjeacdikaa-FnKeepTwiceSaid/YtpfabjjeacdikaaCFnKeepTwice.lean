/- The conditions of functions, off their texts. Printed by a program; Lean checks each one. -/
import Derived.Test.YtpfabjjeacdikaaNames
import Derived.Test.YtpfabjjeacdikaaV9
namespace Go.Proofs.Ytpfabjjeacdikaa
open Go Go.V
set_option maxRecDepth 100000
theorem c_laws_FnKeepTwice (v0 : Value) (w : World) (R : Value → World → Prop) (h :
  LenV v0 fun t14 =>
  BinV BinOp.gtr t14 (Value.int IntKind.i64 1048576) fun t15 =>
  SplitV t15
  (R (Value.bool true) w)
  (CallV Try.prog N.spec_DrawCutKeep [v0] w fun t18 w_1 =>
  ExtractV t18 0 fun t19 =>
  ExtractV t18 1 fun t20 =>
  CallV Try.prog N.impl_CutKeep [t19, t20] w_1 fun t24 w_2 =>
  ExtractV t24 0 fun t25 =>
  ExtractV t24 1 fun t26 =>
  CallV Try.prog N.spec_CutKeep [t19, t20] w_2 fun t30 w_3 =>
  ExtractV t30 0 fun t31 =>
  ExtractV t30 1 fun t32 =>
  BoolV BinOp.neq t26 t32 fun t35 =>
  SplitV t35
  (BoolV BinOp.eql t26 t32 fun t48 =>
  SplitV t48
  (CallV Try.prog N.laws_sameRow [t25, t31] w_3 fun t52 w_4 =>
  R t52 w_4)
  (R (Value.bool false) w_3))
  (CallV Try.prog N.laws_sameRow [t25, t31] w_3 fun t39 w_5 =>
  NotV t39 fun t40 =>
  SplitV t40
  (BoolV BinOp.eql t26 t32 fun t48_1 =>
  SplitV t48_1
  (CallV Try.prog N.laws_sameRow [t25, t31] w_5 fun t52_1 w_6 =>
  R t52_1 w_6)
  (R (Value.bool false) w_5))
  (NotV t26 fun t44 =>
  SplitV t44
  (BoolV BinOp.eql t26 t32 fun t48_2 =>
  SplitV t48_2
  (CallV Try.prog N.laws_sameRow [t25, t31] w_5 fun t52_2 w_7 =>
  R t52_2 w_7)
  (R (Value.bool false) w_5))
  (CallV Try.prog N.impl_CutKeep [t19, t25] w_5 fun t57 w_8 =>
  ExtractV t57 0 fun t58 =>
  ExtractV t57 1 fun t59 =>
  CallV Try.prog N.impl_PlanEnds [t19] w_8 fun t63 w_9 =>
  CallV Try.prog N.impl_CutKeep [t19, t63] w_9 fun t64 w_10 =>
  ExtractV t64 0 fun t65 =>
  ExtractV t64 1 fun t66 =>
  SplitV t59
  (SplitV t66
  (CallV Try.prog N.laws_sameRow [t58, t25] w_10 fun t74 w_11 =>
  SplitV t74
  (LenV t65 fun t78 =>
  LenV t19 fun t80 =>
  BinV BinOp.eql t78 t80 fun t81 =>
  R t81 w_11)
  (R (Value.bool false) w_11))
  (R (Value.bool false) w_10))
  (R (Value.bool false) w_10)))))) :
    Calls Try.prog N.laws_FnKeepTwice #[v0] w (Ret R) :=
  callsB (args := [v0]) ⟨(annOf []), (annOf []), []⟩ Try.func6 rfl (cast (by kernel_rfl) h)

end Go.Proofs.Ytpfabjjeacdikaa
