/- The conditions of functions, off their texts. Printed by a program; Lean checks each one. -/
import Derived.Test.YtinpkcjfnljigaaNames
import Derived.Test.YtinpkcjfnljigaaV9
namespace Go.Proofs.Ytinpkcjfnljigaa
open Go Go.V
set_option maxRecDepth 100000
theorem c_laws_FnPop (v0 : Value) (w : World) (R : Value → World → Prop) (h :
  LenV v0 fun t13 =>
  BinV BinOp.gtr t13 (Value.int IntKind.i64 1048576) fun t14 =>
  SplitV t14
  (R (Value.bool true) w)
  (CallV Try.prog N.spec_DrawDequePop [v0] w fun t16 w_1 =>
  CallV Try.prog N.impl_DequePop [t16] w_1 fun t19 w_2 =>
  ExtractV t19 0 fun t20 =>
  ExtractV t19 1 fun t21 =>
  ExtractV t19 2 fun t22 =>
  CallV Try.prog N.spec_DequePop [t16] w_2 fun t25 w_3 =>
  ExtractV t25 0 fun t26 =>
  ExtractV t25 1 fun t27 =>
  ExtractV t25 2 fun t28 =>
  BoolV BinOp.neq t22 t28 fun t31 =>
  SplitV t31
  (BoolV BinOp.eql t22 t28 fun t49 =>
  SplitV t49
  (BinV BinOp.eql t21 t27 fun t53 =>
  SplitV t53
  (CallV Try.prog N.laws_sameRow [t20, t26] w_3 fun t58 w_4 =>
  R t58 w_4)
  (R (Value.bool false) w_3))
  (R (Value.bool false) w_3))
  (BinV BinOp.neq t21 t27 fun t35 =>
  SplitV t35
  (BoolV BinOp.eql t22 t28 fun t49_1 =>
  SplitV t49_1
  (BinV BinOp.eql t21 t27 fun t53_1 =>
  SplitV t53_1
  (CallV Try.prog N.laws_sameRow [t20, t26] w_3 fun t58_1 w_5 =>
  R t58_1 w_5)
  (R (Value.bool false) w_3))
  (R (Value.bool false) w_3))
  (CallV Try.prog N.laws_sameRow [t20, t26] w_3 fun t40 w_6 =>
  NotV t40 fun t41 =>
  SplitV t41
  (BoolV BinOp.eql t22 t28 fun t49_2 =>
  SplitV t49_2
  (BinV BinOp.eql t21 t27 fun t53_2 =>
  SplitV t53_2
  (CallV Try.prog N.laws_sameRow [t20, t26] w_6 fun t58_2 w_7 =>
  R t58_2 w_7)
  (R (Value.bool false) w_6))
  (R (Value.bool false) w_6))
  (NotV t22 fun t45 =>
  SplitV t45
  (BoolV BinOp.eql t22 t28 fun t49_3 =>
  SplitV t49_3
  (BinV BinOp.eql t21 t27 fun t53_3 =>
  SplitV t53_3
  (CallV Try.prog N.laws_sameRow [t20, t26] w_6 fun t58_3 w_8 =>
  R t58_3 w_8)
  (R (Value.bool false) w_6))
  (R (Value.bool false) w_6))
  (CallV Try.prog N.impl_DequePush [t20, t21] w_6 fun t63 w_9 =>
  ExtractV t63 0 fun t64 =>
  ExtractV t63 1 fun t65 =>
  CallV Try.prog N.impl_DequeValid [t20] w_9 fun t67 w_10 =>
  SplitV t67
  (SplitV t65
  (CallV Try.prog N.laws_sameRow [t64, t16] w_10 fun t74 w_11 =>
  R t74 w_11)
  (R (Value.bool false) w_10))
  (R (Value.bool false) w_10))))))) :
    Calls Try.prog N.laws_FnPop #[v0] w (Ret R) :=
  callsB (args := [v0]) ⟨(annOf []), (annOf [])⟩ Try.func14 rfl (cast (by kernel_rfl) h)

end Go.Proofs.Ytinpkcjfnljigaa
