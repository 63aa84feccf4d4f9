/- The conditions of functions, off their texts. Printed by a program; Lean checks each one. -/
import Derived.Test.YtinpkcjfnljigaaNames
import Derived.Test.YtinpkcjfnljigaaV9
namespace Go.Proofs.Ytinpkcjfnljigaa
open Go Go.V
set_option maxRecDepth 100000
theorem c_laws_FnPush (v0 : Value) (w : World) (R : Value → World → Prop) (h :
  LenV v0 fun t13 =>
  BinV BinOp.gtr t13 (Value.int IntKind.i64 1048576) fun t14 =>
  SplitV t14
  (R (Value.bool true) w)
  (CallV Try.prog N.spec_DrawDequePush [v0] w fun t17 w_1 =>
  ExtractV t17 0 fun t18 =>
  ExtractV t17 1 fun t19 =>
  CallV Try.prog N.impl_DequePush [t18, t19] w_1 fun t23 w_2 =>
  ExtractV t23 0 fun t24 =>
  ExtractV t23 1 fun t25 =>
  CallV Try.prog N.spec_DequePush [t18, t19] w_2 fun t29 w_3 =>
  ExtractV t29 0 fun t30 =>
  ExtractV t29 1 fun t31 =>
  BoolV BinOp.neq t25 t31 fun t34 =>
  SplitV t34
  (BoolV BinOp.eql t25 t31 fun t47 =>
  SplitV t47
  (CallV Try.prog N.laws_sameRow [t24, t30] w_3 fun t51 w_4 =>
  R t51 w_4)
  (R (Value.bool false) w_3))
  (CallV Try.prog N.laws_sameRow [t24, t30] w_3 fun t38 w_5 =>
  NotV t38 fun t39 =>
  SplitV t39
  (BoolV BinOp.eql t25 t31 fun t47_1 =>
  SplitV t47_1
  (CallV Try.prog N.laws_sameRow [t24, t30] w_5 fun t51_1 w_6 =>
  R t51_1 w_6)
  (R (Value.bool false) w_5))
  (NotV t25 fun t43 =>
  SplitV t43
  (BoolV BinOp.eql t25 t31 fun t47_2 =>
  SplitV t47_2
  (CallV Try.prog N.laws_sameRow [t24, t30] w_5 fun t51_2 w_7 =>
  R t51_2 w_7)
  (R (Value.bool false) w_5))
  (CallV Try.prog N.impl_DequePop [t24] w_5 fun t55 w_8 =>
  ExtractV t55 0 fun t56 =>
  ExtractV t55 1 fun t57 =>
  ExtractV t55 2 fun t58 =>
  CallV Try.prog N.impl_DequeValid [t24] w_8 fun t60 w_9 =>
  SplitV t60
  (SplitV t58
  (BinV BinOp.eql t57 t19 fun t67 =>
  SplitV t67
  (CallV Try.prog N.laws_sameRow [t56, t18] w_9 fun t72 w_10 =>
  R t72 w_10)
  (R (Value.bool false) w_9))
  (R (Value.bool false) w_9))
  (R (Value.bool false) w_9)))))) :
    Calls Try.prog N.laws_FnPush #[v0] w (Ret R) :=
  callsB (args := [v0]) ⟨(annOf []), (annOf [])⟩ Try.func16 rfl (cast (by kernel_rfl) h)

end Go.Proofs.Ytinpkcjfnljigaa
