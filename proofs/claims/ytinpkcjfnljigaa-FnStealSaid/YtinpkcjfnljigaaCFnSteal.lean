/- The conditions of functions, off their texts. Printed by a program; Lean checks each one. -/
import Derived.Test.YtinpkcjfnljigaaNames
import Derived.Test.YtinpkcjfnljigaaV9
namespace Go.Proofs.Ytinpkcjfnljigaa
open Go Go.V
set_option maxRecDepth 100000
theorem c_laws_FnSteal (v0 : Value) (w : World) (R : Value → World → Prop) (h :
  LenV v0 fun t11 =>
  BinV BinOp.gtr t11 (Value.int IntKind.i64 1048576) fun t12 =>
  SplitV t12
  (R (Value.bool true) w)
  (CallV Try.prog N.spec_DrawDequeSteal [v0] w fun t14 w_1 =>
  CallV Try.prog N.impl_DequeSteal [t14] w_1 fun t17 w_2 =>
  ExtractV t17 0 fun t18 =>
  ExtractV t17 1 fun t19 =>
  ExtractV t17 2 fun t20 =>
  CallV Try.prog N.spec_DequeSteal [t14] w_2 fun t23 w_3 =>
  ExtractV t23 0 fun t24 =>
  ExtractV t23 1 fun t25 =>
  ExtractV t23 2 fun t26 =>
  BoolV BinOp.neq t20 t26 fun t29 =>
  SplitV t29
  (BoolV BinOp.eql t20 t26 fun t47 =>
  SplitV t47
  (BinV BinOp.eql t19 t25 fun t51 =>
  SplitV t51
  (CallV Try.prog N.laws_sameRow [t18, t24] w_3 fun t56 w_4 =>
  R t56 w_4)
  (R (Value.bool false) w_3))
  (R (Value.bool false) w_3))
  (BinV BinOp.neq t19 t25 fun t33 =>
  SplitV t33
  (BoolV BinOp.eql t20 t26 fun t47_1 =>
  SplitV t47_1
  (BinV BinOp.eql t19 t25 fun t51_1 =>
  SplitV t51_1
  (CallV Try.prog N.laws_sameRow [t18, t24] w_3 fun t56_1 w_5 =>
  R t56_1 w_5)
  (R (Value.bool false) w_3))
  (R (Value.bool false) w_3))
  (CallV Try.prog N.laws_sameRow [t18, t24] w_3 fun t38 w_6 =>
  NotV t38 fun t39 =>
  SplitV t39
  (BoolV BinOp.eql t20 t26 fun t47_2 =>
  SplitV t47_2
  (BinV BinOp.eql t19 t25 fun t51_2 =>
  SplitV t51_2
  (CallV Try.prog N.laws_sameRow [t18, t24] w_6 fun t56_2 w_7 =>
  R t56_2 w_7)
  (R (Value.bool false) w_6))
  (R (Value.bool false) w_6))
  (NotV t20 fun t43 =>
  SplitV t43
  (BoolV BinOp.eql t20 t26 fun t47_3 =>
  SplitV t47_3
  (BinV BinOp.eql t19 t25 fun t51_3 =>
  SplitV t51_3
  (CallV Try.prog N.laws_sameRow [t18, t24] w_6 fun t56_3 w_8 =>
  R t56_3 w_8)
  (R (Value.bool false) w_6))
  (R (Value.bool false) w_6))
  (IdxV 1 t14 (Value.int IntKind.i64 0) fun t60 =>
  LoadV false 1 t60 w_6 fun t61 =>
  BinV BinOp.eql t19 t61 fun t62 =>
  SplitV t62
  (SliceV 1 t14 (some (Value.int IntKind.i64 1)) none fun t66 =>
  CallV Try.prog N.laws_sameRow [t18, t66] w_6 fun t67 w_9 =>
  SplitV t67
  (CallV Try.prog N.impl_DequeValid [t18] w_9 fun t71 w_10 =>
  R t71 w_10)
  (R (Value.bool false) w_9))
  (R (Value.bool false) w_6))))))) :
    Calls Try.prog N.laws_FnSteal #[v0] w (Ret R) :=
  callsB (args := [v0]) ⟨(annOf []), (annOf [])⟩ Try.func10 rfl (cast (by kernel_rfl) h)

end Go.Proofs.Ytinpkcjfnljigaa
