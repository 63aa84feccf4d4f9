/- The conditions of functions, off their texts. Printed by a program; Lean checks each one. -/
import Derived.Test.YtagejoclifgonaaNames
import Derived.Test.YtagejoclifgonaaV9
namespace Go.Proofs.Ytagejoclifgonaa
open Go Go.V
set_option maxRecDepth 100000
theorem c_laws_FnLoseAgainAll (v0 : Value) (w : World) (R : Value → World → Prop) (h :
  LenV v0 fun t14 =>
  BinV BinOp.gtr t14 (Value.int IntKind.i64 1048576) fun t15 =>
  SplitV t15
  (R (Value.bool true) w)
  (CallV Try.prog N.spec_DrawLoseAgain [v0] w fun t18 w_1 =>
  ExtractV t18 0 fun t19 =>
  ExtractV t18 1 fun t20 =>
  ExtractV t18 2 fun t21 =>
  CallV Try.prog N.impl_LoseAgain [t19, t20, t21] w_1 fun t26 w_2 =>
  ExtractV t26 0 fun t27 =>
  ExtractV t26 1 fun t28 =>
  CallV Try.prog N.spec_LoseAgain [t19, t20, t21] w_2 fun t33 w_3 =>
  ExtractV t33 0 fun t34 =>
  ExtractV t33 1 fun t35 =>
  BoolV BinOp.neq t28 t35 fun t38 =>
  SplitV t38
  (BoolV BinOp.eql t28 t35 fun t51 =>
  SplitV t51
  (CallV Try.prog N.laws_sameRow [t27, t34] w_3 fun t55 w_4 =>
  R t55 w_4)
  (R (Value.bool false) w_3))
  (CallV Try.prog N.laws_sameRow [t27, t34] w_3 fun t42 w_5 =>
  NotV t42 fun t43 =>
  SplitV t43
  (BoolV BinOp.eql t28 t35 fun t51_1 =>
  SplitV t51_1
  (CallV Try.prog N.laws_sameRow [t27, t34] w_5 fun t55_1 w_6 =>
  R t55_1 w_6)
  (R (Value.bool false) w_5))
  (NotV t28 fun t47 =>
  SplitV t47
  (BoolV BinOp.eql t28 t35 fun t51_2 =>
  SplitV t51_2
  (CallV Try.prog N.laws_sameRow [t27, t34] w_5 fun t55_2 w_7 =>
  R t55_2 w_7)
  (R (Value.bool false) w_5))
  (LoopV [Value.int IntKind.i64 0] w_5 fun s _ w_8 K =>
  LenV t19 fun t59 =>
  BinV BinOp.lss (nthV s 0) t59 fun t60 =>
  SplitV t60
  (CallV Try.prog N.laws_hasInt [t27, nthV s 0] w_8 fun t65 w_9 =>
  SplitV t65
  (BinV BinOp.add (nthV s 0) (Value.int IntKind.i64 1) fun t62 =>
  K [t62] w_9)
  (LoopV [Value.int IntKind.i64 0] w_9 fun s_1 _ w_10 K_1 =>
  IdxV 3 t19 (nthV s 0) fun t69 =>
  FAddrV 1 t69 fun t70 =>
  LoadV false 1 t70 w_10 fun t71 =>
  LenV t71 fun t72 =>
  BinV BinOp.lss (nthV s_1 0) t72 fun t73 =>
  SplitV t73
  (IdxV 3 t19 (nthV s 0) fun t78 =>
  FAddrV 1 t78 fun t79 =>
  LoadV false 1 t79 w_10 fun t80 =>
  IdxV 1 t80 (nthV s_1 0) fun t82 =>
  LoadV false 1 t82 w_10 fun t83 =>
  CallV Try.prog N.laws_hasInt [t27, t83] w_10 fun t86 w_11 =>
  SplitV t86
  (CallV Try.prog N.laws_hasInt [t21, t83] w_11 fun t90 w_12 =>
  SplitV t90
  (R (Value.bool false) w_12)
  (BinV BinOp.add (nthV s_1 0) (Value.int IntKind.i64 1) fun t75 =>
  K_1 [t75] w_12))
  (BinV BinOp.add (nthV s_1 0) (Value.int IntKind.i64 1) fun t75_1 =>
  K_1 [t75_1] w_11))
  (BinV BinOp.add (nthV s 0) (Value.int IntKind.i64 1) fun t62_1 =>
  K [t62_1] w_10)))
  (R (Value.bool true) w_8)))))) :
    Calls Try.prog N.laws_FnLoseAgainAll #[v0] w (Ret R) :=
  callsB (args := [v0]) ⟨(annOf [(9, [10]), (13, [11])]), (annOf []), []⟩ Try.func4 rfl (cast (by kernel_rfl) h)

end Go.Proofs.Ytagejoclifgonaa
