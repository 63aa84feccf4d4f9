/- The conditions of functions, off their texts. Printed by a program; Lean checks each one. -/
import Derived.Test.YtagejoclifgonaaNames
import Derived.Test.YtagejoclifgonaaV9
namespace Go.Proofs.Ytagejoclifgonaa
open Go Go.V
set_option maxRecDepth 100000
theorem c_laws_FnLoseAgain (v0 : Value) (w : World) (R : Value → World → Prop) (h :
  LenV v0 fun t15 =>
  BinV BinOp.gtr t15 (Value.int IntKind.i64 1048576) fun t16 =>
  SplitV t16
  (R (Value.bool true) w)
  (CallV Try.prog N.spec_DrawLoseAgain [v0] w fun t19 w_1 =>
  ExtractV t19 0 fun t20 =>
  ExtractV t19 1 fun t21 =>
  ExtractV t19 2 fun t22 =>
  CallV Try.prog N.impl_LoseAgain [t20, t21, t22] w_1 fun t27 w_2 =>
  ExtractV t27 0 fun t28 =>
  ExtractV t27 1 fun t29 =>
  CallV Try.prog N.spec_LoseAgain [t20, t21, t22] w_2 fun t34 w_3 =>
  ExtractV t34 0 fun t35 =>
  ExtractV t34 1 fun t36 =>
  BoolV BinOp.neq t29 t36 fun t39 =>
  SplitV t39
  (BoolV BinOp.eql t29 t36 fun t52 =>
  SplitV t52
  (CallV Try.prog N.laws_sameRow [t28, t35] w_3 fun t56 w_4 =>
  R t56 w_4)
  (R (Value.bool false) w_3))
  (CallV Try.prog N.laws_sameRow [t28, t35] w_3 fun t43 w_5 =>
  NotV t43 fun t44 =>
  SplitV t44
  (BoolV BinOp.eql t29 t36 fun t52_1 =>
  SplitV t52_1
  (CallV Try.prog N.laws_sameRow [t28, t35] w_5 fun t56_1 w_6 =>
  R t56_1 w_6)
  (R (Value.bool false) w_5))
  (NotV t29 fun t48 =>
  SplitV t48
  (BoolV BinOp.eql t29 t36 fun t52_2 =>
  SplitV t52_2
  (CallV Try.prog N.laws_sameRow [t28, t35] w_5 fun t56_2 w_7 =>
  R t56_2 w_7)
  (R (Value.bool false) w_5))
  (CallV Try.prog N.impl_LoseRows [t20, t21, t22] w_5 fun t62 w_8 =>
  ExtractV t62 0 fun t63 =>
  ExtractV t62 1 fun t64 =>
  LoopV [Value.int IntKind.i64 0, Value.int IntKind.i64 0] w_8 fun s _ w_9 K =>
  LenV t21 fun t67 =>
  BinV BinOp.lss (nthV s 1) t67 fun t68 =>
  SplitV t68
  (IdxV 1 t21 (nthV s 1) fun t74 =>
  LoadV false 1 t74 w_9 fun t75 =>
  CallV Try.prog N.laws_hasInt [t63, t75] w_9 fun t76 w_10 =>
  NotV t76 fun t77 =>
  SplitV t77
  (DrawV w_10 fun S w_11 =>
  LenV t28 fun t80 =>
  BinV BinOp.geq (nthV s 0) t80 fun t81 =>
  SplitV t81
  (R (Value.bool false) w_11)
  (IdxV 1 t28 (nthV s 0) fun t85 =>
  LoadS S false 1 t85 w_11 fun t86 =>
  IdxV 1 t21 (nthV s 1) fun t89 =>
  LoadS S false 1 t89 w_11 fun t90 =>
  BinV BinOp.neq t86 t90 fun t91 =>
  SplitV t91
  (R (Value.bool false) w_11)
  (BinV BinOp.add (nthV s 0) (Value.int IntKind.i64 1) fun t94 =>
  BinV BinOp.add (nthV s 1) (Value.int IntKind.i64 1) fun t70 =>
  K [t94, t70] w_11)))
  (BinV BinOp.add (nthV s 1) (Value.int IntKind.i64 1) fun t70_1 =>
  K [nthV s 0, t70_1] w_10))
  (SplitV t64
  (LenV t28 fun t99 =>
  BinV BinOp.eql (nthV s 0) t99 fun t100 =>
  SplitV t100
  (LenV t28 fun t104 =>
  LenV t63 fun t106 =>
  BinV BinOp.add t104 t106 fun t107 =>
  LenV t21 fun t109 =>
  BinV BinOp.eql t107 t109 fun t110 =>
  R t110 w_9)
  (R (Value.bool false) w_9))
  (R (Value.bool false) w_9))))))) :
    Calls Try.prog N.laws_FnLoseAgain #[v0] w (Ret R) :=
  callsB (args := [v0]) ⟨(annOf [(11, [12, 13])]), (annOf []), []⟩ Try.func9 rfl (cast (by kernel_rfl) h)

end Go.Proofs.Ytagejoclifgonaa
