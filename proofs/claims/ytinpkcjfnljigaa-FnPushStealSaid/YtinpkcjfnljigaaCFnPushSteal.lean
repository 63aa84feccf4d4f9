/- The conditions of functions, off their texts. Printed by a program; Lean checks each one. -/
import Derived.Test.YtinpkcjfnljigaaNames
import Derived.Test.YtinpkcjfnljigaaV9
namespace Go.Proofs.Ytinpkcjfnljigaa
open Go Go.V
set_option maxRecDepth 100000
theorem c_laws_FnPushSteal (v0 : Value) (w : World) (R : Value → World → Prop) (h :
  LenV v0 fun t15 =>
  BinV BinOp.gtr t15 (Value.int IntKind.i64 1048576) fun t16 =>
  SplitV t16
  (R (Value.bool true) w)
  (CallV Try.prog N.spec_DrawDequePush [v0] w fun t19 w_1 =>
  ExtractV t19 0 fun t20 =>
  ExtractV t19 1 fun t21 =>
  CallV Try.prog N.impl_DequePush [t20, t21] w_1 fun t25 w_2 =>
  ExtractV t25 0 fun t26 =>
  ExtractV t25 1 fun t27 =>
  CallV Try.prog N.spec_DequePush [t20, t21] w_2 fun t31 w_3 =>
  ExtractV t31 0 fun t32 =>
  ExtractV t31 1 fun t33 =>
  BoolV BinOp.neq t27 t33 fun t36 =>
  SplitV t36
  (BoolV BinOp.eql t27 t33 fun t49 =>
  SplitV t49
  (CallV Try.prog N.laws_sameRow [t26, t32] w_3 fun t53 w_4 =>
  R t53 w_4)
  (R (Value.bool false) w_3))
  (CallV Try.prog N.laws_sameRow [t26, t32] w_3 fun t40 w_5 =>
  NotV t40 fun t41 =>
  SplitV t41
  (BoolV BinOp.eql t27 t33 fun t49_1 =>
  SplitV t49_1
  (CallV Try.prog N.laws_sameRow [t26, t32] w_5 fun t53_1 w_6 =>
  R t53_1 w_6)
  (R (Value.bool false) w_5))
  (NotV t27 fun t45 =>
  SplitV t45
  (BoolV BinOp.eql t27 t33 fun t49_2 =>
  SplitV t49_2
  (CallV Try.prog N.laws_sameRow [t26, t32] w_5 fun t53_2 w_7 =>
  R t53_2 w_7)
  (R (Value.bool false) w_5))
  (LoopV [t26, Value.int IntKind.i64 0] w_5 fun s _ w_8 K =>
  LenV t20 fun t58 =>
  BinV BinOp.leq (nthV s 1) t58 fun t59 =>
  SplitV t59
  (CallV Try.prog N.impl_DequeSteal [nthV s 0] w_8 fun t64 w_9 =>
  ExtractV t64 0 fun t65 =>
  ExtractV t64 1 fun t66 =>
  ExtractV t64 2 fun t67 =>
  NotV t67 fun t69 =>
  SplitV t69
  (R (Value.bool false) w_9)
  (LenV t20 fun t73 =>
  BinV BinOp.lss (nthV s 1) t73 fun t74 =>
  SplitV t74
  (IdxV 1 t20 (nthV s 1) fun t79 =>
  LoadV false 1 t79 w_9 fun t80 =>
  BinV BinOp.neq t66 t80 fun t81 =>
  SplitV t81
  (R (Value.bool false) w_9)
  (LenV t20 fun t87 =>
  BinV BinOp.eql (nthV s 1) t87 fun t88 =>
  SplitV t88
  (BinV BinOp.neq t66 t21 fun t92 =>
  SplitV t92
  (R (Value.bool false) w_9)
  (BinV BinOp.add (nthV s 1) (Value.int IntKind.i64 1) fun t61 =>
  K [t65, t61] w_9))
  (BinV BinOp.add (nthV s 1) (Value.int IntKind.i64 1) fun t61_1 =>
  K [t65, t61_1] w_9)))
  (LenV t20 fun t87_1 =>
  BinV BinOp.eql (nthV s 1) t87_1 fun t88_1 =>
  SplitV t88_1
  (BinV BinOp.neq t66 t21 fun t92_1 =>
  SplitV t92_1
  (R (Value.bool false) w_9)
  (BinV BinOp.add (nthV s 1) (Value.int IntKind.i64 1) fun t61_2 =>
  K [t65, t61_2] w_9))
  (BinV BinOp.add (nthV s 1) (Value.int IntKind.i64 1) fun t61_3 =>
  K [t65, t61_3] w_9))))
  (LenV (nthV s 0) fun t97 =>
  BinV BinOp.eql t97 (Value.int IntKind.i64 0) fun t98 =>
  R t98 w_8)))))) :
    Calls Try.prog N.laws_FnPushSteal #[v0] w (Ret R) :=
  callsB (args := [v0]) ⟨(annOf [(10, [9, 10])]), (annOf [])⟩ Try.func15 rfl (cast (by kernel_rfl) h)

end Go.Proofs.Ytinpkcjfnljigaa
