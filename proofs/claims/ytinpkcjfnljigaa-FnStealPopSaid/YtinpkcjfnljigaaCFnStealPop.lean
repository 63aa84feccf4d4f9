/- The conditions of functions, off their texts. Printed by a program; Lean checks each one. -/
import Derived.Test.YtinpkcjfnljigaaNames
import Derived.Test.YtinpkcjfnljigaaV9
namespace Go.Proofs.Ytinpkcjfnljigaa
open Go Go.V
set_option maxRecDepth 100000
theorem c_laws_FnStealPop (v0 : Value) (w : World) (R : Value → World → Prop) (h :
  LenV v0 fun t20 =>
  BinV BinOp.gtr t20 (Value.int IntKind.i64 1048576) fun t21 =>
  SplitV t21
  (R (Value.bool true) w)
  (CallV Try.prog N.spec_DrawDequeSteal [v0] w fun t23 w_1 =>
  CallV Try.prog N.impl_DequeSteal [t23] w_1 fun t26 w_2 =>
  ExtractV t26 0 fun t27 =>
  ExtractV t26 1 fun t28 =>
  ExtractV t26 2 fun t29 =>
  CallV Try.prog N.spec_DequeSteal [t23] w_2 fun t32 w_3 =>
  ExtractV t32 0 fun t33 =>
  ExtractV t32 1 fun t34 =>
  ExtractV t32 2 fun t35 =>
  BoolV BinOp.neq t29 t35 fun t38 =>
  SplitV t38
  (BoolV BinOp.eql t29 t35 fun t61 =>
  SplitV t61
  (BinV BinOp.eql t28 t34 fun t65 =>
  SplitV t65
  (CallV Try.prog N.laws_sameRow [t27, t33] w_3 fun t70 w_4 =>
  R t70 w_4)
  (R (Value.bool false) w_3))
  (R (Value.bool false) w_3))
  (BinV BinOp.neq t28 t34 fun t42 =>
  SplitV t42
  (BoolV BinOp.eql t29 t35 fun t61_1 =>
  SplitV t61_1
  (BinV BinOp.eql t28 t34 fun t65_1 =>
  SplitV t65_1
  (CallV Try.prog N.laws_sameRow [t27, t33] w_3 fun t70_1 w_5 =>
  R t70_1 w_5)
  (R (Value.bool false) w_3))
  (R (Value.bool false) w_3))
  (CallV Try.prog N.laws_sameRow [t27, t33] w_3 fun t47 w_6 =>
  NotV t47 fun t48 =>
  SplitV t48
  (BoolV BinOp.eql t29 t35 fun t61_2 =>
  SplitV t61_2
  (BinV BinOp.eql t28 t34 fun t65_2 =>
  SplitV t65_2
  (CallV Try.prog N.laws_sameRow [t27, t33] w_6 fun t70_2 w_7 =>
  R t70_2 w_7)
  (R (Value.bool false) w_6))
  (R (Value.bool false) w_6))
  (NotV t29 fun t52 =>
  SplitV t52
  (BoolV BinOp.eql t29 t35 fun t61_3 =>
  SplitV t61_3
  (BinV BinOp.eql t28 t34 fun t65_3 =>
  SplitV t65_3
  (CallV Try.prog N.laws_sameRow [t27, t33] w_6 fun t70_3 w_8 =>
  R t70_3 w_8)
  (R (Value.bool false) w_6))
  (R (Value.bool false) w_6))
  (LenV t23 fun t56 =>
  BinV BinOp.lss t56 (Value.int IntKind.i64 2) fun t57 =>
  SplitV t57
  (BoolV BinOp.eql t29 t35 fun t61_4 =>
  SplitV t61_4
  (BinV BinOp.eql t28 t34 fun t65_4 =>
  SplitV t65_4
  (CallV Try.prog N.laws_sameRow [t27, t33] w_6 fun t70_4 w_9 =>
  R t70_4 w_9)
  (R (Value.bool false) w_6))
  (R (Value.bool false) w_6))
  (CallV Try.prog N.impl_DequePop [t27] w_6 fun t74 w_10 =>
  ExtractV t74 0 fun t75 =>
  ExtractV t74 1 fun t76 =>
  ExtractV t74 2 fun t77 =>
  CallV Try.prog N.impl_DequePop [t23] w_10 fun t80 w_11 =>
  ExtractV t80 0 fun t81 =>
  ExtractV t80 1 fun t82 =>
  ExtractV t80 2 fun t83 =>
  CallV Try.prog N.impl_DequeSteal [t81] w_11 fun t86 w_12 =>
  ExtractV t86 0 fun t87 =>
  ExtractV t86 1 fun t88 =>
  ExtractV t86 2 fun t89 =>
  SplitV t77
  (SplitV t83
  (SplitV t89
  (BinV BinOp.eql t76 t82 fun t100 =>
  SplitV t100
  (BinV BinOp.eql t88 t28 fun t105 =>
  SplitV t105
  (BinV BinOp.neq t76 t28 fun t110 =>
  SplitV t110
  (CallV Try.prog N.laws_sameRow [t75, t87] w_12 fun t115 w_13 =>
  R t115 w_13)
  (R (Value.bool false) w_12))
  (R (Value.bool false) w_12))
  (R (Value.bool false) w_12))
  (R (Value.bool false) w_12))
  (R (Value.bool false) w_12))
  (R (Value.bool false) w_12)))))))) :
    Calls Try.prog N.laws_FnStealPop #[v0] w (Ret R) :=
  callsB (args := [v0]) ⟨(annOf []), (annOf [])⟩ Try.func12 rfl (cast (by kernel_rfl) h)

end Go.Proofs.Ytinpkcjfnljigaa
