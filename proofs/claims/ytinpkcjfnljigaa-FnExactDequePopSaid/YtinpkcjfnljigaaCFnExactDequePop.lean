/- The conditions of functions, off their texts. Printed by a program; Lean checks each one. -/
import Derived.Test.YtinpkcjfnljigaaNames
import Derived.Test.YtinpkcjfnljigaaV9
namespace Go.Proofs.Ytinpkcjfnljigaa
open Go Go.V
set_option maxRecDepth 100000
theorem c_laws_FnExactDequePop (v0 : Value) (w : World) (R : Value → World → Prop) (h :
  LenV v0 fun t17 =>
  BinV BinOp.gtr t17 (Value.int IntKind.i64 1048576) fun t18 =>
  SplitV t18
  (R (Value.bool true) w)
  (CallV Try.prog N.laws_toIntS [v0] w fun t21 w_1 =>
  CallV Try.prog N.spec_DequePop [t21] w_1 fun t22 w_2 =>
  ExtractV t22 0 fun t23 =>
  ExtractV t22 1 fun t24 =>
  ExtractV t22 2 fun t25 =>
  CallV Try.prog N.laws_toIntS [v0] w_2 fun t27 w_3 =>
  CallV Try.prog N.impl_DequePop [t27] w_3 fun t30 w_4 =>
  ExtractV t30 0 fun t31 =>
  ExtractV t30 1 fun t32 =>
  ExtractV t30 2 fun t33 =>
  CallV Try.prog N.laws_eqIntS [t31, t23] w_4 fun t36 w_5 =>
  NotV t36 fun t37 =>
  SplitV t37
  (R (Value.bool false) w_5)
  (BinV BinOp.neq t32 t24 fun t41 =>
  SplitV t41
  (R (Value.bool false) w_5)
  (BoolV BinOp.neq t33 t25 fun t46 =>
  SplitV t46
  (R (Value.bool false) w_5)
  (CallV Try.prog N.laws_toIntS [v0] w_5 fun t50 w_6 =>
  CallV Try.prog N.laws_eqIntS [t27, t50] w_6 fun t51 w_7 =>
  NotV t51 fun t52 =>
  SplitV t52
  (R (Value.bool false) w_7)
  (CallV Try.prog N.laws_markIntS [t27, Value.int IntKind.i64 1] w_7 fun t55 w_8 =>
  BinV BinOp.lss t55 (Value.int IntKind.i64 0) fun t57 =>
  SplitV t57
  (R (Value.bool false) w_8)
  (CallV Try.prog N.laws_eqIntS [t31, t23] w_8 fun t61 w_9 =>
  NotV t61 fun t62 =>
  SplitV t62
  (R (Value.bool false) w_9)
  (BinV BinOp.neq t32 t24 fun t67 =>
  SplitV t67
  (R (Value.bool false) w_9)
  (BoolV BinOp.neq t33 t25 fun t72 =>
  SplitV t72
  (R (Value.bool false) w_9)
  (CallV Try.prog N.laws_markIntS [t31, Value.int IntKind.i64 1] w_9 fun t76 w_10 =>
  CallV Try.prog N.laws_heldIntS [t31, Value.int IntKind.i64 1] w_10 fun t79 w_11 =>
  BinV BinOp.lss t79 (Value.int IntKind.i64 0) fun t81 =>
  SplitV t81
  (R (Value.bool false) w_11)
  (BinV BinOp.neq t79 t76 fun t84 =>
  SplitV t84
  (R (Value.bool false) w_11)
  (CallV Try.prog N.laws_toIntS [v0] w_11 fun t87 w_12 =>
  CallV Try.prog N.impl_DequePop [t87] w_12 fun t88 w_13 =>
  ExtractV t88 0 fun t89 =>
  ExtractV t88 1 fun t90 =>
  ExtractV t88 2 fun t91 =>
  CallV Try.prog N.laws_eqIntS [t89, t23] w_13 fun t94 w_14 =>
  NotV t94 fun t95 =>
  SplitV t95
  (R (Value.bool false) w_14)
  (BinV BinOp.neq t90 t24 fun t99 =>
  SplitV t99
  (R (Value.bool false) w_14)
  (BoolV BinOp.neq t91 t25 fun t104 =>
  SplitV t104
  (R (Value.bool false) w_14)
  (CallV Try.prog N.laws_heldIntS [t31, Value.int IntKind.i64 1] w_14 fun t108 w_15 =>
  BinV BinOp.lss t108 (Value.int IntKind.i64 0) fun t110 =>
  SplitV t110
  (R (Value.bool false) w_15)
  (BinV BinOp.neq t108 t76 fun t113 =>
  SplitV t113
  (R (Value.bool false) w_15)
  (R (Value.bool true) w_15))))))))))))))))) :
    Calls Try.prog N.laws_FnExactDequePop #[v0] w (Ret R) :=
  callsB (args := [v0]) ⟨(annOf []), (annOf [])⟩ Try.func8 rfl (cast (by kernel_rfl) h)

end Go.Proofs.Ytinpkcjfnljigaa
