/- The conditions of functions, off their texts. Printed by a program; Lean checks each one. -/
import Derived.Test.YtinpkcjfnljigaaNames
import Derived.Test.YtinpkcjfnljigaaV9
namespace Go.Proofs.Ytinpkcjfnljigaa
open Go Go.V
set_option maxRecDepth 100000
theorem c_laws_FnExactDequePush (v0 : Value) (v1 : Value) (w : World) (R : Value → World → Prop) (h :
  LenV v0 fun t16 =>
  BinV BinOp.gtr t16 (Value.int IntKind.i64 1048576) fun t17 =>
  SplitV t17
  (R (Value.bool true) w)
  (CallV Try.prog N.laws_toIntS [v0] w fun t20 w_1 =>
  CallV Try.prog N.spec_DequePush [t20, v1] w_1 fun t22 w_2 =>
  ExtractV t22 0 fun t23 =>
  ExtractV t22 1 fun t24 =>
  CallV Try.prog N.laws_toIntS [v0] w_2 fun t26 w_3 =>
  CallV Try.prog N.impl_DequePush [t26, v1] w_3 fun t30 w_4 =>
  ExtractV t30 0 fun t31 =>
  ExtractV t30 1 fun t32 =>
  CallV Try.prog N.laws_eqIntS [t31, t23] w_4 fun t35 w_5 =>
  NotV t35 fun t36 =>
  SplitV t36
  (R (Value.bool false) w_5)
  (BoolV BinOp.neq t32 t24 fun t40 =>
  SplitV t40
  (R (Value.bool false) w_5)
  (CallV Try.prog N.laws_toIntS [v0] w_5 fun t44 w_6 =>
  CallV Try.prog N.laws_eqIntS [t26, t44] w_6 fun t45 w_7 =>
  NotV t45 fun t46 =>
  SplitV t46
  (R (Value.bool false) w_7)
  (CallV Try.prog N.laws_markIntS [t26, Value.int IntKind.i64 1] w_7 fun t49 w_8 =>
  BinV BinOp.lss t49 (Value.int IntKind.i64 0) fun t51 =>
  SplitV t51
  (R (Value.bool false) w_8)
  (CallV Try.prog N.laws_eqIntS [t31, t23] w_8 fun t55 w_9 =>
  NotV t55 fun t56 =>
  SplitV t56
  (R (Value.bool false) w_9)
  (BoolV BinOp.neq t32 t24 fun t61 =>
  SplitV t61
  (R (Value.bool false) w_9)
  (CallV Try.prog N.laws_markIntS [t31, Value.int IntKind.i64 1] w_9 fun t65 w_10 =>
  CallV Try.prog N.laws_heldIntS [t31, Value.int IntKind.i64 1] w_10 fun t68 w_11 =>
  BinV BinOp.lss t68 (Value.int IntKind.i64 0) fun t70 =>
  SplitV t70
  (R (Value.bool false) w_11)
  (BinV BinOp.neq t68 t65 fun t73 =>
  SplitV t73
  (R (Value.bool false) w_11)
  (CallV Try.prog N.laws_toIntS [v0] w_11 fun t76 w_12 =>
  CallV Try.prog N.impl_DequePush [t76, v1] w_12 fun t78 w_13 =>
  ExtractV t78 0 fun t79 =>
  ExtractV t78 1 fun t80 =>
  CallV Try.prog N.laws_eqIntS [t79, t23] w_13 fun t83 w_14 =>
  NotV t83 fun t84 =>
  SplitV t84
  (R (Value.bool false) w_14)
  (BoolV BinOp.neq t80 t24 fun t88 =>
  SplitV t88
  (R (Value.bool false) w_14)
  (CallV Try.prog N.laws_heldIntS [t31, Value.int IntKind.i64 1] w_14 fun t92 w_15 =>
  BinV BinOp.lss t92 (Value.int IntKind.i64 0) fun t94 =>
  SplitV t94
  (R (Value.bool false) w_15)
  (BinV BinOp.neq t92 t65 fun t97 =>
  SplitV t97
  (R (Value.bool false) w_15)
  (R (Value.bool true) w_15)))))))))))))) :
    Calls Try.prog N.laws_FnExactDequePush #[v0, v1] w (Ret R) :=
  callsB (args := [v0, v1]) ⟨(annOf []), (annOf [])⟩ Try.func9 rfl (cast (by kernel_rfl) h)

end Go.Proofs.Ytinpkcjfnljigaa
