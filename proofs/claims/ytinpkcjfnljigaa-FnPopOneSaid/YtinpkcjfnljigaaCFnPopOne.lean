/- The conditions of functions, off their texts. Printed by a program; Lean checks each one. -/
import Derived.Test.YtinpkcjfnljigaaNames
import Derived.Test.YtinpkcjfnljigaaV9
namespace Go.Proofs.Ytinpkcjfnljigaa
open Go Go.V
set_option maxRecDepth 100000
theorem c_laws_FnPopOne (v0 : Value) (w : World) (R : Value → World → Prop) (h :
  LenV v0 fun t14 =>
  BinV BinOp.gtr t14 (Value.int IntKind.i64 1048576) fun t15 =>
  SplitV t15
  (R (Value.bool true) w)
  (CallV Try.prog N.spec_DrawDequePop [v0] w fun t17 w_1 =>
  CallV Try.prog N.impl_DequePop [t17] w_1 fun t20 w_2 =>
  ExtractV t20 0 fun t21 =>
  ExtractV t20 1 fun t22 =>
  ExtractV t20 2 fun t23 =>
  CallV Try.prog N.spec_DequePop [t17] w_2 fun t26 w_3 =>
  ExtractV t26 0 fun t27 =>
  ExtractV t26 1 fun t28 =>
  ExtractV t26 2 fun t29 =>
  BoolV BinOp.neq t23 t29 fun t32 =>
  SplitV t32
  (BoolV BinOp.eql t23 t29 fun t55 =>
  SplitV t55
  (BinV BinOp.eql t22 t28 fun t59 =>
  SplitV t59
  (CallV Try.prog N.laws_sameRow [t21, t27] w_3 fun t64 w_4 =>
  R t64 w_4)
  (R (Value.bool false) w_3))
  (R (Value.bool false) w_3))
  (BinV BinOp.neq t22 t28 fun t36 =>
  SplitV t36
  (BoolV BinOp.eql t23 t29 fun t55_1 =>
  SplitV t55_1
  (BinV BinOp.eql t22 t28 fun t59_1 =>
  SplitV t59_1
  (CallV Try.prog N.laws_sameRow [t21, t27] w_3 fun t64_1 w_5 =>
  R t64_1 w_5)
  (R (Value.bool false) w_3))
  (R (Value.bool false) w_3))
  (CallV Try.prog N.laws_sameRow [t21, t27] w_3 fun t41 w_6 =>
  NotV t41 fun t42 =>
  SplitV t42
  (BoolV BinOp.eql t23 t29 fun t55_2 =>
  SplitV t55_2
  (BinV BinOp.eql t22 t28 fun t59_2 =>
  SplitV t59_2
  (CallV Try.prog N.laws_sameRow [t21, t27] w_6 fun t64_2 w_7 =>
  R t64_2 w_7)
  (R (Value.bool false) w_6))
  (R (Value.bool false) w_6))
  (NotV t23 fun t46 =>
  SplitV t46
  (BoolV BinOp.eql t23 t29 fun t55_3 =>
  SplitV t55_3
  (BinV BinOp.eql t22 t28 fun t59_3 =>
  SplitV t59_3
  (CallV Try.prog N.laws_sameRow [t21, t27] w_6 fun t64_3 w_8 =>
  R t64_3 w_8)
  (R (Value.bool false) w_6))
  (R (Value.bool false) w_6))
  (LenV t17 fun t50 =>
  BinV BinOp.gtr t50 (Value.int IntKind.i64 1) fun t51 =>
  SplitV t51
  (BoolV BinOp.eql t23 t29 fun t55_4 =>
  SplitV t55_4
  (BinV BinOp.eql t22 t28 fun t59_4 =>
  SplitV t59_4
  (CallV Try.prog N.laws_sameRow [t21, t27] w_6 fun t64_4 w_9 =>
  R t64_4 w_9)
  (R (Value.bool false) w_6))
  (R (Value.bool false) w_6))
  (CallV Try.prog N.impl_DequeSteal [t17] w_6 fun t68 w_10 =>
  ExtractV t68 0 fun t69 =>
  ExtractV t68 1 fun t70 =>
  ExtractV t68 2 fun t71 =>
  SplitV t71
  (BinV BinOp.eql t70 t22 fun t76 =>
  SplitV t76
  (CallV Try.prog N.laws_sameRow [t69, t21] w_10 fun t81 w_11 =>
  R t81 w_11)
  (R (Value.bool false) w_10))
  (R (Value.bool false) w_10)))))))) :
    Calls Try.prog N.laws_FnPopOne #[v0] w (Ret R) :=
  callsB (args := [v0]) ⟨(annOf []), (annOf [])⟩ Try.func13 rfl (cast (by kernel_rfl) h)

end Go.Proofs.Ytinpkcjfnljigaa
