/- The conditions of functions, off their texts. Printed by a program; Lean checks each one. -/
import Derived.Test.YtinpkcjfnljigaaNames
import Derived.Test.YtinpkcjfnljigaaV9
namespace Go.Proofs.Ytinpkcjfnljigaa
open Go Go.V
set_option maxRecDepth 100000
theorem c_laws_FnDequePart (v0 : Value) (v1 : Value) (w : World) (R : Value → World → Prop) (h :
  LenV v0 fun t12 =>
  BinV BinOp.gtr t12 (Value.int IntKind.i64 1048576) fun t13 =>
  SplitV t13
  (R (Value.bool true) w)
  (LenV v1 fun t16 =>
  BinV BinOp.gtr t16 (Value.int IntKind.i64 1048576) fun t17 =>
  SplitV t17
  (R (Value.bool true) w)
  (CallV Try.prog N.spec_DrawDequeValid [v0] w fun t20 w_1 =>
  CallV Try.prog N.impl_DequeValid [t20] w_1 fun t22 w_2 =>
  CallV Try.prog N.spec_DequeValid [t20] w_2 fun t24 w_3 =>
  BoolV BinOp.neq t22 t24 fun t27 =>
  SplitV t27
  (BoolV BinOp.eql t22 t24 fun t39 =>
  R t39 w_3)
  (NotV t22 fun t30 =>
  SplitV t30
  (BoolV BinOp.eql t22 t24 fun t39_1 =>
  R t39_1 w_3)
  (LenV t20 fun t34 =>
  BinV BinOp.eql t34 (Value.int IntKind.i64 0) fun t35 =>
  SplitV t35
  (BoolV BinOp.eql t22 t24 fun t39_2 =>
  R t39_2 w_3)
  (LenV v1 fun t41 =>
  LenV t20 fun t43 =>
  BinV BinOp.rem t41 t43 fun t44 =>
  DrawV w_3 fun S w_4 =>
  SliceV 1 t20 none (some t44) fun t48 =>
  BinV BinOp.add t44 (Value.int IntKind.i64 1) fun t52 =>
  SliceV 1 t20 (some t52) none fun t53 =>
  BSliceV T.int 1 0 #[Value.int IntKind.i64 0] [] w_4 fun t45 w_5 =>
  Chg S w_4 w_5 ∧
  AppendV Try.prog T.sl_int t45 t48 w_5 fun t49 w_6 =>
  Chg S w_5 w_6 ∧
  AppendV Try.prog T.sl_int t49 t53 w_6 fun t54 w_7 =>
  Chg S w_6 w_7 ∧
  DrawV w_7 fun S_1 w_8 =>
  BinV BinOp.add t44 (Value.int IntKind.i64 1) fun t58 =>
  SliceV 1 t20 none (some t58) fun t59 =>
  SliceV 1 t20 (some t44) none fun t63 =>
  BSliceV T.int 1 0 #[Value.int IntKind.i64 0] [] w_8 fun t55 w_9 =>
  Chg S_1 w_8 w_9 ∧
  AppendV Try.prog T.sl_int t55 t59 w_9 fun t60 w_10 =>
  Chg S_1 w_9 w_10 ∧
  AppendV Try.prog T.sl_int t60 t63 w_10 fun t64 w_11 =>
  Chg S_1 w_10 w_11 ∧
  CallV Try.prog N.impl_DequeValid [t54] w_11 fun t66 w_12 =>
  SplitV t66
  (CallV Try.prog N.impl_DequeValid [t64] w_12 fun t69 w_13 =>
  NotV t69 fun t70 =>
  R t70 w_13)
  (R (Value.bool false) w_12))))))) :
    Calls Try.prog N.laws_FnDequePart #[v0, v1] w (Ret R) :=
  callsB (args := [v0, v1]) ⟨(annOf []), (annOf [])⟩ Try.func6 rfl (cast (by kernel_rfl) h)

end Go.Proofs.Ytinpkcjfnljigaa
