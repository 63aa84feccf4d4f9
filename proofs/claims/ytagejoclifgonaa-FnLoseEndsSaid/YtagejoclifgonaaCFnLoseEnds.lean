/- The conditions of functions, off their texts. Printed by a program; Lean checks each one. -/
import Derived.Test.YtagejoclifgonaaNames
import Derived.Test.YtagejoclifgonaaV9
namespace Go.Proofs.Ytagejoclifgonaa
open Go Go.V
set_option maxRecDepth 100000
theorem c_laws_FnLoseEnds (v0 : Value) (w : World) (R : Value → World → Prop) (h :
  LenV v0 fun t13 =>
  BinV BinOp.gtr t13 (Value.int IntKind.i64 1048576) fun t14 =>
  SplitV t14
  (R (Value.bool true) w)
  (CallV Try.prog N.spec_DrawLoseRows [v0] w fun t17 w_1 =>
  ExtractV t17 0 fun t18 =>
  ExtractV t17 1 fun t19 =>
  ExtractV t17 2 fun t20 =>
  CallV Try.prog N.impl_LoseRows [t18, t19, t20] w_1 fun t25 w_2 =>
  ExtractV t25 0 fun t26 =>
  ExtractV t25 1 fun t27 =>
  CallV Try.prog N.spec_LoseRows [t18, t19, t20] w_2 fun t32 w_3 =>
  ExtractV t32 0 fun t33 =>
  ExtractV t32 1 fun t34 =>
  BoolV BinOp.neq t27 t34 fun t37 =>
  SplitV t37
  (BoolV BinOp.eql t27 t34 fun t50 =>
  SplitV t50
  (CallV Try.prog N.laws_sameRow [t26, t33] w_3 fun t54 w_4 =>
  R t54 w_4)
  (R (Value.bool false) w_3))
  (CallV Try.prog N.laws_sameRow [t26, t33] w_3 fun t41 w_5 =>
  NotV t41 fun t42 =>
  SplitV t42
  (BoolV BinOp.eql t27 t34 fun t50_1 =>
  SplitV t50_1
  (CallV Try.prog N.laws_sameRow [t26, t33] w_5 fun t54_1 w_6 =>
  R t54_1 w_6)
  (R (Value.bool false) w_5))
  (NotV t27 fun t46 =>
  SplitV t46
  (BoolV BinOp.eql t27 t34 fun t50_2 =>
  SplitV t50_2
  (CallV Try.prog N.laws_sameRow [t26, t33] w_5 fun t54_2 w_7 =>
  R t54_2 w_7)
  (R (Value.bool false) w_5))
  (CallV Try.prog N.impl_PlanEnds [t18] w_5 fun t57 w_8 =>
  LoopV [Value.int IntKind.i64 0] w_8 fun s _ w_9 K =>
  LenV t57 fun t60 =>
  BinV BinOp.lss (nthV s 0) t60 fun t61 =>
  SplitV t61
  (IdxV 1 t57 (nthV s 0) fun t67 =>
  LoadV false 1 t67 w_9 fun t68 =>
  CallV Try.prog N.laws_hasInt [t19, t68] w_9 fun t69 w_10 =>
  SplitV t69
  (IdxV 1 t57 (nthV s 0) fun t74 =>
  LoadV false 1 t74 w_10 fun t75 =>
  CallV Try.prog N.laws_hasInt [t20, t75] w_10 fun t76 w_11 =>
  SplitV t76
  (IdxV 1 t57 (nthV s 0) fun t82 =>
  LoadV false 1 t82 w_11 fun t83 =>
  CallV Try.prog N.laws_hasInt [t26, t83] w_11 fun t84 w_12 =>
  NotV t84 fun t85 =>
  SplitV t85
  (R (Value.bool false) w_12)
  (BinV BinOp.add (nthV s 0) (Value.int IntKind.i64 1) fun t63 =>
  K [t63] w_12))
  (BinV BinOp.add (nthV s 0) (Value.int IntKind.i64 1) fun t63_1 =>
  K [t63_1] w_11))
  (BinV BinOp.add (nthV s 0) (Value.int IntKind.i64 1) fun t63_2 =>
  K [t63_2] w_10))
  (R (Value.bool true) w_9)))))) :
    Calls Try.prog N.laws_FnLoseEnds #[v0] w (Ret R) :=
  callsB (args := [v0]) ⟨(annOf [(10, [11])]), (annOf []), []⟩ Try.func6 rfl (cast (by kernel_rfl) h)

end Go.Proofs.Ytagejoclifgonaa
