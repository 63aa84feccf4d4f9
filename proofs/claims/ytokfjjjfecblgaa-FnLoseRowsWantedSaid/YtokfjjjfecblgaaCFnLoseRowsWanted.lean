/- The conditions of functions, off their texts. Printed by a program; Lean checks each one. -/
import Derived.Test.YtokfjjjfecblgaaNames
import Derived.Test.YtokfjjjfecblgaaV9
namespace Go.Proofs.Ytokfjjjfecblgaa
open Go Go.V
set_option maxRecDepth 100000
theorem c_laws_FnLoseRowsWanted (v0 : Value) (w : World) (R : Value → World → Prop) (h :
  LenV v0 fun t15 =>
  BinV BinOp.gtr t15 (Value.int IntKind.i64 1048576) fun t16 =>
  SplitV t16
  (R (Value.bool true) w)
  (CallV Try.prog N.spec_DrawLoseRows [v0] w fun t19 w_1 =>
  ExtractV t19 0 fun t20 =>
  ExtractV t19 1 fun t21 =>
  ExtractV t19 2 fun t22 =>
  CallV Try.prog N.impl_LoseRows [t20, t21, t22] w_1 fun t27 w_2 =>
  ExtractV t27 0 fun t28 =>
  ExtractV t27 1 fun t29 =>
  CallV Try.prog N.spec_LoseRows [t20, t21, t22] w_2 fun t34 w_3 =>
  ExtractV t34 0 fun t35 =>
  ExtractV t34 1 fun t36 =>
  BoolV BinOp.neq t29 t36 fun t39 =>
  SplitV t39
  (BoolV BinOp.eql t29 t36 fun t52 =>
  SplitV t52
  (CallV Try.prog N.laws_sameRow [t28, t35] w_3 fun t56 w_4 =>
  R t56 w_4)
  (R (Value.bool false) w_3))
  (CallV Try.prog N.laws_sameRow [t28, t35] w_3 fun t43 w_5 =>
  NotV t43 fun t44 =>
  SplitV t44
  (BoolV BinOp.eql t29 t36 fun t52_1 =>
  SplitV t52_1
  (CallV Try.prog N.laws_sameRow [t28, t35] w_5 fun t56_1 w_6 =>
  R t56_1 w_6)
  (R (Value.bool false) w_5))
  (NotV t29 fun t48 =>
  SplitV t48
  (BoolV BinOp.eql t29 t36 fun t52_2 =>
  SplitV t52_2
  (CallV Try.prog N.laws_sameRow [t28, t35] w_5 fun t56_2 w_7 =>
  R t56_2 w_7)
  (R (Value.bool false) w_5))
  (LoopV [Value.int IntKind.i64 0] w_5 fun s _ w_8 K =>
  LenV t20 fun t60 =>
  BinV BinOp.lss (nthV s 0) t60 fun t61 =>
  SplitV t61
  (CallV Try.prog N.impl_PlanUses [t20, nthV s 0] w_8 fun t66 w_9 =>
  LenV t66 fun t68 =>
  BinV BinOp.eql t68 (Value.int IntKind.i64 0) fun t69 =>
  LoopV [t69, Value.int IntKind.i64 0] w_9 fun s_1 _ w_10 K_1 =>
  LenV t66 fun t72 =>
  BinV BinOp.lss (nthV s_1 1) t72 fun t73 =>
  SplitV t73
  (SplitV (nthV s_1 0)
  (BinV BinOp.add (nthV s_1 1) (Value.int IntKind.i64 1) fun t75 =>
  K_1 [Value.bool true, t75] w_10)
  (IdxV 1 t66 (nthV s_1 1) fun t81 =>
  LoadV false 1 t81 w_10 fun t82 =>
  CallV Try.prog N.laws_hasInt [t21, t82] w_10 fun t83 w_11 =>
  NotV t83 fun t84 =>
  SplitV t84
  (BinV BinOp.add (nthV s_1 1) (Value.int IntKind.i64 1) fun t75_1 =>
  K_1 [Value.bool true, t75_1] w_11)
  (IdxV 1 t66 (nthV s_1 1) fun t90 =>
  LoadV false 1 t90 w_11 fun t91 =>
  CallV Try.prog N.laws_hasInt [t28, t91] w_11 fun t92 w_12 =>
  BinV BinOp.add (nthV s_1 1) (Value.int IntKind.i64 1) fun t75_2 =>
  K_1 [t92, t75_2] w_12)))
  (CallV Try.prog N.laws_hasInt [t21, nthV s 0] w_10 fun t96 w_13 =>
  SplitV t96
  (CallV Try.prog N.laws_hasInt [t22, nthV s 0] w_13 fun t100 w_14 =>
  SplitV t100
  (CallV Try.prog N.laws_hasInt [t28, nthV s 0] w_14 fun t106 w_15 =>
  BoolV BinOp.neq (nthV s_1 0) t106 fun t107 =>
  SplitV t107
  (R (Value.bool false) w_15)
  (BinV BinOp.add (nthV s 0) (Value.int IntKind.i64 1) fun t63 =>
  K [t63] w_15))
  (BinV BinOp.add (nthV s 0) (Value.int IntKind.i64 1) fun t63_1 =>
  K [t63_1] w_14))
  (BinV BinOp.add (nthV s 0) (Value.int IntKind.i64 1) fun t63_2 =>
  K [t63_2] w_13)))
  (R (Value.bool true) w_8)))))) :
    Calls Try.prog N.laws_FnLoseRowsWanted #[v0] w (Ret R) :=
  callsB (args := [v0]) ⟨(annOf [(9, [10]), (14, [12, 13])]), (annOf []), []⟩ Try.func14 rfl (cast (by kernel_rfl) h)

end Go.Proofs.Ytokfjjjfecblgaa
