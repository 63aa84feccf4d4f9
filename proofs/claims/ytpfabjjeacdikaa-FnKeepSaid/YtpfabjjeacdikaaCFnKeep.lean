/- The conditions of functions, off their texts. Printed by a program; Lean checks each one. -/
import Derived.Test.YtpfabjjeacdikaaNames
import Derived.Test.YtpfabjjeacdikaaV9
namespace Go.Proofs.Ytpfabjjeacdikaa
open Go Go.V
set_option maxRecDepth 100000
theorem c_laws_FnKeep (v0 : Value) (w : World) (R : Value → World → Prop) (h :
  LenV v0 fun t14 =>
  BinV BinOp.gtr t14 (Value.int IntKind.i64 1048576) fun t15 =>
  SplitV t15
  (R (Value.bool true) w)
  (CallV Try.prog N.spec_DrawCutKeep [v0] w fun t18 w_1 =>
  ExtractV t18 0 fun t19 =>
  ExtractV t18 1 fun t20 =>
  CallV Try.prog N.impl_CutKeep [t19, t20] w_1 fun t24 w_2 =>
  ExtractV t24 0 fun t25 =>
  ExtractV t24 1 fun t26 =>
  CallV Try.prog N.spec_CutKeep [t19, t20] w_2 fun t30 w_3 =>
  ExtractV t30 0 fun t31 =>
  ExtractV t30 1 fun t32 =>
  BoolV BinOp.neq t26 t32 fun t35 =>
  SplitV t35
  (BoolV BinOp.eql t26 t32 fun t48 =>
  SplitV t48
  (CallV Try.prog N.laws_sameRow [t25, t31] w_3 fun t52 w_4 =>
  R t52 w_4)
  (R (Value.bool false) w_3))
  (CallV Try.prog N.laws_sameRow [t25, t31] w_3 fun t39 w_5 =>
  NotV t39 fun t40 =>
  SplitV t40
  (BoolV BinOp.eql t26 t32 fun t48_1 =>
  SplitV t48_1
  (CallV Try.prog N.laws_sameRow [t25, t31] w_5 fun t52_1 w_6 =>
  R t52_1 w_6)
  (R (Value.bool false) w_5))
  (NotV t26 fun t44 =>
  SplitV t44
  (BoolV BinOp.eql t26 t32 fun t48_2 =>
  SplitV t48_2
  (CallV Try.prog N.laws_sameRow [t25, t31] w_5 fun t52_2 w_7 =>
  R t52_2 w_7)
  (R (Value.bool false) w_5))
  (LoopV [Value.int IntKind.i64 0] w_5 fun s _ w_8 K =>
  LenV t19 fun t56 =>
  BinV BinOp.lss (nthV s 0) t56 fun t57 =>
  SplitV t57
  (CallV Try.prog N.laws_hasInt [t20, nthV s 0] w_8 fun t62 w_9 =>
  LoopV [t62, Value.int IntKind.i64 0] w_9 fun s_1 _ w_10 K_1 =>
  LenV t20 fun t65 =>
  BinV BinOp.lss (nthV s_1 1) t65 fun t66 =>
  SplitV t66
  (SplitV (nthV s_1 0)
  (BinV BinOp.add (nthV s_1 1) (Value.int IntKind.i64 1) fun t68 =>
  K_1 [Value.bool true, t68] w_10)
  (IdxV 1 t20 (nthV s_1 1) fun t74 =>
  LoadV false 1 t74 w_10 fun t75 =>
  CallV Try.prog N.impl_PlanNeeds [t19, t75] w_10 fun t76 w_11 =>
  CallV Try.prog N.laws_hasInt [t76, nthV s 0] w_11 fun t78 w_12 =>
  BinV BinOp.add (nthV s_1 1) (Value.int IntKind.i64 1) fun t68_1 =>
  K_1 [t78, t68_1] w_12))
  (CallV Try.prog N.laws_hasInt [t25, nthV s 0] w_10 fun t83 w_13 =>
  BoolV BinOp.neq (nthV s_1 0) t83 fun t84 =>
  SplitV t84
  (R (Value.bool false) w_13)
  (BinV BinOp.add (nthV s 0) (Value.int IntKind.i64 1) fun t59 =>
  K [t59] w_13)))
  (LoopV [Value.int IntKind.i64 1] w_8 fun s_2 _ w_14 K_2 =>
  LenV t25 fun t87 =>
  BinV BinOp.lss (nthV s_2 0) t87 fun t88 =>
  SplitV t88
  (DrawV w_14 fun S w_15 =>
  BinV BinOp.sub (nthV s_2 0) (Value.int IntKind.i64 1) fun t93 =>
  IdxV 1 t25 t93 fun t94 =>
  LoadS S false 1 t94 w_15 fun t95 =>
  IdxV 1 t25 (nthV s_2 0) fun t98 =>
  LoadS S false 1 t98 w_15 fun t99 =>
  BinV BinOp.geq t95 t99 fun t100 =>
  SplitV t100
  (R (Value.bool false) w_15)
  (BinV BinOp.add (nthV s_2 0) (Value.int IntKind.i64 1) fun t90 =>
  K_2 [t90] w_15))
  (R (Value.bool true) w_14))))))) :
    Calls Try.prog N.laws_FnKeep #[v0] w (Ret R) :=
  callsB (args := [v0]) ⟨(annOf [(9, [9]), (13, [10, 11]), (19, [12])]), (annOf []), []⟩ Try.func9 rfl (cast (by kernel_rfl) h)

end Go.Proofs.Ytpfabjjeacdikaa
