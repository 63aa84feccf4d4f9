/- The conditions of functions, off their texts. Printed by a program; Lean checks each one. -/
import Derived.Test.YtokfjjjfecblgaaNames
import Derived.Test.YtokfjjjfecblgaaV9
namespace Go.Proofs.Ytokfjjjfecblgaa
open Go Go.V
set_option maxRecDepth 100000
theorem c_laws_FnLoseMore (v0 : Value) (w : World) (R : Value → World → Prop) (h :
  LenV v0 fun t16 =>
  BinV BinOp.gtr t16 (Value.int IntKind.i64 1048576) fun t17 =>
  SplitV t17
  (R (Value.bool true) w)
  (CallV Try.prog N.spec_DrawLoseRows [v0] w fun t20 w_1 =>
  ExtractV t20 0 fun t21 =>
  ExtractV t20 1 fun t22 =>
  ExtractV t20 2 fun t23 =>
  CallV Try.prog N.impl_LoseRows [t21, t22, t23] w_1 fun t28 w_2 =>
  ExtractV t28 0 fun t29 =>
  ExtractV t28 1 fun t30 =>
  CallV Try.prog N.spec_LoseRows [t21, t22, t23] w_2 fun t35 w_3 =>
  ExtractV t35 0 fun t36 =>
  ExtractV t35 1 fun t37 =>
  BoolV BinOp.neq t30 t37 fun t40 =>
  SplitV t40
  (BoolV BinOp.eql t30 t37 fun t53 =>
  SplitV t53
  (CallV Try.prog N.laws_sameRow [t29, t36] w_3 fun t57 w_4 =>
  R t57 w_4)
  (R (Value.bool false) w_3))
  (CallV Try.prog N.laws_sameRow [t29, t36] w_3 fun t44 w_5 =>
  NotV t44 fun t45 =>
  SplitV t45
  (BoolV BinOp.eql t30 t37 fun t53_1 =>
  SplitV t53_1
  (CallV Try.prog N.laws_sameRow [t29, t36] w_5 fun t57_1 w_6 =>
  R t57_1 w_6)
  (R (Value.bool false) w_5))
  (NotV t30 fun t49 =>
  SplitV t49
  (BoolV BinOp.eql t30 t37 fun t53_2 =>
  SplitV t53_2
  (CallV Try.prog N.laws_sameRow [t29, t36] w_5 fun t57_2 w_7 =>
  R t57_2 w_7)
  (R (Value.bool false) w_5))
  (BSliceV T.int 1 0 #[Value.int IntKind.i64 0] [] w_5 fun t59 w_8 =>
  LoopV [t59, Value.int IntKind.i64 0] w_8 fun s _ w_9 K =>
  LenV t21 fun t62 =>
  BinV BinOp.lss (nthV s 1) t62 fun t63 =>
  SplitV t63
  (BSliceV T.int 1 1 #[Value.int IntKind.i64 0] [(0, nthV s 1)] w_9 fun t68 w_10 =>
  AppendV Try.prog T.sl_int (nthV s 0) t68 w_10 fun t69 w_11 =>
  BinV BinOp.add (nthV s 1) (Value.int IntKind.i64 1) fun t65 =>
  K [t69, t65] w_11)
  (CallV Try.prog N.impl_LoseRows [t21, t22, nthV s 0] w_9 fun t74 w_12 =>
  ExtractV t74 0 fun t75 =>
  ExtractV t74 1 fun t76 =>
  LoopV [Value.int IntKind.i64 0] w_12 fun s_1 _ w_13 K_1 =>
  LenV t29 fun t79 =>
  BinV BinOp.lss (nthV s_1 0) t79 fun t80 =>
  SplitV t80
  (IdxV 1 t29 (nthV s_1 0) fun t86 =>
  LoadV false 1 t86 w_13 fun t87 =>
  CallV Try.prog N.laws_hasInt [t75, t87] w_13 fun t88 w_14 =>
  NotV t88 fun t89 =>
  SplitV t89
  (R (Value.bool false) w_14)
  (BinV BinOp.add (nthV s_1 0) (Value.int IntKind.i64 1) fun t82 =>
  K_1 [t82] w_14))
  (R t76 w_13))))))) :
    Calls Try.prog N.laws_FnLoseMore #[v0] w (Ret R) :=
  callsB (args := [v0]) ⟨(annOf [(10, [10, 11]), (15, [14])]), (annOf []), []⟩ Try.func12 rfl (cast (by kernel_rfl) h)

end Go.Proofs.Ytokfjjjfecblgaa
