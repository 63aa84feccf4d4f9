/- The conditions of functions, off their texts. Printed by a program; Lean checks each one. -/
import Derived.Test.YtokfjjjfecblgaaNames
import Derived.Test.YtokfjjjfecblgaaV9
namespace Go.Proofs.Ytokfjjjfecblgaa
open Go Go.V
set_option maxRecDepth 100000
theorem c_laws_FnLoseRows (v0 : Value) (w : World) (R : Value → World → Prop) (h :
  LenV v0 fun t12 =>
  BinV BinOp.gtr t12 (Value.int IntKind.i64 1048576) fun t13 =>
  SplitV t13
  (R (Value.bool true) w)
  (CallV Try.prog N.spec_DrawLoseRows [v0] w fun t16 w_1 =>
  ExtractV t16 0 fun t17 =>
  ExtractV t16 1 fun t18 =>
  ExtractV t16 2 fun t19 =>
  CallV Try.prog N.impl_LoseRows [t17, t18, t19] w_1 fun t24 w_2 =>
  ExtractV t24 0 fun t25 =>
  ExtractV t24 1 fun t26 =>
  CallV Try.prog N.spec_LoseRows [t17, t18, t19] w_2 fun t31 w_3 =>
  ExtractV t31 0 fun t32 =>
  ExtractV t31 1 fun t33 =>
  BoolV BinOp.neq t26 t33 fun t36 =>
  SplitV t36
  (BoolV BinOp.eql t26 t33 fun t49 =>
  SplitV t49
  (CallV Try.prog N.laws_sameRow [t25, t32] w_3 fun t53 w_4 =>
  R t53 w_4)
  (R (Value.bool false) w_3))
  (CallV Try.prog N.laws_sameRow [t25, t32] w_3 fun t40 w_5 =>
  NotV t40 fun t41 =>
  SplitV t41
  (BoolV BinOp.eql t26 t33 fun t49_1 =>
  SplitV t49_1
  (CallV Try.prog N.laws_sameRow [t25, t32] w_5 fun t53_1 w_6 =>
  R t53_1 w_6)
  (R (Value.bool false) w_5))
  (NotV t26 fun t45 =>
  SplitV t45
  (BoolV BinOp.eql t26 t33 fun t49_2 =>
  SplitV t49_2
  (CallV Try.prog N.laws_sameRow [t25, t32] w_5 fun t53_2 w_7 =>
  R t53_2 w_7)
  (R (Value.bool false) w_5))
  (LoopV [Value.int IntKind.i64 0] w_5 fun s _ w_8 K =>
  LenV t25 fun t57 =>
  BinV BinOp.lss (nthV s 0) t57 fun t58 =>
  SplitV t58
  (DrawV w_8 fun S w_9 =>
  IdxV 1 t25 (nthV s 0) fun t64 =>
  LoadS S false 1 t64 w_9 fun t65 =>
  CallV Try.prog N.laws_hasInt [t18, t65] w_9 fun t66 w_10 =>
  Chg S w_9 w_10 ∧
  NotV t66 fun t67 =>
  SplitV t67
  (R (Value.bool false) w_10)
  (IdxV 1 t25 (nthV s 0) fun t72 =>
  LoadS S false 1 t72 w_10 fun t73 =>
  CallV Try.prog N.laws_hasInt [t19, t73] w_10 fun t74 w_11 =>
  Chg S w_10 w_11 ∧
  NotV t74 fun t75 =>
  SplitV t75
  (R (Value.bool false) w_11)
  (BinV BinOp.gtr (nthV s 0) (Value.int IntKind.i64 0) fun t79 =>
  SplitV t79
  (BinV BinOp.sub (nthV s 0) (Value.int IntKind.i64 1) fun t83 =>
  IdxV 1 t25 t83 fun t84 =>
  LoadS S false 1 t84 w_11 fun t85 =>
  IdxV 1 t25 (nthV s 0) fun t88 =>
  LoadS S false 1 t88 w_11 fun t89 =>
  BinV BinOp.geq t85 t89 fun t90 =>
  SplitV t90
  (R (Value.bool false) w_11)
  (BinV BinOp.add (nthV s 0) (Value.int IntKind.i64 1) fun t60 =>
  K [t60] w_11))
  (BinV BinOp.add (nthV s 0) (Value.int IntKind.i64 1) fun t60_1 =>
  K [t60_1] w_11))))
  (R (Value.bool true) w_8)))))) :
    Calls Try.prog N.laws_FnLoseRows #[v0] w (Ret R) :=
  callsB (args := [v0]) ⟨(annOf [(9, [10])]), (annOf []), []⟩ Try.func13 rfl (cast (by kernel_rfl) h)

end Go.Proofs.Ytokfjjjfecblgaa
