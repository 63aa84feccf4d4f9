/- The conditions of functions, off their texts. Printed by a program; Lean checks each one. -/
import Derived.Test.YtebllnbjldladaaNames
import Derived.Test.YtebllnbjldladaaV9
namespace Go.Proofs.Ytebllnbjldladaa
open Go Go.V
set_option maxRecDepth 100000
theorem c_laws_FnCounts (v0 : Value) (w : World) (R : Value → World → Prop) (h :
  LenV v0 fun t10 =>
  BinV BinOp.gtr t10 (Value.int IntKind.i64 1048576) fun t11 =>
  SplitV t11
  (R (Value.bool true) w)
  (CallV Try.prog N.spec_DrawCountsOf [v0] w fun t13 w_1 =>
  CallV Try.prog N.impl_CountsOf [t13] w_1 fun t15 w_2 =>
  CallV Try.prog N.spec_CountsOf [t13] w_2 fun t17 w_3 =>
  CallV Try.prog N.laws_sameRow [t15, t17] w_3 fun t20 w_4 =>
  NotV t20 fun t21 =>
  SplitV t21
  (CallV Try.prog N.laws_sameRow [t15, t17] w_4 fun t29 w_5 =>
  R t29 w_5)
  (LenV t17 fun t24 =>
  BinV BinOp.eql t24 (Value.int IntKind.i64 0) fun t25 =>
  SplitV t25
  (CallV Try.prog N.laws_sameRow [t15, t17] w_4 fun t29_1 w_6 =>
  R t29_1 w_6)
  (LoopV [Value.int IntKind.i64 0] w_4 fun s _ w_7 K =>
  LenV t13 fun t32 =>
  BinV BinOp.lss (nthV s 0) t32 fun t33 =>
  SplitV t33
  (LoopV [Value.int IntKind.i64 0, Value.int IntKind.i64 0] w_7 fun s_1 _ w_8 K_1 =>
  BinV BinOp.lss (nthV s_1 1) (nthV s 0) fun t38 =>
  SplitV t38
  (IdxV 3 t13 (nthV s 0) fun t43 =>
  FAddrV 1 t43 fun t44 =>
  LoadV false 1 t44 w_8 fun t45 =>
  CallV Try.prog N.laws_hasInt [t45, nthV s_1 1] w_8 fun t47 w_9 =>
  SplitV t47
  (BinV BinOp.add (nthV s_1 0) (Value.int IntKind.i64 1) fun t49 =>
  BinV BinOp.add (nthV s_1 1) (Value.int IntKind.i64 1) fun t40 =>
  K_1 [t49, t40] w_9)
  (BinV BinOp.add (nthV s_1 1) (Value.int IntKind.i64 1) fun t40_1 =>
  K_1 [nthV s_1 0, t40_1] w_9))
  (IdxV 1 t15 (nthV s 0) fun t52 =>
  LoadV false 1 t52 w_8 fun t53 =>
  BinV BinOp.neq t53 (nthV s_1 0) fun t55 =>
  SplitV t55
  (R (Value.bool false) w_8)
  (BinV BinOp.add (nthV s 0) (Value.int IntKind.i64 1) fun t35 =>
  K [t35] w_8)))
  (LenV t15 fun t57 =>
  LenV t13 fun t59 =>
  BinV BinOp.eql t57 t59 fun t60 =>
  R t60 w_7))))) :
    Calls Try.prog N.laws_FnCounts #[v0] w (Ret R) :=
  callsB (args := [v0]) ⟨(annOf [(9, [6]), (13, [7, 8])]), (annOf []), []⟩ Try.func5 rfl (cast (by kernel_rfl) h)

end Go.Proofs.Ytebllnbjldladaa
