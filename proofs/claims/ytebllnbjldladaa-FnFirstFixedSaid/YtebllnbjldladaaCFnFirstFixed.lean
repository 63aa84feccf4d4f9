/- The conditions of functions, off their texts. Printed by a program; Lean checks each one. -/
import Derived.Test.YtebllnbjldladaaNames
import Derived.Test.YtebllnbjldladaaV9
namespace Go.Proofs.Ytebllnbjldladaa
open Go Go.V
set_option maxRecDepth 100000
theorem c_laws_FnFirstFixed (v0 : Value) (w : World) (R : Value → World → Prop) (h :
  LenV v0 fun t9 =>
  BinV BinOp.gtr t9 (Value.int IntKind.i64 1048576) fun t10 =>
  SplitV t10
  (R (Value.bool true) w)
  (CallV Try.prog N.spec_DrawShareFirst [v0] w fun t12 w_1 =>
  CallV Try.prog N.impl_ShareFirst [t12] w_1 fun t14 w_2 =>
  CallV Try.prog N.spec_ShareFirst [t12] w_2 fun t16 w_3 =>
  CallV Try.prog N.laws_sameRow [t14, t16] w_3 fun t19 w_4 =>
  NotV t19 fun t20 =>
  SplitV t20
  (CallV Try.prog N.laws_sameRow [t14, t16] w_4 fun t28 w_5 =>
  R t28 w_5)
  (LenV t16 fun t23 =>
  BinV BinOp.eql t23 (Value.int IntKind.i64 0) fun t24 =>
  SplitV t24
  (CallV Try.prog N.laws_sameRow [t14, t16] w_4 fun t28_1 w_6 =>
  R t28_1 w_6)
  (LoopV [Value.int IntKind.i64 0] w_4 fun s _ w_7 K =>
  LenV t12 fun t31 =>
  BinV BinOp.lss (nthV s 0) t31 fun t32 =>
  SplitV t32
  (LoopV [Value.int IntKind.i64 0] w_7 fun s_1 _ w_8 K_1 =>
  BinV BinOp.lss (nthV s_1 0) (nthV s 0) fun t37 =>
  SplitV t37
  (DrawV w_8 fun S w_9 =>
  IdxV 3 t12 (nthV s 0) fun t42 =>
  FAddrV 0 t42 fun t43 =>
  LoadS S false 1 t43 w_9 fun t44 =>
  BinV BinOp.eql t44 (Value.int IntKind.i64 0) fun t45 =>
  SplitV t45
  (IdxV 3 t12 (nthV s_1 0) fun t49 =>
  FAddrV 0 t49 fun t50 =>
  LoadS S false 1 t50 w_9 fun t51 =>
  BinV BinOp.eql t51 (Value.int IntKind.i64 0) fun t52 =>
  SplitV t52
  (IdxV 1 t14 (nthV s 0) fun t57 =>
  LoadS S false 1 t57 w_9 fun t58 =>
  IdxV 1 t14 (nthV s_1 0) fun t61 =>
  LoadS S false 1 t61 w_9 fun t62 =>
  BinV BinOp.eql t58 t62 fun t63 =>
  IdxV 3 t12 (nthV s 0) fun t66 =>
  FAddrV 2 t66 fun t67 =>
  LoadS S false 1 t67 w_9 fun t68 =>
  IdxV 3 t12 (nthV s_1 0) fun t71 =>
  FAddrV 2 t71 fun t72 =>
  LoadS S false 1 t72 w_9 fun t73 =>
  CallV Try.prog N.laws_sameRow [t68, t73] w_9 fun t74 w_10 =>
  Chg S w_9 w_10 ∧
  BoolV BinOp.neq t63 t74 fun t75 =>
  SplitV t75
  (R (Value.bool false) w_10)
  (BinV BinOp.add (nthV s_1 0) (Value.int IntKind.i64 1) fun t39 =>
  K_1 [t39] w_10))
  (BinV BinOp.add (nthV s_1 0) (Value.int IntKind.i64 1) fun t39_1 =>
  K_1 [t39_1] w_9))
  (BinV BinOp.add (nthV s_1 0) (Value.int IntKind.i64 1) fun t39_2 =>
  K_1 [t39_2] w_9))
  (BinV BinOp.add (nthV s 0) (Value.int IntKind.i64 1) fun t34 =>
  K [t34] w_8))
  (R (Value.bool true) w_7))))) :
    Calls Try.prog N.laws_FnFirstFixed #[v0] w (Ret R) :=
  callsB (args := [v0]) ⟨(annOf [(9, [6]), (12, [7])]), (annOf []), []⟩ Try.func10 rfl (cast (by kernel_rfl) h)

end Go.Proofs.Ytebllnbjldladaa
