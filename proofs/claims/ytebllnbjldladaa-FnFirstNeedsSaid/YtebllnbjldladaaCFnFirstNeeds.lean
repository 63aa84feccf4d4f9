/- The conditions of functions, off their texts. Printed by a program; Lean checks each one. -/
import Derived.Test.YtebllnbjldladaaNames
import Derived.Test.YtebllnbjldladaaV9
namespace Go.Proofs.Ytebllnbjldladaa
open Go Go.V
set_option maxRecDepth 100000
theorem c_laws_FnFirstNeeds (v0 : Value) (w : World) (R : Value → World → Prop) (h :
  LenV v0 fun t9 =>
  BinV BinOp.gtr t9 (Value.int IntKind.i64 1048576) fun t10 =>
  SplitV t10
  (R (Value.bool true) w)
  (CallV Try.prog N.spec_DrawShareFirst [v0] w fun t12 w_1 =>
  CallV Try.prog N.impl_ShareFirst [t12] w_1 fun t14 w_2 =>
  CallV Try.prog N.spec_ShareFirst [t12] w_2 fun t16 w_3 =>
  CallV Try.prog N.laws_sameRow [t14, t16] w_3 fun t19 w_4 =>
  NotV t19 fun t20 =>
  SplitV t20
  (CallV Try.prog N.laws_sameRow [t14, t16] w_4 fun t28 w_5 =>
  R t28 w_5)
  (LenV t16 fun t23 =>
  BinV BinOp.eql t23 (Value.int IntKind.i64 0) fun t24 =>
  SplitV t24
  (CallV Try.prog N.laws_sameRow [t14, t16] w_4 fun t28_1 w_6 =>
  R t28_1 w_6)
  (LoopV [Value.int IntKind.i64 0] w_4 fun s _ w_7 K =>
  LenV t12 fun t31 =>
  BinV BinOp.lss (nthV s 0) t31 fun t32 =>
  SplitV t32
  (LoopV [Value.int IntKind.i64 0] w_7 fun s_1 _ w_8 K_1 =>
  BinV BinOp.lss (nthV s_1 0) (nthV s 0) fun t37 =>
  SplitV t37
  (DrawV w_8 fun S w_9 =>
  IdxV 3 t12 (nthV s 0) fun t42 =>
  FAddrV 1 t42 fun t43 =>
  LoadS S false 1 t43 w_9 fun t44 =>
  LenV t44 fun t45 =>
  BinV BinOp.eql t45 (Value.int IntKind.i64 1) fun t46 =>
  SplitV t46
  (IdxV 3 t12 (nthV s_1 0) fun t50 =>
  FAddrV 1 t50 fun t51 =>
  LoadS S false 1 t51 w_9 fun t52 =>
  LenV t52 fun t53 =>
  BinV BinOp.eql t53 (Value.int IntKind.i64 1) fun t54 =>
  SplitV t54
  (IdxV 3 t12 (nthV s 0) fun t59 =>
  FAddrV 0 t59 fun t60 =>
  LoadS S false 1 t60 w_9 fun t61 =>
  IdxV 3 t12 (nthV s_1 0) fun t64 =>
  FAddrV 0 t64 fun t65 =>
  LoadS S false 1 t65 w_9 fun t66 =>
  BinV BinOp.eql t61 t66 fun t67 =>
  SplitV t67
  (IdxV 1 t14 (nthV s 0) fun t72 =>
  LoadS S false 1 t72 w_9 fun t73 =>
  IdxV 1 t14 (nthV s_1 0) fun t76 =>
  LoadS S false 1 t76 w_9 fun t77 =>
  BinV BinOp.eql t73 t77 fun t78 =>
  IdxV 3 t12 (nthV s 0) fun t82 =>
  FAddrV 1 t82 fun t83 =>
  LoadS S false 1 t83 w_9 fun t84 =>
  IdxV 1 t84 (Value.int IntKind.i64 0) fun t85 =>
  LoadS S false 1 t85 w_9 fun t86 =>
  IdxV 1 t14 t86 fun t87 =>
  LoadS S false 1 t87 w_9 fun t88 =>
  IdxV 3 t12 (nthV s_1 0) fun t92 =>
  FAddrV 1 t92 fun t93 =>
  LoadS S false 1 t93 w_9 fun t94 =>
  IdxV 1 t94 (Value.int IntKind.i64 0) fun t95 =>
  LoadS S false 1 t95 w_9 fun t96 =>
  IdxV 1 t14 t96 fun t97 =>
  LoadS S false 1 t97 w_9 fun t98 =>
  BinV BinOp.eql t88 t98 fun t99 =>
  BoolV BinOp.neq t78 t99 fun t100 =>
  SplitV t100
  (R (Value.bool false) w_9)
  (BinV BinOp.add (nthV s_1 0) (Value.int IntKind.i64 1) fun t39 =>
  K_1 [t39] w_9))
  (BinV BinOp.add (nthV s_1 0) (Value.int IntKind.i64 1) fun t39_1 =>
  K_1 [t39_1] w_9))
  (BinV BinOp.add (nthV s_1 0) (Value.int IntKind.i64 1) fun t39_2 =>
  K_1 [t39_2] w_9))
  (BinV BinOp.add (nthV s_1 0) (Value.int IntKind.i64 1) fun t39_3 =>
  K_1 [t39_3] w_9))
  (BinV BinOp.add (nthV s 0) (Value.int IntKind.i64 1) fun t34 =>
  K [t34] w_8))
  (R (Value.bool true) w_7))))) :
    Calls Try.prog N.laws_FnFirstNeeds #[v0] w (Ret R) :=
  callsB (args := [v0]) ⟨(annOf [(9, [6]), (12, [7])]), (annOf []), []⟩ Try.func11 rfl (cast (by kernel_rfl) h)

end Go.Proofs.Ytebllnbjldladaa
