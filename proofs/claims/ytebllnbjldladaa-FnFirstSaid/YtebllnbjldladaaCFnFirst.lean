/- The conditions of functions, off their texts. Printed by a program; Lean checks each one. -/
import Derived.Test.YtebllnbjldladaaNames
import Derived.Test.YtebllnbjldladaaV9
namespace Go.Proofs.Ytebllnbjldladaa
open Go Go.V
set_option maxRecDepth 100000
theorem c_laws_FnFirst (v0 : Value) (w : World) (R : Value → World → Prop) (h :
  LenV v0 fun t9 =>
  BinV BinOp.gtr t9 (Value.int IntKind.i64 1048576) fun t10 =>
  SplitV t10
  (R (Value.bool true) w)
  (CallV Try.prog N.spec_DrawShareFirst [v0] w fun t12 w_1 =>
  CallV Try.prog N.impl_ShareFirst [t12] w_1 fun t14 w_2 =>
  CallV Try.prog N.spec_ShareFirst [t12] w_2 fun t16 w_3 =>
  CallV Try.prog N.laws_sameRow [t14, t16] w_3 fun t19 w_4 =>
  NotV t19 fun t20 =>
  SplitV t20
  (CallV Try.prog N.laws_sameRow [t14, t16] w_4 fun t28 w_5 =>
  R t28 w_5)
  (LenV t16 fun t23 =>
  BinV BinOp.eql t23 (Value.int IntKind.i64 0) fun t24 =>
  SplitV t24
  (CallV Try.prog N.laws_sameRow [t14, t16] w_4 fun t28_1 w_6 =>
  R t28_1 w_6)
  (LoopV [Value.int IntKind.i64 0] w_4 fun s _ w_7 K =>
  LenV t14 fun t31 =>
  BinV BinOp.lss (nthV s 0) t31 fun t32 =>
  SplitV t32
  (IdxV 1 t14 (nthV s 0) fun t37 =>
  LoadV false 1 t37 w_7 fun t38 =>
  DrawV w_7 fun S w_8 =>
  BinV BinOp.lss t38 (Value.int IntKind.i64 0) fun t40 =>
  SplitV t40
  (R (Value.bool false) w_8)
  (BinV BinOp.gtr t38 (nthV s 0) fun t44 =>
  SplitV t44
  (R (Value.bool false) w_8)
  (IdxV 3 t12 t38 fun t49 =>
  FAddrV 0 t49 fun t50 =>
  LoadS S false 1 t50 w_8 fun t51 =>
  IdxV 3 t12 (nthV s 0) fun t54 =>
  FAddrV 0 t54 fun t55 =>
  LoadS S false 1 t55 w_8 fun t56 =>
  BinV BinOp.neq t51 t56 fun t57 =>
  SplitV t57
  (R (Value.bool false) w_8)
  (IdxV 3 t12 t38 fun t62 =>
  FAddrV 2 t62 fun t63 =>
  LoadS S false 1 t63 w_8 fun t64 =>
  IdxV 3 t12 (nthV s 0) fun t67 =>
  FAddrV 2 t67 fun t68 =>
  LoadS S false 1 t68 w_8 fun t69 =>
  CallV Try.prog N.laws_sameRow [t64, t69] w_8 fun t70 w_9 =>
  Chg S w_8 w_9 ∧
  NotV t70 fun t71 =>
  SplitV t71
  (R (Value.bool false) w_9)
  (IdxV 1 t14 t38 fun t76 =>
  LoadS S false 1 t76 w_9 fun t77 =>
  BinV BinOp.neq t77 t38 fun t79 =>
  SplitV t79
  (R (Value.bool false) w_9)
  (BinV BinOp.add (nthV s 0) (Value.int IntKind.i64 1) fun t34 =>
  K [t34] w_9))))))
  (LenV t14 fun t82 =>
  LenV t12 fun t84 =>
  BinV BinOp.eql t82 t84 fun t85 =>
  R t85 w_7))))) :
    Calls Try.prog N.laws_FnFirst #[v0] w (Ret R) :=
  callsB (args := [v0]) ⟨(annOf [(9, [6])]), (annOf []), []⟩ Try.func9 rfl (cast (by kernel_rfl) h)

end Go.Proofs.Ytebllnbjldladaa
