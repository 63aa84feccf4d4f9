/- The conditions of functions, off their texts. Printed by a program; Lean checks each one. -/
import Derived.Test.YtinpkcjfnljigaaNames
import Derived.Test.YtinpkcjfnljigaaV9
namespace Go.Proofs.Ytinpkcjfnljigaa
open Go Go.V
set_option maxRecDepth 100000
theorem c_laws_FnCountsReady (v0 : Value) (w : World) (R : Value → World → Prop) (h :
  LenV v0 fun t9 =>
  BinV BinOp.gtr t9 (Value.int IntKind.i64 1048576) fun t10 =>
  SplitV t10
  (R (Value.bool true) w)
  (CallV Try.prog N.spec_DrawCountsReady [v0] w fun t12 w_1 =>
  CallV Try.prog N.impl_CountsReady [t12] w_1 fun t14 w_2 =>
  CallV Try.prog N.spec_CountsReady [t12] w_2 fun t16 w_3 =>
  CallV Try.prog N.laws_sameRow [t14, t16] w_3 fun t19 w_4 =>
  NotV t19 fun t20 =>
  SplitV t20
  (CallV Try.prog N.laws_sameRow [t14, t16] w_4 fun t23 w_5 =>
  R t23 w_5)
  (LoopV [Value.int IntKind.i64 0, Value.int IntKind.i64 0] w_4 fun s _ w_6 K =>
  LenV t12 fun t26 =>
  BinV BinOp.lss (nthV s 1) t26 fun t27 =>
  SplitV t27
  (IdxV 1 t12 (nthV s 1) fun t32 =>
  LoadV false 1 t32 w_6 fun t33 =>
  BinV BinOp.eql t33 (Value.int IntKind.i64 0) fun t34 =>
  SplitV t34
  (LenV t14 fun t37 =>
  BinV BinOp.geq (nthV s 0) t37 fun t38 =>
  SplitV t38
  (R (Value.bool false) w_6)
  (IdxV 1 t14 (nthV s 0) fun t42 =>
  LoadV false 1 t42 w_6 fun t43 =>
  BinV BinOp.neq t43 (nthV s 1) fun t45 =>
  SplitV t45
  (R (Value.bool false) w_6)
  (BinV BinOp.add (nthV s 0) (Value.int IntKind.i64 1) fun t48 =>
  BinV BinOp.add (nthV s 1) (Value.int IntKind.i64 1) fun t29 =>
  K [t48, t29] w_6)))
  (BinV BinOp.add (nthV s 1) (Value.int IntKind.i64 1) fun t29_1 =>
  K [nthV s 0, t29_1] w_6))
  (LenV t14 fun t51 =>
  BinV BinOp.eql (nthV s 0) t51 fun t52 =>
  R t52 w_6)))) :
    Calls Try.prog N.laws_FnCountsReady #[v0] w (Ret R) :=
  callsB (args := [v0]) ⟨(annOf [(10, [6, 7])]), (annOf [])⟩ Try.func4 rfl (cast (by kernel_rfl) h)

end Go.Proofs.Ytinpkcjfnljigaa
