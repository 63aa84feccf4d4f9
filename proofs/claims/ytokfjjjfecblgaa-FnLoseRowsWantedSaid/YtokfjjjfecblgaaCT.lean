/- The conditions of functions, off their texts. Printed by a program; Lean checks each one. -/
import Derived.Test.YtokfjjjfecblgaaNames
import Derived.Test.YtokfjjjfecblgaaV9
namespace Go.Proofs.Ytokfjjjfecblgaa
open Go Go.V
set_option maxRecDepth 100000
theorem c_spec_l91Order (v0 : Value) (v1 : Value) (w : World) (R : Value → World → Prop) (h :
  BSliceV T.int 1 0 #[Value.int IntKind.i64 0] [] w fun t9 w_1 =>
  LenV v1 fun t12 =>
  BinV BinOp.add t12 (Value.int IntKind.i64 1) fun t13 =>
  CallV Try.prog N.spec_l6Rd_pick [v0, t13] w_1 fun t14 w_2 =>
  CallV Try.prog N.spec_l6Rd_pick [v0, Value.int IntKind.i64 2] w_2 fun t16 w_3 =>
  BinV BinOp.eql t16 (Value.int IntKind.i64 0) fun t17 =>
  SplitV t17
  (LenV v1 fun t19 =>
  LoopV [t9, Value.int IntKind.i64 0] w_3 fun s _ w_4 K =>
  BinV BinOp.lss (nthV s 1) t19 fun t22 =>
  SplitV t22
  (CallV Try.prog N.spec_ReadyOf [v1, nthV s 0] w_4 fun t27 w_5 =>
  LenV t27 fun t29 =>
  BinV BinOp.gtr t29 (Value.int IntKind.i64 0) fun t30 =>
  SplitV t30
  (LenV t27 fun t35 =>
  CallV Try.prog N.spec_l6Rd_pick [v0, t35] w_5 fun t36 w_6 =>
  IdxV 1 t27 t36 fun t37 =>
  LoadV false 1 t37 w_6 fun t38 =>
  BSliceV T.int 1 1 #[Value.int IntKind.i64 0] [(0, t38)] w_6 fun t39 w_7 =>
  AppendV Try.prog T.sl_int (nthV s 0) t39 w_7 fun t40 w_8 =>
  BinV BinOp.add (nthV s 1) (Value.int IntKind.i64 1) fun t24 =>
  K [t40, t24] w_8)
  (BinV BinOp.add (nthV s 1) (Value.int IntKind.i64 1) fun t24_1 =>
  K [nthV s 0, t24_1] w_5))
  (R (nthV s 0) w_4))
  (LoopV [t9, Value.int IntKind.i64 0] w_3 fun s_1 _ w_9 K_1 =>
  BinV BinOp.lss (nthV s_1 1) t14 fun t22_1 =>
  SplitV t22_1
  (CallV Try.prog N.spec_ReadyOf [v1, nthV s_1 0] w_9 fun t27_1 w_10 =>
  LenV t27_1 fun t29_1 =>
  BinV BinOp.gtr t29_1 (Value.int IntKind.i64 0) fun t30_1 =>
  SplitV t30_1
  (LenV t27_1 fun t35_1 =>
  CallV Try.prog N.spec_l6Rd_pick [v0, t35_1] w_10 fun t36_1 w_11 =>
  IdxV 1 t27_1 t36_1 fun t37_1 =>
  LoadV false 1 t37_1 w_11 fun t38_1 =>
  BSliceV T.int 1 1 #[Value.int IntKind.i64 0] [(0, t38_1)] w_11 fun t39_1 w_12 =>
  AppendV Try.prog T.sl_int (nthV s_1 0) t39_1 w_12 fun t40_1 w_13 =>
  BinV BinOp.add (nthV s_1 1) (Value.int IntKind.i64 1) fun t24_2 =>
  K_1 [t40_1, t24_2] w_13)
  (BinV BinOp.add (nthV s_1 1) (Value.int IntKind.i64 1) fun t24_3 =>
  K_1 [nthV s_1 0, t24_3] w_10))
  (R (nthV s_1 0) w_9))) :
    Calls Try.prog N.spec_l91Order #[v0, v1] w (Ret R) :=
  callsB (args := [v0, v1]) ⟨(annOf [(6, [5, 7])]), (annOf []), []⟩ Try.func87 rfl (cast (by kernel_rfl) h)

end Go.Proofs.Ytokfjjjfecblgaa
