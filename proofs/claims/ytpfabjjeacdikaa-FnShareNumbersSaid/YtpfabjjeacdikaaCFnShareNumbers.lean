/- The conditions of functions, off their texts. Printed by a program; Lean checks each one. -/
import Derived.Test.YtpfabjjeacdikaaNames
import Derived.Test.YtpfabjjeacdikaaV9
namespace Go.Proofs.Ytpfabjjeacdikaa
open Go Go.V
set_option maxRecDepth 100000
theorem c_laws_FnShareNumbers (v0 : Value) (w : World) (R : Value → World → Prop) (h :
  LenV v0 fun t14 =>
  BinV BinOp.gtr t14 (Value.int IntKind.i64 1048576) fun t15 =>
  SplitV t15
  (R (Value.bool true) w)
  (CallV Try.prog N.spec_DrawPlanShare [v0] w fun t17 w_1 =>
  CallV Try.prog N.impl_PlanShare [t17] w_1 fun t20 w_2 =>
  ExtractV t20 0 fun t21 =>
  ExtractV t20 1 fun t22 =>
  ExtractV t20 2 fun t23 =>
  CallV Try.prog N.spec_PlanShare [t17] w_2 fun t26 w_3 =>
  ExtractV t26 0 fun t27 =>
  ExtractV t26 1 fun t28 =>
  ExtractV t26 2 fun t29 =>
  BoolV BinOp.neq t23 t29 fun t32 =>
  SplitV t32
  (BoolV BinOp.eql t23 t29 fun t51 =>
  SplitV t51
  (CallV Try.prog N.laws_sameRow [t22, t28] w_3 fun t55 w_4 =>
  SplitV t55
  (CallV Try.prog N.laws_samePlan [t21, t27] w_4 fun t60 w_5 =>
  R t60 w_5)
  (R (Value.bool false) w_4))
  (R (Value.bool false) w_3))
  (CallV Try.prog N.laws_sameRow [t22, t28] w_3 fun t36 w_6 =>
  NotV t36 fun t37 =>
  SplitV t37
  (BoolV BinOp.eql t23 t29 fun t51_1 =>
  SplitV t51_1
  (CallV Try.prog N.laws_sameRow [t22, t28] w_6 fun t55_1 w_7 =>
  SplitV t55_1
  (CallV Try.prog N.laws_samePlan [t21, t27] w_7 fun t60_1 w_8 =>
  R t60_1 w_8)
  (R (Value.bool false) w_7))
  (R (Value.bool false) w_6))
  (CallV Try.prog N.laws_samePlan [t21, t27] w_6 fun t42 w_9 =>
  NotV t42 fun t43 =>
  SplitV t43
  (BoolV BinOp.eql t23 t29 fun t51_2 =>
  SplitV t51_2
  (CallV Try.prog N.laws_sameRow [t22, t28] w_9 fun t55_2 w_10 =>
  SplitV t55_2
  (CallV Try.prog N.laws_samePlan [t21, t27] w_10 fun t60_2 w_11 =>
  R t60_2 w_11)
  (R (Value.bool false) w_10))
  (R (Value.bool false) w_9))
  (NotV t23 fun t47 =>
  SplitV t47
  (BoolV BinOp.eql t23 t29 fun t51_3 =>
  SplitV t51_3
  (CallV Try.prog N.laws_sameRow [t22, t28] w_9 fun t55_3 w_12 =>
  SplitV t55_3
  (CallV Try.prog N.laws_samePlan [t21, t27] w_12 fun t60_3 w_13 =>
  R t60_3 w_13)
  (R (Value.bool false) w_12))
  (R (Value.bool false) w_9))
  (CallV Try.prog N.impl_ShareFirst [t17] w_9 fun t63 w_14 =>
  LoopV [Value.int IntKind.i64 0] w_14 fun s _ w_15 K =>
  LenV t17 fun t66 =>
  BinV BinOp.lss (nthV s 0) t66 fun t67 =>
  SplitV t67
  (LoopV [Value.int IntKind.i64 0] w_15 fun s_1 _ w_16 K_1 =>
  BinV BinOp.lss (nthV s_1 0) (nthV s 0) fun t72 =>
  SplitV t72
  (DrawV w_16 fun S w_17 =>
  IdxV 1 t22 (nthV s 0) fun t77 =>
  LoadS S false 1 t77 w_17 fun t78 =>
  IdxV 1 t22 (nthV s_1 0) fun t81 =>
  LoadS S false 1 t81 w_17 fun t82 =>
  BinV BinOp.eql t78 t82 fun t83 =>
  IdxV 1 t63 (nthV s 0) fun t86 =>
  LoadS S false 1 t86 w_17 fun t87 =>
  IdxV 1 t63 (nthV s_1 0) fun t90 =>
  LoadS S false 1 t90 w_17 fun t91 =>
  BinV BinOp.eql t87 t91 fun t92 =>
  BoolV BinOp.neq t83 t92 fun t93 =>
  SplitV t93
  (R (Value.bool false) w_17)
  (BinV BinOp.add (nthV s_1 0) (Value.int IntKind.i64 1) fun t74 =>
  K_1 [t74] w_17))
  (BinV BinOp.add (nthV s 0) (Value.int IntKind.i64 1) fun t69 =>
  K [t69] w_16))
  (R (Value.bool true) w_15))))))) :
    Calls Try.prog N.laws_FnShareNumbers #[v0] w (Ret R) :=
  callsB (args := [v0]) ⟨(annOf [(10, [11]), (13, [12])]), (annOf []), []⟩ Try.func14 rfl (cast (by kernel_rfl) h)

end Go.Proofs.Ytpfabjjeacdikaa
