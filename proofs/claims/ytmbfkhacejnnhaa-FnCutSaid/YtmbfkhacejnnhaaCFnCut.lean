/- The conditions of functions, off their texts. Printed by a program; Lean checks each one. -/
import Derived.Test.YtmbfkhacejnnhaaNames
import Derived.Test.YtmbfkhacejnnhaaV9
namespace Go.Proofs.Ytmbfkhacejnnhaa
open Go Go.V
set_option maxRecDepth 100000
theorem c_laws_FnCut (v0 : Value) (w : World) (R : Value → World → Prop) (h :
  LenV v0 fun t17 =>
  BinV BinOp.gtr t17 (Value.int IntKind.i64 1048576) fun t18 =>
  SplitV t18
  (R (Value.bool true) w)
  (CallV Try.prog N.spec_DrawPlanCut [v0] w fun t21 w_1 =>
  ExtractV t21 0 fun t22 =>
  ExtractV t21 1 fun t23 =>
  CallV Try.prog N.impl_PlanCut [t22, t23] w_1 fun t27 w_2 =>
  ExtractV t27 0 fun t28 =>
  ExtractV t27 1 fun t29 =>
  ExtractV t27 2 fun t30 =>
  CallV Try.prog N.spec_PlanCut [t22, t23] w_2 fun t34 w_3 =>
  ExtractV t34 0 fun t35 =>
  ExtractV t34 1 fun t36 =>
  ExtractV t34 2 fun t37 =>
  BoolV BinOp.neq t30 t37 fun t40 =>
  SplitV t40
  (BoolV BinOp.eql t30 t37 fun t59 =>
  SplitV t59
  (CallV Try.prog N.laws_sameRow [t29, t36] w_3 fun t63 w_4 =>
  SplitV t63
  (CallV Try.prog N.laws_samePlan [t28, t35] w_4 fun t68 w_5 =>
  R t68 w_5)
  (R (Value.bool false) w_4))
  (R (Value.bool false) w_3))
  (CallV Try.prog N.laws_sameRow [t29, t36] w_3 fun t44 w_6 =>
  NotV t44 fun t45 =>
  SplitV t45
  (BoolV BinOp.eql t30 t37 fun t59_1 =>
  SplitV t59_1
  (CallV Try.prog N.laws_sameRow [t29, t36] w_6 fun t63_1 w_7 =>
  SplitV t63_1
  (CallV Try.prog N.laws_samePlan [t28, t35] w_7 fun t68_1 w_8 =>
  R t68_1 w_8)
  (R (Value.bool false) w_7))
  (R (Value.bool false) w_6))
  (CallV Try.prog N.laws_samePlan [t28, t35] w_6 fun t50 w_9 =>
  NotV t50 fun t51 =>
  SplitV t51
  (BoolV BinOp.eql t30 t37 fun t59_2 =>
  SplitV t59_2
  (CallV Try.prog N.laws_sameRow [t29, t36] w_9 fun t63_2 w_10 =>
  SplitV t63_2
  (CallV Try.prog N.laws_samePlan [t28, t35] w_10 fun t68_2 w_11 =>
  R t68_2 w_11)
  (R (Value.bool false) w_10))
  (R (Value.bool false) w_9))
  (NotV t30 fun t55 =>
  SplitV t55
  (BoolV BinOp.eql t30 t37 fun t59_3 =>
  SplitV t59_3
  (CallV Try.prog N.laws_sameRow [t29, t36] w_9 fun t63_3 w_12 =>
  SplitV t63_3
  (CallV Try.prog N.laws_samePlan [t28, t35] w_12 fun t68_3 w_13 =>
  R t68_3 w_13)
  (R (Value.bool false) w_12))
  (R (Value.bool false) w_9))
  (CallV Try.prog N.impl_ValuesOf [t22] w_9 fun t72 w_14 =>
  ExtractV t72 0 fun t73 =>
  ExtractV t72 1 fun t74 =>
  CallV Try.prog N.impl_ValuesOf [t28] w_14 fun t77 w_15 =>
  ExtractV t77 0 fun t78 =>
  ExtractV t77 1 fun t79 =>
  LoopV [Value.int IntKind.i64 0] w_15 fun s _ w_16 K =>
  LenV t22 fun t82 =>
  BinV BinOp.lss (nthV s 0) t82 fun t83 =>
  SplitV t83
  (DrawV w_16 fun S w_17 =>
  IdxV 1 t29 (nthV s 0) fun t88 =>
  LoadS S false 1 t88 w_17 fun t89 =>
  BinV BinOp.geq t89 (Value.int IntKind.i64 0) fun t90 =>
  SplitV t90
  (IdxV 1 t73 (nthV s 0) fun t94 =>
  LoadS S false 1 t94 w_17 fun t95 =>
  IdxV 1 t29 (nthV s 0) fun t99 =>
  LoadS S false 1 t99 w_17 fun t100 =>
  IdxV 1 t78 t100 fun t101 =>
  LoadS S false 1 t101 w_17 fun t102 =>
  CallV Try.prog N.laws_sameRow [t95, t102] w_17 fun t103 w_18 =>
  Chg S w_17 w_18 ∧
  NotV t103 fun t104 =>
  SplitV t104
  (R (Value.bool false) w_18)
  (BinV BinOp.add (nthV s 0) (Value.int IntKind.i64 1) fun t85 =>
  K [t85] w_18))
  (BinV BinOp.add (nthV s 0) (Value.int IntKind.i64 1) fun t85_1 =>
  K [t85_1] w_17))
  (SplitV t74
  (SplitV t79
  (LenV t29 fun t112 =>
  LenV t22 fun t114 =>
  BinV BinOp.eql t112 t114 fun t115 =>
  R t115 w_16)
  (R (Value.bool false) w_16))
  (R (Value.bool false) w_16)))))))) :
    Calls Try.prog N.laws_FnCut #[v0] w (Ret R) :=
  callsB (args := [v0]) ⟨(annOf [(11, [15])]), (annOf []), []⟩ Try.func6 rfl (cast (by kernel_rfl) h)

end Go.Proofs.Ytmbfkhacejnnhaa
