/- The conditions of functions, off their texts. Printed by a program; Lean checks each one. -/
import Derived.Test.YtmbfkhacejnnhaaNames
import Derived.Test.YtmbfkhacejnnhaaV9
namespace Go.Proofs.Ytmbfkhacejnnhaa
open Go Go.V
set_option maxRecDepth 100000
theorem c_impl_nodeSet_has (v0 : Value) (v1 : Value) (w : World) (R : Value → World → Prop) (h :
  ShV BinOp.shr v0 v1 fun t7 =>
  BinV BinOp.and t7 (Value.int IntKind.u16 1) fun t8 =>
  BinV BinOp.neq t8 (Value.int IntKind.u16 0) fun t9 =>
  R t9 w) :
    Calls Try.prog N.impl_nodeSet_has #[v0, v1] w (Ret R) :=
  callsB (args := [v0, v1]) ⟨(annOf []), (annOf []), []⟩ Try.func72 rfl (cast (by kernel_rfl) h)

theorem c_impl_nodeSet_with (v0 : Value) (v1 : Value) (w : World) (R : Value → World → Prop) (h :
  ShV BinOp.shl (Value.int IntKind.u16 1) v1 fun t7 =>
  BinV BinOp.or v0 t7 fun t8 =>
  R t8 w) :
    Calls Try.prog N.impl_nodeSet_with #[v0, v1] w (Ret R) :=
  callsB (args := [v0, v1]) ⟨(annOf []), (annOf []), []⟩ Try.func73 rfl (cast (by kernel_rfl) h)

theorem c_impl_nodeSet_list (v0 : Value) (w : World) (R : Value → World → Prop) (h :
  LoopV [Value.slice none 0 0, Value.int IntKind.i64 0] w fun s _ w_1 K =>
  BinV BinOp.lss (nthV s 1) (Value.int IntKind.i64 10) fun t6 =>
  SplitV t6
  (CallV Try.prog N.impl_nodeSet_has [v0, nthV s 1] w_1 fun t10 w_2 =>
  SplitV t10
  (BSliceV T.int 1 1 #[Value.int IntKind.i64 0] [(0, nthV s 1)] w_2 fun t13 w_3 =>
  AppendV Try.prog T.sl_int (nthV s 0) t13 w_3 fun t14 w_4 =>
  BinV BinOp.add (nthV s 1) (Value.int IntKind.i64 1) fun t15 =>
  K [t14, t15] w_4)
  (BinV BinOp.add (nthV s 1) (Value.int IntKind.i64 1) fun t15_1 =>
  K [nthV s 0, t15_1] w_2))
  (R (nthV s 0) w_1)) :
    Calls Try.prog N.impl_nodeSet_list #[v0] w (Ret R) :=
  callsB (args := [v0]) ⟨(annOf [(3, [3, 5])]), (annOf []), []⟩ Try.func54 rfl (cast (by kernel_rfl) h)

theorem c_impl_allNodes (v0 : Value) (v1 : Value) (w : World) (R : Value → World → Prop) (h :
  LenV v1 fun t8 =>
  LoopV [Value.int IntKind.i64 0] w fun s _ w_1 K =>
  BinV BinOp.lss (nthV s 0) t8 fun t10 =>
  SplitV t10
  (IdxV 1 v1 (nthV s 0) fun t11 =>
  LoadV false 1 t11 w_1 fun t12 =>
  CallV Try.prog N.impl_isNode [v0, t12] w_1 fun t15 w_2 =>
  NotV t15 fun t16 =>
  SplitV t16
  (R (Value.bool false) w_2)
  (BinV BinOp.add (nthV s 0) (Value.int IntKind.i64 1) fun t17 =>
  K [t17] w_2))
  (R (Value.bool true) w_1)) :
    Calls Try.prog N.impl_allNodes #[v0, v1] w (Ret R) :=
  callsB (args := [v0, v1]) ⟨(annOf [(2, [9])]), (annOf []), []⟩ Try.func52 rfl (cast (by kernel_rfl) h)

theorem c_impl_neededBy (v0 : Value) (v1 : Value) (w : World) (R : Value → World → Prop) (h :
  LenV v1 fun t11 =>
  LoopV [Value.int IntKind.u16 0, Value.slice none 0 0, Value.int IntKind.i64 0] w fun s _ w_1 K =>
  BinV BinOp.lss (nthV s 2) t11 fun t13 =>
  SplitV t13
  (IdxV 1 v1 (nthV s 2) fun t14 =>
  LoadV false 1 t14 w_1 fun t15 =>
  BSliceV T.int 1 1 #[Value.int IntKind.i64 0] [(0, t15)] w_1 fun t18 w_2 =>
  AppendV Try.prog T.sl_int (nthV s 1) t18 w_2 fun t19 w_3 =>
  LoopV [nthV s 0, t19] w_3 fun s_1 _ w_4 K_1 =>
  LenV (nthV s_1 1) fun t21 =>
  BinV BinOp.gtr t21 (Value.int IntKind.i64 0) fun t22 =>
  SplitV t22
  (LenV (nthV s_1 1) fun t25 =>
  BinV BinOp.sub t25 (Value.int IntKind.i64 1) fun t26 =>
  IdxV 1 (nthV s_1 1) t26 fun t27 =>
  LoadV false 1 t27 w_4 fun t28 =>
  LenV (nthV s_1 1) fun t31 =>
  BinV BinOp.sub t31 (Value.int IntKind.i64 1) fun t32 =>
  SliceV 1 (nthV s_1 1) none (some t32) fun t33 =>
  CallV Try.prog N.impl_nodeSet_has [nthV s_1 0, t28] w_4 fun t36 w_5 =>
  SplitV t36
  (K_1 [nthV s_1 0, t33] w_5)
  (CallV Try.prog N.impl_nodeSet_with [nthV s_1 0, t28] w_5 fun t39 w_6 =>
  IdxV 3 v0 t28 fun t43 =>
  FAddrV 1 t43 fun t44 =>
  LoadV false 1 t44 w_6 fun t45 =>
  AppendV Try.prog T.sl_int t33 t45 w_6 fun t46 w_7 =>
  K_1 [t39, t46] w_7))
  (BinV BinOp.add (nthV s 2) (Value.int IntKind.i64 1) fun t47 =>
  K [nthV s_1 0, nthV s_1 1, t47] w_4))
  (R (nthV s 0) w_1)) :
    Calls Try.prog N.impl_neededBy #[v0, v1] w (Ret R) :=
  callsB (args := [v0, v1]) ⟨(annOf [(4, [5, 6, 12]), (7, [5, 6])]), (annOf []), []⟩ Try.func53 rfl (cast (by kernel_rfl) h)

theorem c_impl_CutKeep (v0 : Value) (v1 : Value) (w : World) (R : Value → World → Prop) (h :
  CallV Try.prog N.impl_PlanValid [v0] w fun t7 w_1 =>
  NotV t7 fun t8 =>
  SplitV t8
  (R (Value.tuple #[Value.slice none 0 0, Value.bool false]) w_1)
  (CallV Try.prog N.impl_allNodes [v0, v1] w_1 fun t12 w_2 =>
  NotV t12 fun t13 =>
  SplitV t13
  (R (Value.tuple #[Value.slice none 0 0, Value.bool false]) w_2)
  (CallV Try.prog N.impl_neededBy [v0, v1] w_2 fun t17 w_3 =>
  CallV Try.prog N.impl_nodeSet_list [t17] w_3 fun t18 w_4 =>
  R (Value.tuple #[t18, Value.bool true]) w_4))) :
    Calls Try.prog N.impl_CutKeep #[v0, v1] w (Ret R) :=
  callsB (args := [v0, v1]) ⟨(annOf []), (annOf []), []⟩ Try.func35 rfl (cast (by kernel_rfl) h)

theorem c_spec_l3Needs (v0 : Value) (v1 : Value) (w : World) (R : Value → World → Prop) (h :
  LenV v0 fun t12 =>
  MakeSliceV T.bool 1 1 #[Value.bool false] t12 t12 w fun t13 w_1 =>
  LoopV [Value.int IntKind.i64 0] w_1 fun s _ w_2 K =>
  LenV v1 fun t16 =>
  BinV BinOp.lss (nthV s 0) t16 fun t17 =>
  SplitV t17
  (IdxV 1 v1 (nthV s 0) fun t23 =>
  LoadV false 1 t23 w_2 fun t24 =>
  IdxV 1 t13 t24 fun t25 =>
  StoreV 1 t25 (Value.bool true) w_2 fun w_3 =>
  BinV BinOp.add (nthV s 0) (Value.int IntKind.i64 1) fun t19 =>
  K [t19] w_3)
  (LenV v0 fun t27 =>
  BinV BinOp.sub t27 (Value.int IntKind.i64 1) fun t28 =>
  LoopV [t28] w_2 fun s_1 _ w_4 K_1 =>
  BinV BinOp.geq (nthV s_1 0) (Value.int IntKind.i64 0) fun t30 =>
  SplitV t30
  (LoopV [Value.int IntKind.i64 0] w_4 fun s_2 _ w_5 K_2 =>
  IdxV 3 v0 (nthV s_1 0) fun t36 =>
  FAddrV 1 t36 fun t37 =>
  LoadV false 1 t37 w_5 fun t38 =>
  LenV t38 fun t39 =>
  BinV BinOp.lss (nthV s_2 0) t39 fun t40 =>
  SplitV t40
  (IdxV 1 t13 (nthV s_1 0) fun t44 =>
  LoadV false 1 t44 w_5 fun t45 =>
  SplitV t45
  (IdxV 3 v0 (nthV s_1 0) fun t52 =>
  FAddrV 1 t52 fun t53 =>
  LoadV false 1 t53 w_5 fun t54 =>
  IdxV 1 t54 (nthV s_2 0) fun t56 =>
  LoadV false 1 t56 w_5 fun t57 =>
  IdxV 1 t13 t57 fun t58 =>
  StoreV 1 t58 (Value.bool true) w_5 fun w_6 =>
  BinV BinOp.add (nthV s_2 0) (Value.int IntKind.i64 1) fun t48 =>
  K_2 [t48] w_6)
  (BinV BinOp.sub (nthV s_1 0) (Value.int IntKind.i64 1) fun t32 =>
  K_1 [t32] w_5))
  (BinV BinOp.sub (nthV s_1 0) (Value.int IntKind.i64 1) fun t32_1 =>
  K_1 [t32_1] w_5))
  (BSliceV T.int 1 0 #[Value.int IntKind.i64 0] [] w_4 fun t59 w_7 =>
  LoopV [t59, Value.int IntKind.i64 0] w_7 fun s_3 _ w_8 K_3 =>
  LenV v0 fun t62 =>
  BinV BinOp.lss (nthV s_3 1) t62 fun t63 =>
  SplitV t63
  (IdxV 1 t13 (nthV s_3 1) fun t68 =>
  LoadV false 1 t68 w_8 fun t69 =>
  SplitV t69
  (BSliceV T.int 1 1 #[Value.int IntKind.i64 0] [(0, nthV s_3 1)] w_8 fun t72 w_9 =>
  AppendV Try.prog T.sl_int (nthV s_3 0) t72 w_9 fun t73 w_10 =>
  BinV BinOp.add (nthV s_3 1) (Value.int IntKind.i64 1) fun t65 =>
  K_3 [t73, t65] w_10)
  (BinV BinOp.add (nthV s_3 1) (Value.int IntKind.i64 1) fun t65_1 =>
  K_3 [nthV s_3 0, t65_1] w_8))
  (R (nthV s_3 0) w_8)))) :
    Calls Try.prog N.spec_l3Needs #[v0, v1] w (Ret R) :=
  callsB (args := [v0, v1]) ⟨(annOf [(3, [6]), (7, [7]), (10, [8]), (15, [9, 10])]), (annOf []), []⟩ Try.func56 rfl (cast (by kernel_rfl) h)

theorem c_spec_CutKeep (v0 : Value) (v1 : Value) (w : World) (R : Value → World → Prop) (h :
  CallV Try.prog N.spec_PlanValid [v0] w fun t8 w_1 =>
  NotV t8 fun t9 =>
  SplitV t9
  (BSliceV T.int 1 0 #[Value.int IntKind.i64 0] [] w_1 fun t10 w_2 =>
  R (Value.tuple #[t10, Value.bool false]) w_2)
  (LoopV [Value.int IntKind.i64 0] w_1 fun s _ w_3 K =>
  LenV v1 fun t13 =>
  BinV BinOp.lss (nthV s 0) t13 fun t14 =>
  SplitV t14
  (IdxV 1 v1 (nthV s 0) fun t19 =>
  LoadV false 1 t19 w_3 fun t20 =>
  LenV v0 fun t22 =>
  BinV BinOp.sub t22 (Value.int IntKind.i64 1) fun t23 =>
  CallV Try.prog N.spec_l6In [t20, Value.int IntKind.i64 0, t23] w_3 fun t24 w_4 =>
  NotV t24 fun t25 =>
  SplitV t25
  (BSliceV T.int 1 0 #[Value.int IntKind.i64 0] [] w_4 fun t26 w_5 =>
  R (Value.tuple #[t26, Value.bool false]) w_5)
  (BinV BinOp.add (nthV s 0) (Value.int IntKind.i64 1) fun t16 =>
  K [t16] w_4))
  (CallV Try.prog N.spec_l3Needs [v0, v1] w_3 fun t29 w_6 =>
  R (Value.tuple #[t29, Value.bool true]) w_6))) :
    Calls Try.prog N.spec_CutKeep #[v0, v1] w (Ret R) :=
  callsB (args := [v0, v1]) ⟨(annOf [(4, [6])]), (annOf []), []⟩ Try.func36 rfl (cast (by kernel_rfl) h)

theorem c_spec_l92List (v0 : Value) (w : World) (R : Value → World → Prop) (h :
  CallV Try.prog N.spec_l91Plan [v0] w fun t9 w_1 =>
  BSliceV T.int 1 0 #[Value.int IntKind.i64 0] [] w_1 fun t10 w_2 =>
  CallV Try.prog N.spec_l6Rd_pick [v0, Value.int IntKind.i64 4] w_2 fun t12 w_3 =>
  LoopV [t10, Value.int IntKind.i64 0] w_3 fun s _ w_4 K =>
  BinV BinOp.lss (nthV s 1) t12 fun t15 =>
  SplitV t15
  (LenV t9 fun t18 =>
  BinV BinOp.gtr t18 (Value.int IntKind.i64 0) fun t19 =>
  SplitV t19
  (LenV t9 fun t26 =>
  CallV Try.prog N.spec_l6Rd_pick [v0, t26] w_4 fun t27 w_5 =>
  BSliceV T.int 1 1 #[Value.int IntKind.i64 0] [(0, t27)] w_5 fun t28 w_6 =>
  AppendV Try.prog T.sl_int (nthV s 0) t28 w_6 fun t29 w_7 =>
  BinV BinOp.add (nthV s 1) (Value.int IntKind.i64 1) fun t22 =>
  K [t29, t22] w_7)
  (CallV Try.prog N.spec_l6Rd_pick [v0, Value.int IntKind.i64 16] w_4 fun t31 w_8 =>
  BinV BinOp.eql t31 (Value.int IntKind.i64 0) fun t32 =>
  SplitV t32
  (LenV t9 fun t35 =>
  BSliceV T.int 1 2 #[Value.int IntKind.i64 0] [(0, Value.int IntKind.i64 (-1)), (1, t35)] w_8 fun t36 w_9 =>
  CallV Try.prog N.spec_l6Rd_pick [v0, Value.int IntKind.i64 2] w_9 fun t38 w_10 =>
  IdxV 1 t36 t38 fun t39 =>
  LoadV false 1 t39 w_10 fun t40 =>
  BSliceV T.int 1 1 #[Value.int IntKind.i64 0] [(0, t40)] w_10 fun t41 w_11 =>
  AppendV Try.prog T.sl_int (nthV s 0) t41 w_11 fun t42 w_12 =>
  R (Value.tuple #[t9, t42]) w_12)
  (R (Value.tuple #[t9, nthV s 0]) w_8)))
  (CallV Try.prog N.spec_l6Rd_pick [v0, Value.int IntKind.i64 16] w_4 fun t31_1 w_13 =>
  BinV BinOp.eql t31_1 (Value.int IntKind.i64 0) fun t32_1 =>
  SplitV t32_1
  (LenV t9 fun t35_1 =>
  BSliceV T.int 1 2 #[Value.int IntKind.i64 0] [(0, Value.int IntKind.i64 (-1)), (1, t35_1)] w_13 fun t36_1 w_14 =>
  CallV Try.prog N.spec_l6Rd_pick [v0, Value.int IntKind.i64 2] w_14 fun t38_1 w_15 =>
  IdxV 1 t36_1 t38_1 fun t39_1 =>
  LoadV false 1 t39_1 w_15 fun t40_1 =>
  BSliceV T.int 1 1 #[Value.int IntKind.i64 0] [(0, t40_1)] w_15 fun t41_1 w_16 =>
  AppendV Try.prog T.sl_int (nthV s 0) t41_1 w_16 fun t42_1 w_17 =>
  R (Value.tuple #[t9, t42_1]) w_17)
  (R (Value.tuple #[t9, nthV s 0]) w_13))) :
    Calls Try.prog N.spec_l92List #[v0] w (Ret R) :=
  callsB (args := [v0]) ⟨(annOf [(5, [5, 7])]), (annOf []), []⟩ Try.func34 rfl (cast (by kernel_rfl) h)

theorem c_spec_DrawPlanCut (v0 : Value) (w : World) (R : Value → World → Prop) (h :
  CallV Try.prog N.spec_l6Open [v0] w fun t5 w_1 =>
  CallV Try.prog N.spec_l92List [t5] w_1 fun t6 w_2 =>
  ExtractV t6 0 fun t7 =>
  ExtractV t6 1 fun t8 =>
  R (Value.tuple #[t7, t8]) w_2) :
    Calls Try.prog N.spec_DrawPlanCut #[v0] w (Ret R) :=
  callsB (args := [v0]) ⟨(annOf []), (annOf []), []⟩ Try.func17 rfl (cast (by kernel_rfl) h)

end Go.Proofs.Ytmbfkhacejnnhaa
