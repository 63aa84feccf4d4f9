/- The conditions of functions, off their texts. Printed by a program; Lean checks each one. -/
import Derived.Test.YtmbfkhacejnnhaaNames
import Derived.Test.YtmbfkhacejnnhaaV9
namespace Go.Proofs.Ytmbfkhacejnnhaa
open Go Go.V
set_option maxRecDepth 100000
theorem c_impl_KindSwaps (v0 : Value) (w : World) (R : Value → World → Prop) (h :
  CallV Try.prog N.impl_workOf [v0] w fun t7 w_1 =>
  TAssertV T.impl_pairWork (Value.agg #[Value.nilFunc]) t7 fun t8 =>
  ExtractV t8 0 fun t9 =>
  ExtractV t8 1 fun t10 =>
  BoxV T.impl_pairWork (Value.agg #[Value.nilFunc]) w_1 fun t3 w_2 =>
  StoreV 1 t3 t9 w_2 fun w_3 =>
  R t10 w_3) :
    Calls Try.prog N.impl_KindSwaps #[v0] w (Ret R) :=
  callsB (args := [v0]) ⟨(annOf []), (annOf []), []⟩ Try.func11 rfl (cast (by kernel_rfl) h)

theorem c_spec_KindSwaps (v0 : Value) (w : World) (R : Value → World → Prop) (h :
  CallV Try.prog N.spec_KindNeeds [v0] w fun t4 w_1 =>
  BinV BinOp.eql t4 (Value.int IntKind.i64 2) fun t5 =>
  R t5 w_1) :
    Calls Try.prog N.spec_KindSwaps #[v0] w (Ret R) :=
  callsB (args := [v0]) ⟨(annOf []), (annOf []), []⟩ Try.func63 rfl (cast (by kernel_rfl) h)

theorem c_impl_shareKeyOf (v0 : Value) (v1 : Value) (w : World) (R : Value → World → Prop) (h :
  BoxV T.impl_Node v0 w fun t2 w_1 =>
  BoxV T.impl_shareKey (Value.agg #[Value.int IntKind.i64 0, Value.int IntKind.i64 0, Value.int IntKind.i64 0, Value.int IntKind.i64 0, Value.int IntKind.i64 0, Value.int IntKind.i64 0, Value.int IntKind.i64 0, Value.int IntKind.i64 0, Value.int IntKind.i64 0, Value.int IntKind.i64 0]) w_1 fun t4 w_2 =>
  FAddrV 0 t2 fun t6 =>
  LoadV false 1 t6 w_2 fun t7 =>
  FAddrV 2 t2 fun t8 =>
  LoadV false 1 t8 w_2 fun t9 =>
  LenV t9 fun t10 =>
  BuildV #[Value.int IntKind.i64 0, Value.int IntKind.i64 0, Value.int IntKind.i64 0, Value.int IntKind.i64 0, Value.int IntKind.i64 0, Value.int IntKind.i64 0, Value.int IntKind.i64 0, Value.int IntKind.i64 0, Value.int IntKind.i64 0, Value.int IntKind.i64 0] (fun i => ([(0, 1), (1, 1), (2, 1), (3, 1), (4, 6)] : List (Nat × Nat))[i]?) [(0, t7), (1, Value.int IntKind.i64 (-1)), (2, Value.int IntKind.i64 (-1)), (3, t10)] fun t11 =>
  BoxV T.impl_shareKey (Value.agg #[Value.int IntKind.i64 0, Value.int IntKind.i64 0, Value.int IntKind.i64 0, Value.int IntKind.i64 0, Value.int IntKind.i64 0, Value.int IntKind.i64 0, Value.int IntKind.i64 0, Value.int IntKind.i64 0, Value.int IntKind.i64 0, Value.int IntKind.i64 0]) w_2 fun t5 w_3 =>
  StoreV 10 t5 t11 w_3 fun w_4 =>
  DrawV w_4 fun S w_5 =>
  FAddrV 4 t5 fun t12 =>
  SliceAV 6 1 t12 none none fun t13 =>
  FAddrV 2 t2 fun t14 =>
  LoadS S false 1 t14 w_5 fun t15 =>
  CopyV Try.prog #[T.sl_int, T.sl_int] t13 t15 w_5 fun _ w_6 =>
  Chg S w_5 w_6 ∧
  FAddrV 1 t2 fun t17 =>
  LoadV false 1 t17 w_6 fun t18 =>
  LenV t18 fun t19 =>
  BinV BinOp.gtr t19 (Value.int IntKind.i64 0) fun t20 =>
  SplitV t20
  (FAddrV 1 t2 fun t22 =>
  LoadV false 1 t22 w_6 fun t23 =>
  IdxV 1 t23 (Value.int IntKind.i64 0) fun t24 =>
  LoadV false 1 t24 w_6 fun t25 =>
  IdxV 1 v1 t25 fun t26 =>
  LoadV false 1 t26 w_6 fun t27 =>
  FAddrV 1 t5 fun t28 =>
  StoreV 1 t28 t27 w_6 fun w_7 =>
  FAddrV 1 t2 fun t29 =>
  LoadV false 1 t29 w_7 fun t30 =>
  LenV t30 fun t31 =>
  BinV BinOp.gtr t31 (Value.int IntKind.i64 1) fun t32 =>
  SplitV t32
  (FAddrV 1 t2 fun t34 =>
  LoadV false 1 t34 w_7 fun t35 =>
  IdxV 1 t35 (Value.int IntKind.i64 1) fun t36 =>
  LoadV false 1 t36 w_7 fun t37 =>
  IdxV 1 v1 t37 fun t38 =>
  LoadV false 1 t38 w_7 fun t39 =>
  FAddrV 2 t5 fun t40 =>
  StoreV 1 t40 t39 w_7 fun w_8 =>
  FAddrV 0 t2 fun t41 =>
  LoadV false 1 t41 w_8 fun t42 =>
  CallV Try.prog N.impl_KindSwaps [t42] w_8 fun t43 w_9 =>
  SplitV t43
  (FAddrV 1 t5 fun t45 =>
  LoadV false 1 t45 w_9 fun t46 =>
  FAddrV 2 t5 fun t47 =>
  LoadV false 1 t47 w_9 fun t48 =>
  BinV BinOp.gtr t46 t48 fun t49 =>
  SplitV t49
  (FAddrV 2 t5 fun t51 =>
  LoadV false 1 t51 w_9 fun t52 =>
  FAddrV 1 t5 fun t53 =>
  LoadV false 1 t53 w_9 fun t54 =>
  FAddrV 1 t5 fun t55 =>
  StoreV 1 t55 t52 w_9 fun w_10 =>
  FAddrV 2 t5 fun t56 =>
  StoreV 1 t56 t54 w_10 fun w_11 =>
  LoadV true 10 t5 w_11 fun t57 =>
  StoreV 10 t4 t57 w_11 fun w_12 =>
  LoadV true 10 t4 w_12 fun r =>
  R r w_12)
  (LoadV true 10 t5 w_9 fun t57_1 =>
  StoreV 10 t4 t57_1 w_9 fun w_13 =>
  LoadV true 10 t4 w_13 fun r_1 =>
  R r_1 w_13))
  (LoadV true 10 t5 w_9 fun t57_2 =>
  StoreV 10 t4 t57_2 w_9 fun w_14 =>
  LoadV true 10 t4 w_14 fun r_2 =>
  R r_2 w_14))
  (FAddrV 0 t2 fun t41_1 =>
  LoadV false 1 t41_1 w_7 fun t42_1 =>
  CallV Try.prog N.impl_KindSwaps [t42_1] w_7 fun t43_1 w_15 =>
  SplitV t43_1
  (FAddrV 1 t5 fun t45_1 =>
  LoadV false 1 t45_1 w_15 fun t46_1 =>
  FAddrV 2 t5 fun t47_1 =>
  LoadV false 1 t47_1 w_15 fun t48_1 =>
  BinV BinOp.gtr t46_1 t48_1 fun t49_1 =>
  SplitV t49_1
  (FAddrV 2 t5 fun t51_1 =>
  LoadV false 1 t51_1 w_15 fun t52_1 =>
  FAddrV 1 t5 fun t53_1 =>
  LoadV false 1 t53_1 w_15 fun t54_1 =>
  FAddrV 1 t5 fun t55_1 =>
  StoreV 1 t55_1 t52_1 w_15 fun w_16 =>
  FAddrV 2 t5 fun t56_1 =>
  StoreV 1 t56_1 t54_1 w_16 fun w_17 =>
  LoadV true 10 t5 w_17 fun t57_3 =>
  StoreV 10 t4 t57_3 w_17 fun w_18 =>
  LoadV true 10 t4 w_18 fun r_3 =>
  R r_3 w_18)
  (LoadV true 10 t5 w_15 fun t57_4 =>
  StoreV 10 t4 t57_4 w_15 fun w_19 =>
  LoadV true 10 t4 w_19 fun r_4 =>
  R r_4 w_19))
  (LoadV true 10 t5 w_15 fun t57_5 =>
  StoreV 10 t4 t57_5 w_15 fun w_20 =>
  LoadV true 10 t4 w_20 fun r_5 =>
  R r_5 w_20)))
  (FAddrV 1 t2 fun t29_1 =>
  LoadV false 1 t29_1 w_6 fun t30_1 =>
  LenV t30_1 fun t31_1 =>
  BinV BinOp.gtr t31_1 (Value.int IntKind.i64 1) fun t32_1 =>
  SplitV t32_1
  (FAddrV 1 t2 fun t34_1 =>
  LoadV false 1 t34_1 w_6 fun t35_1 =>
  IdxV 1 t35_1 (Value.int IntKind.i64 1) fun t36_1 =>
  LoadV false 1 t36_1 w_6 fun t37_1 =>
  IdxV 1 v1 t37_1 fun t38_1 =>
  LoadV false 1 t38_1 w_6 fun t39_1 =>
  FAddrV 2 t5 fun t40_1 =>
  StoreV 1 t40_1 t39_1 w_6 fun w_21 =>
  FAddrV 0 t2 fun t41_2 =>
  LoadV false 1 t41_2 w_21 fun t42_2 =>
  CallV Try.prog N.impl_KindSwaps [t42_2] w_21 fun t43_2 w_22 =>
  SplitV t43_2
  (FAddrV 1 t5 fun t45_2 =>
  LoadV false 1 t45_2 w_22 fun t46_2 =>
  FAddrV 2 t5 fun t47_2 =>
  LoadV false 1 t47_2 w_22 fun t48_2 =>
  BinV BinOp.gtr t46_2 t48_2 fun t49_2 =>
  SplitV t49_2
  (FAddrV 2 t5 fun t51_2 =>
  LoadV false 1 t51_2 w_22 fun t52_2 =>
  FAddrV 1 t5 fun t53_2 =>
  LoadV false 1 t53_2 w_22 fun t54_2 =>
  FAddrV 1 t5 fun t55_2 =>
  StoreV 1 t55_2 t52_2 w_22 fun w_23 =>
  FAddrV 2 t5 fun t56_2 =>
  StoreV 1 t56_2 t54_2 w_23 fun w_24 =>
  LoadV true 10 t5 w_24 fun t57_6 =>
  StoreV 10 t4 t57_6 w_24 fun w_25 =>
  LoadV true 10 t4 w_25 fun r_6 =>
  R r_6 w_25)
  (LoadV true 10 t5 w_22 fun t57_7 =>
  StoreV 10 t4 t57_7 w_22 fun w_26 =>
  LoadV true 10 t4 w_26 fun r_7 =>
  R r_7 w_26))
  (LoadV true 10 t5 w_22 fun t57_8 =>
  StoreV 10 t4 t57_8 w_22 fun w_27 =>
  LoadV true 10 t4 w_27 fun r_8 =>
  R r_8 w_27))
  (FAddrV 0 t2 fun t41_3 =>
  LoadV false 1 t41_3 w_6 fun t42_3 =>
  CallV Try.prog N.impl_KindSwaps [t42_3] w_6 fun t43_3 w_28 =>
  SplitV t43_3
  (FAddrV 1 t5 fun t45_3 =>
  LoadV false 1 t45_3 w_28 fun t46_3 =>
  FAddrV 2 t5 fun t47_3 =>
  LoadV false 1 t47_3 w_28 fun t48_3 =>
  BinV BinOp.gtr t46_3 t48_3 fun t49_3 =>
  SplitV t49_3
  (FAddrV 2 t5 fun t51_3 =>
  LoadV false 1 t51_3 w_28 fun t52_3 =>
  FAddrV 1 t5 fun t53_3 =>
  LoadV false 1 t53_3 w_28 fun t54_3 =>
  FAddrV 1 t5 fun t55_3 =>
  StoreV 1 t55_3 t52_3 w_28 fun w_29 =>
  FAddrV 2 t5 fun t56_3 =>
  StoreV 1 t56_3 t54_3 w_29 fun w_30 =>
  LoadV true 10 t5 w_30 fun t57_9 =>
  StoreV 10 t4 t57_9 w_30 fun w_31 =>
  LoadV true 10 t4 w_31 fun r_9 =>
  R r_9 w_31)
  (LoadV true 10 t5 w_28 fun t57_10 =>
  StoreV 10 t4 t57_10 w_28 fun w_32 =>
  LoadV true 10 t4 w_32 fun r_10 =>
  R r_10 w_32))
  (LoadV true 10 t5 w_28 fun t57_11 =>
  StoreV 10 t4 t57_11 w_28 fun w_33 =>
  LoadV true 10 t4 w_33 fun r_11 =>
  R r_11 w_33)))) :
    Calls Try.prog N.impl_shareKeyOf #[v0, v1] w (Ret R) :=
  callsB (args := [v0, v1]) ⟨(annOf []), (annOf []), []⟩ Try.func23 rfl (cast (by kernel_rfl) h)

theorem c_impl_ShareFirst (v0 : Value) (w : World) (R : Value → World → Prop) (h :
  CallV Try.prog N.impl_PlanValid [v0] w fun t11 w_1 =>
  NotV t11 fun t12 =>
  SplitV t12
  (R (Value.slice none 0 0) w_1)
  (∀ w_2, New w_1 (Obj.map #[] 0) w_2 →
  LenV v0 fun t15 =>
  MakeSliceV T.int 1 8 #[Value.int IntKind.i64 0] (Value.int IntKind.i64 0) t15 w_2 fun t16 w_3 =>
  LenV v0 fun t18 =>
  LoopV [t16, Value.int IntKind.i64 0] w_3 fun s _ w_4 K =>
  BinV BinOp.lss (nthV s 1) t18 fun t20 =>
  SplitV t20
  (IdxV 3 v0 (nthV s 1) fun t22 =>
  LoadV true 3 t22 w_4 fun t23 =>
  BoxV T.impl_Node (Value.agg #[Value.int IntKind.i64 0, Value.slice none 0 0, Value.slice none 0 0]) w_4 fun t6 w_5 =>
  StoreV 3 t6 t23 w_5 fun w_6 =>
  LoadV true 3 t6 w_6 fun t24 =>
  CallV Try.prog N.impl_shareKeyOf [t24, nthV s 0] w_6 fun t26 w_7 =>
  BoxV T.impl_shareKey (Value.agg #[Value.int IntKind.i64 0, Value.int IntKind.i64 0, Value.int IntKind.i64 0, Value.int IntKind.i64 0, Value.int IntKind.i64 0, Value.int IntKind.i64 0, Value.int IntKind.i64 0, Value.int IntKind.i64 0, Value.int IntKind.i64 0, Value.int IntKind.i64 0]) w_7 fun t7 w_8 =>
  StoreV 10 t7 t26 w_8 fun w_9 =>
  LoadV true 10 t7 w_9 fun t29 =>
  LookupV Try.prog T.map_impl_shareKey_int (Value.map (some w_1.heap.size)) t29 true w_9 fun t30 w_10 =>
  ExtractV t30 0 fun t31 =>
  ExtractV t30 1 fun t32 =>
  NotV t32 fun t34 =>
  SplitV t34
  (LoadV true 10 t7 w_10 fun t37 =>
  MapUpdV Try.prog T.map_impl_shareKey_int (Value.map (some w_1.heap.size)) t37 (nthV s 1) w_10 fun w_11 =>
  BSliceV T.int 1 1 #[Value.int IntKind.i64 0] [(0, nthV s 1)] w_11 fun t41 w_12 =>
  AppendV Try.prog T.sl_int (nthV s 0) t41 w_12 fun t42 w_13 =>
  BinV BinOp.add (nthV s 1) (Value.int IntKind.i64 1) fun t43 =>
  K [t42, t43] w_13)
  (BSliceV T.int 1 1 #[Value.int IntKind.i64 0] [(0, t31)] w_10 fun t41_1 w_14 =>
  AppendV Try.prog T.sl_int (nthV s 0) t41_1 w_14 fun t42_1 w_15 =>
  BinV BinOp.add (nthV s 1) (Value.int IntKind.i64 1) fun t43_1 =>
  K [t42_1, t43_1] w_15))
  (R (nthV s 0) w_4))) :
    Calls Try.prog N.impl_ShareFirst #[v0] w (Ret R) :=
  callsB (args := [v0]) ⟨(annOf [(6, [4, 19])]), (annOf []), []⟩ Try.func8 rfl (cast (by kernel_rfl) h)

theorem c_spec_l22From (v0 : Value) (v1 : Value) (w : World) (R : Value → World → Prop) (h :
  BoxV T.impl_Node v0 w fun t2 w_1 =>
  BSliceV T.int 1 0 #[Value.int IntKind.i64 0] [] w_1 fun t7 w_2 =>
  LoopV [t7, Value.int IntKind.i64 0] w_2 fun s _ w_3 K =>
  FAddrV 1 t2 fun t9 =>
  LoadV false 1 t9 w_3 fun t10 =>
  LenV t10 fun t11 =>
  BinV BinOp.lss (nthV s 1) t11 fun t12 =>
  SplitV t12
  (FAddrV 1 t2 fun t17 =>
  LoadV false 1 t17 w_3 fun t18 =>
  IdxV 1 t18 (nthV s 1) fun t20 =>
  LoadV false 1 t20 w_3 fun t21 =>
  IdxV 1 v1 t21 fun t22 =>
  LoadV false 1 t22 w_3 fun t23 =>
  BSliceV T.int 1 1 #[Value.int IntKind.i64 0] [(0, t23)] w_3 fun t24 w_4 =>
  AppendV Try.prog T.sl_int (nthV s 0) t24 w_4 fun t25 w_5 =>
  BinV BinOp.add (nthV s 1) (Value.int IntKind.i64 1) fun t14 =>
  K [t25, t14] w_5)
  (DrawV w_3 fun S w_6 =>
  FAddrV 0 t2 fun t26 =>
  LoadS S false 1 t26 w_6 fun t27 =>
  CallV Try.prog N.spec_KindSwaps [t27] w_6 fun t28 w_7 =>
  Chg S w_6 w_7 ∧
  SplitV t28
  (IdxV 1 (nthV s 0) (Value.int IntKind.i64 0) fun t31 =>
  LoadS S false 1 t31 w_7 fun t32 =>
  IdxV 1 (nthV s 0) (Value.int IntKind.i64 1) fun t34 =>
  LoadS S false 1 t34 w_7 fun t35 =>
  BinV BinOp.gtr t32 t35 fun t36 =>
  SplitV t36
  (DrawV w_7 fun S_1 w_8 =>
  IdxV 1 (nthV s 0) (Value.int IntKind.i64 1) fun t39 =>
  LoadS S_1 false 1 t39 w_8 fun t40 =>
  IdxV 1 (nthV s 0) (Value.int IntKind.i64 0) fun t42 =>
  LoadS S_1 false 1 t42 w_8 fun t43 =>
  BSliceV T.int 1 2 #[Value.int IntKind.i64 0] [(0, t40), (1, t43)] w_8 fun t44 w_9 =>
  Chg S_1 w_8 w_9 ∧
  R t44 w_9)
  (R (nthV s 0) w_7))
  (R (nthV s 0) w_7))) :
    Calls Try.prog N.spec_l22From #[v0, v1] w (Ret R) :=
  callsB (args := [v0, v1]) ⟨(annOf [(3, [5, 6])]), (annOf []), []⟩ Try.func43 rfl (cast (by kernel_rfl) h)

theorem c_spec_l13Same (v0 : Value) (v1 : Value) (w : World) (R : Value → World → Prop) (h :
  LenV v0 fun t7 =>
  LenV v1 fun t9 =>
  BinV BinOp.neq t7 t9 fun t10 =>
  SplitV t10
  (R (Value.bool false) w)
  (LoopV [Value.int IntKind.i64 0] w fun s _ w_1 K =>
  LenV v0 fun t13 =>
  BinV BinOp.lss (nthV s 0) t13 fun t14 =>
  SplitV t14
  (DrawV w_1 fun S w_2 =>
  IdxV 1 v0 (nthV s 0) fun t19 =>
  LoadS S false 1 t19 w_2 fun t20 =>
  IdxV 1 v1 (nthV s 0) fun t23 =>
  LoadS S false 1 t23 w_2 fun t24 =>
  BinV BinOp.neq t20 t24 fun t25 =>
  SplitV t25
  (R (Value.bool false) w_2)
  (BinV BinOp.add (nthV s 0) (Value.int IntKind.i64 1) fun t16 =>
  K [t16] w_2))
  (R (Value.bool true) w_1))) :
    Calls Try.prog N.spec_l13Same #[v0, v1] w (Ret R) :=
  callsB (args := [v0, v1]) ⟨(annOf [(4, [5])]), (annOf []), []⟩ Try.func44 rfl (cast (by kernel_rfl) h)

theorem c_spec_l22First (v0 : Value) (w : World) (R : Value → World → Prop) (h :
  BSliceV T.int 1 0 #[Value.int IntKind.i64 0] [] w fun t8 w_1 =>
  LoopV [t8, Value.int IntKind.i64 0] w_1 fun s _ w_2 K =>
  LenV v0 fun t11 =>
  BinV BinOp.lss (nthV s 1) t11 fun t12 =>
  SplitV t12
  (IdxV 3 v0 (nthV s 1) fun t18 =>
  LoadV true 3 t18 w_2 fun t19 =>
  CallV Try.prog N.spec_l22From [t19, nthV s 0] w_2 fun t21 w_3 =>
  BinV BinOp.sub (nthV s 1) (Value.int IntKind.i64 1) fun t23 =>
  LoopV [nthV s 1, t23] w_3 fun s_1 _ w_4 K_1 =>
  BinV BinOp.geq (nthV s_1 1) (Value.int IntKind.i64 0) fun t25 =>
  SplitV t25
  (DrawV w_4 fun S w_5 =>
  IdxV 3 v0 (nthV s_1 1) fun t30 =>
  FAddrV 0 t30 fun t31 =>
  LoadS S false 1 t31 w_5 fun t32 =>
  IdxV 3 v0 (nthV s 1) fun t35 =>
  FAddrV 0 t35 fun t36 =>
  LoadS S false 1 t36 w_5 fun t37 =>
  BinV BinOp.eql t32 t37 fun t38 =>
  SplitV t38
  (IdxV 3 v0 (nthV s_1 1) fun t42 =>
  FAddrV 2 t42 fun t43 =>
  LoadS S false 1 t43 w_5 fun t44 =>
  IdxV 3 v0 (nthV s 1) fun t47 =>
  FAddrV 2 t47 fun t48 =>
  LoadS S false 1 t48 w_5 fun t49 =>
  CallV Try.prog N.spec_l13Same [t44, t49] w_5 fun t50 w_6 =>
  Chg S w_5 w_6 ∧
  SplitV t50
  (IdxV 3 v0 (nthV s_1 1) fun t55 =>
  LoadS S true 3 t55 w_6 fun t56 =>
  CallV Try.prog N.spec_l22From [t56, nthV s 0] w_6 fun t58 w_7 =>
  Chg S w_6 w_7 ∧
  CallV Try.prog N.spec_l13Same [t58, t21] w_7 fun t60 w_8 =>
  Chg S w_7 w_8 ∧
  SplitV t60
  (BinV BinOp.sub (nthV s_1 1) (Value.int IntKind.i64 1) fun t27 =>
  K_1 [nthV s_1 1, t27] w_8)
  (BinV BinOp.sub (nthV s_1 1) (Value.int IntKind.i64 1) fun t27_1 =>
  K_1 [nthV s_1 0, t27_1] w_8))
  (BinV BinOp.sub (nthV s_1 1) (Value.int IntKind.i64 1) fun t27_2 =>
  K_1 [nthV s_1 0, t27_2] w_6))
  (BinV BinOp.sub (nthV s_1 1) (Value.int IntKind.i64 1) fun t27_3 =>
  K_1 [nthV s_1 0, t27_3] w_5))
  (BSliceV T.int 1 1 #[Value.int IntKind.i64 0] [(0, nthV s_1 0)] w_4 fun t65 w_9 =>
  AppendV Try.prog T.sl_int (nthV s 0) t65 w_9 fun t66 w_10 =>
  BinV BinOp.add (nthV s 1) (Value.int IntKind.i64 1) fun t14 =>
  K [t66, t14] w_10))
  (R (nthV s 0) w_2)) :
    Calls Try.prog N.spec_l22First #[v0] w (Ret R) :=
  callsB (args := [v0]) ⟨(annOf [(3, [3, 4]), (8, [5, 7])]), (annOf []), []⟩ Try.func25 rfl (cast (by kernel_rfl) h)

theorem c_spec_ShareFirst (v0 : Value) (w : World) (R : Value → World → Prop) (h :
  CallV Try.prog N.spec_PlanValid [v0] w fun t4 w_1 =>
  NotV t4 fun t5 =>
  SplitV t5
  (BSliceV T.int 1 0 #[Value.int IntKind.i64 0] [] w_1 fun t6 w_2 =>
  R t6 w_2)
  (CallV Try.prog N.spec_l22First [v0] w_1 fun t8 w_3 =>
  R t8 w_3)) :
    Calls Try.prog N.spec_ShareFirst #[v0] w (Ret R) :=
  callsB (args := [v0]) ⟨(annOf []), (annOf []), []⟩ Try.func9 rfl (cast (by kernel_rfl) h)

theorem c_spec_l92Twice (v0 : Value) (w : World) (R : Value → World → Prop) (h :
  CallV Try.prog N.spec_l91Plan [v0] w fun t7 w_1 =>
  LoopV [Value.int IntKind.i64 1] w_1 fun s _ w_2 K =>
  LenV t7 fun t10 =>
  BinV BinOp.lss (nthV s 0) t10 fun t11 =>
  SplitV t11
  (CallV Try.prog N.spec_l6Rd_pick [v0, Value.int IntKind.i64 3] w_2 fun t15 w_3 =>
  BinV BinOp.eql t15 (Value.int IntKind.i64 0) fun t16 =>
  SplitV t16
  (CallV Try.prog N.spec_l6Rd_pick [v0, nthV s 0] w_3 fun t19 w_4 =>
  DrawV w_4 fun S w_5 =>
  IdxV 3 t7 t19 fun t24 =>
  FAddrV 0 t24 fun t25 =>
  LoadS S false 1 t25 w_5 fun t26 =>
  IdxV 3 t7 t19 fun t30 =>
  FAddrV 1 t30 fun t31 =>
  LoadS S false 1 t31 w_5 fun t32 =>
  IdxV 3 t7 t19 fun t37 =>
  FAddrV 2 t37 fun t38 =>
  LoadS S false 1 t38 w_5 fun t39 =>
  (BSliceV T.int 1 0 #[Value.int IntKind.i64 0] [] w_5 fun t27 w_6 =>
  Chg S w_5 w_6 ∧
  (AppendV Try.prog T.sl_int t27 t32 w_6 fun t33 w_7 =>
  Chg S w_6 w_7 ∧
  BSliceV T.int 1 0 #[Value.int IntKind.i64 0] [] w_7 fun t34 w_8 =>
  Chg S w_7 w_8 ∧
  AppendV Try.prog T.sl_int t34 t39 w_8 fun t40 w_9 =>
  Chg S w_8 w_9 ∧
  BuildV #[Value.int IntKind.i64 0, Value.slice none 0 0, Value.slice none 0 0] (fun i => ([(0, 1), (1, 1), (2, 1)] : List (Nat × Nat))[i]?) [(0, t26), (1, t33), (2, t40)] fun t41 =>
  IdxV 3 t7 (nthV s 0) fun t42 =>
  StoreV 3 t42 t41 w_9 fun w_10 =>
  IdxV 3 t7 (nthV s 0) fun t45 =>
  FAddrV 1 t45 fun t46 =>
  LoadV false 1 t46 w_10 fun t47 =>
  LenV t47 fun t48 =>
  BinV BinOp.eql t48 (Value.int IntKind.i64 2) fun t49 =>
  SplitV t49
  (CallV Try.prog N.spec_l6Rd_pick [v0, Value.int IntKind.i64 2] w_10 fun t52 w_11 =>
  BinV BinOp.eql t52 (Value.int IntKind.i64 0) fun t53 =>
  SplitV t53
  (DrawV w_11 fun S_1 w_12 =>
  IdxV 3 t7 (nthV s 0) fun t57 =>
  FAddrV 1 t57 fun t58 =>
  LoadS S_1 false 1 t58 w_12 fun t59 =>
  IdxV 3 t7 t19 fun t62 =>
  FAddrV 1 t62 fun t63 =>
  LoadS S_1 false 1 t63 w_12 fun t64 =>
  IdxV 1 t64 (Value.int IntKind.i64 1) fun t65 =>
  LoadS S_1 false 1 t65 w_12 fun t66 =>
  IdxV 1 t59 (Value.int IntKind.i64 0) fun t67 =>
  StoreV 1 t67 t66 w_12 fun w_13 =>
  DrawV w_13 fun S_2 w_14 =>
  IdxV 3 t7 (nthV s 0) fun t70 =>
  FAddrV 1 t70 fun t71 =>
  LoadS S_2 false 1 t71 w_14 fun t72 =>
  IdxV 3 t7 t19 fun t75 =>
  FAddrV 1 t75 fun t76 =>
  LoadS S_2 false 1 t76 w_14 fun t77 =>
  IdxV 1 t77 (Value.int IntKind.i64 0) fun t78 =>
  LoadS S_2 false 1 t78 w_14 fun t79 =>
  IdxV 1 t72 (Value.int IntKind.i64 1) fun t80 =>
  StoreV 1 t80 t79 w_14 fun w_15 =>
  BinV BinOp.add (nthV s 0) (Value.int IntKind.i64 1) fun t13 =>
  K [t13] w_15)
  (BinV BinOp.add (nthV s 0) (Value.int IntKind.i64 1) fun t13_1 =>
  K [t13_1] w_11))
  (BinV BinOp.add (nthV s 0) (Value.int IntKind.i64 1) fun t13_2 =>
  K [t13_2] w_10)) ∧
  (BSliceV T.int 1 0 #[Value.int IntKind.i64 0] [] w_6 fun t34_1 w_16 =>
  Chg S w_6 w_16 ∧
  AppendV Try.prog T.sl_int t27 t32 w_16 fun t33_1 w_17 =>
  Chg S w_16 w_17 ∧
  AppendV Try.prog T.sl_int t34_1 t39 w_17 fun t40_1 w_18 =>
  Chg S w_17 w_18 ∧
  BuildV #[Value.int IntKind.i64 0, Value.slice none 0 0, Value.slice none 0 0] (fun i => ([(0, 1), (1, 1), (2, 1)] : List (Nat × Nat))[i]?) [(0, t26), (1, t33_1), (2, t40_1)] fun t41_1 =>
  IdxV 3 t7 (nthV s 0) fun t42_1 =>
  StoreV 3 t42_1 t41_1 w_18 fun w_19 =>
  IdxV 3 t7 (nthV s 0) fun t45_1 =>
  FAddrV 1 t45_1 fun t46_1 =>
  LoadV false 1 t46_1 w_19 fun t47_1 =>
  LenV t47_1 fun t48_1 =>
  BinV BinOp.eql t48_1 (Value.int IntKind.i64 2) fun t49_1 =>
  SplitV t49_1
  (CallV Try.prog N.spec_l6Rd_pick [v0, Value.int IntKind.i64 2] w_19 fun t52_1 w_20 =>
  BinV BinOp.eql t52_1 (Value.int IntKind.i64 0) fun t53_1 =>
  SplitV t53_1
  (DrawV w_20 fun S_3 w_21 =>
  IdxV 3 t7 (nthV s 0) fun t57_1 =>
  FAddrV 1 t57_1 fun t58_1 =>
  LoadS S_3 false 1 t58_1 w_21 fun t59_1 =>
  IdxV 3 t7 t19 fun t62_1 =>
  FAddrV 1 t62_1 fun t63_1 =>
  LoadS S_3 false 1 t63_1 w_21 fun t64_1 =>
  IdxV 1 t64_1 (Value.int IntKind.i64 1) fun t65_1 =>
  LoadS S_3 false 1 t65_1 w_21 fun t66_1 =>
  IdxV 1 t59_1 (Value.int IntKind.i64 0) fun t67_1 =>
  StoreV 1 t67_1 t66_1 w_21 fun w_22 =>
  DrawV w_22 fun S_4 w_23 =>
  IdxV 3 t7 (nthV s 0) fun t70_1 =>
  FAddrV 1 t70_1 fun t71_1 =>
  LoadS S_4 false 1 t71_1 w_23 fun t72_1 =>
  IdxV 3 t7 t19 fun t75_1 =>
  FAddrV 1 t75_1 fun t76_1 =>
  LoadS S_4 false 1 t76_1 w_23 fun t77_1 =>
  IdxV 1 t77_1 (Value.int IntKind.i64 0) fun t78_1 =>
  LoadS S_4 false 1 t78_1 w_23 fun t79_1 =>
  IdxV 1 t72_1 (Value.int IntKind.i64 1) fun t80_1 =>
  StoreV 1 t80_1 t79_1 w_23 fun w_24 =>
  BinV BinOp.add (nthV s 0) (Value.int IntKind.i64 1) fun t13_3 =>
  K [t13_3] w_24)
  (BinV BinOp.add (nthV s 0) (Value.int IntKind.i64 1) fun t13_4 =>
  K [t13_4] w_20))
  (BinV BinOp.add (nthV s 0) (Value.int IntKind.i64 1) fun t13_5 =>
  K [t13_5] w_19))) ∧
  (BSliceV T.int 1 0 #[Value.int IntKind.i64 0] [] w_5 fun t34_2 w_25 =>
  Chg S w_5 w_25 ∧
  BSliceV T.int 1 0 #[Value.int IntKind.i64 0] [] w_25 fun t27_1 w_26 =>
  Chg S w_25 w_26 ∧
  AppendV Try.prog T.sl_int t27_1 t32 w_26 fun t33_2 w_27 =>
  Chg S w_26 w_27 ∧
  AppendV Try.prog T.sl_int t34_2 t39 w_27 fun t40_2 w_28 =>
  Chg S w_27 w_28 ∧
  BuildV #[Value.int IntKind.i64 0, Value.slice none 0 0, Value.slice none 0 0] (fun i => ([(0, 1), (1, 1), (2, 1)] : List (Nat × Nat))[i]?) [(0, t26), (1, t33_2), (2, t40_2)] fun t41_2 =>
  IdxV 3 t7 (nthV s 0) fun t42_2 =>
  StoreV 3 t42_2 t41_2 w_28 fun w_29 =>
  IdxV 3 t7 (nthV s 0) fun t45_2 =>
  FAddrV 1 t45_2 fun t46_2 =>
  LoadV false 1 t46_2 w_29 fun t47_2 =>
  LenV t47_2 fun t48_2 =>
  BinV BinOp.eql t48_2 (Value.int IntKind.i64 2) fun t49_2 =>
  SplitV t49_2
  (CallV Try.prog N.spec_l6Rd_pick [v0, Value.int IntKind.i64 2] w_29 fun t52_2 w_30 =>
  BinV BinOp.eql t52_2 (Value.int IntKind.i64 0) fun t53_2 =>
  SplitV t53_2
  (DrawV w_30 fun S_5 w_31 =>
  IdxV 3 t7 (nthV s 0) fun t57_2 =>
  FAddrV 1 t57_2 fun t58_2 =>
  LoadS S_5 false 1 t58_2 w_31 fun t59_2 =>
  IdxV 3 t7 t19 fun t62_2 =>
  FAddrV 1 t62_2 fun t63_2 =>
  LoadS S_5 false 1 t63_2 w_31 fun t64_2 =>
  IdxV 1 t64_2 (Value.int IntKind.i64 1) fun t65_2 =>
  LoadS S_5 false 1 t65_2 w_31 fun t66_2 =>
  IdxV 1 t59_2 (Value.int IntKind.i64 0) fun t67_2 =>
  StoreV 1 t67_2 t66_2 w_31 fun w_32 =>
  DrawV w_32 fun S_6 w_33 =>
  IdxV 3 t7 (nthV s 0) fun t70_2 =>
  FAddrV 1 t70_2 fun t71_2 =>
  LoadS S_6 false 1 t71_2 w_33 fun t72_2 =>
  IdxV 3 t7 t19 fun t75_2 =>
  FAddrV 1 t75_2 fun t76_2 =>
  LoadS S_6 false 1 t76_2 w_33 fun t77_2 =>
  IdxV 1 t77_2 (Value.int IntKind.i64 0) fun t78_2 =>
  LoadS S_6 false 1 t78_2 w_33 fun t79_2 =>
  IdxV 1 t72_2 (Value.int IntKind.i64 1) fun t80_2 =>
  StoreV 1 t80_2 t79_2 w_33 fun w_34 =>
  BinV BinOp.add (nthV s 0) (Value.int IntKind.i64 1) fun t13_6 =>
  K [t13_6] w_34)
  (BinV BinOp.add (nthV s 0) (Value.int IntKind.i64 1) fun t13_7 =>
  K [t13_7] w_30))
  (BinV BinOp.add (nthV s 0) (Value.int IntKind.i64 1) fun t13_8 =>
  K [t13_8] w_29)))
  (BinV BinOp.add (nthV s 0) (Value.int IntKind.i64 1) fun t13_9 =>
  K [t13_9] w_3))
  (R t7 w_2)) :
    Calls Try.prog N.spec_l92Twice #[v0] w (Ret R) :=
  callsB (args := [v0]) ⟨(annOf [(3, [4])]), (annOf []), []⟩ Try.func20 rfl (cast (by kernel_rfl) h)

theorem c_spec_DrawShareFirst (v0 : Value) (w : World) (R : Value → World → Prop) (h :
  CallV Try.prog N.spec_l6Open [v0] w fun t4 w_1 =>
  CallV Try.prog N.spec_l92Twice [t4] w_1 fun t5 w_2 =>
  R t5 w_2) :
    Calls Try.prog N.spec_DrawShareFirst #[v0] w (Ret R) :=
  callsB (args := [v0]) ⟨(annOf []), (annOf []), []⟩ Try.func7 rfl (cast (by kernel_rfl) h)

theorem c_spec_DrawPlanShare (v0 : Value) (w : World) (R : Value → World → Prop) (h :
  CallV Try.prog N.spec_l6Open [v0] w fun t4 w_1 =>
  CallV Try.prog N.spec_l92Twice [t4] w_1 fun t5 w_2 =>
  R t5 w_2) :
    Calls Try.prog N.spec_DrawPlanShare #[v0] w (Ret R) :=
  callsB (args := [v0]) ⟨(annOf []), (annOf []), []⟩ Try.func13 rfl (cast (by kernel_rfl) h)

end Go.Proofs.Ytmbfkhacejnnhaa
