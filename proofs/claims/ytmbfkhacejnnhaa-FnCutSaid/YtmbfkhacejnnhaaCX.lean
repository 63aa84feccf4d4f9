/- The conditions of functions, off their texts. Printed by a program; Lean checks each one. -/
import Derived.Test.YtmbfkhacejnnhaaNames
import Derived.Test.YtmbfkhacejnnhaaV9
namespace Go.Proofs.Ytmbfkhacejnnhaa
open Go Go.V
set_option maxRecDepth 100000
theorem c_impl_PlanCut (v0 : Value) (v1 : Value) (w : World) (R : Value → World → Prop) (h :
  CallV Try.prog N.impl_CutKeep [v0, v1] w fun t20 w_1 =>
  ExtractV t20 0 fun t21 =>
  ExtractV t20 1 fun t22 =>
  NotV t22 fun t24 =>
  SplitV t24
  (R (Value.tuple #[Value.slice none 0 0, Value.slice none 0 0, Value.bool false]) w_1)
  (LenV v0 fun t26 =>
  MakeSliceV T.int 1 8 #[Value.int IntKind.i64 0] t26 t26 w_1 fun t27 w_2 =>
  LenV t27 fun t29 =>
  LoopV [Value.int IntKind.i64 0] w_2 fun s _ w_3 K =>
  BinV BinOp.lss (nthV s 0) t29 fun t31 =>
  SplitV t31
  (IdxV 1 t27 (nthV s 0) fun t35 =>
  StoreV 1 t35 (Value.int IntKind.i64 (-1)) w_3 fun w_4 =>
  BinV BinOp.add (nthV s 0) (Value.int IntKind.i64 1) fun t36 =>
  K [t36] w_4)
  (LenV t21 fun t38 =>
  MakeSliceV T.impl_Node 3 56 #[Value.int IntKind.i64 0, Value.slice none 0 0, Value.slice none 0 0] (Value.int IntKind.i64 0) t38 w_3 fun t39 w_5 =>
  LenV t21 fun t41 =>
  LoopV [t39, Value.int IntKind.i64 0] w_5 fun s_1 _ w_6 K_1 =>
  BinV BinOp.lss (nthV s_1 1) t41 fun t43 =>
  SplitV t43
  (IdxV 1 t21 (nthV s_1 1) fun t45 =>
  LoadV false 1 t45 w_6 fun t46 =>
  IdxV 1 t27 t46 fun t50 =>
  StoreV 1 t50 (nthV s_1 1) w_6 fun w_7 =>
  IdxV 3 v0 t46 fun t53 =>
  LoadV true 3 t53 w_7 fun t54 =>
  CallV Try.prog N.impl_copyNode [t54] w_7 fun t55 w_8 =>
  BoxV T.impl_Node (Value.agg #[Value.int IntKind.i64 0, Value.slice none 0 0, Value.slice none 0 0]) w_8 fun t14 w_9 =>
  StoreV 3 t14 t55 w_9 fun w_10 =>
  FAddrV 1 t14 fun t56 =>
  LoadV false 1 t56 w_10 fun t57 =>
  LenV t57 fun t58 =>
  LoopV [Value.int IntKind.i64 0] w_10 fun s_2 _ w_11 K_2 =>
  BinV BinOp.lss (nthV s_2 0) t58 fun t60 =>
  SplitV t60
  (IdxV 1 t57 (nthV s_2 0) fun t62 =>
  LoadV false 1 t62 w_11 fun t63 =>
  DrawV w_11 fun S w_12 =>
  FAddrV 1 t14 fun t64 =>
  LoadS S false 1 t64 w_12 fun t65 =>
  IdxV 1 t27 t63 fun t69 =>
  LoadS S false 1 t69 w_12 fun t70 =>
  IdxV 1 t65 (nthV s_2 0) fun t71 =>
  StoreV 1 t71 t70 w_12 fun w_13 =>
  BinV BinOp.add (nthV s_2 0) (Value.int IntKind.i64 1) fun t72 =>
  K_2 [t72] w_13)
  (LoadV true 3 t14 w_11 fun t74 =>
  BSliceV T.impl_Node 3 1 #[Value.int IntKind.i64 0, Value.slice none 0 0, Value.slice none 0 0] [(0, t74)] w_11 fun t75 w_14 =>
  AppendV Try.prog T.sl_impl_Node (nthV s_1 0) t75 w_14 fun t76 w_15 =>
  BinV BinOp.add (nthV s_1 1) (Value.int IntKind.i64 1) fun t77 =>
  K_1 [t76, t77] w_15))
  (R (Value.tuple #[nthV s_1 0, t27, Value.bool true]) w_6)))) :
    Calls Try.prog N.impl_PlanCut #[v0, v1] w (Ret R) :=
  callsB (args := [v0, v1]) ⟨(annOf [(6, [30]), (12, [11, 42]), (17, [59])]), (annOf []), []⟩ Try.func18 rfl (cast (by kernel_rfl) h)

theorem c_spec_PlanCut (v0 : Value) (v1 : Value) (w : World) (R : Value → World → Prop) (h :
  CallV Try.prog N.spec_CutKeep [v0, v1] w fun t18 w_1 =>
  ExtractV t18 0 fun t19 =>
  ExtractV t18 1 fun t20 =>
  BSliceV T.impl_Node 3 0 #[Value.int IntKind.i64 0, Value.slice none 0 0, Value.slice none 0 0] [] w_1 fun t21 w_2 =>
  BSliceV T.int 1 0 #[Value.int IntKind.i64 0] [] w_2 fun t22 w_3 =>
  NotV t20 fun t24 =>
  SplitV t24
  (R (Value.tuple #[t21, t22, Value.bool false]) w_3)
  (CallV Try.prog N.spec_l3Copy [v0] w_3 fun t28 w_4 =>
  LoopV [t21, t22, Value.int IntKind.i64 0] w_4 fun s _ w_5 K =>
  LenV v0 fun t31 =>
  BinV BinOp.lss (nthV s 2) t31 fun t32 =>
  SplitV t32
  (CallV Try.prog N.spec_l3Has [t19, nthV s 2] w_5 fun t37 w_6 =>
  NotV t37 fun t38 =>
  SplitV t38
  (BSliceV T.int 1 1 #[Value.int IntKind.i64 0] [(0, Value.int IntKind.i64 (-1))] w_6 fun t40 w_7 =>
  AppendV Try.prog T.sl_int (nthV s 1) t40 w_7 fun t41 w_8 =>
  BinV BinOp.add (nthV s 2) (Value.int IntKind.i64 1) fun t34 =>
  K [nthV s 0, t41, t34] w_8)
  (IdxV 3 t28 (nthV s 2) fun t44 =>
  LoadV true 3 t44 w_6 fun t45 =>
  BoxV T.impl_Node (Value.agg #[Value.int IntKind.i64 0, Value.slice none 0 0, Value.slice none 0 0]) w_6 fun t13 w_9 =>
  StoreV 3 t13 t45 w_9 fun w_10 =>
  LoopV [Value.int IntKind.i64 0] w_10 fun s_1 _ w_11 K_1 =>
  FAddrV 1 t13 fun t47 =>
  LoadV false 1 t47 w_11 fun t48 =>
  LenV t48 fun t49 =>
  BinV BinOp.lss (nthV s_1 0) t49 fun t50 =>
  SplitV t50
  (DrawV w_11 fun S w_12 =>
  FAddrV 1 t13 fun t53 =>
  LoadS S false 1 t53 w_12 fun t54 =>
  FAddrV 1 t13 fun t57 =>
  LoadS S false 1 t57 w_12 fun t58 =>
  IdxV 1 t58 (nthV s_1 0) fun t60 =>
  LoadS S false 1 t60 w_12 fun t61 =>
  IdxV 1 (nthV s 1) t61 fun t62 =>
  LoadS S false 1 t62 w_12 fun t63 =>
  IdxV 1 t54 (nthV s_1 0) fun t64 =>
  StoreV 1 t64 t63 w_12 fun w_13 =>
  BinV BinOp.add (nthV s_1 0) (Value.int IntKind.i64 1) fun t52 =>
  K_1 [t52] w_13)
  (LenV (nthV s 0) fun t67 =>
  BSliceV T.int 1 1 #[Value.int IntKind.i64 0] [(0, t67)] w_11 fun t68 w_14 =>
  AppendV Try.prog T.sl_int (nthV s 1) t68 w_14 fun t69 w_15 =>
  LoadV true 3 t13 w_15 fun t71 =>
  BSliceV T.impl_Node 3 1 #[Value.int IntKind.i64 0, Value.slice none 0 0, Value.slice none 0 0] [(0, t71)] w_15 fun t72 w_16 =>
  AppendV Try.prog T.sl_impl_Node (nthV s 0) t72 w_16 fun t73 w_17 =>
  BinV BinOp.add (nthV s 2) (Value.int IntKind.i64 1) fun t34_1 =>
  K [t73, t69, t34_1] w_17)))
  (R (Value.tuple #[nthV s 0, nthV s 1, Value.bool true]) w_5))) :
    Calls Try.prog N.spec_PlanCut #[v0, v1] w (Ret R) :=
  callsB (args := [v0, v1]) ⟨(annOf [(8, [9, 10, 12]), (14, [14])]), (annOf []), []⟩ Try.func19 rfl (cast (by kernel_rfl) h)

theorem c_spec_l3Copy (v0 : Value) (w : World) (R : Value → World → Prop) (h :
  BSliceV T.impl_Node 3 0 #[Value.int IntKind.i64 0, Value.slice none 0 0, Value.slice none 0 0] [] w fun t6 w_1 =>
  LoopV [t6, Value.int IntKind.i64 0] w_1 fun s _ w_2 K =>
  LenV v0 fun t9 =>
  BinV BinOp.lss (nthV s 1) t9 fun t10 =>
  SplitV t10
  (IdxV 3 v0 (nthV s 1) fun t15 =>
  LoadV true 3 t15 w_2 fun t16 =>
  BoxV T.impl_Node (Value.agg #[Value.int IntKind.i64 0, Value.slice none 0 0, Value.slice none 0 0]) w_2 fun t5 w_3 =>
  StoreV 3 t5 t16 w_3 fun w_4 =>
  DrawV w_4 fun S w_5 =>
  FAddrV 0 t5 fun t18 =>
  LoadS S false 1 t18 w_5 fun t19 =>
  FAddrV 1 t5 fun t21 =>
  LoadS S false 1 t21 w_5 fun t22 =>
  FAddrV 2 t5 fun t25 =>
  LoadS S false 1 t25 w_5 fun t26 =>
  (BSliceV T.int 1 0 #[Value.int IntKind.i64 0] [] w_5 fun t20 w_6 =>
  Chg S w_5 w_6 ∧
  (AppendV Try.prog T.sl_int t20 t22 w_6 fun t23 w_7 =>
  Chg S w_6 w_7 ∧
  BSliceV T.int 1 0 #[Value.int IntKind.i64 0] [] w_7 fun t24 w_8 =>
  Chg S w_7 w_8 ∧
  AppendV Try.prog T.sl_int t24 t26 w_8 fun t27 w_9 =>
  Chg S w_8 w_9 ∧
  BuildV #[Value.int IntKind.i64 0, Value.slice none 0 0, Value.slice none 0 0] (fun i => ([(0, 1), (1, 1), (2, 1)] : List (Nat × Nat))[i]?) [(0, t19), (1, t23), (2, t27)] fun t28 =>
  BSliceV T.impl_Node 3 1 #[Value.int IntKind.i64 0, Value.slice none 0 0, Value.slice none 0 0] [(0, t28)] w_9 fun t29 w_10 =>
  Chg S w_9 w_10 ∧
  AppendV Try.prog T.sl_impl_Node (nthV s 0) t29 w_10 fun t30 w_11 =>
  Chg S w_10 w_11 ∧
  BinV BinOp.add (nthV s 1) (Value.int IntKind.i64 1) fun t12 =>
  K [t30, t12] w_11) ∧
  (BSliceV T.int 1 0 #[Value.int IntKind.i64 0] [] w_6 fun t24_1 w_12 =>
  Chg S w_6 w_12 ∧
  AppendV Try.prog T.sl_int t20 t22 w_12 fun t23_1 w_13 =>
  Chg S w_12 w_13 ∧
  AppendV Try.prog T.sl_int t24_1 t26 w_13 fun t27_1 w_14 =>
  Chg S w_13 w_14 ∧
  BuildV #[Value.int IntKind.i64 0, Value.slice none 0 0, Value.slice none 0 0] (fun i => ([(0, 1), (1, 1), (2, 1)] : List (Nat × Nat))[i]?) [(0, t19), (1, t23_1), (2, t27_1)] fun t28_1 =>
  BSliceV T.impl_Node 3 1 #[Value.int IntKind.i64 0, Value.slice none 0 0, Value.slice none 0 0] [(0, t28_1)] w_14 fun t29_1 w_15 =>
  Chg S w_14 w_15 ∧
  AppendV Try.prog T.sl_impl_Node (nthV s 0) t29_1 w_15 fun t30_1 w_16 =>
  Chg S w_15 w_16 ∧
  BinV BinOp.add (nthV s 1) (Value.int IntKind.i64 1) fun t12_1 =>
  K [t30_1, t12_1] w_16)) ∧
  (BSliceV T.int 1 0 #[Value.int IntKind.i64 0] [] w_5 fun t24_2 w_17 =>
  Chg S w_5 w_17 ∧
  BSliceV T.int 1 0 #[Value.int IntKind.i64 0] [] w_17 fun t20_1 w_18 =>
  Chg S w_17 w_18 ∧
  AppendV Try.prog T.sl_int t20_1 t22 w_18 fun t23_2 w_19 =>
  Chg S w_18 w_19 ∧
  AppendV Try.prog T.sl_int t24_2 t26 w_19 fun t27_2 w_20 =>
  Chg S w_19 w_20 ∧
  BuildV #[Value.int IntKind.i64 0, Value.slice none 0 0, Value.slice none 0 0] (fun i => ([(0, 1), (1, 1), (2, 1)] : List (Nat × Nat))[i]?) [(0, t19), (1, t23_2), (2, t27_2)] fun t28_2 =>
  BSliceV T.impl_Node 3 1 #[Value.int IntKind.i64 0, Value.slice none 0 0, Value.slice none 0 0] [(0, t28_2)] w_20 fun t29_2 w_21 =>
  Chg S w_20 w_21 ∧
  AppendV Try.prog T.sl_impl_Node (nthV s 0) t29_2 w_21 fun t30_2 w_22 =>
  Chg S w_21 w_22 ∧
  BinV BinOp.add (nthV s 1) (Value.int IntKind.i64 1) fun t12_2 =>
  K [t30_2, t12_2] w_22))
  (R (nthV s 0) w_2)) :
    Calls Try.prog N.spec_l3Copy #[v0] w (Ret R) :=
  callsB (args := [v0]) ⟨(annOf [(3, [3, 4])]), (annOf []), []⟩ Try.func32 rfl (cast (by kernel_rfl) h)

end Go.Proofs.Ytmbfkhacejnnhaa
