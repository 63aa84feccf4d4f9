/- The conditions of functions, off their texts. Printed by a program; Lean checks each one. -/
import Derived.Test.YtpfabjjeacdikaaNames
import Derived.Test.YtpfabjjeacdikaaV9
namespace Go.Proofs.Ytpfabjjeacdikaa
open Go Go.V
set_option maxRecDepth 100000
theorem c_spec_l91Row (v0 : Value) (v1 : Value) (w : World) (R : Value → World → Prop) (h :
  BSliceV T.int 1 0 #[Value.int IntKind.i64 0] [] w fun t7 w_1 =>
  LoopV [t7, Value.int IntKind.i64 0] w_1 fun s _ w_2 K =>
  BinV BinOp.lss (nthV s 1) v1 fun t10 =>
  SplitV t10
  (CallV Try.prog N.spec_l6Rd_pick [v0, Value.int IntKind.i64 5] w_2 fun t15 w_3 =>
  CallV Try.prog N.spec_l6Rd_pick [v0, Value.int IntKind.i64 1009] w_3 fun t17 w_4 =>
  BSliceV T.int 1 2 #[Value.int IntKind.i64 0] [(0, t15), (1, t17)] w_4 fun t18 w_5 =>
  CallV Try.prog N.spec_l6Rd_pick [v0, Value.int IntKind.i64 2] w_5 fun t20 w_6 =>
  IdxV 1 t18 t20 fun t21 =>
  LoadV false 1 t21 w_6 fun t22 =>
  BSliceV T.int 1 1 #[Value.int IntKind.i64 0] [(0, t22)] w_6 fun t23 w_7 =>
  AppendV Try.prog T.sl_int (nthV s 0) t23 w_7 fun t24 w_8 =>
  BinV BinOp.add (nthV s 1) (Value.int IntKind.i64 1) fun t12 =>
  K [t24, t12] w_8)
  (BinV BinOp.gtr v1 (Value.int IntKind.i64 0) fun t26 =>
  SplitV t26
  (CallV Try.prog N.spec_l6Rd_pick [v0, Value.int IntKind.i64 50] w_2 fun t29 w_9 =>
  BinV BinOp.eql t29 (Value.int IntKind.i64 0) fun t30 =>
  SplitV t30
  (CallV Try.prog N.spec_l6Rd_pick [v0, v1] w_9 fun t35 w_10 =>
  BSliceV T.int 1 3 #[Value.int IntKind.i64 0] [(0, Value.int IntKind.i64 (-1)), (1, Value.int IntKind.i64 1008), (2, Value.int IntKind.i64 1009)] w_10 fun t36 w_11 =>
  CallV Try.prog N.spec_l6Rd_pick [v0, Value.int IntKind.i64 3] w_11 fun t38 w_12 =>
  IdxV 1 t36 t38 fun t39 =>
  LoadV false 1 t39 w_12 fun t40 =>
  IdxV 1 (nthV s 0) t35 fun t41 =>
  StoreV 1 t41 t40 w_12 fun w_13 =>
  R (nthV s 0) w_13)
  (R (nthV s 0) w_9))
  (R (nthV s 0) w_2))) :
    Calls Try.prog N.spec_l91Row #[v0, v1] w (Ret R) :=
  callsB (args := [v0, v1]) ⟨(annOf [(3, [5, 6])]), (annOf []), []⟩ Try.func93 rfl (cast (by kernel_rfl) h)

theorem c_spec_l91Node (v0 : Value) (v1 : Value) (v2 : Value) (w : World) (R : Value → World → Prop) (h :
  BoxV T.impl_Node (Value.agg #[Value.int IntKind.i64 0, Value.slice none 0 0, Value.slice none 0 0]) w fun t6 w_1 =>
  CallV Try.prog N.spec_l6Rd_pick [v0, Value.int IntKind.i64 6] w_1 fun t10 w_2 =>
  BSliceV T.int 1 0 #[Value.int IntKind.i64 0] [] w_2 fun t11 w_3 =>
  BSliceV T.int 1 0 #[Value.int IntKind.i64 0] [] w_3 fun t12 w_4 =>
  BuildV #[Value.int IntKind.i64 0, Value.slice none 0 0, Value.slice none 0 0] (fun i => ([(0, 1), (1, 1), (2, 1)] : List (Nat × Nat))[i]?) [(0, t10), (1, t11), (2, t12)] fun t13 =>
  BoxV T.impl_Node (Value.agg #[Value.int IntKind.i64 0, Value.slice none 0 0, Value.slice none 0 0]) w_4 fun t7 w_5 =>
  StoreV 3 t7 t13 w_5 fun w_6 =>
  JoinV (fun M =>
  BinV BinOp.eql v1 (Value.int IntKind.i64 0) fun t15 =>
  SplitV t15
  (FAddrV 0 t7 fun t16 =>
  StoreV 1 t16 (Value.int IntKind.i64 0) w_6 fun w_7 =>
  M [] w_7)
  (M [] w_6))
  (fun _ _ w_8 =>
  JoinV (fun M_1 =>
  FAddrV 0 t7 fun t17 =>
  LoadV false 1 t17 w_8 fun t18 =>
  BinV BinOp.eql t18 (Value.int IntKind.i64 0) fun t19 =>
  SplitV t19
  (CallV Try.prog N.spec_l91Row [v0, v2] w_8 fun t22 w_9 =>
  FAddrV 2 t7 fun t23 =>
  StoreV 1 t23 t22 w_9 fun w_10 =>
  M_1 [] w_10)
  (M_1 [] w_8))
  (fun _ _ w_11 =>
  LoopV [Value.int IntKind.i64 0] w_11 fun s_2 _ w_12 K =>
  FAddrV 0 t7 fun t25 =>
  LoadV false 1 t25 w_12 fun t26 =>
  CallV Try.prog N.spec_KindNeeds [t26] w_12 fun t27 w_13 =>
  BinV BinOp.lss (nthV s_2 0) t27 fun t28 =>
  SplitV t28
  (DrawV w_13 fun S w_14 =>
  FAddrV 1 t7 fun t31 =>
  LoadS S false 1 t31 w_14 fun t32 =>
  CallV Try.prog N.spec_l6Rd_pick [v0, v1] w_14 fun t35 w_15 =>
  Chg S w_14 w_15 ∧
  BSliceV T.int 1 1 #[Value.int IntKind.i64 0] [(0, t35)] w_15 fun t36 w_16 =>
  Chg S w_15 w_16 ∧
  AppendV Try.prog T.sl_int t32 t36 w_16 fun t37 w_17 =>
  Chg S w_16 w_17 ∧
  FAddrV 1 t7 fun t38 =>
  StoreV 1 t38 t37 w_17 fun w_18 =>
  BinV BinOp.add (nthV s_2 0) (Value.int IntKind.i64 1) fun t30 =>
  K [t30] w_18)
  (LoadV true 3 t7 w_13 fun t39 =>
  StoreV 3 t6 t39 w_13 fun w_19 =>
  LoadV true 3 t6 w_19 fun r =>
  R r w_19)))) :
    Calls Try.prog N.spec_l91Node #[v0, v1, v2] w (Ret R) :=
  callsB (args := [v0, v1, v2]) ⟨(annOf [(7, [8])]), (annOf [(4, []), (6, [])]), []⟩ Try.func92 rfl (cast (by kernel_rfl) h)

theorem c_spec_l91Plan (v0 : Value) (w : World) (R : Value → World → Prop) (h :
  BSliceV T.impl_Node 3 0 #[Value.int IntKind.i64 0, Value.slice none 0 0, Value.slice none 0 0] [] w fun t7 w_1 =>
  CallV Try.prog N.spec_l6Rd_pick [v0, Value.int IntKind.i64 4] w_1 fun t9 w_2 =>
  CallV Try.prog N.spec_l6Rd_pick [v0, Value.int IntKind.i64 8] w_2 fun t11 w_3 =>
  BinV BinOp.add (Value.int IntKind.i64 1) t11 fun t12 =>
  JoinV (fun M =>
  CallV Try.prog N.spec_l6Rd_pick [v0, Value.int IntKind.i64 16] w_3 fun t14 w_4 =>
  BinV BinOp.eql t14 (Value.int IntKind.i64 0) fun t15 =>
  SplitV t15
  (BSliceV T.int 1 3 #[Value.int IntKind.i64 0] [(0, Value.int IntKind.i64 0), (1, Value.int IntKind.i64 10), (2, Value.int IntKind.i64 11)] w_4 fun t16 w_5 =>
  CallV Try.prog N.spec_l6Rd_pick [v0, Value.int IntKind.i64 3] w_5 fun t18 w_6 =>
  IdxV 1 t16 t18 fun t19 =>
  LoadV false 1 t19 w_6 fun t20 =>
  M [t20] w_6)
  (M [t12] w_4))
  (fun s _ w_7 =>
  LoopV [t7, Value.int IntKind.i64 0] w_7 fun s_1 _ w_8 K =>
  BinV BinOp.lss (nthV s_1 1) (nthV s 0) fun t23 =>
  SplitV t23
  (CallV Try.prog N.spec_l91Node [v0, nthV s_1 1, t9] w_8 fun t30 w_9 =>
  BSliceV T.impl_Node 3 1 #[Value.int IntKind.i64 0, Value.slice none 0 0, Value.slice none 0 0] [(0, t30)] w_9 fun t31 w_10 =>
  AppendV Try.prog T.sl_impl_Node (nthV s_1 0) t31 w_10 fun t32 w_11 =>
  BinV BinOp.add (nthV s_1 1) (Value.int IntKind.i64 1) fun t25 =>
  K [t32, t25] w_11)
  (JoinV (fun M_1 =>
  BinV BinOp.gtr (nthV s 0) (Value.int IntKind.i64 1) fun t34 =>
  SplitV t34
  (CallV Try.prog N.spec_l6Rd_pick [v0, Value.int IntKind.i64 40] w_8 fun t36 w_12 =>
  BinV BinOp.eql t36 (Value.int IntKind.i64 0) fun t38 =>
  SplitV t38
  (BinV BinOp.sub (nthV s 0) (Value.int IntKind.i64 1) fun t41 =>
  BinV BinOp.sub (nthV s 0) (Value.int IntKind.i64 1) fun t43 =>
  BSliceV T.int 1 1 #[Value.int IntKind.i64 0] [(0, t43)] w_12 fun t44 w_13 =>
  BuildV #[Value.int IntKind.i64 0, Value.slice none 0 0, Value.slice none 0 0] (fun i => ([(0, 1), (1, 1), (2, 1)] : List (Nat × Nat))[i]?) [(0, Value.int IntKind.i64 4), (1, t44)] fun t45 =>
  IdxV 3 (nthV s_1 0) t41 fun t46 =>
  StoreV 3 t46 t45 w_13 fun w_14 =>
  M_1 [] w_14)
  (BinV BinOp.eql t36 (Value.int IntKind.i64 1) fun t48 =>
  SplitV t48
  (BinV BinOp.sub (nthV s 0) (Value.int IntKind.i64 1) fun t51 =>
  BinV BinOp.add t9 (Value.int IntKind.i64 1) fun t54 =>
  CallV Try.prog N.spec_l91Row [v0, t54] w_12 fun t55 w_15 =>
  BuildV #[Value.int IntKind.i64 0, Value.slice none 0 0, Value.slice none 0 0] (fun i => ([(0, 1), (1, 1), (2, 1)] : List (Nat × Nat))[i]?) [(0, Value.int IntKind.i64 0), (2, t55)] fun t56 =>
  IdxV 3 (nthV s_1 0) t51 fun t57 =>
  StoreV 3 t57 t56 w_15 fun w_16 =>
  M_1 [] w_16)
  (M_1 [] w_12)))
  (M_1 [] w_8))
  (fun _ _ w_17 =>
  R (nthV s_1 0) w_17)))) :
    Calls Try.prog N.spec_l91Plan #[v0] w (Ret R) :=
  callsB (args := [v0]) ⟨(annOf [(7, [3, 6])]), (annOf [(6, [5]), (16, [])]), []⟩ Try.func54 rfl (cast (by kernel_rfl) h)

end Go.Proofs.Ytpfabjjeacdikaa
