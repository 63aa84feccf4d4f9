/- The conditions of functions, off their texts. Printed by a program; Lean checks each one. -/
import Derived.Test.YtpfabjjeacdikaaNames
import Derived.Test.YtpfabjjeacdikaaV9
namespace Go.Proofs.Ytpfabjjeacdikaa
open Go Go.V
set_option maxRecDepth 100000
theorem c_impl_isNode (v0 : Value) (v1 : Value) (w : World) (R : Value → World → Prop) (h :
  BinV BinOp.geq v1 (Value.int IntKind.i64 0) fun t6 =>
  SplitV t6
  (LenV v0 fun t10 =>
  BinV BinOp.lss v1 t10 fun t11 =>
  R t11 w)
  (R (Value.bool false) w)) :
    Calls Try.prog N.impl_isNode #[v0, v1] w (Ret R) :=
  callsB (args := [v0, v1]) ⟨(annOf []), (annOf []), []⟩ Try.func63 rfl (cast (by kernel_rfl) h)

theorem c_impl_PlanUses (v0 : Value) (v1 : Value) (w : World) (R : Value → World → Prop) (h :
  CallV Try.prog N.impl_graphOf [v0] w fun t12 w_1 =>
  ExtractV t12 0 fun t13 =>
  ExtractV t12 1 fun t14 =>
  NotV t14 fun t16 =>
  SplitV t16
  (R (Value.slice none 0 0) w_1)
  (CallV Try.prog N.impl_isNode [v0, v1] w_1 fun t20 w_2 =>
  NotV t20 fun t21 =>
  SplitV t21
  (R (Value.slice none 0 0) w_2)
  (IdxV 1 t13 v1 fun t25 =>
  LoadV false 1 t25 w_2 fun t26 =>
  NilV t26 fun t27 =>
  FAddrV 2 t27 fun t28 =>
  LoadV false 1 t28 w_2 fun t29 =>
  LenV t29 fun t30 =>
  LoopV [Value.slice none 0 0, Value.int IntKind.i64 0] w_2 fun s _ w_3 K =>
  BinV BinOp.lss (nthV s 1) t30 fun t32 =>
  SplitV t32
  (IdxV 1 t29 (nthV s 1) fun t33 =>
  LoadV false 1 t33 w_3 fun t34 =>
  NilV t34 fun t37 =>
  FAddrV 0 t37 fun t38 =>
  LoadV false 1 t38 w_3 fun t39 =>
  BSliceV T.int 1 1 #[Value.int IntKind.i64 0] [(0, t39)] w_3 fun t40 w_4 =>
  AppendV Try.prog T.sl_int (nthV s 0) t40 w_4 fun t41 w_5 =>
  BinV BinOp.add (nthV s 1) (Value.int IntKind.i64 1) fun t42 =>
  K [t41, t42] w_5)
  (R (nthV s 0) w_3)))) :
    Calls Try.prog N.impl_PlanUses #[v0, v1] w (Ret R) :=
  callsB (args := [v0, v1]) ⟨(annOf [(6, [7, 31])]), (annOf []), []⟩ Try.func97 rfl (cast (by kernel_rfl) h)

theorem c_impl_allIn (v0 : Value) (v1 : Value) (w : World) (R : Value → World → Prop) (h :
  LenV v0 fun t8 =>
  LoopV [Value.int IntKind.i64 0] w fun s _ w_1 K =>
  BinV BinOp.lss (nthV s 0) t8 fun t10 =>
  SplitV t10
  (IdxV 1 v0 (nthV s 0) fun t11 =>
  LoadV false 1 t11 w_1 fun t12 =>
  NilV v1 fun t15 =>
  IdxAV 10 1 t15 t12 fun t16 =>
  LoadV false 1 t16 w_1 fun t17 =>
  NotV t17 fun t18 =>
  SplitV t18
  (R (Value.bool false) w_1)
  (BinV BinOp.add (nthV s 0) (Value.int IntKind.i64 1) fun t19 =>
  K [t19] w_1))
  (R (Value.bool true) w_1)) :
    Calls Try.prog N.impl_allIn #[v0, v1] w (Ret R) :=
  callsB (args := [v0, v1]) ⟨(annOf [(2, [9])]), (annOf []), []⟩ Try.func64 rfl (cast (by kernel_rfl) h)

theorem c_impl_ReadyOf (v0 : Value) (v1 : Value) (w : World) (R : Value → World → Prop) (h :
  CallV Try.prog N.impl_PlanValid [v0] w fun t12 w_1 =>
  NotV t12 fun t13 =>
  SplitV t13
  (R (Value.slice none 0 0) w_1)
  (BoxV T.a10_bool (Value.agg #[Value.bool false, Value.bool false, Value.bool false, Value.bool false, Value.bool false, Value.bool false, Value.bool false, Value.bool false, Value.bool false, Value.bool false]) w_1 fun t5 w_2 =>
  LenV v1 fun t15 =>
  LoopV [Value.int IntKind.i64 0] w_2 fun s _ w_3 K =>
  BinV BinOp.lss (nthV s 0) t15 fun t17 =>
  SplitV t17
  (IdxV 1 v1 (nthV s 0) fun t18 =>
  LoadV false 1 t18 w_3 fun t19 =>
  CallV Try.prog N.impl_isNode [v0, t19] w_3 fun t22 w_4 =>
  SplitV t22
  (IdxAV 10 1 t5 t19 fun t24 =>
  StoreV 1 t24 (Value.bool true) w_4 fun w_5 =>
  BinV BinOp.add (nthV s 0) (Value.int IntKind.i64 1) fun t25 =>
  K [t25] w_5)
  (BinV BinOp.add (nthV s 0) (Value.int IntKind.i64 1) fun t25_1 =>
  K [t25_1] w_4))
  (LenV v0 fun t27 =>
  LoopV [Value.slice none 0 0, Value.int IntKind.i64 0] w_3 fun s_1 _ w_6 K_1 =>
  BinV BinOp.lss (nthV s_1 1) t27 fun t29 =>
  SplitV t29
  (IdxV 3 v0 (nthV s_1 1) fun t31 =>
  LoadV true 3 t31 w_6 fun t32 =>
  BoxV T.impl_Node (Value.agg #[Value.int IntKind.i64 0, Value.slice none 0 0, Value.slice none 0 0]) w_6 fun t10 w_7 =>
  StoreV 3 t10 t32 w_7 fun w_8 =>
  IdxAV 10 1 t5 (nthV s_1 1) fun t34 =>
  LoadV false 1 t34 w_8 fun t35 =>
  NotV t35 fun t36 =>
  SplitV t36
  (FAddrV 1 t10 fun t38 =>
  LoadV false 1 t38 w_8 fun t39 =>
  CallV Try.prog N.impl_allIn [t39, t5] w_8 fun t40 w_9 =>
  SplitV t40
  (BSliceV T.int 1 1 #[Value.int IntKind.i64 0] [(0, nthV s_1 1)] w_9 fun t44 w_10 =>
  AppendV Try.prog T.sl_int (nthV s_1 0) t44 w_10 fun t45 w_11 =>
  BinV BinOp.add (nthV s_1 1) (Value.int IntKind.i64 1) fun t46 =>
  K_1 [t45, t46] w_11)
  (BinV BinOp.add (nthV s_1 1) (Value.int IntKind.i64 1) fun t46_1 =>
  K_1 [nthV s_1 0, t46_1] w_9))
  (BinV BinOp.add (nthV s_1 1) (Value.int IntKind.i64 1) fun t46_2 =>
  K_1 [nthV s_1 0, t46_2] w_8))
  (R (nthV s_1 0) w_6)))) :
    Calls Try.prog N.impl_ReadyOf #[v0, v1] w (Ret R) :=
  callsB (args := [v0, v1]) ⟨(annOf [(5, [16]), (12, [8, 28])]), (annOf []), []⟩ Try.func19 rfl (cast (by kernel_rfl) h)

theorem c_spec_l5All (v0 : Value) (v1 : Value) (w : World) (R : Value → World → Prop) (h :
  LoopV [Value.int IntKind.i64 0] w fun s _ w_1 K =>
  LenV v1 fun t8 =>
  BinV BinOp.lss (nthV s 0) t8 fun t9 =>
  SplitV t9
  (IdxV 1 v1 (nthV s 0) fun t15 =>
  LoadV false 1 t15 w_1 fun t16 =>
  CallV Try.prog N.spec_l3Has [v0, t16] w_1 fun t17 w_2 =>
  NotV t17 fun t18 =>
  SplitV t18
  (R (Value.bool false) w_2)
  (BinV BinOp.add (nthV s 0) (Value.int IntKind.i64 1) fun t11 =>
  K [t11] w_2))
  (R (Value.bool true) w_1)) :
    Calls Try.prog N.spec_l5All #[v0, v1] w (Ret R) :=
  callsB (args := [v0, v1]) ⟨(annOf [(2, [5])]), (annOf []), []⟩ Try.func61 rfl (cast (by kernel_rfl) h)

theorem c_spec_ReadyOf (v0 : Value) (v1 : Value) (w : World) (R : Value → World → Prop) (h :
  BSliceV T.int 1 0 #[Value.int IntKind.i64 0] [] w fun t7 w_1 =>
  LoopV [t7, Value.int IntKind.i64 0] w_1 fun s _ w_2 K =>
  LenV v0 fun t10 =>
  BinV BinOp.lss (nthV s 1) t10 fun t11 =>
  SplitV t11
  (CallV Try.prog N.spec_PlanValid [v0] w_2 fun t14 w_3 =>
  SplitV t14
  (CallV Try.prog N.spec_l3Has [v1, nthV s 1] w_3 fun t20 w_4 =>
  NotV t20 fun t21 =>
  SplitV t21
  (IdxV 3 v0 (nthV s 1) fun t26 =>
  FAddrV 1 t26 fun t27 =>
  LoadV false 1 t27 w_4 fun t28 =>
  CallV Try.prog N.spec_l5All [v1, t28] w_4 fun t29 w_5 =>
  SplitV t29
  (BSliceV T.int 1 1 #[Value.int IntKind.i64 0] [(0, nthV s 1)] w_5 fun t33 w_6 =>
  AppendV Try.prog T.sl_int (nthV s 0) t33 w_6 fun t34 w_7 =>
  BinV BinOp.add (nthV s 1) (Value.int IntKind.i64 1) fun t17 =>
  K [t34, t17] w_7)
  (BinV BinOp.add (nthV s 1) (Value.int IntKind.i64 1) fun t17_1 =>
  K [nthV s 0, t17_1] w_5))
  (BinV BinOp.add (nthV s 1) (Value.int IntKind.i64 1) fun t17_2 =>
  K [nthV s 0, t17_2] w_4))
  (R (nthV s 0) w_3))
  (R (nthV s 0) w_2)) :
    Calls Try.prog N.spec_ReadyOf #[v0, v1] w (Ret R) :=
  callsB (args := [v0, v1]) ⟨(annOf [(3, [5, 6])]), (annOf []), []⟩ Try.func94 rfl (cast (by kernel_rfl) h)

theorem c_impl_copyInts (v0 : Value) (w : World) (R : Value → World → Prop) (h :
  AppendV Try.prog T.sl_int (Value.slice none 0 0) v0 w fun t4 w_1 =>
  R t4 w_1) :
    Calls Try.prog N.impl_copyInts #[v0] w (Ret R) :=
  callsB (args := [v0]) ⟨(annOf []), (annOf []), []⟩ Try.func87 rfl (cast (by kernel_rfl) h)

theorem c_impl_copyNode (v0 : Value) (w : World) (R : Value → World → Prop) (h :
  BoxV T.impl_Node v0 w fun t1 w_1 =>
  BoxV T.impl_Node (Value.agg #[Value.int IntKind.i64 0, Value.slice none 0 0, Value.slice none 0 0]) w_1 fun t2 w_2 =>
  DrawV w_2 fun S w_3 =>
  FAddrV 0 t1 fun t3 =>
  LoadS S false 1 t3 w_3 fun t4 =>
  FAddrV 1 t1 fun t5 =>
  LoadS S false 1 t5 w_3 fun t6 =>
  FAddrV 2 t1 fun t8 =>
  LoadS S false 1 t8 w_3 fun t9 =>
  CallV Try.prog N.impl_copyInts [t6] w_3 fun t7 w_4 =>
  Chg S w_3 w_4 ∧
  CallV Try.prog N.impl_copyInts [t9] w_4 fun t10 w_5 =>
  Chg S w_4 w_5 ∧
  BuildV #[Value.int IntKind.i64 0, Value.slice none 0 0, Value.slice none 0 0] (fun i => ([(0, 1), (1, 1), (2, 1)] : List (Nat × Nat))[i]?) [(0, t4), (1, t7), (2, t10)] fun t11 =>
  StoreV 3 t2 t11 w_5 fun w_6 =>
  LoadV true 3 t2 w_6 fun r =>
  R r w_6) :
    Calls Try.prog N.impl_copyNode #[v0] w (Ret R) :=
  callsB (args := [v0]) ⟨(annOf []), (annOf []), []⟩ Try.func81 rfl (cast (by kernel_rfl) h)

theorem c_laws_hasInt (v0 : Value) (v1 : Value) (w : World) (R : Value → World → Prop) (h :
  LoopV [Value.int IntKind.i64 0] w fun s _ w_1 K =>
  LenV v0 fun t8 =>
  BinV BinOp.lss (nthV s 0) t8 fun t9 =>
  SplitV t9
  (IdxV 1 v0 (nthV s 0) fun t14 =>
  LoadV false 1 t14 w_1 fun t15 =>
  BinV BinOp.eql t15 v1 fun t17 =>
  SplitV t17
  (R (Value.bool true) w_1)
  (BinV BinOp.add (nthV s 0) (Value.int IntKind.i64 1) fun t11 =>
  K [t11] w_1))
  (R (Value.bool false) w_1)) :
    Calls Try.prog N.laws_hasInt #[v0, v1] w (Ret R) :=
  callsB (args := [v0, v1]) ⟨(annOf [(2, [5])]), (annOf []), []⟩ Try.func18 rfl (cast (by kernel_rfl) h)

theorem c_impl_orderBegins (v0 : Value) (v1 : Value) (w : World) (R : Value → World → Prop) (h :
  BoxV T.a10_bool (Value.agg #[Value.bool false, Value.bool false, Value.bool false, Value.bool false, Value.bool false, Value.bool false, Value.bool false, Value.bool false, Value.bool false, Value.bool false]) w fun t5 w_1 =>
  LenV v1 fun t9 =>
  LoopV [Value.int IntKind.i64 0] w_1 fun s _ w_2 K =>
  BinV BinOp.lss (nthV s 0) t9 fun t11 =>
  SplitV t11
  (IdxV 1 v1 (nthV s 0) fun t12 =>
  LoadV false 1 t12 w_2 fun t13 =>
  CallV Try.prog N.impl_isNode [v0, t13] w_2 fun t16 w_3 =>
  NotV t16 fun t17 =>
  SplitV t17
  (R (Value.bool false) w_3)
  (IdxAV 10 1 t5 t13 fun t20 =>
  LoadV false 1 t20 w_3 fun t21 =>
  SplitV t21
  (R (Value.bool false) w_3)
  (IdxV 3 v0 t13 fun t26 =>
  FAddrV 1 t26 fun t27 =>
  LoadV false 1 t27 w_3 fun t28 =>
  CallV Try.prog N.impl_allIn [t28, t5] w_3 fun t29 w_4 =>
  NotV t29 fun t30 =>
  SplitV t30
  (R (Value.bool false) w_4)
  (IdxAV 10 1 t5 t13 fun t33 =>
  StoreV 1 t33 (Value.bool true) w_4 fun w_5 =>
  BinV BinOp.add (nthV s 0) (Value.int IntKind.i64 1) fun t34 =>
  K [t34] w_5))))
  (R (Value.bool true) w_2)) :
    Calls Try.prog N.impl_orderBegins #[v0, v1] w (Ret R) :=
  callsB (args := [v0, v1]) ⟨(annOf [(3, [10])]), (annOf []), []⟩ Try.func58 rfl (cast (by kernel_rfl) h)

theorem c_impl_OrderFits (v0 : Value) (v1 : Value) (w : World) (R : Value → World → Prop) (h :
  CallV Try.prog N.impl_PlanValid [v0] w fun t6 w_1 =>
  SplitV t6
  (LenV v1 fun t9 =>
  LenV v0 fun t11 =>
  BinV BinOp.eql t9 t11 fun t12 =>
  SplitV t12
  (CallV Try.prog N.impl_orderBegins [v0, v1] w_1 fun t17 w_2 =>
  R t17 w_2)
  (R (Value.bool false) w_1))
  (R (Value.bool false) w_1)) :
    Calls Try.prog N.impl_OrderFits #[v0, v1] w (Ret R) :=
  callsB (args := [v0, v1]) ⟨(annOf []), (annOf []), []⟩ Try.func16 rfl (cast (by kernel_rfl) h)

theorem c_spec_OrderFits (v0 : Value) (v1 : Value) (w : World) (R : Value → World → Prop) (h :
  LoopV [Value.int IntKind.i64 0] w fun s _ w_1 K =>
  LenV v1 fun t8 =>
  BinV BinOp.lss (nthV s 0) t8 fun t9 =>
  SplitV t9
  (DrawV w_1 fun S w_2 =>
  IdxV 1 v1 (nthV s 0) fun t14 =>
  LoadS S false 1 t14 w_2 fun t15 =>
  LenV v0 fun t17 =>
  BinV BinOp.sub t17 (Value.int IntKind.i64 1) fun t18 =>
  CallV Try.prog N.spec_l6In [t15, Value.int IntKind.i64 0, t18] w_2 fun t19 w_3 =>
  Chg S w_2 w_3 ∧
  NotV t19 fun t20 =>
  SplitV t20
  (R (Value.bool false) w_3)
  (SliceV 1 v1 none (some (nthV s 0)) fun t24 =>
  IdxV 1 v1 (nthV s 0) fun t27 =>
  LoadS S false 1 t27 w_3 fun t28 =>
  CallV Try.prog N.spec_l3Has [t24, t28] w_3 fun t29 w_4 =>
  Chg S w_3 w_4 ∧
  SplitV t29
  (R (Value.bool false) w_4)
  (SliceV 1 v1 none (some (nthV s 0)) fun t34 =>
  IdxV 1 v1 (nthV s 0) fun t38 =>
  LoadS S false 1 t38 w_4 fun t39 =>
  IdxV 3 v0 t39 fun t40 =>
  FAddrV 1 t40 fun t41 =>
  LoadS S false 1 t41 w_4 fun t42 =>
  CallV Try.prog N.spec_l5All [t34, t42] w_4 fun t43 w_5 =>
  Chg S w_4 w_5 ∧
  NotV t43 fun t44 =>
  SplitV t44
  (R (Value.bool false) w_5)
  (BinV BinOp.add (nthV s 0) (Value.int IntKind.i64 1) fun t11 =>
  K [t11] w_5))))
  (CallV Try.prog N.spec_PlanValid [v0] w_1 fun t47 w_6 =>
  SplitV t47
  (LenV v1 fun t50 =>
  LenV v0 fun t52 =>
  BinV BinOp.eql t50 t52 fun t53 =>
  R t53 w_6)
  (R (Value.bool false) w_6))) :
    Calls Try.prog N.spec_OrderFits #[v0, v1] w (Ret R) :=
  callsB (args := [v0, v1]) ⟨(annOf [(2, [5])]), (annOf []), []⟩ Try.func17 rfl (cast (by kernel_rfl) h)

end Go.Proofs.Ytpfabjjeacdikaa
