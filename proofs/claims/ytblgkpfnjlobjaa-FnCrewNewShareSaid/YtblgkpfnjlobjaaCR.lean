/- The conditions of functions, off their texts. Printed by a program; Lean checks each one. -/
import Derived.Test.YtblgkpfnjlobjaaNames
import Derived.Test.YtblgkpfnjlobjaaV9
namespace Go.Proofs.Ytblgkpfnjlobjaa
open Go Go.V
set_option maxRecDepth 100000
theorem c_impl_CrewNew (v0 : Value) (v1 : Value) (w : World) (R : Value → World → Prop) (h :
  BoxV T.impl_Crew (Value.agg #[Value.slice none 0 0, Value.slice none 0 0, Value.slice none 0 0, Value.slice none 0 0]) w fun t4 w_1 =>
  CallV Try.prog N.impl_PlanValid [v0] w_1 fun t14 w_2 =>
  NotV t14 fun t15 =>
  SplitV t15
  (BuildV #[Value.slice none 0 0, Value.slice none 0 0, Value.slice none 0 0, Value.slice none 0 0] (fun i => ([(0, 1), (1, 1), (2, 1), (3, 1)] : List (Nat × Nat))[i]?) [] fun t21 =>
  StoreV 4 t4 t21 w_2 fun w_3 =>
  LoadV true 4 t4 w_3 fun r =>
  R (Value.tuple #[r, Value.bool false]) w_3)
  (CallV Try.prog N.impl_workersFit [v1] w_2 fun t18 w_4 =>
  NotV t18 fun t19 =>
  SplitV t19
  (BuildV #[Value.slice none 0 0, Value.slice none 0 0, Value.slice none 0 0, Value.slice none 0 0] (fun i => ([(0, 1), (1, 1), (2, 1), (3, 1)] : List (Nat × Nat))[i]?) [] fun t21_1 =>
  StoreV 4 t4 t21_1 w_4 fun w_5 =>
  LoadV true 4 t4 w_5 fun r_1 =>
  R (Value.tuple #[r_1, Value.bool false]) w_5)
  (MakeSliceV T.impl_deque_int 1 24 #[Value.slice none 0 0] v1 v1 w_4 fun t23 w_6 =>
  CallV Try.prog N.impl_CountsOf [v0] w_6 fun t25 w_7 =>
  CallV Try.prog N.impl_CountsReady [t25] w_7 fun t27 w_8 =>
  LenV t27 fun t28 =>
  LoopV [Value.int IntKind.i64 0] w_8 fun s _ w_9 K =>
  BinV BinOp.lss (nthV s 0) t28 fun t30 =>
  SplitV t30
  (IdxV 1 t27 (nthV s 0) fun t32 =>
  LoadV false 1 t32 w_9 fun t33 =>
  BinV BinOp.rem (nthV s 0) v1 fun t37 =>
  IdxV 1 t23 t37 fun t38 =>
  CallV Try.prog N.impl_deque_push [t38, t33] w_9 fun _ w_10 =>
  BinV BinOp.add (nthV s 0) (Value.int IntKind.i64 1) fun t41 =>
  K [t41] w_10)
  (LenV v0 fun t44 =>
  MakeSliceV T.sl_int 1 24 #[Value.slice none 0 0] t44 t44 w_9 fun t45 w_11 =>
  BuildV #[Value.slice none 0 0, Value.slice none 0 0, Value.slice none 0 0, Value.slice none 0 0] (fun i => ([(0, 1), (1, 1), (2, 1), (3, 1)] : List (Nat × Nat))[i]?) [(1, t25), (3, t45)] fun t46 =>
  BoxV T.impl_Crew (Value.agg #[Value.slice none 0 0, Value.slice none 0 0, Value.slice none 0 0, Value.slice none 0 0]) w_11 fun t10 w_12 =>
  StoreV 4 t10 t46 w_12 fun w_13 =>
  LenV t23 fun t48 =>
  LoopV [Value.int IntKind.i64 0] w_13 fun s_1 _ w_14 K_1 =>
  BinV BinOp.lss (nthV s_1 0) t48 fun t50 =>
  SplitV t50
  (IdxV 1 t23 (nthV s_1 0) fun t51 =>
  LoadV true 1 t51 w_14 fun t52 =>
  BoxV T.impl_deque_int (Value.agg #[Value.slice none 0 0]) w_14 fun t12 w_15 =>
  StoreV 1 t12 t52 w_15 fun w_16 =>
  FAddrV 0 t10 fun t53 =>
  LoadV false 1 t53 w_16 fun t54 =>
  FAddrV 0 t12 fun t55 =>
  LoadV false 1 t55 w_16 fun t56 =>
  BSliceV T.sl_int 1 1 #[Value.slice none 0 0] [(0, t56)] w_16 fun t57 w_17 =>
  AppendV Try.prog T.sl_sl_int t54 t57 w_17 fun t58 w_18 =>
  FAddrV 0 t10 fun t59 =>
  StoreV 1 t59 t58 w_18 fun w_19 =>
  BinV BinOp.add (nthV s_1 0) (Value.int IntKind.i64 1) fun t60 =>
  K_1 [t60] w_19)
  (LoadV true 4 t10 w_14 fun t61 =>
  StoreV 4 t4 t61 w_14 fun w_20 =>
  LoadV true 4 t4 w_20 fun r_2 =>
  R (Value.tuple #[r_2, Value.bool true]) w_20))))) :
    Calls Try.prog N.impl_CrewNew #[v0, v1] w (Ret R) :=
  callsB (args := [v0, v1]) ⟨(annOf [(6, [29]), (12, [49])]), (annOf []), []⟩ Try.func42 rfl (cast (by kernel_rfl) h)

theorem c_spec_CrewNew (v0 : Value) (v1 : Value) (w : World) (R : Value → World → Prop) (h :
  BoxV T.impl_Crew (Value.agg #[Value.slice none 0 0, Value.slice none 0 0, Value.slice none 0 0, Value.slice none 0 0]) w fun t4 w_1 =>
  CallV Try.prog N.spec_PlanValid [v0] w_1 fun t12 w_2 =>
  NotV t12 fun t13 =>
  SplitV t13
  (BuildV #[Value.slice none 0 0, Value.slice none 0 0, Value.slice none 0 0, Value.slice none 0 0] (fun i => ([(0, 1), (1, 1), (2, 1), (3, 1)] : List (Nat × Nat))[i]?) [] fun t19 =>
  StoreV 4 t4 t19 w_2 fun w_3 =>
  LoadV true 4 t4 w_3 fun r =>
  R (Value.tuple #[r, Value.bool false]) w_3)
  (CallV Try.prog N.spec_l6In [v1, Value.int IntKind.i64 1, Value.int IntKind.i64 4] w_2 fun t16 w_4 =>
  NotV t16 fun t17 =>
  SplitV t17
  (BuildV #[Value.slice none 0 0, Value.slice none 0 0, Value.slice none 0 0, Value.slice none 0 0] (fun i => ([(0, 1), (1, 1), (2, 1), (3, 1)] : List (Nat × Nat))[i]?) [] fun t19_1 =>
  StoreV 4 t4 t19_1 w_4 fun w_5 =>
  LoadV true 4 t4 w_5 fun r_1 =>
  R (Value.tuple #[r_1, Value.bool false]) w_5)
  (CallV Try.prog N.spec_l11Counts [v0] w_4 fun t21 w_6 =>
  BSliceV T.int 1 0 #[Value.int IntKind.i64 0] [] w_6 fun t22 w_7 =>
  BuildV #[Value.slice none 0 0, Value.slice none 0 0, Value.slice none 0 0, Value.slice none 0 0] (fun i => ([(0, 1), (1, 1), (2, 1), (3, 1)] : List (Nat × Nat))[i]?) [(1, t21), (2, t22)] fun t23 =>
  BoxV T.impl_Crew (Value.agg #[Value.slice none 0 0, Value.slice none 0 0, Value.slice none 0 0, Value.slice none 0 0]) w_7 fun t6 w_8 =>
  StoreV 4 t6 t23 w_8 fun w_9 =>
  LoopV [Value.int IntKind.i64 0] w_9 fun s _ w_10 K =>
  BinV BinOp.lss (nthV s 0) v1 fun t26 =>
  SplitV t26
  (FAddrV 0 t6 fun t29 =>
  LoadV false 1 t29 w_10 fun t30 =>
  BSliceV T.int 1 0 #[Value.int IntKind.i64 0] [] w_10 fun t31 w_11 =>
  BSliceV T.sl_int 1 1 #[Value.slice none 0 0] [(0, t31)] w_11 fun t32 w_12 =>
  AppendV Try.prog T.sl_sl_int t30 t32 w_12 fun t33 w_13 =>
  FAddrV 0 t6 fun t34 =>
  StoreV 1 t34 t33 w_13 fun w_14 =>
  BinV BinOp.add (nthV s 0) (Value.int IntKind.i64 1) fun t28 =>
  K [t28] w_14)
  (LoopV [Value.int IntKind.i64 0] w_10 fun s_1 _ w_15 K_1 =>
  LenV v0 fun t37 =>
  BinV BinOp.lss (nthV s_1 0) t37 fun t38 =>
  SplitV t38
  (FAddrV 3 t6 fun t41 =>
  LoadV false 1 t41 w_15 fun t42 =>
  BSliceV T.int 1 0 #[Value.int IntKind.i64 0] [] w_15 fun t43 w_16 =>
  BSliceV T.sl_int 1 1 #[Value.slice none 0 0] [(0, t43)] w_16 fun t44 w_17 =>
  AppendV Try.prog T.sl_sl_int t42 t44 w_17 fun t45 w_18 =>
  FAddrV 3 t6 fun t46 =>
  StoreV 1 t46 t45 w_18 fun w_19 =>
  BinV BinOp.add (nthV s_1 0) (Value.int IntKind.i64 1) fun t40 =>
  K_1 [t40] w_19)
  (FAddrV 1 t6 fun t47 =>
  LoadV false 1 t47 w_15 fun t48 =>
  CallV Try.prog N.spec_CountsReady [t48] w_15 fun t49 w_20 =>
  LoopV [Value.int IntKind.i64 0] w_20 fun s_2 _ w_21 K_2 =>
  LenV t49 fun t52 =>
  BinV BinOp.lss (nthV s_2 0) t52 fun t53 =>
  SplitV t53
  (DrawV w_21 fun S w_22 =>
  FAddrV 0 t6 fun t56 =>
  LoadS S false 1 t56 w_22 fun t57 =>
  BinV BinOp.rem (nthV s_2 0) v1 fun t60 =>
  FAddrV 0 t6 fun t61 =>
  LoadS S false 1 t61 w_22 fun t62 =>
  BinV BinOp.rem (nthV s_2 0) v1 fun t65 =>
  IdxV 1 t62 t65 fun t66 =>
  LoadS S false 1 t66 w_22 fun t67 =>
  IdxV 1 t49 (nthV s_2 0) fun t70 =>
  LoadS S false 1 t70 w_22 fun t71 =>
  BSliceV T.int 1 1 #[Value.int IntKind.i64 0] [(0, t71)] w_22 fun t72 w_23 =>
  Chg S w_22 w_23 ∧
  AppendV Try.prog T.sl_int t67 t72 w_23 fun t73 w_24 =>
  Chg S w_23 w_24 ∧
  IdxV 1 t57 t60 fun t74 =>
  StoreV 1 t74 t73 w_24 fun w_25 =>
  BinV BinOp.add (nthV s_2 0) (Value.int IntKind.i64 1) fun t55 =>
  K_2 [t55] w_25)
  (LoadV true 4 t6 w_21 fun t75 =>
  StoreV 4 t4 t75 w_21 fun w_26 =>
  LoadV true 4 t4 w_26 fun r_2 =>
  R (Value.tuple #[r_2, Value.bool true]) w_26)))))) :
    Calls Try.prog N.spec_CrewNew #[v0, v1] w (Ret R) :=
  callsB (args := [v0, v1]) ⟨(annOf [(5, [7]), (9, [8]), (14, [10])]), (annOf []), []⟩ Try.func41 rfl (cast (by kernel_rfl) h)

theorem c_impl_deque_push (v0 : Value) (v1 : Value) (w : World) (R : Value → World → Prop) (h :
  NilV v0 fun t6 =>
  FAddrV 0 t6 fun t7 =>
  LoadV false 1 t7 w fun t8 =>
  BSliceV T.int 1 1 #[Value.int IntKind.i64 0] [(0, v1)] w fun t10 w_1 =>
  AppendV Try.prog T.sl_int t8 t10 w_1 fun t11 w_2 =>
  NilV v0 fun t12 =>
  FAddrV 0 t12 fun t13 =>
  StoreV 1 t13 t11 w_2 fun w_3 =>
  R (Value.tuple #[]) w_3) :
    Calls Try.prog N.impl_deque_push #[v0, v1] w (Ret R) :=
  callsB (args := [v0, v1]) ⟨(annOf []), (annOf []), []⟩ Try.func78 rfl (cast (by kernel_rfl) h)

theorem c_laws_eqIntSS (v0 : Value) (v1 : Value) (w : World) (R : Value → World → Prop) (h :
  LenV v0 fun t7 =>
  LenV v1 fun t9 =>
  BinV BinOp.neq t7 t9 fun t10 =>
  SplitV t10
  (R (Value.bool false) w)
  (LoopV [Value.int IntKind.i64 0] w fun s _ w_1 K =>
  LenV v0 fun t13 =>
  BinV BinOp.lss (nthV s 0) t13 fun t14 =>
  SplitV t14
  (DrawV w_1 fun S w_2 =>
  IdxV 1 v0 (nthV s 0) fun t19 =>
  LoadS S false 1 t19 w_2 fun t20 =>
  IdxV 1 v1 (nthV s 0) fun t23 =>
  LoadS S false 1 t23 w_2 fun t24 =>
  CallV Try.prog N.laws_eqIntS [t20, t24] w_2 fun t25 w_3 =>
  Chg S w_2 w_3 ∧
  NotV t25 fun t26 =>
  SplitV t26
  (R (Value.bool false) w_3)
  (BinV BinOp.add (nthV s 0) (Value.int IntKind.i64 1) fun t16 =>
  K [t16] w_3))
  (R (Value.bool true) w_1))) :
    Calls Try.prog N.laws_eqIntSS #[v0, v1] w (Ret R) :=
  callsB (args := [v0, v1]) ⟨(annOf [(4, [5])]), (annOf []), []⟩ Try.func79 rfl (cast (by kernel_rfl) h)

theorem c_laws_eqCrew (v0 : Value) (v1 : Value) (w : World) (R : Value → World → Prop) (h :
  BoxV T.impl_Crew v0 w fun t2 w_1 =>
  BoxV T.impl_Crew v1 w_1 fun t3 w_2 =>
  FAddrV 0 t2 fun t5 =>
  LoadV false 1 t5 w_2 fun t6 =>
  FAddrV 0 t3 fun t7 =>
  LoadV false 1 t7 w_2 fun t8 =>
  CallV Try.prog N.laws_eqIntSS [t6, t8] w_2 fun t9 w_3 =>
  NotV t9 fun t10 =>
  SplitV t10
  (R (Value.bool false) w_3)
  (FAddrV 1 t2 fun t11 =>
  LoadV false 1 t11 w_3 fun t12 =>
  FAddrV 1 t3 fun t13 =>
  LoadV false 1 t13 w_3 fun t14 =>
  CallV Try.prog N.laws_eqIntS [t12, t14] w_3 fun t15 w_4 =>
  NotV t15 fun t16 =>
  SplitV t16
  (R (Value.bool false) w_4)
  (FAddrV 2 t2 fun t17 =>
  LoadV false 1 t17 w_4 fun t18 =>
  FAddrV 2 t3 fun t19 =>
  LoadV false 1 t19 w_4 fun t20 =>
  CallV Try.prog N.laws_eqIntS [t18, t20] w_4 fun t21 w_5 =>
  NotV t21 fun t22 =>
  SplitV t22
  (R (Value.bool false) w_5)
  (FAddrV 3 t2 fun t23 =>
  LoadV false 1 t23 w_5 fun t24 =>
  FAddrV 3 t3 fun t25 =>
  LoadV false 1 t25 w_5 fun t26 =>
  CallV Try.prog N.laws_eqIntSS [t24, t26] w_5 fun t27 w_6 =>
  NotV t27 fun t28 =>
  SplitV t28
  (R (Value.bool false) w_6)
  (R (Value.bool true) w_6))))) :
    Calls Try.prog N.laws_eqCrew #[v0, v1] w (Ret R) :=
  callsB (args := [v0, v1]) ⟨(annOf []), (annOf []), []⟩ Try.func43 rfl (cast (by kernel_rfl) h)

theorem c_laws_markIntSS (v0 : Value) (v1 : Value) (w : World) (R : Value → World → Prop) (h :
  LoopV [v1, Value.int IntKind.i64 0] w fun s _ w_1 K =>
  LenV v0 fun t8 =>
  BinV BinOp.lss (nthV s 1) t8 fun t9 =>
  SplitV t9
  (IdxV 1 v0 (nthV s 1) fun t14 =>
  LoadV false 1 t14 w_1 fun t15 =>
  CallV Try.prog N.laws_markIntS [t15, nthV s 0] w_1 fun t17 w_2 =>
  BinV BinOp.add (nthV s 1) (Value.int IntKind.i64 1) fun t11 =>
  K [t17, t11] w_2)
  (R (nthV s 0) w_1)) :
    Calls Try.prog N.laws_markIntSS #[v0, v1] w (Ret R) :=
  callsB (args := [v0, v1]) ⟨(annOf [(2, [1, 5])]), (annOf []), []⟩ Try.func80 rfl (cast (by kernel_rfl) h)

theorem c_laws_markCrew (v0 : Value) (v1 : Value) (w : World) (R : Value → World → Prop) (h :
  BoxV T.impl_Crew v0 w fun t2 w_1 =>
  FAddrV 0 t2 fun t5 =>
  LoadV false 1 t5 w_1 fun t6 =>
  CallV Try.prog N.laws_markIntSS [t6, v1] w_1 fun t8 w_2 =>
  FAddrV 1 t2 fun t9 =>
  LoadV false 1 t9 w_2 fun t10 =>
  CallV Try.prog N.laws_markIntS [t10, t8] w_2 fun t12 w_3 =>
  FAddrV 2 t2 fun t13 =>
  LoadV false 1 t13 w_3 fun t14 =>
  CallV Try.prog N.laws_markIntS [t14, t12] w_3 fun t16 w_4 =>
  FAddrV 3 t2 fun t17 =>
  LoadV false 1 t17 w_4 fun t18 =>
  CallV Try.prog N.laws_markIntSS [t18, t16] w_4 fun t20 w_5 =>
  R t20 w_5) :
    Calls Try.prog N.laws_markCrew #[v0, v1] w (Ret R) :=
  callsB (args := [v0, v1]) ⟨(annOf []), (annOf []), []⟩ Try.func44 rfl (cast (by kernel_rfl) h)

theorem c_laws_heldIntSS (v0 : Value) (v1 : Value) (w : World) (R : Value → World → Prop) (h :
  LoopV [v1, Value.int IntKind.i64 0] w fun s _ w_1 K =>
  LenV v0 fun t8 =>
  BinV BinOp.lss (nthV s 1) t8 fun t9 =>
  SplitV t9
  (IdxV 1 v0 (nthV s 1) fun t14 =>
  LoadV false 1 t14 w_1 fun t15 =>
  CallV Try.prog N.laws_heldIntS [t15, nthV s 0] w_1 fun t17 w_2 =>
  BinV BinOp.lss t17 (Value.int IntKind.i64 0) fun t19 =>
  SplitV t19
  (R (Value.int IntKind.i64 (-1)) w_2)
  (BinV BinOp.add (nthV s 1) (Value.int IntKind.i64 1) fun t11 =>
  K [t17, t11] w_2))
  (R (nthV s 0) w_1)) :
    Calls Try.prog N.laws_heldIntSS #[v0, v1] w (Ret R) :=
  callsB (args := [v0, v1]) ⟨(annOf [(2, [1, 5])]), (annOf []), []⟩ Try.func81 rfl (cast (by kernel_rfl) h)

theorem c_laws_heldCrew (v0 : Value) (v1 : Value) (w : World) (R : Value → World → Prop) (h :
  BoxV T.impl_Crew v0 w fun t2 w_1 =>
  FAddrV 0 t2 fun t5 =>
  LoadV false 1 t5 w_1 fun t6 =>
  CallV Try.prog N.laws_heldIntSS [t6, v1] w_1 fun t8 w_2 =>
  BinV BinOp.lss t8 (Value.int IntKind.i64 0) fun t10 =>
  SplitV t10
  (R (Value.int IntKind.i64 (-1)) w_2)
  (FAddrV 1 t2 fun t11 =>
  LoadV false 1 t11 w_2 fun t12 =>
  CallV Try.prog N.laws_heldIntS [t12, t8] w_2 fun t14 w_3 =>
  BinV BinOp.lss t14 (Value.int IntKind.i64 0) fun t16 =>
  SplitV t16
  (R (Value.int IntKind.i64 (-1)) w_3)
  (FAddrV 2 t2 fun t17 =>
  LoadV false 1 t17 w_3 fun t18 =>
  CallV Try.prog N.laws_heldIntS [t18, t14] w_3 fun t20 w_4 =>
  BinV BinOp.lss t20 (Value.int IntKind.i64 0) fun t22 =>
  SplitV t22
  (R (Value.int IntKind.i64 (-1)) w_4)
  (FAddrV 3 t2 fun t23 =>
  LoadV false 1 t23 w_4 fun t24 =>
  CallV Try.prog N.laws_heldIntSS [t24, t20] w_4 fun t26 w_5 =>
  BinV BinOp.lss t26 (Value.int IntKind.i64 0) fun t28 =>
  SplitV t28
  (R (Value.int IntKind.i64 (-1)) w_5)
  (R t26 w_5))))) :
    Calls Try.prog N.laws_heldCrew #[v0, v1] w (Ret R) :=
  callsB (args := [v0, v1]) ⟨(annOf []), (annOf []), []⟩ Try.func45 rfl (cast (by kernel_rfl) h)

theorem c_laws_sameCrew (v0 : Value) (v1 : Value) (w : World) (R : Value → World → Prop) (h :
  BoxV T.impl_Crew v0 w fun t2 w_1 =>
  BoxV T.impl_Crew v1 w_1 fun t3 w_2 =>
  FAddrV 0 t2 fun t5 =>
  LoadV false 1 t5 w_2 fun t6 =>
  FAddrV 0 t3 fun t7 =>
  LoadV false 1 t7 w_2 fun t8 =>
  CallV Try.prog N.laws_sameRows [t6, t8] w_2 fun t9 w_3 =>
  SplitV t9
  (FAddrV 1 t2 fun t11 =>
  LoadV false 1 t11 w_3 fun t12 =>
  FAddrV 1 t3 fun t13 =>
  LoadV false 1 t13 w_3 fun t14 =>
  CallV Try.prog N.laws_sameRow [t12, t14] w_3 fun t15 w_4 =>
  SplitV t15
  (FAddrV 2 t2 fun t18 =>
  LoadV false 1 t18 w_4 fun t19 =>
  FAddrV 2 t3 fun t20 =>
  LoadV false 1 t20 w_4 fun t21 =>
  CallV Try.prog N.laws_sameRow [t19, t21] w_4 fun t22 w_5 =>
  SplitV t22
  (FAddrV 3 t2 fun t25 =>
  LoadV false 1 t25 w_5 fun t26 =>
  FAddrV 3 t3 fun t27 =>
  LoadV false 1 t27 w_5 fun t28 =>
  CallV Try.prog N.laws_sameRows [t26, t28] w_5 fun t29 w_6 =>
  R t29 w_6)
  (R (Value.bool false) w_5))
  (R (Value.bool false) w_4))
  (R (Value.bool false) w_3)) :
    Calls Try.prog N.laws_sameCrew #[v0, v1] w (Ret R) :=
  callsB (args := [v0, v1]) ⟨(annOf []), (annOf []), []⟩ Try.func47 rfl (cast (by kernel_rfl) h)

theorem c_laws_sameRows (v0 : Value) (v1 : Value) (w : World) (R : Value → World → Prop) (h :
  LenV v0 fun t7 =>
  LenV v1 fun t9 =>
  BinV BinOp.neq t7 t9 fun t10 =>
  SplitV t10
  (R (Value.bool false) w)
  (LoopV [Value.int IntKind.i64 0] w fun s _ w_1 K =>
  LenV v0 fun t13 =>
  BinV BinOp.lss (nthV s 0) t13 fun t14 =>
  SplitV t14
  (DrawV w_1 fun S w_2 =>
  IdxV 1 v0 (nthV s 0) fun t19 =>
  LoadS S false 1 t19 w_2 fun t20 =>
  IdxV 1 v1 (nthV s 0) fun t23 =>
  LoadS S false 1 t23 w_2 fun t24 =>
  CallV Try.prog N.laws_sameRow [t20, t24] w_2 fun t25 w_3 =>
  Chg S w_2 w_3 ∧
  NotV t25 fun t26 =>
  SplitV t26
  (R (Value.bool false) w_3)
  (BinV BinOp.add (nthV s 0) (Value.int IntKind.i64 1) fun t16 =>
  K [t16] w_3))
  (R (Value.bool true) w_1))) :
    Calls Try.prog N.laws_sameRows #[v0, v1] w (Ret R) :=
  callsB (args := [v0, v1]) ⟨(annOf [(4, [5])]), (annOf []), []⟩ Try.func40 rfl (cast (by kernel_rfl) h)

end Go.Proofs.Ytblgkpfnjlobjaa
