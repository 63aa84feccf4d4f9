/- The conditions of functions, off their texts. Printed by a program; Lean checks each one. -/
import Derived.Test.YtpfabjjeacdikaaNames
import Derived.Test.YtpfabjjeacdikaaV9
namespace Go.Proofs.Ytpfabjjeacdikaa
open Go Go.V
set_option maxRecDepth 100000
theorem c_spec_l3Wide (v0 : Value) (w : World) (R : Value → World → Prop) (h :
  LoopV [Value.int IntKind.i64 0] w fun s _ w_1 K =>
  LenV v0 fun t6 =>
  BinV BinOp.lss (nthV s 0) t6 fun t7 =>
  SplitV t7
  (IdxV 3 v0 (nthV s 0) fun t12 =>
  FAddrV 0 t12 fun t13 =>
  LoadV false 1 t13 w_1 fun t14 =>
  BinV BinOp.eql t14 (Value.int IntKind.i64 0) fun t15 =>
  SplitV t15
  (IdxV 3 v0 (nthV s 0) fun t18 =>
  FAddrV 2 t18 fun t19 =>
  LoadV false 1 t19 w_1 fun t20 =>
  LenV t20 fun t21 =>
  R t21 w_1)
  (BinV BinOp.add (nthV s 0) (Value.int IntKind.i64 1) fun t9 =>
  K [t9] w_1))
  (R (Value.int IntKind.i64 0) w_1)) :
    Calls Try.prog N.spec_l3Wide #[v0] w (Ret R) :=
  callsB (args := [v0]) ⟨(annOf [(2, [3])]), (annOf []), []⟩ Try.func96 rfl (cast (by kernel_rfl) h)

theorem c_spec_l3Node (v0 : Value) (v1 : Value) (v2 : Value) (w : World) (R : Value → World → Prop) (h :
  BoxV T.impl_Node v0 w fun t3 w_1 =>
  DrawV w_1 fun S w_2 =>
  FAddrV 0 t3 fun t8 =>
  LoadS S false 1 t8 w_2 fun t9 =>
  FAddrV 1 t3 fun t11 =>
  LoadS S false 1 t11 w_2 fun t12 =>
  LenV t12 fun t13 =>
  CallV Try.prog N.spec_KindNeeds [t9] w_2 fun t10 w_3 =>
  Chg S w_2 w_3 ∧
  BinV BinOp.neq t10 t13 fun t14 =>
  SplitV t14
  (R (Value.bool false) w_3)
  (FAddrV 2 t3 fun t16 =>
  LoadS S false 1 t16 w_3 fun t17 =>
  CallV Try.prog N.spec_RowValid [t17] w_3 fun t18 w_4 =>
  Chg S w_3 w_4 ∧
  NotV t18 fun t19 =>
  SplitV t19
  (R (Value.bool false) w_4)
  (LoopV [Value.int IntKind.i64 0] w_4 fun s _ w_5 K =>
  FAddrV 1 t3 fun t22 =>
  LoadV false 1 t22 w_5 fun t23 =>
  LenV t23 fun t24 =>
  BinV BinOp.lss (nthV s 0) t24 fun t25 =>
  SplitV t25
  (FAddrV 1 t3 fun t28 =>
  LoadV false 1 t28 w_5 fun t29 =>
  IdxV 1 t29 (nthV s 0) fun t31 =>
  LoadV false 1 t31 w_5 fun t32 =>
  BinV BinOp.sub v1 (Value.int IntKind.i64 1) fun t34 =>
  CallV Try.prog N.spec_l6In [t32, Value.int IntKind.i64 0, t34] w_5 fun t35 w_6 =>
  NotV t35 fun t36 =>
  SplitV t36
  (R (Value.bool false) w_6)
  (BinV BinOp.add (nthV s 0) (Value.int IntKind.i64 1) fun t27 =>
  K [t27] w_6))
  (FAddrV 0 t3 fun t37 =>
  LoadV false 1 t37 w_5 fun t38 =>
  BinV BinOp.eql t38 (Value.int IntKind.i64 0) fun t39 =>
  SplitV t39
  (FAddrV 2 t3 fun t40 =>
  LoadV false 1 t40 w_5 fun t41 =>
  LenV t41 fun t42 =>
  BinV BinOp.eql t42 v2 fun t44 =>
  R t44 w_5)
  (FAddrV 2 t3 fun t45 =>
  LoadV false 1 t45 w_5 fun t46 =>
  LenV t46 fun t47 =>
  BinV BinOp.eql t47 (Value.int IntKind.i64 0) fun t48 =>
  R t48 w_5))))) :
    Calls Try.prog N.spec_l3Node #[v0, v1, v2] w (Ret R) :=
  callsB (args := [v0, v1, v2]) ⟨(annOf [(4, [7])]), (annOf []), []⟩ Try.func95 rfl (cast (by kernel_rfl) h)

theorem c_spec_PlanValid (v0 : Value) (w : World) (R : Value → World → Prop) (h :
  LoopV [Value.int IntKind.i64 0] w fun s _ w_1 K =>
  LenV v0 fun t6 =>
  BinV BinOp.lss (nthV s 0) t6 fun t7 =>
  SplitV t7
  (DrawV w_1 fun S w_2 =>
  IdxV 3 v0 (nthV s 0) fun t12 =>
  LoadS S true 3 t12 w_2 fun t13 =>
  CallV Try.prog N.spec_l3Wide [v0] w_2 fun t16 w_3 =>
  Chg S w_2 w_3 ∧
  CallV Try.prog N.spec_l3Node [t13, nthV s 0, t16] w_3 fun t17 w_4 =>
  Chg S w_3 w_4 ∧
  NotV t17 fun t18 =>
  SplitV t18
  (R (Value.bool false) w_4)
  (BinV BinOp.add (nthV s 0) (Value.int IntKind.i64 1) fun t9 =>
  K [t9] w_4))
  (LenV v0 fun t20 =>
  BinV BinOp.leq t20 (Value.int IntKind.i64 10) fun t21 =>
  R t21 w_1)) :
    Calls Try.prog N.spec_PlanValid #[v0] w (Ret R) :=
  callsB (args := [v0]) ⟨(annOf [(2, [3])]), (annOf []), []⟩ Try.func62 rfl (cast (by kernel_rfl) h)

theorem c_impl_nodeFits (v0 : Value) (v1 : Value) (w : World) (R : Value → World → Prop) (h :
  BoxV T.impl_Node v0 w fun t2 w_1 =>
  DrawV w_1 fun S w_2 =>
  FAddrV 0 t2 fun t7 =>
  LoadS S false 1 t7 w_2 fun t8 =>
  CallV Try.prog N.impl_KindValid [t8] w_2 fun t9 w_3 =>
  Chg S w_2 w_3 ∧
  NotV t9 fun t10 =>
  SplitV t10
  (R (Value.bool false) w_3)
  (FAddrV 1 t2 fun t12 =>
  LoadS S false 1 t12 w_3 fun t13 =>
  LenV t13 fun t14 =>
  FAddrV 0 t2 fun t15 =>
  LoadS S false 1 t15 w_3 fun t16 =>
  CallV Try.prog N.impl_KindNeeds [t16] w_3 fun t17 w_4 =>
  Chg S w_3 w_4 ∧
  BinV BinOp.neq t14 t17 fun t18 =>
  SplitV t18
  (R (Value.bool false) w_4)
  (FAddrV 1 t2 fun t20 =>
  LoadV false 1 t20 w_4 fun t21 =>
  LenV t21 fun t22 =>
  LoopV [Value.int IntKind.i64 0] w_4 fun s _ w_5 K =>
  BinV BinOp.lss (nthV s 0) t22 fun t24 =>
  SplitV t24
  (IdxV 1 t21 (nthV s 0) fun t25 =>
  LoadV false 1 t25 w_5 fun t26 =>
  BinV BinOp.lss t26 (Value.int IntKind.i64 0) fun t28 =>
  SplitV t28
  (R (Value.bool false) w_5)
  (BinV BinOp.geq t26 v1 fun t32 =>
  SplitV t32
  (R (Value.bool false) w_5)
  (BinV BinOp.add (nthV s 0) (Value.int IntKind.i64 1) fun t34 =>
  K [t34] w_5)))
  (FAddrV 0 t2 fun t35 =>
  LoadV false 1 t35 w_5 fun t36 =>
  BinV BinOp.eql t36 (Value.int IntKind.i64 0) fun t37 =>
  SplitV t37
  (FAddrV 2 t2 fun t38 =>
  LoadV false 1 t38 w_5 fun t39 =>
  CallV Try.prog N.impl_RowValid [t39] w_5 fun t40 w_6 =>
  R t40 w_6)
  (FAddrV 2 t2 fun t41 =>
  LoadV false 1 t41 w_5 fun t42 =>
  LenV t42 fun t43 =>
  BinV BinOp.eql t43 (Value.int IntKind.i64 0) fun t44 =>
  R t44 w_5))))) :
    Calls Try.prog N.impl_nodeFits #[v0, v1] w (Ret R) :=
  callsB (args := [v0, v1]) ⟨(annOf [(4, [23])]), (annOf []), []⟩ Try.func101 rfl (cast (by kernel_rfl) h)

theorem c_impl_planNode_needsAlready (v0 : Value) (v1 : Value) (w : World) (R : Value → World → Prop) (h :
  NilV v0 fun t8 =>
  FAddrV 1 t8 fun t9 =>
  LoadV false 1 t9 w fun t10 =>
  LenV t10 fun t11 =>
  LoopV [Value.int IntKind.i64 0] w fun s _ w_1 K =>
  BinV BinOp.lss (nthV s 0) t11 fun t13 =>
  SplitV t13
  (IdxV 1 t10 (nthV s 0) fun t14 =>
  LoadV false 1 t14 w_1 fun t15 =>
  PEqV false t15 v1 w_1 fun t18 =>
  SplitV t18
  (R (Value.bool true) w_1)
  (BinV BinOp.add (nthV s 0) (Value.int IntKind.i64 1) fun t19 =>
  K [t19] w_1))
  (R (Value.bool false) w_1)) :
    Calls Try.prog N.impl_planNode_needsAlready #[v0, v1] w (Ret R) :=
  callsB (args := [v0, v1]) ⟨(annOf [(2, [12])]), (annOf []), []⟩ Try.func114 rfl (cast (by kernel_rfl) h)

theorem c_impl_planNode_link (v0 : Value) (v1 : Value) (w : World) (R : Value → World → Prop) (h :
  CallV Try.prog N.impl_planNode_needsAlready [v0, v1] w fun t6 w_1 =>
  SplitV t6
  (R (Value.tuple #[]) w_1)
  (NilV v0 fun t9 =>
  FAddrV 1 t9 fun t10 =>
  LoadV false 1 t10 w_1 fun t11 =>
  BSliceV T.p_impl_planNode 1 1 #[Value.pointer none] [(0, v1)] w_1 fun t13 w_2 =>
  AppendV Try.prog T.sl_p_impl_planNode t11 t13 w_2 fun t14 w_3 =>
  NilV v0 fun t15 =>
  FAddrV 1 t15 fun t16 =>
  StoreV 1 t16 t14 w_3 fun w_4 =>
  NilV v1 fun t19 =>
  FAddrV 2 t19 fun t20 =>
  LoadV false 1 t20 w_4 fun t21 =>
  BSliceV T.p_impl_planNode 1 1 #[Value.pointer none] [(0, v0)] w_4 fun t23 w_5 =>
  AppendV Try.prog T.sl_p_impl_planNode t21 t23 w_5 fun t24 w_6 =>
  NilV v1 fun t25 =>
  FAddrV 2 t25 fun t26 =>
  StoreV 1 t26 t24 w_6 fun w_7 =>
  R (Value.tuple #[]) w_7)) :
    Calls Try.prog N.impl_planNode_link #[v0, v1] w (Ret R) :=
  callsB (args := [v0, v1]) ⟨(annOf []), (annOf []), []⟩ Try.func102 rfl (cast (by kernel_rfl) h)

theorem c_impl_graphOf (v0 : Value) (w : World) (R : Value → World → Prop) (h :
  LenV v0 fun t12 =>
  BinV BinOp.gtr t12 (Value.int IntKind.i64 10) fun t13 =>
  SplitV t13
  (R (Value.tuple #[Value.slice none 0 0, Value.bool false]) w)
  (LenV v0 fun t15 =>
  MakeSliceV T.p_impl_planNode 1 8 #[Value.pointer none] (Value.int IntKind.i64 0) t15 w fun t16 w_1 =>
  LenV v0 fun t18 =>
  LoopV [t16, Value.int IntKind.i64 (-1), Value.int IntKind.i64 0] w_1 fun s _ w_2 K =>
  BinV BinOp.lss (nthV s 2) t18 fun t20 =>
  SplitV t20
  (IdxV 3 v0 (nthV s 2) fun t22 =>
  LoadV true 3 t22 w_2 fun t23 =>
  BoxV T.impl_Node (Value.agg #[Value.int IntKind.i64 0, Value.slice none 0 0, Value.slice none 0 0]) w_2 fun t7 w_3 =>
  StoreV 3 t7 t23 w_3 fun w_4 =>
  LoadV true 3 t7 w_4 fun t24 =>
  CallV Try.prog N.impl_nodeFits [t24, nthV s 2] w_4 fun t26 w_5 =>
  NotV t26 fun t27 =>
  SplitV t27
  (R (Value.tuple #[Value.slice none 0 0, Value.bool false]) w_5)
  (JoinV (fun M =>
  FAddrV 0 t7 fun t28 =>
  LoadV false 1 t28 w_5 fun t29 =>
  BinV BinOp.eql t29 (Value.int IntKind.i64 0) fun t30 =>
  SplitV t30
  (BinV BinOp.geq (nthV s 1) (Value.int IntKind.i64 0) fun t32 =>
  SplitV t32
  (FAddrV 2 t7 fun t34 =>
  LoadV false 1 t34 w_5 fun t35 =>
  LenV t35 fun t36 =>
  BinV BinOp.neq t36 (nthV s 1) fun t38 =>
  SplitV t38
  (R (Value.tuple #[Value.slice none 0 0, Value.bool false]) w_5)
  (FAddrV 2 t7 fun t40 =>
  LoadV false 1 t40 w_5 fun t41 =>
  LenV t41 fun t42 =>
  M [t42] w_5))
  (FAddrV 2 t7 fun t40_1 =>
  LoadV false 1 t40_1 w_5 fun t41_1 =>
  LenV t41_1 fun t42_1 =>
  M [t42_1] w_5))
  (M [nthV s 1] w_5))
  (fun s_1 _ w_6 =>
  BuildV #[Value.int IntKind.i64 0, Value.slice none 0 0, Value.slice none 0 0] (fun i => ([(0, 1), (1, 1), (2, 1)] : List (Nat × Nat))[i]?) [(0, nthV s 2)] fun t44 =>
  BoxV T.impl_planNode t44 w_6 fun t45 w_7 =>
  FAddrV 1 t7 fun t46 =>
  LoadV false 1 t46 w_7 fun t47 =>
  LenV t47 fun t48 =>
  LoopV [Value.int IntKind.i64 0] w_7 fun s_2 _ w_8 K_1 =>
  BinV BinOp.lss (nthV s_2 0) t48 fun t50 =>
  SplitV t50
  (IdxV 1 t47 (nthV s_2 0) fun t51 =>
  LoadV false 1 t51 w_8 fun t52 =>
  IdxV 1 (nthV s 0) t52 fun t56 =>
  LoadV false 1 t56 w_8 fun t57 =>
  CallV Try.prog N.impl_planNode_link [t45, t57] w_8 fun _ w_9 =>
  BinV BinOp.add (nthV s_2 0) (Value.int IntKind.i64 1) fun t59 =>
  K_1 [t59] w_9)
  (BSliceV T.p_impl_planNode 1 1 #[Value.pointer none] [(0, t45)] w_8 fun t62 w_10 =>
  AppendV Try.prog T.sl_p_impl_planNode (nthV s 0) t62 w_10 fun t63 w_11 =>
  BinV BinOp.add (nthV s 2) (Value.int IntKind.i64 1) fun t64 =>
  K [t63, nthV s_1 0, t64] w_11))))
  (R (Value.tuple #[nthV s 0, Value.bool true]) w_2))) :
    Calls Try.prog N.impl_graphOf #[v0] w (Ret R) :=
  callsB (args := [v0]) ⟨(annOf [(6, [4, 5, 19]), (16, [49])]), (annOf [(14, [5])]), []⟩ Try.func76 rfl (cast (by kernel_rfl) h)

theorem c_impl_PlanValid (v0 : Value) (w : World) (R : Value → World → Prop) (h :
  CallV Try.prog N.impl_graphOf [v0] w fun t7 w_1 =>
  ExtractV t7 0 fun _ =>
  ExtractV t7 1 fun t9 =>
  R t9 w_1) :
    Calls Try.prog N.impl_PlanValid #[v0] w (Ret R) :=
  callsB (args := [v0]) ⟨(annOf []), (annOf []), []⟩ Try.func57 rfl (cast (by kernel_rfl) h)

end Go.Proofs.Ytpfabjjeacdikaa
