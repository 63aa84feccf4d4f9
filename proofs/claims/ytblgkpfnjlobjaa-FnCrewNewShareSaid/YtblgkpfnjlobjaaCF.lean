/- The conditions of functions, off their texts. Printed by a program; Lean checks each one. -/
import Derived.Test.YtblgkpfnjlobjaaNames
import Derived.Test.YtblgkpfnjlobjaaV9
namespace Go.Proofs.Ytblgkpfnjlobjaa
open Go Go.V
set_option maxRecDepth 100000
theorem c_impl_foldFrom (v0 : Value) (v1 : Value) (v2 : Value) (v3 : Value) (w : World) (R : Value → World → Prop) (h :
  LenV v0 fun t12 =>
  BinV BinOp.eql v3 t12 fun t13 =>
  SplitV t13
  (R (Value.slice none 0 0) w)
  (IdxV 3 v0 v3 fun t16 =>
  LoadV true 3 t16 w fun t17 =>
  CallV Try.prog N.impl_copyNode [t17] w fun t18 w_1 =>
  BoxV T.impl_Node (Value.agg #[Value.int IntKind.i64 0, Value.slice none 0 0, Value.slice none 0 0]) w_1 fun t9 w_2 =>
  StoreV 3 t9 t18 w_2 fun w_3 =>
  CallV Try.prog N.impl_nodeSet_has [v2, v3] w_3 fun t21 w_4 =>
  SplitV t21
  (IdxV 1 v1 v3 fun t24 =>
  LoadV false 1 t24 w_4 fun t25 =>
  CallV Try.prog N.impl_copyInts [t25] w_4 fun t26 w_5 =>
  BuildV #[Value.int IntKind.i64 0, Value.slice none 0 0, Value.slice none 0 0] (fun i => ([(0, 1), (1, 1), (2, 1)] : List (Nat × Nat))[i]?) [(0, Value.int IntKind.i64 0), (2, t26)] fun t27 =>
  StoreV 3 t9 t27 w_5 fun w_6 =>
  DrawV w_6 fun S w_7 =>
  LoadS S true 3 t9 w_7 fun t28 =>
  BinV BinOp.add v3 (Value.int IntKind.i64 1) fun t34 =>
  (BSliceV T.impl_Node 3 1 #[Value.int IntKind.i64 0, Value.slice none 0 0, Value.slice none 0 0] [(0, t28)] w_7 fun t29 w_8 =>
  Chg S w_7 w_8 ∧
  CallV Try.prog N.impl_foldFrom [v0, v1, v2, t34] w_8 fun t35 w_9 =>
  Chg S w_8 w_9 ∧
  AppendV Try.prog T.sl_impl_Node t29 t35 w_9 fun t36 w_10 =>
  Chg S w_9 w_10 ∧
  R t36 w_10) ∧
  (CallV Try.prog N.impl_foldFrom [v0, v1, v2, t34] w_7 fun t35_1 w_11 =>
  Chg S w_7 w_11 ∧
  BSliceV T.impl_Node 3 1 #[Value.int IntKind.i64 0, Value.slice none 0 0, Value.slice none 0 0] [(0, t28)] w_11 fun t29_1 w_12 =>
  Chg S w_11 w_12 ∧
  AppendV Try.prog T.sl_impl_Node t29_1 t35_1 w_12 fun t36_1 w_13 =>
  Chg S w_12 w_13 ∧
  R t36_1 w_13))
  (DrawV w_4 fun S_1 w_14 =>
  LoadS S_1 true 3 t9 w_14 fun t28_1 =>
  BinV BinOp.add v3 (Value.int IntKind.i64 1) fun t34_1 =>
  (BSliceV T.impl_Node 3 1 #[Value.int IntKind.i64 0, Value.slice none 0 0, Value.slice none 0 0] [(0, t28_1)] w_14 fun t29_2 w_15 =>
  Chg S_1 w_14 w_15 ∧
  CallV Try.prog N.impl_foldFrom [v0, v1, v2, t34_1] w_15 fun t35_2 w_16 =>
  Chg S_1 w_15 w_16 ∧
  AppendV Try.prog T.sl_impl_Node t29_2 t35_2 w_16 fun t36_2 w_17 =>
  Chg S_1 w_16 w_17 ∧
  R t36_2 w_17) ∧
  (CallV Try.prog N.impl_foldFrom [v0, v1, v2, t34_1] w_14 fun t35_3 w_18 =>
  Chg S_1 w_14 w_18 ∧
  BSliceV T.impl_Node 3 1 #[Value.int IntKind.i64 0, Value.slice none 0 0, Value.slice none 0 0] [(0, t28_1)] w_18 fun t29_3 w_19 =>
  Chg S_1 w_18 w_19 ∧
  AppendV Try.prog T.sl_impl_Node t29_3 t35_3 w_19 fun t36_3 w_20 =>
  Chg S_1 w_19 w_20 ∧
  R t36_3 w_20)))) :
    Calls Try.prog N.impl_foldFrom #[v0, v1, v2, v3] w (Ret R) :=
  callsB (args := [v0, v1, v2, v3]) ⟨(annOf []), (annOf []), []⟩ Try.func57 rfl (cast (by kernel_rfl) h)

theorem c_impl_FoldNode (v0 : Value) (v1 : Value) (w : World) (R : Value → World → Prop) (h :
  BSliceV T.int 1 1 #[Value.int IntKind.i64 0] [(0, v1)] w fun t8 w_1 =>
  CallV Try.prog N.impl_FoldAll [v0, t8] w_1 fun t9 w_2 =>
  ExtractV t9 0 fun t10 =>
  ExtractV t9 1 fun t11 =>
  R (Value.tuple #[t10, t11]) w_2) :
    Calls Try.prog N.impl_FoldNode #[v0, v1] w (Ret R) :=
  callsB (args := [v0, v1]) ⟨(annOf []), (annOf []), []⟩ Try.func18 rfl (cast (by kernel_rfl) h)

theorem c_impl_FoldAll (v0 : Value) (v1 : Value) (w : World) (R : Value → World → Prop) (h :
  CallV Try.prog N.impl_ValuesOf [v0] w fun t10 w_1 =>
  ExtractV t10 0 fun t11 =>
  ExtractV t10 1 fun t12 =>
  NotV t12 fun t14 =>
  SplitV t14
  (R (Value.tuple #[Value.slice none 0 0, Value.bool false]) w_1)
  (CallV Try.prog N.impl_allNodes [v0, v1] w_1 fun t18 w_2 =>
  NotV t18 fun t19 =>
  SplitV t19
  (R (Value.tuple #[Value.slice none 0 0, Value.bool false]) w_2)
  (CallV Try.prog N.impl_setOf [v0, v1] w_2 fun t25 w_3 =>
  CallV Try.prog N.impl_foldFrom [v0, t11, t25, Value.int IntKind.i64 0] w_3 fun t26 w_4 =>
  R (Value.tuple #[t26, Value.bool true]) w_4))) :
    Calls Try.prog N.impl_FoldAll #[v0, v1] w (Ret R) :=
  callsB (args := [v0, v1]) ⟨(annOf []), (annOf []), []⟩ Try.func24 rfl (cast (by kernel_rfl) h)

theorem c_impl_FoldSame (v0 : Value) (v1 : Value) (w : World) (R : Value → World → Prop) (h :
  CallV Try.prog N.impl_ValuesOf [v0] w fun t11 w_1 =>
  ExtractV t11 0 fun t12 =>
  ExtractV t11 1 fun t13 =>
  CallV Try.prog N.impl_ValuesOf [v1] w_1 fun t16 w_2 =>
  ExtractV t16 0 fun t17 =>
  ExtractV t16 1 fun t18 =>
  SplitV t13
  (SplitV t18
  (CallV Try.prog N.impl_sameLists [t12, t17] w_2 fun t26 w_3 =>
  R t26 w_3)
  (R (Value.bool false) w_2))
  (R (Value.bool false) w_2)) :
    Calls Try.prog N.impl_FoldSame #[v0, v1] w (Ret R) :=
  callsB (args := [v0, v1]) ⟨(annOf []), (annOf []), []⟩ Try.func29 rfl (cast (by kernel_rfl) h)

theorem c_impl_sameLists (v0 : Value) (v1 : Value) (w : World) (R : Value → World → Prop) (h :
  CallV Try.prog N.slices_EqualFunc [v0, v1, Value.func (Fn.func N.impl_sameLists_1) #[] #[]] w fun t7 w_1 =>
  R t7 w_1) :
    Calls Try.prog N.impl_sameLists #[v0, v1] w (Ret R) :=
  callsB (args := [v0, v1]) ⟨(annOf []), (annOf []), []⟩ Try.func61 rfl (cast (by kernel_rfl) h)

theorem c_impl_sameLists_1 (v0 : Value) (v1 : Value) (w : World) (R : Value → World → Prop) (h :
  CallV Try.prog N.slices_Equal [v0, v1] w fun t7 w_1 =>
  R t7 w_1) :
    Calls Try.prog N.impl_sameLists_1 #[v0, v1] w (Ret R) :=
  callsB (args := [v0, v1]) ⟨(annOf []), (annOf []), []⟩ Try.func90 rfl (cast (by kernel_rfl) h)

theorem c_slices_EqualFunc (v0 : Value) (v1 : Value) (v2 : Value) (w : World) (R : Value → World → Prop) (h :
  LenV v0 fun t11 =>
  LenV v1 fun t13 =>
  BinV BinOp.neq t11 t13 fun t14 =>
  SplitV t14
  (R (Value.bool false) w)
  (LenV v0 fun t16 =>
  LoopV [Value.int IntKind.i64 0] w fun s _ w_1 K =>
  BinV BinOp.lss (nthV s 0) t16 fun t18 =>
  SplitV t18
  (IdxV 1 v0 (nthV s 0) fun t20 =>
  LoadV false 1 t20 w_1 fun t21 =>
  IdxV 1 v1 (nthV s 0) fun t24 =>
  LoadV false 1 t24 w_1 fun t25 =>
  CallFV Try.prog (okFn Try.prog) v2 [t21, t25] w_1 fun t29 w_2 =>
  NotV t29 fun t30 =>
  SplitV t30
  (R (Value.bool false) w_2)
  (BinV BinOp.add (nthV s 0) (Value.int IntKind.i64 1) fun t31 =>
  K [t31] w_2))
  (R (Value.bool true) w_1))) :
    Calls Try.prog N.slices_EqualFunc #[v0, v1, v2] w (Ret R) :=
  callsB (args := [v0, v1, v2]) ⟨(annOf [(4, [17])]), (annOf []), []⟩ Try.func89 rfl (cast (by kernel_rfl) h)

theorem c_slices_Equal (v0 : Value) (v1 : Value) (w : World) (R : Value → World → Prop) (h :
  LenV v0 fun t7 =>
  LenV v1 fun t9 =>
  BinV BinOp.neq t7 t9 fun t10 =>
  SplitV t10
  (R (Value.bool false) w)
  (LenV v0 fun t12 =>
  LoopV [Value.int IntKind.i64 0] w fun s _ w_1 K =>
  BinV BinOp.lss (nthV s 0) t12 fun t14 =>
  SplitV t14
  (DrawV w_1 fun S w_2 =>
  IdxV 1 v0 (nthV s 0) fun t18 =>
  LoadS S false 1 t18 w_2 fun t19 =>
  IdxV 1 v1 (nthV s 0) fun t22 =>
  LoadS S false 1 t22 w_2 fun t23 =>
  BinV BinOp.neq t19 t23 fun t24 =>
  SplitV t24
  (R (Value.bool false) w_2)
  (BinV BinOp.add (nthV s 0) (Value.int IntKind.i64 1) fun t25 =>
  K [t25] w_2))
  (R (Value.bool true) w_1))) :
    Calls Try.prog N.slices_Equal #[v0, v1] w (Ret R) :=
  callsB (args := [v0, v1]) ⟨(annOf [(4, [13])]), (annOf []), []⟩ Try.func91 rfl (cast (by kernel_rfl) h)

theorem c_spec_FoldNode (v0 : Value) (v1 : Value) (w : World) (R : Value → World → Prop) (h :
  CallV Try.prog N.spec_PlanValid [v0] w fun t8 w_1 =>
  NotV t8 fun t9 =>
  SplitV t9
  (BSliceV T.impl_Node 3 0 #[Value.int IntKind.i64 0, Value.slice none 0 0, Value.slice none 0 0] [] w_1 fun t18 w_2 =>
  R (Value.tuple #[t18, Value.bool false]) w_2)
  (LenV v0 fun t13 =>
  BinV BinOp.sub t13 (Value.int IntKind.i64 1) fun t14 =>
  CallV Try.prog N.spec_l6In [v1, Value.int IntKind.i64 0, t14] w_1 fun t15 w_3 =>
  NotV t15 fun t16 =>
  SplitV t16
  (BSliceV T.impl_Node 3 0 #[Value.int IntKind.i64 0, Value.slice none 0 0, Value.slice none 0 0] [] w_3 fun t18_1 w_4 =>
  R (Value.tuple #[t18_1, Value.bool false]) w_4)
  (CallV Try.prog N.spec_l3Copy [v0] w_3 fun t20 w_5 =>
  BSliceV T.int 1 0 #[Value.int IntKind.i64 0] [] w_5 fun t23 w_6 =>
  CallV Try.prog N.spec_l4Values [v0] w_6 fun t25 w_7 =>
  IdxV 1 t25 v1 fun t27 =>
  LoadV false 1 t27 w_7 fun t28 =>
  BuildV #[Value.int IntKind.i64 0, Value.slice none 0 0, Value.slice none 0 0] (fun i => ([(0, 1), (1, 1), (2, 1)] : List (Nat × Nat))[i]?) [(0, Value.int IntKind.i64 0), (1, t23), (2, t28)] fun t29 =>
  IdxV 3 t20 v1 fun t30 =>
  StoreV 3 t30 t29 w_7 fun w_8 =>
  R (Value.tuple #[t20, Value.bool true]) w_8))) :
    Calls Try.prog N.spec_FoldNode #[v0, v1] w (Ret R) :=
  callsB (args := [v0, v1]) ⟨(annOf []), (annOf []), []⟩ Try.func16 rfl (cast (by kernel_rfl) h)

theorem c_spec_FoldAll (v0 : Value) (v1 : Value) (w : World) (R : Value → World → Prop) (h :
  CallV Try.prog N.spec_PlanValid [v0] w fun t11 w_1 =>
  NotV t11 fun t12 =>
  SplitV t12
  (BSliceV T.impl_Node 3 0 #[Value.int IntKind.i64 0, Value.slice none 0 0, Value.slice none 0 0] [] w_1 fun t13 w_2 =>
  R (Value.tuple #[t13, Value.bool false]) w_2)
  (CallV Try.prog N.spec_l3Copy [v0] w_1 fun t15 w_3 =>
  LoopV [t15, Value.int IntKind.i64 0] w_3 fun s _ w_4 K =>
  LenV v1 fun t18 =>
  BinV BinOp.lss (nthV s 1) t18 fun t19 =>
  SplitV t19
  (IdxV 1 v1 (nthV s 1) fun t26 =>
  LoadV false 1 t26 w_4 fun t27 =>
  CallV Try.prog N.spec_FoldNode [nthV s 0, t27] w_4 fun t28 w_5 =>
  ExtractV t28 0 fun t29 =>
  ExtractV t28 1 fun t30 =>
  NotV t30 fun t32 =>
  SplitV t32
  (BSliceV T.impl_Node 3 0 #[Value.int IntKind.i64 0, Value.slice none 0 0, Value.slice none 0 0] [] w_5 fun t33 w_6 =>
  R (Value.tuple #[t33, Value.bool false]) w_6)
  (BinV BinOp.add (nthV s 1) (Value.int IntKind.i64 1) fun t21 =>
  K [t29, t21] w_5))
  (R (Value.tuple #[nthV s 0, Value.bool true]) w_4))) :
    Calls Try.prog N.spec_FoldAll #[v0, v1] w (Ret R) :=
  callsB (args := [v0, v1]) ⟨(annOf [(5, [6, 7])]), (annOf []), []⟩ Try.func22 rfl (cast (by kernel_rfl) h)

theorem c_spec_FoldSame (v0 : Value) (v1 : Value) (w : World) (R : Value → World → Prop) (h :
  CallV Try.prog N.spec_PlanValid [v0] w fun t9 w_1 =>
  NotV t9 fun t10 =>
  SplitV t10
  (R (Value.bool false) w_1)
  (CallV Try.prog N.spec_PlanValid [v1] w_1 fun t13 w_2 =>
  NotV t13 fun t14 =>
  SplitV t14
  (R (Value.bool false) w_2)
  (LenV v0 fun t18 =>
  LenV v1 fun t20 =>
  BinV BinOp.neq t18 t20 fun t21 =>
  SplitV t21
  (R (Value.bool false) w_2)
  (CallV Try.prog N.spec_l4Values [v0] w_2 fun t24 w_3 =>
  CallV Try.prog N.spec_l4Values [v1] w_3 fun t26 w_4 =>
  LoopV [Value.int IntKind.i64 0] w_4 fun s _ w_5 K =>
  LenV t24 fun t29 =>
  BinV BinOp.lss (nthV s 0) t29 fun t30 =>
  SplitV t30
  (DrawV w_5 fun S w_6 =>
  IdxV 1 t24 (nthV s 0) fun t35 =>
  LoadS S false 1 t35 w_6 fun t36 =>
  IdxV 1 t26 (nthV s 0) fun t39 =>
  LoadS S false 1 t39 w_6 fun t40 =>
  CallV Try.prog N.spec_l13Same [t36, t40] w_6 fun t41 w_7 =>
  Chg S w_6 w_7 ∧
  NotV t41 fun t42 =>
  SplitV t42
  (R (Value.bool false) w_7)
  (BinV BinOp.add (nthV s 0) (Value.int IntKind.i64 1) fun t32 =>
  K [t32] w_7))
  (R (Value.bool true) w_5))))) :
    Calls Try.prog N.spec_FoldSame #[v0, v1] w (Ret R) :=
  callsB (args := [v0, v1]) ⟨(annOf [(6, [7])]), (annOf []), []⟩ Try.func30 rfl (cast (by kernel_rfl) h)

theorem c_spec_DrawFoldNode (v0 : Value) (w : World) (R : Value → World → Prop) (h :
  CallV Try.prog N.spec_l6Open [v0] w fun t5 w_1 =>
  CallV Try.prog N.spec_l91At [t5] w_1 fun t6 w_2 =>
  ExtractV t6 0 fun t7 =>
  ExtractV t6 1 fun t8 =>
  R (Value.tuple #[t7, t8]) w_2) :
    Calls Try.prog N.spec_DrawFoldNode #[v0] w (Ret R) :=
  callsB (args := [v0]) ⟨(annOf []), (annOf []), []⟩ Try.func31 rfl (cast (by kernel_rfl) h)

theorem c_spec_DrawFoldSame (v0 : Value) (w : World) (R : Value → World → Prop) (h :
  CallV Try.prog N.spec_l6Open [v0] w fun t10 w_1 =>
  CallV Try.prog N.spec_l92List [t10] w_1 fun t13 w_2 =>
  ExtractV t13 0 fun t14 =>
  ExtractV t13 1 fun t15 =>
  CallV Try.prog N.spec_FoldAll [t14, t15] w_2 fun t19 w_3 =>
  ExtractV t19 0 fun t20 =>
  ExtractV t19 1 fun t21 =>
  SplitV t21
  (CallV Try.prog N.spec_l6Rd_pick [t10, Value.int IntKind.i64 3] w_3 fun t25 w_4 =>
  BinV BinOp.gtr t25 (Value.int IntKind.i64 0) fun t26 =>
  SplitV t26
  (R (Value.tuple #[t14, t20]) w_4)
  (CallV Try.prog N.spec_l91Plan [t10] w_4 fun t32 w_5 =>
  R (Value.tuple #[t14, t32]) w_5))
  (CallV Try.prog N.spec_l91Plan [t10] w_3 fun t32_1 w_6 =>
  R (Value.tuple #[t14, t32_1]) w_6)) :
    Calls Try.prog N.spec_DrawFoldSame #[v0] w (Ret R) :=
  callsB (args := [v0]) ⟨(annOf []), (annOf []), []⟩ Try.func36 rfl (cast (by kernel_rfl) h)

theorem c_spec_l91At (v0 : Value) (w : World) (R : Value → World → Prop) (h :
  CallV Try.prog N.spec_l91Plan [v0] w fun t6 w_1 =>
  LenV t6 fun t10 =>
  BinV BinOp.add t10 (Value.int IntKind.i64 1) fun t11 =>
  CallV Try.prog N.spec_l6Rd_pick [v0, t11] w_1 fun t12 w_2 =>
  CallV Try.prog N.spec_l6Rd_pick [v0, Value.int IntKind.i64 20] w_2 fun t14 w_3 =>
  BinV BinOp.quo t14 (Value.int IntKind.i64 19) fun t15 =>
  BinV BinOp.sub t12 t15 fun t16 =>
  R (Value.tuple #[t6, t16]) w_3) :
    Calls Try.prog N.spec_l91At #[v0] w (Ret R) :=
  callsB (args := [v0]) ⟨(annOf []), (annOf []), []⟩ Try.func63 rfl (cast (by kernel_rfl) h)

theorem c_laws_sameNode (v0 : Value) (v1 : Value) (w : World) (R : Value → World → Prop) (h :
  BoxV T.impl_Node v0 w fun t2 w_1 =>
  BoxV T.impl_Node v1 w_1 fun t3 w_2 =>
  FAddrV 0 t2 fun t5 =>
  LoadV false 1 t5 w_2 fun t6 =>
  FAddrV 0 t3 fun t7 =>
  LoadV false 1 t7 w_2 fun t8 =>
  BinV BinOp.eql t6 t8 fun t9 =>
  SplitV t9
  (FAddrV 1 t2 fun t11 =>
  LoadV false 1 t11 w_2 fun t12 =>
  FAddrV 1 t3 fun t13 =>
  LoadV false 1 t13 w_2 fun t14 =>
  CallV Try.prog N.laws_sameRow [t12, t14] w_2 fun t15 w_3 =>
  SplitV t15
  (FAddrV 2 t2 fun t18 =>
  LoadV false 1 t18 w_3 fun t19 =>
  FAddrV 2 t3 fun t20 =>
  LoadV false 1 t20 w_3 fun t21 =>
  CallV Try.prog N.laws_sameRow [t19, t21] w_3 fun t22 w_4 =>
  R t22 w_4)
  (R (Value.bool false) w_3))
  (R (Value.bool false) w_2)) :
    Calls Try.prog N.laws_sameNode #[v0, v1] w (Ret R) :=
  callsB (args := [v0, v1]) ⟨(annOf []), (annOf []), []⟩ Try.func33 rfl (cast (by kernel_rfl) h)

theorem c_laws_samePlan (v0 : Value) (v1 : Value) (w : World) (R : Value → World → Prop) (h :
  LenV v0 fun t7 =>
  LenV v1 fun t9 =>
  BinV BinOp.neq t7 t9 fun t10 =>
  SplitV t10
  (R (Value.bool false) w)
  (LoopV [Value.int IntKind.i64 0] w fun s _ w_1 K =>
  LenV v0 fun t13 =>
  BinV BinOp.lss (nthV s 0) t13 fun t14 =>
  SplitV t14
  (DrawV w_1 fun S w_2 =>
  IdxV 3 v0 (nthV s 0) fun t19 =>
  LoadS S true 3 t19 w_2 fun t20 =>
  IdxV 3 v1 (nthV s 0) fun t23 =>
  LoadS S true 3 t23 w_2 fun t24 =>
  CallV Try.prog N.laws_sameNode [t20, t24] w_2 fun t25 w_3 =>
  Chg S w_2 w_3 ∧
  NotV t25 fun t26 =>
  SplitV t26
  (R (Value.bool false) w_3)
  (BinV BinOp.add (nthV s 0) (Value.int IntKind.i64 1) fun t16 =>
  K [t16] w_3))
  (R (Value.bool true) w_1))) :
    Calls Try.prog N.laws_samePlan #[v0, v1] w (Ret R) :=
  callsB (args := [v0, v1]) ⟨(annOf [(4, [5])]), (annOf []), []⟩ Try.func28 rfl (cast (by kernel_rfl) h)

theorem c_laws_sameRows (v0 : Value) (v1 : Value) (w : World) (R : Value → World → Prop) (h :
  LenV v0 fun t7 =>
  LenV v1 fun t9 =>
  BinV BinOp.neq t7 t9 fun t10 =>
  SplitV t10
  (R (Value.bool false) w)
  (LoopV [Value.int IntKind.i64 0] w fun s _ w_1 K =>
  LenV v0 fun t13 =>
  BinV BinOp.lss (nthV s 0) t13 fun t14 =>
  SplitV t14
  (DrawV w_1 fun S w_2 =>
  IdxV 1 v0 (nthV s 0) fun t19 =>
  LoadS S false 1 t19 w_2 fun t20 =>
  IdxV 1 v1 (nthV s 0) fun t23 =>
  LoadS S false 1 t23 w_2 fun t24 =>
  CallV Try.prog N.laws_sameRow [t20, t24] w_2 fun t25 w_3 =>
  Chg S w_2 w_3 ∧
  NotV t25 fun t26 =>
  SplitV t26
  (R (Value.bool false) w_3)
  (BinV BinOp.add (nthV s 0) (Value.int IntKind.i64 1) fun t16 =>
  K [t16] w_3))
  (R (Value.bool true) w_1))) :
    Calls Try.prog N.laws_sameRows #[v0, v1] w (Ret R) :=
  callsB (args := [v0, v1]) ⟨(annOf [(4, [5])]), (annOf []), []⟩ Try.func40 rfl (cast (by kernel_rfl) h)

end Go.Proofs.Ytblgkpfnjlobjaa
