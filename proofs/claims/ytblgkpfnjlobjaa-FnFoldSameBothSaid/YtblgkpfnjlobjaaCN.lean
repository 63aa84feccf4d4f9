/- The conditions of functions, off their texts. Printed by a program; Lean checks each one. -/
import Derived.Test.YtblgkpfnjlobjaaNames
import Derived.Test.YtblgkpfnjlobjaaV9
namespace Go.Proofs.Ytblgkpfnjlobjaa
open Go Go.V
set_option maxRecDepth 100000
theorem c_impl_nodeSet_has (v0 : Value) (v1 : Value) (w : World) (R : Value → World → Prop) (h :
  ShV BinOp.shr v0 v1 fun t7 =>
  BinV BinOp.and t7 (Value.int IntKind.u16 1) fun t8 =>
  BinV BinOp.neq t8 (Value.int IntKind.u16 0) fun t9 =>
  R t9 w) :
    Calls Try.prog N.impl_nodeSet_has #[v0, v1] w (Ret R) :=
  callsB (args := [v0, v1]) ⟨(annOf []), (annOf []), []⟩ Try.func87 rfl (cast (by kernel_rfl) h)

theorem c_impl_nodeSet_with (v0 : Value) (v1 : Value) (w : World) (R : Value → World → Prop) (h :
  ShV BinOp.shl (Value.int IntKind.u16 1) v1 fun t7 =>
  BinV BinOp.or v0 t7 fun t8 =>
  R t8 w) :
    Calls Try.prog N.impl_nodeSet_with #[v0, v1] w (Ret R) :=
  callsB (args := [v0, v1]) ⟨(annOf []), (annOf []), []⟩ Try.func88 rfl (cast (by kernel_rfl) h)

theorem c_impl_setOf (v0 : Value) (v1 : Value) (w : World) (R : Value → World → Prop) (h :
  LenV v1 fun t9 =>
  LoopV [Value.int IntKind.u16 0, Value.int IntKind.i64 0] w fun s _ w_1 K =>
  BinV BinOp.lss (nthV s 1) t9 fun t11 =>
  SplitV t11
  (IdxV 1 v1 (nthV s 1) fun t12 =>
  LoadV false 1 t12 w_1 fun t13 =>
  CallV Try.prog N.impl_isNode [v0, t13] w_1 fun t16 w_2 =>
  SplitV t16
  (CallV Try.prog N.impl_nodeSet_with [nthV s 0, t13] w_2 fun t19 w_3 =>
  BinV BinOp.add (nthV s 1) (Value.int IntKind.i64 1) fun t20 =>
  K [t19, t20] w_3)
  (BinV BinOp.add (nthV s 1) (Value.int IntKind.i64 1) fun t20_1 =>
  K [nthV s 0, t20_1] w_2))
  (R (nthV s 0) w_1)) :
    Calls Try.prog N.impl_setOf #[v0, v1] w (Ret R) :=
  callsB (args := [v0, v1]) ⟨(annOf [(3, [5, 10])]), (annOf []), []⟩ Try.func58 rfl (cast (by kernel_rfl) h)

theorem c_impl_allNodes (v0 : Value) (v1 : Value) (w : World) (R : Value → World → Prop) (h :
  LenV v1 fun t8 =>
  LoopV [Value.int IntKind.i64 0] w fun s _ w_1 K =>
  BinV BinOp.lss (nthV s 0) t8 fun t10 =>
  SplitV t10
  (IdxV 1 v1 (nthV s 0) fun t11 =>
  LoadV false 1 t11 w_1 fun t12 =>
  CallV Try.prog N.impl_isNode [v0, t12] w_1 fun t15 w_2 =>
  NotV t15 fun t16 =>
  SplitV t16
  (R (Value.bool false) w_2)
  (BinV BinOp.add (nthV s 0) (Value.int IntKind.i64 1) fun t17 =>
  K [t17] w_2))
  (R (Value.bool true) w_1)) :
    Calls Try.prog N.impl_allNodes #[v0, v1] w (Ret R) :=
  callsB (args := [v0, v1]) ⟨(annOf [(2, [9])]), (annOf []), []⟩ Try.func56 rfl (cast (by kernel_rfl) h)

theorem c_impl_planNode_markNeeds (v0 : Value) (v1 : Value) (w : World) (R : Value → World → Prop) (h :
  NilV v0 fun t7 =>
  FAddrV 1 t7 fun t8 =>
  LoadV false 1 t8 w fun t9 =>
  LenV t9 fun t10 =>
  LoopV [Value.int IntKind.i64 0] w fun s _ w_1 K =>
  BinV BinOp.lss (nthV s 0) t10 fun t12 =>
  SplitV t12
  (IdxV 1 t9 (nthV s 0) fun t13 =>
  LoadV false 1 t13 w_1 fun t14 =>
  DrawV w_1 fun S w_2 =>
  NilV t14 fun t17 =>
  FAddrV 0 t17 fun t18 =>
  LoadS S false 1 t18 w_2 fun t19 =>
  NilV v1 fun t20 =>
  IdxAV 10 1 t20 t19 fun t21 =>
  LoadS S false 1 t21 w_2 fun t22 =>
  NotV t22 fun t23 =>
  SplitV t23
  (DrawV w_2 fun S_1 w_3 =>
  NilV t14 fun t26 =>
  FAddrV 0 t26 fun t27 =>
  LoadS S_1 false 1 t27 w_3 fun t28 =>
  NilV v1 fun t29 =>
  IdxAV 10 1 t29 t28 fun t30 =>
  StoreV 1 t30 (Value.bool true) w_3 fun w_4 =>
  Chg S_1 w_3 w_4 ∧
  CallV Try.prog N.impl_planNode_markNeeds [t14, v1] w_4 fun _ w_5 =>
  BinV BinOp.add (nthV s 0) (Value.int IntKind.i64 1) fun t34 =>
  K [t34] w_5)
  (BinV BinOp.add (nthV s 0) (Value.int IntKind.i64 1) fun t34_1 =>
  K [t34_1] w_2))
  (R (Value.tuple #[]) w_1)) :
    Calls Try.prog N.impl_planNode_markNeeds #[v0, v1] w (Ret R) :=
  callsB (args := [v0, v1]) ⟨(annOf [(1, [11])]), (annOf []), []⟩ Try.func68 rfl (cast (by kernel_rfl) h)

theorem c_impl_PlanNeeds (v0 : Value) (v1 : Value) (w : World) (R : Value → World → Prop) (h :
  CallV Try.prog N.impl_graphOf [v0] w fun t13 w_1 =>
  ExtractV t13 0 fun t14 =>
  ExtractV t13 1 fun t15 =>
  NotV t15 fun t17 =>
  SplitV t17
  (R (Value.slice none 0 0) w_1)
  (CallV Try.prog N.impl_isNode [v0, v1] w_1 fun t21 w_2 =>
  NotV t21 fun t22 =>
  SplitV t22
  (R (Value.slice none 0 0) w_2)
  (BoxV T.a10_bool (Value.agg #[Value.bool false, Value.bool false, Value.bool false, Value.bool false, Value.bool false, Value.bool false, Value.bool false, Value.bool false, Value.bool false, Value.bool false]) w_2 fun t7 w_3 =>
  IdxV 1 t14 v1 fun t26 =>
  LoadV false 1 t26 w_3 fun t27 =>
  CallV Try.prog N.impl_planNode_markNeeds [t27, t7] w_3 fun _ w_4 =>
  LoadV true 10 t7 w_4 fun t29 =>
  LoopV [Value.slice none 0 0, Value.int IntKind.i64 0] w_4 fun s _ w_5 K =>
  BinV BinOp.lss (nthV s 1) (Value.int IntKind.i64 10) fun t31 =>
  SplitV t31
  (IndexV 10 1 t29 (nthV s 1) fun t33 =>
  SplitV t33
  (BSliceV T.int 1 1 #[Value.int IntKind.i64 0] [(0, nthV s 1)] w_5 fun t37 w_6 =>
  AppendV Try.prog T.sl_int (nthV s 0) t37 w_6 fun t38 w_7 =>
  BinV BinOp.add (nthV s 1) (Value.int IntKind.i64 1) fun t39 =>
  K [t38, t39] w_7)
  (BinV BinOp.add (nthV s 1) (Value.int IntKind.i64 1) fun t39_1 =>
  K [nthV s 0, t39_1] w_5))
  (R (nthV s 0) w_5)))) :
    Calls Try.prog N.impl_PlanNeeds #[v0, v1] w (Ret R) :=
  callsB (args := [v0, v1]) ⟨(annOf [(8, [8, 30])]), (annOf []), []⟩ Try.func37 rfl (cast (by kernel_rfl) h)

theorem c_spec_l92List (v0 : Value) (w : World) (R : Value → World → Prop) (h :
  CallV Try.prog N.spec_l91Plan [v0] w fun t9 w_1 =>
  BSliceV T.int 1 0 #[Value.int IntKind.i64 0] [] w_1 fun t10 w_2 =>
  CallV Try.prog N.spec_l6Rd_pick [v0, Value.int IntKind.i64 4] w_2 fun t12 w_3 =>
  LoopV [t10, Value.int IntKind.i64 0] w_3 fun s _ w_4 K =>
  BinV BinOp.lss (nthV s 1) t12 fun t15 =>
  SplitV t15
  (LenV t9 fun t18 =>
  BinV BinOp.gtr t18 (Value.int IntKind.i64 0) fun t19 =>
  SplitV t19
  (LenV t9 fun t26 =>
  CallV Try.prog N.spec_l6Rd_pick [v0, t26] w_4 fun t27 w_5 =>
  BSliceV T.int 1 1 #[Value.int IntKind.i64 0] [(0, t27)] w_5 fun t28 w_6 =>
  AppendV Try.prog T.sl_int (nthV s 0) t28 w_6 fun t29 w_7 =>
  BinV BinOp.add (nthV s 1) (Value.int IntKind.i64 1) fun t22 =>
  K [t29, t22] w_7)
  (CallV Try.prog N.spec_l6Rd_pick [v0, Value.int IntKind.i64 16] w_4 fun t31 w_8 =>
  BinV BinOp.eql t31 (Value.int IntKind.i64 0) fun t32 =>
  SplitV t32
  (LenV t9 fun t35 =>
  BSliceV T.int 1 2 #[Value.int IntKind.i64 0] [(0, Value.int IntKind.i64 (-1)), (1, t35)] w_8 fun t36 w_9 =>
  CallV Try.prog N.spec_l6Rd_pick [v0, Value.int IntKind.i64 2] w_9 fun t38 w_10 =>
  IdxV 1 t36 t38 fun t39 =>
  LoadV false 1 t39 w_10 fun t40 =>
  BSliceV T.int 1 1 #[Value.int IntKind.i64 0] [(0, t40)] w_10 fun t41 w_11 =>
  AppendV Try.prog T.sl_int (nthV s 0) t41 w_11 fun t42 w_12 =>
  R (Value.tuple #[t9, t42]) w_12)
  (R (Value.tuple #[t9, nthV s 0]) w_8)))
  (CallV Try.prog N.spec_l6Rd_pick [v0, Value.int IntKind.i64 16] w_4 fun t31_1 w_13 =>
  BinV BinOp.eql t31_1 (Value.int IntKind.i64 0) fun t32_1 =>
  SplitV t32_1
  (LenV t9 fun t35_1 =>
  BSliceV T.int 1 2 #[Value.int IntKind.i64 0] [(0, Value.int IntKind.i64 (-1)), (1, t35_1)] w_13 fun t36_1 w_14 =>
  CallV Try.prog N.spec_l6Rd_pick [v0, Value.int IntKind.i64 2] w_14 fun t38_1 w_15 =>
  IdxV 1 t36_1 t38_1 fun t39_1 =>
  LoadV false 1 t39_1 w_15 fun t40_1 =>
  BSliceV T.int 1 1 #[Value.int IntKind.i64 0] [(0, t40_1)] w_15 fun t41_1 w_16 =>
  AppendV Try.prog T.sl_int (nthV s 0) t41_1 w_16 fun t42_1 w_17 =>
  R (Value.tuple #[t9, t42_1]) w_17)
  (R (Value.tuple #[t9, nthV s 0]) w_13))) :
    Calls Try.prog N.spec_l92List #[v0] w (Ret R) :=
  callsB (args := [v0]) ⟨(annOf [(5, [5, 7])]), (annOf []), []⟩ Try.func59 rfl (cast (by kernel_rfl) h)

theorem c_spec_DrawFoldAll (v0 : Value) (w : World) (R : Value → World → Prop) (h :
  CallV Try.prog N.spec_l6Open [v0] w fun t5 w_1 =>
  CallV Try.prog N.spec_l92List [t5] w_1 fun t6 w_2 =>
  ExtractV t6 0 fun t7 =>
  ExtractV t6 1 fun t8 =>
  R (Value.tuple #[t7, t8]) w_2) :
    Calls Try.prog N.spec_DrawFoldAll #[v0] w (Ret R) :=
  callsB (args := [v0]) ⟨(annOf []), (annOf []), []⟩ Try.func27 rfl (cast (by kernel_rfl) h)

end Go.Proofs.Ytblgkpfnjlobjaa
