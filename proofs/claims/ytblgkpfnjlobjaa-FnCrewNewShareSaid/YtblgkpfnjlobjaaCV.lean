/- The conditions of functions, off their texts. Printed by a program; Lean checks each one. -/
import Derived.Test.YtblgkpfnjlobjaaNames
import Derived.Test.YtblgkpfnjlobjaaV9
namespace Go.Proofs.Ytblgkpfnjlobjaa
open Go Go.V
set_option maxRecDepth 100000
theorem c_impl_ValuesOf (v0 : Value) (w : World) (R : Value → World → Prop) (h :
  BoxV T.sl_impl_Node v0 w fun t1 w_1 =>
  LoadV false 1 t1 w_1 fun t9 =>
  CallV Try.prog N.impl_PlanValid [t9] w_1 fun t10 w_2 =>
  NotV t10 fun t11 =>
  SplitV t11
  (R (Value.tuple #[Value.slice none 0 0, Value.bool false]) w_2)
  (LoadV false 1 t1 w_2 fun t12 =>
  LenV t12 fun t13 =>
  MakeSliceV T.sl_int 1 24 #[Value.slice none 0 0] t13 t13 w_2 fun t14 w_3 =>
  BoxV T.sl_sl_int (Value.slice none 0 0) w_3 fun t4 w_4 =>
  StoreV 1 t4 t14 w_4 fun w_5 =>
  BoxV T.a10_bool (Value.agg #[Value.bool false, Value.bool false, Value.bool false, Value.bool false, Value.bool false, Value.bool false, Value.bool false, Value.bool false, Value.bool false, Value.bool false]) w_5 fun t5 w_6 =>
  BoxV T.func_sl_int_sl_sl_int Value.nilFunc w_6 fun t6 w_7 =>
  BoxV T.func_int_sl_int Value.nilFunc w_7 fun t7 w_8 =>
  StoreV 1 t7 (Value.func (Fn.func N.impl_ValuesOf_1) #[] #[t5, t4, t1, t6]) w_8 fun w_9 =>
  StoreV 1 t6 (Value.func (Fn.func N.impl_ValuesOf_2) #[] #[t7]) w_9 fun w_10 =>
  LoadV false 1 t1 w_10 fun t17 =>
  LenV t17 fun t18 =>
  LoopV [Value.int IntKind.i64 0] w_10 fun s _ w_11 K =>
  BinV BinOp.lss (nthV s 0) t18 fun t20 =>
  SplitV t20
  (LoadV false 1 t7 w_11 fun t22 =>
  CallFV Try.prog (okFn Try.prog) t22 [nthV s 0] w_11 fun _ w_12 =>
  BinV BinOp.add (nthV s 0) (Value.int IntKind.i64 1) fun t25 =>
  K [t25] w_12)
  (LoadV false 1 t4 w_11 fun t26 =>
  R (Value.tuple #[t26, Value.bool true]) w_11))) :
    Calls Try.prog N.impl_ValuesOf #[v0] w (Ret R) :=
  callsB (args := [v0]) ⟨(annOf [(9, [19])]), (annOf []), []⟩ Try.func39 rfl (cast (by kernel_rfl) h)

theorem c_impl_ValuesOf_1 (v0 : Value) (v1 : Value) (v2 : Value) (v3 : Value) (v4 : Value) (w : World) (R : Value → World → Prop) (h :
  IdxAV 10 1 v1 v0 fun t9 =>
  LoadV false 1 t9 w fun t10 =>
  SplitV t10
  (LoadV false 1 v2 w fun t11 =>
  IdxV 1 t11 v0 fun t13 =>
  LoadV false 1 t13 w fun t14 =>
  R t14 w)
  (LoadV false 1 v3 w fun t15 =>
  IdxV 3 t15 v0 fun t17 =>
  LoadV true 3 t17 w fun t18 =>
  BoxV T.impl_Node (Value.agg #[Value.int IntKind.i64 0, Value.slice none 0 0, Value.slice none 0 0]) w fun t7 w_1 =>
  StoreV 3 t7 t18 w_1 fun w_2 =>
  FAddrV 0 t7 fun t19 =>
  LoadV false 1 t19 w_2 fun t20 =>
  BinV BinOp.eql t20 (Value.int IntKind.i64 0) fun t21 =>
  SplitV t21
  (DrawV w_2 fun S w_3 =>
  LoadS S false 1 v2 w_3 fun t22 =>
  FAddrV 2 t7 fun t24 =>
  LoadS S false 1 t24 w_3 fun t25 =>
  CallV Try.prog N.impl_copyInts [t25] w_3 fun t26 w_4 =>
  Chg S w_3 w_4 ∧
  IdxV 1 t22 v0 fun t27 =>
  StoreV 1 t27 t26 w_4 fun w_5 =>
  IdxAV 10 1 v1 v0 fun t42 =>
  StoreV 1 t42 (Value.bool true) w_5 fun w_6 =>
  LoadV false 1 v2 w_6 fun t43 =>
  IdxV 1 t43 v0 fun t45 =>
  LoadV false 1 t45 w_6 fun t46 =>
  R t46 w_6)
  (DrawV w_2 fun S_1 w_7 =>
  LoadS S_1 false 1 v2 w_7 fun t29 =>
  FAddrV 0 t7 fun t31 =>
  LoadS S_1 false 1 t31 w_7 fun t32 =>
  LoadS S_1 false 1 v4 w_7 fun t33 =>
  FAddrV 1 t7 fun t34 =>
  LoadS S_1 false 1 t34 w_7 fun t35 =>
  CallFV Try.prog (okFn Try.prog) t33 [t35] w_7 fun t36 w_8 =>
  Chg S_1 w_7 w_8 ∧
  CallV Try.prog N.impl_KindRun [t32, t36] w_8 fun t37 w_9 =>
  Chg S_1 w_8 w_9 ∧
  ExtractV t37 0 fun t38 =>
  ExtractV t37 1 fun _ =>
  IdxV 1 t29 v0 fun t40 =>
  StoreV 1 t40 t38 w_9 fun w_10 =>
  Chg S_1 w_9 w_10 ∧
  IdxAV 10 1 v1 v0 fun t42_1 =>
  StoreV 1 t42_1 (Value.bool true) w_10 fun w_11 =>
  LoadV false 1 v2 w_11 fun t43_1 =>
  IdxV 1 t43_1 v0 fun t45_1 =>
  LoadV false 1 t45_1 w_11 fun t46_1 =>
  R t46_1 w_11))) :
    Calls Try.prog N.impl_ValuesOf_1 #[v0, v1, v2, v3, v4] w (Ret R) :=
  callsB (args := [v0, v1, v2, v3, v4]) ⟨(annOf []), (annOf []), []⟩ Try.func69 rfl (cast (by kernel_rfl) h)

theorem c_impl_ValuesOf_2 (v0 : Value) (v1 : Value) (w : World) (R : Value → World → Prop) (h :
  LenV v0 fun t8 =>
  MakeSliceV T.sl_int 1 24 #[Value.slice none 0 0] t8 t8 w fun t9 w_1 =>
  LenV v0 fun t11 =>
  LoopV [Value.int IntKind.i64 0] w_1 fun s _ w_2 K =>
  BinV BinOp.lss (nthV s 0) t11 fun t13 =>
  SplitV t13
  (IdxV 1 v0 (nthV s 0) fun t15 =>
  LoadV false 1 t15 w_2 fun t16 =>
  LoadV false 1 v1 w_2 fun t19 =>
  CallFV Try.prog (okFn Try.prog) t19 [t16] w_2 fun t21 w_3 =>
  IdxV 1 t9 (nthV s 0) fun t22 =>
  StoreV 1 t22 t21 w_3 fun w_4 =>
  BinV BinOp.add (nthV s 0) (Value.int IntKind.i64 1) fun t23 =>
  K [t23] w_4)
  (R t9 w_2)) :
    Calls Try.prog N.impl_ValuesOf_2 #[v0, v1] w (Ret R) :=
  callsB (args := [v0, v1]) ⟨(annOf [(3, [12])]), (annOf []), []⟩ Try.func72 rfl (cast (by kernel_rfl) h)

theorem c_impl_ValueOf (v0 : Value) (v1 : Value) (w : World) (R : Value → World → Prop) (h :
  CallV Try.prog N.impl_ValuesOf [v0] w fun t10 w_1 =>
  ExtractV t10 0 fun t11 =>
  ExtractV t10 1 fun t12 =>
  NotV t12 fun t14 =>
  SplitV t14
  (R (Value.tuple #[Value.slice none 0 0, Value.bool false]) w_1)
  (CallV Try.prog N.impl_isNode [v0, v1] w_1 fun t18 w_2 =>
  NotV t18 fun t19 =>
  SplitV t19
  (R (Value.tuple #[Value.slice none 0 0, Value.bool false]) w_2)
  (IdxV 1 t11 v1 fun t23 =>
  LoadV false 1 t23 w_2 fun t24 =>
  R (Value.tuple #[t24, Value.bool true]) w_2))) :
    Calls Try.prog N.impl_ValueOf #[v0, v1] w (Ret R) :=
  callsB (args := [v0, v1]) ⟨(annOf []), (annOf []), []⟩ Try.func32 rfl (cast (by kernel_rfl) h)

theorem c_impl_KindRun (v0 : Value) (v1 : Value) (w : World) (R : Value → World → Prop) (h :
  CallV Try.prog N.impl_workOf [v0] w fun t9 w_1 =>
  TAssertV T.impl_pairWork (Value.agg #[Value.nilFunc]) t9 fun t10 =>
  ExtractV t10 1 fun t11 =>
  ExtractV t10 0 fun t12 =>
  SplitV t11
  (BoxV T.impl_pairWork (Value.agg #[Value.nilFunc]) w_1 fun t6 w_2 =>
  StoreV 1 t6 t12 w_2 fun w_3 =>
  LenV v1 fun t14 =>
  LoadV true 1 t6 w_3 fun t15 =>
  CallV Try.prog N.impl_pairWork_needs [t15] w_3 fun t16 w_4 =>
  BinV BinOp.eql t14 t16 fun t17 =>
  SplitV t17
  (DrawV w_4 fun S w_5 =>
  FAddrV 0 t6 fun t18 =>
  LoadS S false 1 t18 w_5 fun t19 =>
  IdxV 1 v1 (Value.int IntKind.i64 0) fun t21 =>
  LoadS S false 1 t21 w_5 fun t22 =>
  IdxV 1 v1 (Value.int IntKind.i64 1) fun t24 =>
  LoadS S false 1 t24 w_5 fun t25 =>
  CallFV Try.prog (okFn Try.prog) t19 [t22, t25] w_5 fun t26 w_6 =>
  Chg S w_5 w_6 ∧
  ExtractV t26 0 fun t27 =>
  ExtractV t26 1 fun t28 =>
  R (Value.tuple #[t27, t28]) w_6)
  (R (Value.tuple #[Value.slice none 0 0, Value.bool false]) w_4))
  (TAssertV T.impl_loneWork (Value.agg #[Value.nilFunc]) t9 fun t29 =>
  ExtractV t29 1 fun t30 =>
  ExtractV t29 0 fun t31 =>
  SplitV t30
  (BoxV T.impl_loneWork (Value.agg #[Value.nilFunc]) w_1 fun t7 w_7 =>
  StoreV 1 t7 t31 w_7 fun w_8 =>
  LenV v1 fun t33 =>
  LoadV true 1 t7 w_8 fun t34 =>
  CallV Try.prog N.impl_loneWork_needs [t34] w_8 fun t35 w_9 =>
  BinV BinOp.eql t33 t35 fun t36 =>
  SplitV t36
  (DrawV w_9 fun S_1 w_10 =>
  FAddrV 0 t7 fun t37 =>
  LoadS S_1 false 1 t37 w_10 fun t38 =>
  IdxV 1 v1 (Value.int IntKind.i64 0) fun t40 =>
  LoadS S_1 false 1 t40 w_10 fun t41 =>
  CallFV Try.prog (okFn Try.prog) t38 [t41] w_10 fun t42 w_11 =>
  Chg S_1 w_10 w_11 ∧
  ExtractV t42 0 fun t43 =>
  ExtractV t42 1 fun t44 =>
  R (Value.tuple #[t43, t44]) w_11)
  (R (Value.tuple #[Value.slice none 0 0, Value.bool false]) w_9))
  (R (Value.tuple #[Value.slice none 0 0, Value.bool false]) w_1))) :
    Calls Try.prog N.impl_KindRun #[v0, v1] w (Ret R) :=
  callsB (args := [v0, v1]) ⟨(annOf []), (annOf []), []⟩ Try.func71 rfl (cast (by kernel_rfl) h)

theorem c_impl_RowAdd (v0 : Value) (v1 : Value) (w : World) (R : Value → World → Prop) (h :
  CallV Try.prog N.impl_rowValues_join [v0, v1, Value.func (Fn.func N.impl_RowAdd_1) #[] #[]] w fun t8 w_1 =>
  ExtractV t8 0 fun t9 =>
  ExtractV t8 1 fun t10 =>
  R (Value.tuple #[t9, t10]) w_1) :
    Calls Try.prog N.impl_RowAdd #[v0, v1] w (Ret R) :=
  callsB (args := [v0, v1]) ⟨(annOf []), (annOf []), []⟩ Try.func109 rfl (cast (by kernel_rfl) h)

theorem c_impl_RowTimes (v0 : Value) (v1 : Value) (w : World) (R : Value → World → Prop) (h :
  CallV Try.prog N.impl_rowValues_join [v0, v1, Value.func (Fn.func N.impl_RowTimes_1) #[] #[]] w fun t8 w_1 =>
  ExtractV t8 0 fun t9 =>
  ExtractV t8 1 fun t10 =>
  R (Value.tuple #[t9, t10]) w_1) :
    Calls Try.prog N.impl_RowTimes #[v0, v1] w (Ret R) :=
  callsB (args := [v0, v1]) ⟨(annOf []), (annOf []), []⟩ Try.func110 rfl (cast (by kernel_rfl) h)

theorem c_impl_RowSums (v0 : Value) (w : World) (R : Value → World → Prop) (h :
  CallV Try.prog N.impl_rowValues_valid [v0] w fun t7 w_1 =>
  NotV t7 fun t8 =>
  SplitV t8
  (R (Value.tuple #[Value.slice none 0 0, Value.bool false]) w_1)
  (CallV Try.prog N.impl_rowValues_sums [v0] w_1 fun t10 w_2 =>
  R (Value.tuple #[t10, Value.bool true]) w_2)) :
    Calls Try.prog N.impl_RowSums #[v0] w (Ret R) :=
  callsB (args := [v0]) ⟨(annOf []), (annOf []), []⟩ Try.func111 rfl (cast (by kernel_rfl) h)

theorem c_impl_RowSort (v0 : Value) (w : World) (R : Value → World → Prop) (h :
  CallV Try.prog N.impl_rowValues_valid [v0] w fun t7 w_1 =>
  NotV t7 fun t8 =>
  SplitV t8
  (R (Value.tuple #[Value.slice none 0 0, Value.bool false]) w_1)
  (CallV Try.prog N.impl_rowValues_sorted [v0] w_1 fun t10 w_2 =>
  R (Value.tuple #[t10, Value.bool true]) w_2)) :
    Calls Try.prog N.impl_RowSort #[v0] w (Ret R) :=
  callsB (args := [v0]) ⟨(annOf []), (annOf []), []⟩ Try.func112 rfl (cast (by kernel_rfl) h)

theorem c_impl_RowTurn (v0 : Value) (w : World) (R : Value → World → Prop) (h :
  CallV Try.prog N.impl_rowValues_valid [v0] w fun t7 w_1 =>
  NotV t7 fun t8 =>
  SplitV t8
  (R (Value.tuple #[Value.slice none 0 0, Value.bool false]) w_1)
  (CallV Try.prog N.impl_rowValues_turned [v0] w_1 fun t10 w_2 =>
  R (Value.tuple #[t10, Value.bool true]) w_2)) :
    Calls Try.prog N.impl_RowTurn #[v0] w (Ret R) :=
  callsB (args := [v0]) ⟨(annOf []), (annOf []), []⟩ Try.func113 rfl (cast (by kernel_rfl) h)

theorem c_impl_RowAdd_1 (v0 : Value) (v1 : Value) (w : World) (R : Value → World → Prop) (h :
  BinV BinOp.add v0 v1 fun t7 =>
  R t7 w) :
    Calls Try.prog N.impl_RowAdd_1 #[v0, v1] w (Ret R) :=
  callsB (args := [v0, v1]) ⟨(annOf []), (annOf []), []⟩ Try.func123 rfl (cast (by kernel_rfl) h)

theorem c_impl_RowTimes_1 (v0 : Value) (v1 : Value) (w : World) (R : Value → World → Prop) (h :
  BinV BinOp.mul v0 v1 fun t7 =>
  R t7 w) :
    Calls Try.prog N.impl_RowTimes_1 #[v0, v1] w (Ret R) :=
  callsB (args := [v0, v1]) ⟨(annOf []), (annOf []), []⟩ Try.func124 rfl (cast (by kernel_rfl) h)

theorem c_impl_rowValues_join (v0 : Value) (v1 : Value) (v2 : Value) (w : World) (R : Value → World → Prop) (h :
  CallV Try.prog N.impl_rowValues_valid [v0] w fun t12 w_1 =>
  NotV t12 fun t13 =>
  SplitV t13
  (R (Value.tuple #[Value.slice none 0 0, Value.bool false]) w_1)
  (CallV Try.prog N.impl_rowValues_valid [v1] w_1 fun t16 w_2 =>
  NotV t16 fun t17 =>
  SplitV t17
  (R (Value.tuple #[Value.slice none 0 0, Value.bool false]) w_2)
  (LenV v0 fun t21 =>
  LenV v1 fun t23 =>
  BinV BinOp.neq t21 t23 fun t24 =>
  SplitV t24
  (R (Value.tuple #[Value.slice none 0 0, Value.bool false]) w_2)
  (LenV v0 fun t27 =>
  MakeSliceV T.int 1 8 #[Value.int IntKind.i64 0] t27 t27 w_2 fun t28 w_3 =>
  LenV v0 fun t30 =>
  LoopV [Value.int IntKind.i64 0] w_3 fun s _ w_4 K =>
  BinV BinOp.lss (nthV s 0) t30 fun t32 =>
  SplitV t32
  (IdxV 1 v0 (nthV s 0) fun t34 =>
  LoadV false 1 t34 w_4 fun t35 =>
  IdxV 1 v1 (nthV s 0) fun t42 =>
  LoadV false 1 t42 w_4 fun t43 =>
  CallFV Try.prog (okFn Try.prog) v2 [t35, t43] w_4 fun t44 w_5 =>
  BinV BinOp.rem t44 (Value.int IntKind.i64 1009) fun t45 =>
  IdxV 1 t28 (nthV s 0) fun t46 =>
  StoreV 1 t46 t45 w_5 fun w_6 =>
  BinV BinOp.add (nthV s 0) (Value.int IntKind.i64 1) fun t47 =>
  K [t47] w_6)
  (R (Value.tuple #[t28, Value.bool true]) w_4))))) :
    Calls Try.prog N.impl_rowValues_join #[v0, v1, v2] w (Ret R) :=
  callsB (args := [v0, v1, v2]) ⟨(annOf [(5, [31])]), (annOf []), []⟩ Try.func122 rfl (cast (by kernel_rfl) h)

theorem c_impl_rowValues_sums (v0 : Value) (w : World) (R : Value → World → Prop) (h :
  LenV v0 fun t8 =>
  MakeSliceV T.int 1 8 #[Value.int IntKind.i64 0] t8 t8 w fun t9 w_1 =>
  LenV v0 fun t11 =>
  LoopV [Value.int IntKind.i64 0, Value.int IntKind.i64 0] w_1 fun s _ w_2 K =>
  BinV BinOp.lss (nthV s 1) t11 fun t13 =>
  SplitV t13
  (IdxV 1 v0 (nthV s 1) fun t15 =>
  LoadV false 1 t15 w_2 fun t16 =>
  BinV BinOp.add (nthV s 0) t16 fun t19 =>
  BinV BinOp.rem t19 (Value.int IntKind.i64 1009) fun t20 =>
  IdxV 1 t9 (nthV s 1) fun t24 =>
  StoreV 1 t24 t20 w_2 fun w_3 =>
  BinV BinOp.add (nthV s 1) (Value.int IntKind.i64 1) fun t25 =>
  K [t20, t25] w_3)
  (R t9 w_2)) :
    Calls Try.prog N.impl_rowValues_sums #[v0] w (Ret R) :=
  callsB (args := [v0]) ⟨(annOf [(4, [4, 12])]), (annOf []), []⟩ Try.func125 rfl (cast (by kernel_rfl) h)

theorem c_impl_rowValues_sorted (v0 : Value) (w : World) (R : Value → World → Prop) (h :
  AppendV Try.prog T.impl_rowValues (Value.slice none 0 0) v0 w fun t5 w_1 =>
  CallV Try.prog N.slices_Sort [t5] w_1 fun _ w_2 =>
  R t5 w_2) :
    Calls Try.prog N.impl_rowValues_sorted #[v0] w (Ret R) :=
  callsB (args := [v0]) ⟨(annOf []), (annOf []), []⟩ Try.func126 rfl (cast (by kernel_rfl) h)

theorem c_impl_rowValues_turned (v0 : Value) (w : World) (R : Value → World → Prop) (h :
  AppendV Try.prog T.impl_rowValues (Value.slice none 0 0) v0 w fun t5 w_1 =>
  CallV Try.prog N.slices_Reverse [t5] w_1 fun _ w_2 =>
  R t5 w_2) :
    Calls Try.prog N.impl_rowValues_turned #[v0] w (Ret R) :=
  callsB (args := [v0]) ⟨(annOf []), (annOf []), []⟩ Try.func127 rfl (cast (by kernel_rfl) h)

theorem c_spec_l4Step (v0 : Value) (v1 : Value) (w : World) (R : Value → World → Prop) (h :
  BoxV T.impl_Node v0 w fun t2 w_1 =>
  FAddrV 0 t2 fun t9 =>
  LoadV false 1 t9 w_1 fun t10 =>
  BinV BinOp.eql t10 (Value.int IntKind.i64 0) fun t11 =>
  SplitV t11
  (BSliceV T.int 1 0 #[Value.int IntKind.i64 0] [] w_1 fun t12 w_2 =>
  FAddrV 2 t2 fun t13 =>
  LoadV false 1 t13 w_2 fun t14 =>
  AppendV Try.prog T.sl_int t12 t14 w_2 fun t15 w_3 =>
  R t15 w_3)
  (BSliceV T.sl_int 1 0 #[Value.slice none 0 0] [] w_1 fun t16 w_4 =>
  LoopV [t16, Value.int IntKind.i64 0] w_4 fun s _ w_5 K =>
  FAddrV 1 t2 fun t18 =>
  LoadV false 1 t18 w_5 fun t19 =>
  LenV t19 fun t20 =>
  BinV BinOp.lss (nthV s 1) t20 fun t21 =>
  SplitV t21
  (FAddrV 1 t2 fun t26 =>
  LoadV false 1 t26 w_5 fun t27 =>
  IdxV 1 t27 (nthV s 1) fun t29 =>
  LoadV false 1 t29 w_5 fun t30 =>
  IdxV 1 v1 t30 fun t31 =>
  LoadV false 1 t31 w_5 fun t32 =>
  BSliceV T.sl_int 1 1 #[Value.slice none 0 0] [(0, t32)] w_5 fun t33 w_6 =>
  AppendV Try.prog T.sl_sl_int (nthV s 0) t33 w_6 fun t34 w_7 =>
  BinV BinOp.add (nthV s 1) (Value.int IntKind.i64 1) fun t23 =>
  K [t34, t23] w_7)
  (FAddrV 0 t2 fun t36 =>
  LoadV false 1 t36 w_5 fun t37 =>
  CallV Try.prog N.spec_KindRun [t37, nthV s 0] w_5 fun t39 w_8 =>
  ExtractV t39 0 fun t40 =>
  ExtractV t39 1 fun _ =>
  R t40 w_8))) :
    Calls Try.prog N.spec_l4Step #[v0, v1] w (Ret R) :=
  callsB (args := [v0, v1]) ⟨(annOf [(5, [5, 6])]), (annOf []), []⟩ Try.func85 rfl (cast (by kernel_rfl) h)

theorem c_spec_l4Values (v0 : Value) (w : World) (R : Value → World → Prop) (h :
  BSliceV T.sl_int 1 0 #[Value.slice none 0 0] [] w fun t5 w_1 =>
  LoopV [t5, Value.int IntKind.i64 0] w_1 fun s _ w_2 K =>
  LenV v0 fun t8 =>
  BinV BinOp.lss (nthV s 1) t8 fun t9 =>
  SplitV t9
  (IdxV 3 v0 (nthV s 1) fun t15 =>
  LoadV true 3 t15 w_2 fun t16 =>
  CallV Try.prog N.spec_l4Step [t16, nthV s 0] w_2 fun t18 w_3 =>
  BSliceV T.sl_int 1 1 #[Value.slice none 0 0] [(0, t18)] w_3 fun t19 w_4 =>
  AppendV Try.prog T.sl_sl_int (nthV s 0) t19 w_4 fun t20 w_5 =>
  BinV BinOp.add (nthV s 1) (Value.int IntKind.i64 1) fun t11 =>
  K [t20, t11] w_5)
  (R (nthV s 0) w_2)) :
    Calls Try.prog N.spec_l4Values #[v0] w (Ret R) :=
  callsB (args := [v0]) ⟨(annOf [(3, [3, 4])]), (annOf []), []⟩ Try.func52 rfl (cast (by kernel_rfl) h)

theorem c_spec_KindRun (v0 : Value) (v1 : Value) (w : World) (R : Value → World → Prop) (h :
  BinV BinOp.eql v0 (Value.int IntKind.i64 0) fun t7 =>
  SplitV t7
  (BSliceV T.int 1 0 #[Value.int IntKind.i64 0] [] w fun t15 w_1 =>
  R (Value.tuple #[t15, Value.bool false]) w_1)
  (CallV Try.prog N.spec_KindNeeds [v0] w fun t10 w_2 =>
  LenV v1 fun t12 =>
  BinV BinOp.neq t10 t12 fun t13 =>
  SplitV t13
  (BSliceV T.int 1 0 #[Value.int IntKind.i64 0] [] w_2 fun t15_1 w_3 =>
  R (Value.tuple #[t15_1, Value.bool false]) w_3)
  (BinV BinOp.eql v0 (Value.int IntKind.i64 1) fun t18 =>
  SplitV t18
  (DrawV w_2 fun S w_4 =>
  IdxV 1 v1 (Value.int IntKind.i64 0) fun t20 =>
  LoadS S false 1 t20 w_4 fun t21 =>
  IdxV 1 v1 (Value.int IntKind.i64 1) fun t23 =>
  LoadS S false 1 t23 w_4 fun t24 =>
  CallV Try.prog N.spec_RowAdd [t21, t24] w_4 fun t25 w_5 =>
  Chg S w_4 w_5 ∧
  ExtractV t25 0 fun t26 =>
  ExtractV t25 1 fun t27 =>
  R (Value.tuple #[t26, t27]) w_5)
  (BinV BinOp.eql v0 (Value.int IntKind.i64 2) fun t29 =>
  SplitV t29
  (DrawV w_2 fun S_1 w_6 =>
  IdxV 1 v1 (Value.int IntKind.i64 0) fun t31 =>
  LoadS S_1 false 1 t31 w_6 fun t32 =>
  IdxV 1 v1 (Value.int IntKind.i64 1) fun t34 =>
  LoadS S_1 false 1 t34 w_6 fun t35 =>
  CallV Try.prog N.spec_RowTimes [t32, t35] w_6 fun t36 w_7 =>
  Chg S_1 w_6 w_7 ∧
  ExtractV t36 0 fun t37 =>
  ExtractV t36 1 fun t38 =>
  R (Value.tuple #[t37, t38]) w_7)
  (BinV BinOp.eql v0 (Value.int IntKind.i64 3) fun t40 =>
  SplitV t40
  (IdxV 1 v1 (Value.int IntKind.i64 0) fun t42 =>
  LoadV false 1 t42 w_2 fun t43 =>
  CallV Try.prog N.spec_RowSums [t43] w_2 fun t44 w_8 =>
  ExtractV t44 0 fun t45 =>
  ExtractV t44 1 fun t46 =>
  R (Value.tuple #[t45, t46]) w_8)
  (BinV BinOp.eql v0 (Value.int IntKind.i64 4) fun t48 =>
  SplitV t48
  (IdxV 1 v1 (Value.int IntKind.i64 0) fun t50 =>
  LoadV false 1 t50 w_2 fun t51 =>
  CallV Try.prog N.spec_RowSort [t51] w_2 fun t52 w_9 =>
  ExtractV t52 0 fun t53 =>
  ExtractV t52 1 fun t54 =>
  R (Value.tuple #[t53, t54]) w_9)
  (IdxV 1 v1 (Value.int IntKind.i64 0) fun t56 =>
  LoadV false 1 t56 w_2 fun t57 =>
  CallV Try.prog N.spec_RowTurn [t57] w_2 fun t58 w_10 =>
  ExtractV t58 0 fun t59 =>
  ExtractV t58 1 fun t60 =>
  R (Value.tuple #[t59, t60]) w_10))))))) :
    Calls Try.prog N.spec_KindRun #[v0, v1] w (Ret R) :=
  callsB (args := [v0, v1]) ⟨(annOf []), (annOf []), []⟩ Try.func104 rfl (cast (by kernel_rfl) h)

theorem c_spec_RowAdd (v0 : Value) (v1 : Value) (w : World) (R : Value → World → Prop) (h :
  BSliceV T.int 1 0 #[Value.int IntKind.i64 0] [] w fun t8 w_1 =>
  CallV Try.prog N.spec_l1Both [v0, v1] w_1 fun t11 w_2 =>
  NotV t11 fun t12 =>
  SplitV t12
  (R (Value.tuple #[t8, Value.bool false]) w_2)
  (LoopV [t8, Value.int IntKind.i64 0] w_2 fun s _ w_3 K =>
  LenV v0 fun t16 =>
  BinV BinOp.lss (nthV s 1) t16 fun t17 =>
  SplitV t17
  (DrawV w_3 fun S w_4 =>
  IdxV 1 v0 (nthV s 1) fun t23 =>
  LoadS S false 1 t23 w_4 fun t24 =>
  IdxV 1 v1 (nthV s 1) fun t27 =>
  LoadS S false 1 t27 w_4 fun t28 =>
  BinV BinOp.add t24 t28 fun t29 =>
  BinV BinOp.rem t29 (Value.int IntKind.i64 1009) fun t30 =>
  BSliceV T.int 1 1 #[Value.int IntKind.i64 0] [(0, t30)] w_4 fun t31 w_5 =>
  Chg S w_4 w_5 ∧
  AppendV Try.prog T.sl_int (nthV s 0) t31 w_5 fun t32 w_6 =>
  Chg S w_5 w_6 ∧
  BinV BinOp.add (nthV s 1) (Value.int IntKind.i64 1) fun t19 =>
  K [t32, t19] w_6)
  (R (Value.tuple #[nthV s 0, Value.bool true]) w_3))) :
    Calls Try.prog N.spec_RowAdd #[v0, v1] w (Ret R) :=
  callsB (args := [v0, v1]) ⟨(annOf [(5, [6, 7])]), (annOf []), []⟩ Try.func116 rfl (cast (by kernel_rfl) h)

theorem c_spec_RowTimes (v0 : Value) (v1 : Value) (w : World) (R : Value → World → Prop) (h :
  BSliceV T.int 1 0 #[Value.int IntKind.i64 0] [] w fun t8 w_1 =>
  CallV Try.prog N.spec_l1Both [v0, v1] w_1 fun t11 w_2 =>
  NotV t11 fun t12 =>
  SplitV t12
  (R (Value.tuple #[t8, Value.bool false]) w_2)
  (LoopV [t8, Value.int IntKind.i64 0] w_2 fun s _ w_3 K =>
  LenV v0 fun t16 =>
  BinV BinOp.lss (nthV s 1) t16 fun t17 =>
  SplitV t17
  (DrawV w_3 fun S w_4 =>
  IdxV 1 v0 (nthV s 1) fun t23 =>
  LoadS S false 1 t23 w_4 fun t24 =>
  IdxV 1 v1 (nthV s 1) fun t27 =>
  LoadS S false 1 t27 w_4 fun t28 =>
  BinV BinOp.mul t24 t28 fun t29 =>
  BinV BinOp.rem t29 (Value.int IntKind.i64 1009) fun t30 =>
  BSliceV T.int 1 1 #[Value.int IntKind.i64 0] [(0, t30)] w_4 fun t31 w_5 =>
  Chg S w_4 w_5 ∧
  AppendV Try.prog T.sl_int (nthV s 0) t31 w_5 fun t32 w_6 =>
  Chg S w_5 w_6 ∧
  BinV BinOp.add (nthV s 1) (Value.int IntKind.i64 1) fun t19 =>
  K [t32, t19] w_6)
  (R (Value.tuple #[nthV s 0, Value.bool true]) w_3))) :
    Calls Try.prog N.spec_RowTimes #[v0, v1] w (Ret R) :=
  callsB (args := [v0, v1]) ⟨(annOf [(5, [6, 7])]), (annOf []), []⟩ Try.func117 rfl (cast (by kernel_rfl) h)

theorem c_spec_RowSums (v0 : Value) (w : World) (R : Value → World → Prop) (h :
  BSliceV T.int 1 0 #[Value.int IntKind.i64 0] [] w fun t7 w_1 =>
  CallV Try.prog N.spec_RowValid [v0] w_1 fun t9 w_2 =>
  NotV t9 fun t10 =>
  SplitV t10
  (R (Value.tuple #[t7, Value.bool false]) w_2)
  (LoopV [t7, Value.int IntKind.i64 0, Value.int IntKind.i64 0] w_2 fun s _ w_3 K =>
  LenV v0 fun t14 =>
  BinV BinOp.lss (nthV s 2) t14 fun t15 =>
  SplitV t15
  (IdxV 1 v0 (nthV s 2) fun t21 =>
  LoadV false 1 t21 w_3 fun t22 =>
  BinV BinOp.add (nthV s 1) t22 fun t23 =>
  BinV BinOp.rem t23 (Value.int IntKind.i64 1009) fun t24 =>
  BSliceV T.int 1 1 #[Value.int IntKind.i64 0] [(0, t24)] w_3 fun t27 w_4 =>
  AppendV Try.prog T.sl_int (nthV s 0) t27 w_4 fun t28 w_5 =>
  BinV BinOp.add (nthV s 2) (Value.int IntKind.i64 1) fun t17 =>
  K [t28, t24, t17] w_5)
  (R (Value.tuple #[nthV s 0, Value.bool true]) w_3))) :
    Calls Try.prog N.spec_RowSums #[v0] w (Ret R) :=
  callsB (args := [v0]) ⟨(annOf [(6, [4, 5, 6])]), (annOf []), []⟩ Try.func118 rfl (cast (by kernel_rfl) h)

theorem c_spec_RowSort (v0 : Value) (w : World) (R : Value → World → Prop) (h :
  BSliceV T.int 1 0 #[Value.int IntKind.i64 0] [] w fun t6 w_1 =>
  CallV Try.prog N.spec_RowValid [v0] w_1 fun t8 w_2 =>
  NotV t8 fun t9 =>
  SplitV t9
  (R (Value.tuple #[t6, Value.bool false]) w_2)
  (LoopV [t6, Value.int IntKind.i64 0] w_2 fun s _ w_3 K =>
  LenV v0 fun t13 =>
  BinV BinOp.lss (nthV s 1) t13 fun t14 =>
  SplitV t14
  (IdxV 1 v0 (nthV s 1) fun t20 =>
  LoadV false 1 t20 w_3 fun t21 =>
  CallV Try.prog N.spec_l1Put [nthV s 0, t21] w_3 fun t22 w_4 =>
  BinV BinOp.add (nthV s 1) (Value.int IntKind.i64 1) fun t16 =>
  K [t22, t16] w_4)
  (R (Value.tuple #[nthV s 0, Value.bool true]) w_3))) :
    Calls Try.prog N.spec_RowSort #[v0] w (Ret R) :=
  callsB (args := [v0]) ⟨(annOf [(5, [4, 5])]), (annOf []), []⟩ Try.func119 rfl (cast (by kernel_rfl) h)

theorem c_spec_RowTurn (v0 : Value) (w : World) (R : Value → World → Prop) (h :
  BSliceV T.int 1 0 #[Value.int IntKind.i64 0] [] w fun t6 w_1 =>
  CallV Try.prog N.spec_RowValid [v0] w_1 fun t8 w_2 =>
  NotV t8 fun t9 =>
  SplitV t9
  (R (Value.tuple #[t6, Value.bool false]) w_2)
  (LenV v0 fun t12 =>
  BinV BinOp.sub t12 (Value.int IntKind.i64 1) fun t13 =>
  LoopV [t6, t13] w_2 fun s _ w_3 K =>
  BinV BinOp.geq (nthV s 1) (Value.int IntKind.i64 0) fun t15 =>
  SplitV t15
  (IdxV 1 v0 (nthV s 1) fun t21 =>
  LoadV false 1 t21 w_3 fun t22 =>
  BSliceV T.int 1 1 #[Value.int IntKind.i64 0] [(0, t22)] w_3 fun t23 w_4 =>
  AppendV Try.prog T.sl_int (nthV s 0) t23 w_4 fun t24 w_5 =>
  BinV BinOp.sub (nthV s 1) (Value.int IntKind.i64 1) fun t17 =>
  K [t24, t17] w_5)
  (R (Value.tuple #[nthV s 0, Value.bool true]) w_3))) :
    Calls Try.prog N.spec_RowTurn #[v0] w (Ret R) :=
  callsB (args := [v0]) ⟨(annOf [(5, [4, 5])]), (annOf []), []⟩ Try.func120 rfl (cast (by kernel_rfl) h)

theorem c_spec_l1Both (v0 : Value) (v1 : Value) (w : World) (R : Value → World → Prop) (h :
  CallV Try.prog N.spec_RowValid [v0] w fun t6 w_1 =>
  SplitV t6
  (CallV Try.prog N.spec_RowValid [v1] w_1 fun t9 w_2 =>
  SplitV t9
  (LenV v0 fun t13 =>
  LenV v1 fun t15 =>
  BinV BinOp.eql t13 t15 fun t16 =>
  R t16 w_2)
  (R (Value.bool false) w_2))
  (R (Value.bool false) w_1)) :
    Calls Try.prog N.spec_l1Both #[v0, v1] w (Ret R) :=
  callsB (args := [v0, v1]) ⟨(annOf []), (annOf []), []⟩ Try.func128 rfl (cast (by kernel_rfl) h)

theorem c_spec_l1Put (v0 : Value) (v1 : Value) (w : World) (R : Value → World → Prop) (h :
  BSliceV T.int 1 0 #[Value.int IntKind.i64 0] [] w fun t8 w_1 =>
  LoopV [t8, Value.bool false, Value.int IntKind.i64 0] w_1 fun s _ w_2 K =>
  LenV v0 fun t11 =>
  BinV BinOp.lss (nthV s 2) t11 fun t12 =>
  SplitV t12
  (NotV (nthV s 1) fun t16 =>
  SplitV t16
  (IdxV 1 v0 (nthV s 2) fun t20 =>
  LoadV false 1 t20 w_2 fun t21 =>
  BinV BinOp.gtr t21 v1 fun t23 =>
  SplitV t23
  (BSliceV T.int 1 1 #[Value.int IntKind.i64 0] [(0, v1)] w_2 fun t27 w_3 =>
  AppendV Try.prog T.sl_int (nthV s 0) t27 w_3 fun t28 w_4 =>
  IdxV 1 v0 (nthV s 2) fun t32 =>
  LoadV false 1 t32 w_4 fun t33 =>
  BSliceV T.int 1 1 #[Value.int IntKind.i64 0] [(0, t33)] w_4 fun t34 w_5 =>
  AppendV Try.prog T.sl_int t28 t34 w_5 fun t35 w_6 =>
  BinV BinOp.add (nthV s 2) (Value.int IntKind.i64 1) fun t14 =>
  K [t35, Value.bool true, t14] w_6)
  (IdxV 1 v0 (nthV s 2) fun t32_1 =>
  LoadV false 1 t32_1 w_2 fun t33_1 =>
  BSliceV T.int 1 1 #[Value.int IntKind.i64 0] [(0, t33_1)] w_2 fun t34_1 w_7 =>
  AppendV Try.prog T.sl_int (nthV s 0) t34_1 w_7 fun t35_1 w_8 =>
  BinV BinOp.add (nthV s 2) (Value.int IntKind.i64 1) fun t14_1 =>
  K [t35_1, nthV s 1, t14_1] w_8))
  (IdxV 1 v0 (nthV s 2) fun t32_2 =>
  LoadV false 1 t32_2 w_2 fun t33_2 =>
  BSliceV T.int 1 1 #[Value.int IntKind.i64 0] [(0, t33_2)] w_2 fun t34_2 w_9 =>
  AppendV Try.prog T.sl_int (nthV s 0) t34_2 w_9 fun t35_2 w_10 =>
  BinV BinOp.add (nthV s 2) (Value.int IntKind.i64 1) fun t14_2 =>
  K [t35_2, nthV s 1, t14_2] w_10))
  (NotV (nthV s 1) fun t37 =>
  SplitV t37
  (BSliceV T.int 1 1 #[Value.int IntKind.i64 0] [(0, v1)] w_2 fun t40 w_11 =>
  AppendV Try.prog T.sl_int (nthV s 0) t40 w_11 fun t41 w_12 =>
  R t41 w_12)
  (R (nthV s 0) w_2))) :
    Calls Try.prog N.spec_l1Put #[v0, v1] w (Ret R) :=
  callsB (args := [v0, v1]) ⟨(annOf [(4, [5, 6, 7])]), (annOf []), []⟩ Try.func129 rfl (cast (by kernel_rfl) h)

theorem c_slices_Sort (v0 : Value) (w : World) (R : Value → World → Prop) (h :
  LenV v0 fun t4 =>
  ConvV IntKind.u64 t4 fun t8 =>
  CallV Try.prog N.math_bits_Len [t8] w fun t9 w_1 =>
  CallV Try.prog N.slices_pdqsortOrdered [v0, Value.int IntKind.i64 0, t4, t9] w_1 fun _ w_2 =>
  R (Value.tuple #[]) w_2) :
    Calls Try.prog N.slices_Sort #[v0] w (Ret R) :=
  callsB (args := [v0]) ⟨(annOf []), (annOf []), []⟩ Try.func130 rfl (cast (by kernel_rfl) h)

theorem c_slices_pdqsortOrdered (v0 : Value) (v1 : Value) (v2 : Value) (v3 : Value) (w : World) (R : Value → World → Prop) (h :
  LoopV [v1, v2, v3, Value.bool true, Value.bool true] w fun s _ w_1 K =>
  BinV BinOp.sub (nthV s 1) (nthV s 0) fun t21 =>
  BinV BinOp.leq t21 (Value.int IntKind.i64 12) fun t23 =>
  SplitV t23
  (CallV Try.prog N.slices_insertionSortOrdered [v0, nthV s 0, nthV s 1] w_1 fun _ w_2 =>
  R (Value.tuple #[]) w_2)
  (BinV BinOp.eql (nthV s 2) (Value.int IntKind.i64 0) fun t29 =>
  SplitV t29
  (CallV Try.prog N.slices_heapSortOrdered [v0, nthV s 0, nthV s 1] w_1 fun _ w_3 =>
  R (Value.tuple #[]) w_3)
  (NotV (nthV s 3) fun t35 =>
  SplitV t35
  (CallV Try.prog N.slices_breakPatternsOrdered [v0, nthV s 0, nthV s 1] w_1 fun _ w_4 =>
  BinV BinOp.sub (nthV s 2) (Value.int IntKind.i64 1) fun t41 =>
  CallV Try.prog N.slices_choosePivotOrdered [v0, nthV s 0, nthV s 1] w_4 fun t46 w_5 =>
  ExtractV t46 0 fun t47 =>
  ExtractV t46 1 fun t48 =>
  BinV BinOp.eql t48 (Value.int IntKind.i64 2) fun t50 =>
  SplitV t50
  (CallV Try.prog N.slices_reverseRangeOrdered [v0, nthV s 0, nthV s 1] w_5 fun _ w_6 =>
  BinV BinOp.sub (nthV s 1) (Value.int IntKind.i64 1) fun t56 =>
  BinV BinOp.sub t47 (nthV s 0) fun t59 =>
  BinV BinOp.sub t56 t59 fun t60 =>
  SplitV (nthV s 3)
  (SplitV (nthV s 4)
  (BinV BinOp.eql (Value.int IntKind.i64 1) (Value.int IntKind.i64 1) fun t67 =>
  SplitV t67
  (CallV Try.prog N.slices_partialInsertionSortOrdered [v0, nthV s 0, nthV s 1] w_6 fun t72 w_7 =>
  SplitV t72
  (R (Value.tuple #[]) w_7)
  (DrawV w_7 fun S w_8 =>
  BinV BinOp.gtr (nthV s 0) (Value.int IntKind.i64 0) fun t74 =>
  SplitV t74
  (BinV BinOp.sub (nthV s 0) (Value.int IntKind.i64 1) fun t78 =>
  IdxV 1 v0 t78 fun t79 =>
  LoadS S false 1 t79 w_8 fun t80 =>
  IdxV 1 v0 t60 fun t83 =>
  LoadS S false 1 t83 w_8 fun t84 =>
  CallV Try.prog N.cmp_Less [t80, t84] w_8 fun t85 w_9 =>
  Chg S w_8 w_9 ∧
  NotV t85 fun t86 =>
  SplitV t86
  (CallV Try.prog N.slices_partitionEqualOrdered [v0, nthV s 0, nthV s 1, t60] w_9 fun t92 w_10 =>
  K [t92, nthV s 1, t41, nthV s 3, nthV s 4] w_10)
  (CallV Try.prog N.slices_partitionOrdered [v0, nthV s 0, nthV s 1, t60] w_9 fun t99 w_11 =>
  ExtractV t99 0 fun t100 =>
  ExtractV t99 1 fun t101 =>
  BinV BinOp.sub t100 (nthV s 0) fun t105 =>
  BinV BinOp.sub (nthV s 1) t100 fun t108 =>
  BinV BinOp.quo t21 (Value.int IntKind.i64 8) fun t110 =>
  BinV BinOp.lss t105 t108 fun t113 =>
  SplitV t113
  (BinV BinOp.geq t105 t110 fun t116 =>
  CallV Try.prog N.slices_pdqsortOrdered [v0, nthV s 0, t100, t41] w_11 fun _ w_12 =>
  BinV BinOp.add t100 (Value.int IntKind.i64 1) fun t123 =>
  K [t123, nthV s 1, t41, t116, t101] w_12)
  (BinV BinOp.geq t108 t110 fun t126 =>
  BinV BinOp.add t100 (Value.int IntKind.i64 1) fun t129 =>
  CallV Try.prog N.slices_pdqsortOrdered [v0, t129, nthV s 1, t41] w_11 fun _ w_13 =>
  K [nthV s 0, t100, t41, t126, t101] w_13)))
  (CallV Try.prog N.slices_partitionOrdered [v0, nthV s 0, nthV s 1, t60] w_8 fun t99_1 w_14 =>
  ExtractV t99_1 0 fun t100_1 =>
  ExtractV t99_1 1 fun t101_1 =>
  BinV BinOp.sub t100_1 (nthV s 0) fun t105_1 =>
  BinV BinOp.sub (nthV s 1) t100_1 fun t108_1 =>
  BinV BinOp.quo t21 (Value.int IntKind.i64 8) fun t110_1 =>
  BinV BinOp.lss t105_1 t108_1 fun t113_1 =>
  SplitV t113_1
  (BinV BinOp.geq t105_1 t110_1 fun t116_1 =>
  CallV Try.prog N.slices_pdqsortOrdered [v0, nthV s 0, t100_1, t41] w_14 fun _ w_15 =>
  BinV BinOp.add t100_1 (Value.int IntKind.i64 1) fun t123_1 =>
  K [t123_1, nthV s 1, t41, t116_1, t101_1] w_15)
  (BinV BinOp.geq t108_1 t110_1 fun t126_1 =>
  BinV BinOp.add t100_1 (Value.int IntKind.i64 1) fun t129_1 =>
  CallV Try.prog N.slices_pdqsortOrdered [v0, t129_1, nthV s 1, t41] w_14 fun _ w_16 =>
  K [nthV s 0, t100_1, t41, t126_1, t101_1] w_16))))
  (DrawV w_6 fun S_1 w_17 =>
  BinV BinOp.gtr (nthV s 0) (Value.int IntKind.i64 0) fun t74_1 =>
  SplitV t74_1
  (BinV BinOp.sub (nthV s 0) (Value.int IntKind.i64 1) fun t78_1 =>
  IdxV 1 v0 t78_1 fun t79_1 =>
  LoadS S_1 false 1 t79_1 w_17 fun t80_1 =>
  IdxV 1 v0 t60 fun t83_1 =>
  LoadS S_1 false 1 t83_1 w_17 fun t84_1 =>
  CallV Try.prog N.cmp_Less [t80_1, t84_1] w_17 fun t85_1 w_18 =>
  Chg S_1 w_17 w_18 ∧
  NotV t85_1 fun t86_1 =>
  SplitV t86_1
  (CallV Try.prog N.slices_partitionEqualOrdered [v0, nthV s 0, nthV s 1, t60] w_18 fun t92_1 w_19 =>
  K [t92_1, nthV s 1, t41, nthV s 3, nthV s 4] w_19)
  (CallV Try.prog N.slices_partitionOrdered [v0, nthV s 0, nthV s 1, t60] w_18 fun t99_2 w_20 =>
  ExtractV t99_2 0 fun t100_2 =>
  ExtractV t99_2 1 fun t101_2 =>
  BinV BinOp.sub t100_2 (nthV s 0) fun t105_2 =>
  BinV BinOp.sub (nthV s 1) t100_2 fun t108_2 =>
  BinV BinOp.quo t21 (Value.int IntKind.i64 8) fun t110_2 =>
  BinV BinOp.lss t105_2 t108_2 fun t113_2 =>
  SplitV t113_2
  (BinV BinOp.geq t105_2 t110_2 fun t116_2 =>
  CallV Try.prog N.slices_pdqsortOrdered [v0, nthV s 0, t100_2, t41] w_20 fun _ w_21 =>
  BinV BinOp.add t100_2 (Value.int IntKind.i64 1) fun t123_2 =>
  K [t123_2, nthV s 1, t41, t116_2, t101_2] w_21)
  (BinV BinOp.geq t108_2 t110_2 fun t126_2 =>
  BinV BinOp.add t100_2 (Value.int IntKind.i64 1) fun t129_2 =>
  CallV Try.prog N.slices_pdqsortOrdered [v0, t129_2, nthV s 1, t41] w_20 fun _ w_22 =>
  K [nthV s 0, t100_2, t41, t126_2, t101_2] w_22)))
  (CallV Try.prog N.slices_partitionOrdered [v0, nthV s 0, nthV s 1, t60] w_17 fun t99_3 w_23 =>
  ExtractV t99_3 0 fun t100_3 =>
  ExtractV t99_3 1 fun t101_3 =>
  BinV BinOp.sub t100_3 (nthV s 0) fun t105_3 =>
  BinV BinOp.sub (nthV s 1) t100_3 fun t108_3 =>
  BinV BinOp.quo t21 (Value.int IntKind.i64 8) fun t110_3 =>
  BinV BinOp.lss t105_3 t108_3 fun t113_3 =>
  SplitV t113_3
  (BinV BinOp.geq t105_3 t110_3 fun t116_3 =>
  CallV Try.prog N.slices_pdqsortOrdered [v0, nthV s 0, t100_3, t41] w_23 fun _ w_24 =>
  BinV BinOp.add t100_3 (Value.int IntKind.i64 1) fun t123_3 =>
  K [t123_3, nthV s 1, t41, t116_3, t101_3] w_24)
  (BinV BinOp.geq t108_3 t110_3 fun t126_3 =>
  BinV BinOp.add t100_3 (Value.int IntKind.i64 1) fun t129_3 =>
  CallV Try.prog N.slices_pdqsortOrdered [v0, t129_3, nthV s 1, t41] w_23 fun _ w_25 =>
  K [nthV s 0, t100_3, t41, t126_3, t101_3] w_25))))
  (DrawV w_6 fun S_2 w_26 =>
  BinV BinOp.gtr (nthV s 0) (Value.int IntKind.i64 0) fun t74_2 =>
  SplitV t74_2
  (BinV BinOp.sub (nthV s 0) (Value.int IntKind.i64 1) fun t78_2 =>
  IdxV 1 v0 t78_2 fun t79_2 =>
  LoadS S_2 false 1 t79_2 w_26 fun t80_2 =>
  IdxV 1 v0 t60 fun t83_2 =>
  LoadS S_2 false 1 t83_2 w_26 fun t84_2 =>
  CallV Try.prog N.cmp_Less [t80_2, t84_2] w_26 fun t85_2 w_27 =>
  Chg S_2 w_26 w_27 ∧
  NotV t85_2 fun t86_2 =>
  SplitV t86_2
  (CallV Try.prog N.slices_partitionEqualOrdered [v0, nthV s 0, nthV s 1, t60] w_27 fun t92_2 w_28 =>
  K [t92_2, nthV s 1, t41, nthV s 3, nthV s 4] w_28)
  (CallV Try.prog N.slices_partitionOrdered [v0, nthV s 0, nthV s 1, t60] w_27 fun t99_4 w_29 =>
  ExtractV t99_4 0 fun t100_4 =>
  ExtractV t99_4 1 fun t101_4 =>
  BinV BinOp.sub t100_4 (nthV s 0) fun t105_4 =>
  BinV BinOp.sub (nthV s 1) t100_4 fun t108_4 =>
  BinV BinOp.quo t21 (Value.int IntKind.i64 8) fun t110_4 =>
  BinV BinOp.lss t105_4 t108_4 fun t113_4 =>
  SplitV t113_4
  (BinV BinOp.geq t105_4 t110_4 fun t116_4 =>
  CallV Try.prog N.slices_pdqsortOrdered [v0, nthV s 0, t100_4, t41] w_29 fun _ w_30 =>
  BinV BinOp.add t100_4 (Value.int IntKind.i64 1) fun t123_4 =>
  K [t123_4, nthV s 1, t41, t116_4, t101_4] w_30)
  (BinV BinOp.geq t108_4 t110_4 fun t126_4 =>
  BinV BinOp.add t100_4 (Value.int IntKind.i64 1) fun t129_4 =>
  CallV Try.prog N.slices_pdqsortOrdered [v0, t129_4, nthV s 1, t41] w_29 fun _ w_31 =>
  K [nthV s 0, t100_4, t41, t126_4, t101_4] w_31)))
  (CallV Try.prog N.slices_partitionOrdered [v0, nthV s 0, nthV s 1, t60] w_26 fun t99_5 w_32 =>
  ExtractV t99_5 0 fun t100_5 =>
  ExtractV t99_5 1 fun t101_5 =>
  BinV BinOp.sub t100_5 (nthV s 0) fun t105_5 =>
  BinV BinOp.sub (nthV s 1) t100_5 fun t108_5 =>
  BinV BinOp.quo t21 (Value.int IntKind.i64 8) fun t110_5 =>
  BinV BinOp.lss t105_5 t108_5 fun t113_5 =>
  SplitV t113_5
  (BinV BinOp.geq t105_5 t110_5 fun t116_5 =>
  CallV Try.prog N.slices_pdqsortOrdered [v0, nthV s 0, t100_5, t41] w_32 fun _ w_33 =>
  BinV BinOp.add t100_5 (Value.int IntKind.i64 1) fun t123_5 =>
  K [t123_5, nthV s 1, t41, t116_5, t101_5] w_33)
  (BinV BinOp.geq t108_5 t110_5 fun t126_5 =>
  BinV BinOp.add t100_5 (Value.int IntKind.i64 1) fun t129_5 =>
  CallV Try.prog N.slices_pdqsortOrdered [v0, t129_5, nthV s 1, t41] w_32 fun _ w_34 =>
  K [nthV s 0, t100_5, t41, t126_5, t101_5] w_34))))
  (DrawV w_6 fun S_3 w_35 =>
  BinV BinOp.gtr (nthV s 0) (Value.int IntKind.i64 0) fun t74_3 =>
  SplitV t74_3
  (BinV BinOp.sub (nthV s 0) (Value.int IntKind.i64 1) fun t78_3 =>
  IdxV 1 v0 t78_3 fun t79_3 =>
  LoadS S_3 false 1 t79_3 w_35 fun t80_3 =>
  IdxV 1 v0 t60 fun t83_3 =>
  LoadS S_3 false 1 t83_3 w_35 fun t84_3 =>
  CallV Try.prog N.cmp_Less [t80_3, t84_3] w_35 fun t85_3 w_36 =>
  Chg S_3 w_35 w_36 ∧
  NotV t85_3 fun t86_3 =>
  SplitV t86_3
  (CallV Try.prog N.slices_partitionEqualOrdered [v0, nthV s 0, nthV s 1, t60] w_36 fun t92_3 w_37 =>
  K [t92_3, nthV s 1, t41, nthV s 3, nthV s 4] w_37)
  (CallV Try.prog N.slices_partitionOrdered [v0, nthV s 0, nthV s 1, t60] w_36 fun t99_6 w_38 =>
  ExtractV t99_6 0 fun t100_6 =>
  ExtractV t99_6 1 fun t101_6 =>
  BinV BinOp.sub t100_6 (nthV s 0) fun t105_6 =>
  BinV BinOp.sub (nthV s 1) t100_6 fun t108_6 =>
  BinV BinOp.quo t21 (Value.int IntKind.i64 8) fun t110_6 =>
  BinV BinOp.lss t105_6 t108_6 fun t113_6 =>
  SplitV t113_6
  (BinV BinOp.geq t105_6 t110_6 fun t116_6 =>
  CallV Try.prog N.slices_pdqsortOrdered [v0, nthV s 0, t100_6, t41] w_38 fun _ w_39 =>
  BinV BinOp.add t100_6 (Value.int IntKind.i64 1) fun t123_6 =>
  K [t123_6, nthV s 1, t41, t116_6, t101_6] w_39)
  (BinV BinOp.geq t108_6 t110_6 fun t126_6 =>
  BinV BinOp.add t100_6 (Value.int IntKind.i64 1) fun t129_6 =>
  CallV Try.prog N.slices_pdqsortOrdered [v0, t129_6, nthV s 1, t41] w_38 fun _ w_40 =>
  K [nthV s 0, t100_6, t41, t126_6, t101_6] w_40)))
  (CallV Try.prog N.slices_partitionOrdered [v0, nthV s 0, nthV s 1, t60] w_35 fun t99_7 w_41 =>
  ExtractV t99_7 0 fun t100_7 =>
  ExtractV t99_7 1 fun t101_7 =>
  BinV BinOp.sub t100_7 (nthV s 0) fun t105_7 =>
  BinV BinOp.sub (nthV s 1) t100_7 fun t108_7 =>
  BinV BinOp.quo t21 (Value.int IntKind.i64 8) fun t110_7 =>
  BinV BinOp.lss t105_7 t108_7 fun t113_7 =>
  SplitV t113_7
  (BinV BinOp.geq t105_7 t110_7 fun t116_7 =>
  CallV Try.prog N.slices_pdqsortOrdered [v0, nthV s 0, t100_7, t41] w_41 fun _ w_42 =>
  BinV BinOp.add t100_7 (Value.int IntKind.i64 1) fun t123_7 =>
  K [t123_7, nthV s 1, t41, t116_7, t101_7] w_42)
  (BinV BinOp.geq t108_7 t110_7 fun t126_7 =>
  BinV BinOp.add t100_7 (Value.int IntKind.i64 1) fun t129_7 =>
  CallV Try.prog N.slices_pdqsortOrdered [v0, t129_7, nthV s 1, t41] w_41 fun _ w_43 =>
  K [nthV s 0, t100_7, t41, t126_7, t101_7] w_43))))
  (SplitV (nthV s 3)
  (SplitV (nthV s 4)
  (BinV BinOp.eql t48 (Value.int IntKind.i64 1) fun t67_1 =>
  SplitV t67_1
  (CallV Try.prog N.slices_partialInsertionSortOrdered [v0, nthV s 0, nthV s 1] w_5 fun t72_1 w_44 =>
  SplitV t72_1
  (R (Value.tuple #[]) w_44)
  (DrawV w_44 fun S_4 w_45 =>
  BinV BinOp.gtr (nthV s 0) (Value.int IntKind.i64 0) fun t74_4 =>
  SplitV t74_4
  (BinV BinOp.sub (nthV s 0) (Value.int IntKind.i64 1) fun t78_4 =>
  IdxV 1 v0 t78_4 fun t79_4 =>
  LoadS S_4 false 1 t79_4 w_45 fun t80_4 =>
  IdxV 1 v0 t47 fun t83_4 =>
  LoadS S_4 false 1 t83_4 w_45 fun t84_4 =>
  CallV Try.prog N.cmp_Less [t80_4, t84_4] w_45 fun t85_4 w_46 =>
  Chg S_4 w_45 w_46 ∧
  NotV t85_4 fun t86_4 =>
  SplitV t86_4
  (CallV Try.prog N.slices_partitionEqualOrdered [v0, nthV s 0, nthV s 1, t47] w_46 fun t92_4 w_47 =>
  K [t92_4, nthV s 1, t41, nthV s 3, nthV s 4] w_47)
  (CallV Try.prog N.slices_partitionOrdered [v0, nthV s 0, nthV s 1, t47] w_46 fun t99_8 w_48 =>
  ExtractV t99_8 0 fun t100_8 =>
  ExtractV t99_8 1 fun t101_8 =>
  BinV BinOp.sub t100_8 (nthV s 0) fun t105_8 =>
  BinV BinOp.sub (nthV s 1) t100_8 fun t108_8 =>
  BinV BinOp.quo t21 (Value.int IntKind.i64 8) fun t110_8 =>
  BinV BinOp.lss t105_8 t108_8 fun t113_8 =>
  SplitV t113_8
  (BinV BinOp.geq t105_8 t110_8 fun t116_8 =>
  CallV Try.prog N.slices_pdqsortOrdered [v0, nthV s 0, t100_8, t41] w_48 fun _ w_49 =>
  BinV BinOp.add t100_8 (Value.int IntKind.i64 1) fun t123_8 =>
  K [t123_8, nthV s 1, t41, t116_8, t101_8] w_49)
  (BinV BinOp.geq t108_8 t110_8 fun t126_8 =>
  BinV BinOp.add t100_8 (Value.int IntKind.i64 1) fun t129_8 =>
  CallV Try.prog N.slices_pdqsortOrdered [v0, t129_8, nthV s 1, t41] w_48 fun _ w_50 =>
  K [nthV s 0, t100_8, t41, t126_8, t101_8] w_50)))
  (CallV Try.prog N.slices_partitionOrdered [v0, nthV s 0, nthV s 1, t47] w_45 fun t99_9 w_51 =>
  ExtractV t99_9 0 fun t100_9 =>
  ExtractV t99_9 1 fun t101_9 =>
  BinV BinOp.sub t100_9 (nthV s 0) fun t105_9 =>
  BinV BinOp.sub (nthV s 1) t100_9 fun t108_9 =>
  BinV BinOp.quo t21 (Value.int IntKind.i64 8) fun t110_9 =>
  BinV BinOp.lss t105_9 t108_9 fun t113_9 =>
  SplitV t113_9
  (BinV BinOp.geq t105_9 t110_9 fun t116_9 =>
  CallV Try.prog N.slices_pdqsortOrdered [v0, nthV s 0, t100_9, t41] w_51 fun _ w_52 =>
  BinV BinOp.add t100_9 (Value.int IntKind.i64 1) fun t123_9 =>
  K [t123_9, nthV s 1, t41, t116_9, t101_9] w_52)
  (BinV BinOp.geq t108_9 t110_9 fun t126_9 =>
  BinV BinOp.add t100_9 (Value.int IntKind.i64 1) fun t129_9 =>
  CallV Try.prog N.slices_pdqsortOrdered [v0, t129_9, nthV s 1, t41] w_51 fun _ w_53 =>
  K [nthV s 0, t100_9, t41, t126_9, t101_9] w_53))))
  (DrawV w_5 fun S_5 w_54 =>
  BinV BinOp.gtr (nthV s 0) (Value.int IntKind.i64 0) fun t74_5 =>
  SplitV t74_5
  (BinV BinOp.sub (nthV s 0) (Value.int IntKind.i64 1) fun t78_5 =>
  IdxV 1 v0 t78_5 fun t79_5 =>
  LoadS S_5 false 1 t79_5 w_54 fun t80_5 =>
  IdxV 1 v0 t47 fun t83_5 =>
  LoadS S_5 false 1 t83_5 w_54 fun t84_5 =>
  CallV Try.prog N.cmp_Less [t80_5, t84_5] w_54 fun t85_5 w_55 =>
  Chg S_5 w_54 w_55 ∧
  NotV t85_5 fun t86_5 =>
  SplitV t86_5
  (CallV Try.prog N.slices_partitionEqualOrdered [v0, nthV s 0, nthV s 1, t47] w_55 fun t92_5 w_56 =>
  K [t92_5, nthV s 1, t41, nthV s 3, nthV s 4] w_56)
  (CallV Try.prog N.slices_partitionOrdered [v0, nthV s 0, nthV s 1, t47] w_55 fun t99_10 w_57 =>
  ExtractV t99_10 0 fun t100_10 =>
  ExtractV t99_10 1 fun t101_10 =>
  BinV BinOp.sub t100_10 (nthV s 0) fun t105_10 =>
  BinV BinOp.sub (nthV s 1) t100_10 fun t108_10 =>
  BinV BinOp.quo t21 (Value.int IntKind.i64 8) fun t110_10 =>
  BinV BinOp.lss t105_10 t108_10 fun t113_10 =>
  SplitV t113_10
  (BinV BinOp.geq t105_10 t110_10 fun t116_10 =>
  CallV Try.prog N.slices_pdqsortOrdered [v0, nthV s 0, t100_10, t41] w_57 fun _ w_58 =>
  BinV BinOp.add t100_10 (Value.int IntKind.i64 1) fun t123_10 =>
  K [t123_10, nthV s 1, t41, t116_10, t101_10] w_58)
  (BinV BinOp.geq t108_10 t110_10 fun t126_10 =>
  BinV BinOp.add t100_10 (Value.int IntKind.i64 1) fun t129_10 =>
  CallV Try.prog N.slices_pdqsortOrdered [v0, t129_10, nthV s 1, t41] w_57 fun _ w_59 =>
  K [nthV s 0, t100_10, t41, t126_10, t101_10] w_59)))
  (CallV Try.prog N.slices_partitionOrdered [v0, nthV s 0, nthV s 1, t47] w_54 fun t99_11 w_60 =>
  ExtractV t99_11 0 fun t100_11 =>
  ExtractV t99_11 1 fun t101_11 =>
  BinV BinOp.sub t100_11 (nthV s 0) fun t105_11 =>
  BinV BinOp.sub (nthV s 1) t100_11 fun t108_11 =>
  BinV BinOp.quo t21 (Value.int IntKind.i64 8) fun t110_11 =>
  BinV BinOp.lss t105_11 t108_11 fun t113_11 =>
  SplitV t113_11
  (BinV BinOp.geq t105_11 t110_11 fun t116_11 =>
  CallV Try.prog N.slices_pdqsortOrdered [v0, nthV s 0, t100_11, t41] w_60 fun _ w_61 =>
  BinV BinOp.add t100_11 (Value.int IntKind.i64 1) fun t123_11 =>
  K [t123_11, nthV s 1, t41, t116_11, t101_11] w_61)
  (BinV BinOp.geq t108_11 t110_11 fun t126_11 =>
  BinV BinOp.add t100_11 (Value.int IntKind.i64 1) fun t129_11 =>
  CallV Try.prog N.slices_pdqsortOrdered [v0, t129_11, nthV s 1, t41] w_60 fun _ w_62 =>
  K [nthV s 0, t100_11, t41, t126_11, t101_11] w_62))))
  (DrawV w_5 fun S_6 w_63 =>
  BinV BinOp.gtr (nthV s 0) (Value.int IntKind.i64 0) fun t74_6 =>
  SplitV t74_6
  (BinV BinOp.sub (nthV s 0) (Value.int IntKind.i64 1) fun t78_6 =>
  IdxV 1 v0 t78_6 fun t79_6 =>
  LoadS S_6 false 1 t79_6 w_63 fun t80_6 =>
  IdxV 1 v0 t47 fun t83_6 =>
  LoadS S_6 false 1 t83_6 w_63 fun t84_6 =>
  CallV Try.prog N.cmp_Less [t80_6, t84_6] w_63 fun t85_6 w_64 =>
  Chg S_6 w_63 w_64 ∧
  NotV t85_6 fun t86_6 =>
  SplitV t86_6
  (CallV Try.prog N.slices_partitionEqualOrdered [v0, nthV s 0, nthV s 1, t47] w_64 fun t92_6 w_65 =>
  K [t92_6, nthV s 1, t41, nthV s 3, nthV s 4] w_65)
  (CallV Try.prog N.slices_partitionOrdered [v0, nthV s 0, nthV s 1, t47] w_64 fun t99_12 w_66 =>
  ExtractV t99_12 0 fun t100_12 =>
  ExtractV t99_12 1 fun t101_12 =>
  BinV BinOp.sub t100_12 (nthV s 0) fun t105_12 =>
  BinV BinOp.sub (nthV s 1) t100_12 fun t108_12 =>
  BinV BinOp.quo t21 (Value.int IntKind.i64 8) fun t110_12 =>
  BinV BinOp.lss t105_12 t108_12 fun t113_12 =>
  SplitV t113_12
  (BinV BinOp.geq t105_12 t110_12 fun t116_12 =>
  CallV Try.prog N.slices_pdqsortOrdered [v0, nthV s 0, t100_12, t41] w_66 fun _ w_67 =>
  BinV BinOp.add t100_12 (Value.int IntKind.i64 1) fun t123_12 =>
  K [t123_12, nthV s 1, t41, t116_12, t101_12] w_67)
  (BinV BinOp.geq t108_12 t110_12 fun t126_12 =>
  BinV BinOp.add t100_12 (Value.int IntKind.i64 1) fun t129_12 =>
  CallV Try.prog N.slices_pdqsortOrdered [v0, t129_12, nthV s 1, t41] w_66 fun _ w_68 =>
  K [nthV s 0, t100_12, t41, t126_12, t101_12] w_68)))
  (CallV Try.prog N.slices_partitionOrdered [v0, nthV s 0, nthV s 1, t47] w_63 fun t99_13 w_69 =>
  ExtractV t99_13 0 fun t100_13 =>
  ExtractV t99_13 1 fun t101_13 =>
  BinV BinOp.sub t100_13 (nthV s 0) fun t105_13 =>
  BinV BinOp.sub (nthV s 1) t100_13 fun t108_13 =>
  BinV BinOp.quo t21 (Value.int IntKind.i64 8) fun t110_13 =>
  BinV BinOp.lss t105_13 t108_13 fun t113_13 =>
  SplitV t113_13
  (BinV BinOp.geq t105_13 t110_13 fun t116_13 =>
  CallV Try.prog N.slices_pdqsortOrdered [v0, nthV s 0, t100_13, t41] w_69 fun _ w_70 =>
  BinV BinOp.add t100_13 (Value.int IntKind.i64 1) fun t123_13 =>
  K [t123_13, nthV s 1, t41, t116_13, t101_13] w_70)
  (BinV BinOp.geq t108_13 t110_13 fun t126_13 =>
  BinV BinOp.add t100_13 (Value.int IntKind.i64 1) fun t129_13 =>
  CallV Try.prog N.slices_pdqsortOrdered [v0, t129_13, nthV s 1, t41] w_69 fun _ w_71 =>
  K [nthV s 0, t100_13, t41, t126_13, t101_13] w_71))))
  (DrawV w_5 fun S_7 w_72 =>
  BinV BinOp.gtr (nthV s 0) (Value.int IntKind.i64 0) fun t74_7 =>
  SplitV t74_7
  (BinV BinOp.sub (nthV s 0) (Value.int IntKind.i64 1) fun t78_7 =>
  IdxV 1 v0 t78_7 fun t79_7 =>
  LoadS S_7 false 1 t79_7 w_72 fun t80_7 =>
  IdxV 1 v0 t47 fun t83_7 =>
  LoadS S_7 false 1 t83_7 w_72 fun t84_7 =>
  CallV Try.prog N.cmp_Less [t80_7, t84_7] w_72 fun t85_7 w_73 =>
  Chg S_7 w_72 w_73 ∧
  NotV t85_7 fun t86_7 =>
  SplitV t86_7
  (CallV Try.prog N.slices_partitionEqualOrdered [v0, nthV s 0, nthV s 1, t47] w_73 fun t92_7 w_74 =>
  K [t92_7, nthV s 1, t41, nthV s 3, nthV s 4] w_74)
  (CallV Try.prog N.slices_partitionOrdered [v0, nthV s 0, nthV s 1, t47] w_73 fun t99_14 w_75 =>
  ExtractV t99_14 0 fun t100_14 =>
  ExtractV t99_14 1 fun t101_14 =>
  BinV BinOp.sub t100_14 (nthV s 0) fun t105_14 =>
  BinV BinOp.sub (nthV s 1) t100_14 fun t108_14 =>
  BinV BinOp.quo t21 (Value.int IntKind.i64 8) fun t110_14 =>
  BinV BinOp.lss t105_14 t108_14 fun t113_14 =>
  SplitV t113_14
  (BinV BinOp.geq t105_14 t110_14 fun t116_14 =>
  CallV Try.prog N.slices_pdqsortOrdered [v0, nthV s 0, t100_14, t41] w_75 fun _ w_76 =>
  BinV BinOp.add t100_14 (Value.int IntKind.i64 1) fun t123_14 =>
  K [t123_14, nthV s 1, t41, t116_14, t101_14] w_76)
  (BinV BinOp.geq t108_14 t110_14 fun t126_14 =>
  BinV BinOp.add t100_14 (Value.int IntKind.i64 1) fun t129_14 =>
  CallV Try.prog N.slices_pdqsortOrdered [v0, t129_14, nthV s 1, t41] w_75 fun _ w_77 =>
  K [nthV s 0, t100_14, t41, t126_14, t101_14] w_77)))
  (CallV Try.prog N.slices_partitionOrdered [v0, nthV s 0, nthV s 1, t47] w_72 fun t99_15 w_78 =>
  ExtractV t99_15 0 fun t100_15 =>
  ExtractV t99_15 1 fun t101_15 =>
  BinV BinOp.sub t100_15 (nthV s 0) fun t105_15 =>
  BinV BinOp.sub (nthV s 1) t100_15 fun t108_15 =>
  BinV BinOp.quo t21 (Value.int IntKind.i64 8) fun t110_15 =>
  BinV BinOp.lss t105_15 t108_15 fun t113_15 =>
  SplitV t113_15
  (BinV BinOp.geq t105_15 t110_15 fun t116_15 =>
  CallV Try.prog N.slices_pdqsortOrdered [v0, nthV s 0, t100_15, t41] w_78 fun _ w_79 =>
  BinV BinOp.add t100_15 (Value.int IntKind.i64 1) fun t123_15 =>
  K [t123_15, nthV s 1, t41, t116_15, t101_15] w_79)
  (BinV BinOp.geq t108_15 t110_15 fun t126_15 =>
  BinV BinOp.add t100_15 (Value.int IntKind.i64 1) fun t129_15 =>
  CallV Try.prog N.slices_pdqsortOrdered [v0, t129_15, nthV s 1, t41] w_78 fun _ w_80 =>
  K [nthV s 0, t100_15, t41, t126_15, t101_15] w_80)))))
  (CallV Try.prog N.slices_choosePivotOrdered [v0, nthV s 0, nthV s 1] w_1 fun t46_1 w_81 =>
  ExtractV t46_1 0 fun t47_1 =>
  ExtractV t46_1 1 fun t48_1 =>
  BinV BinOp.eql t48_1 (Value.int IntKind.i64 2) fun t50_1 =>
  SplitV t50_1
  (CallV Try.prog N.slices_reverseRangeOrdered [v0, nthV s 0, nthV s 1] w_81 fun _ w_82 =>
  BinV BinOp.sub (nthV s 1) (Value.int IntKind.i64 1) fun t56_1 =>
  BinV BinOp.sub t47_1 (nthV s 0) fun t59_1 =>
  BinV BinOp.sub t56_1 t59_1 fun t60_1 =>
  SplitV (nthV s 3)
  (SplitV (nthV s 4)
  (BinV BinOp.eql (Value.int IntKind.i64 1) (Value.int IntKind.i64 1) fun t67_2 =>
  SplitV t67_2
  (CallV Try.prog N.slices_partialInsertionSortOrdered [v0, nthV s 0, nthV s 1] w_82 fun t72_2 w_83 =>
  SplitV t72_2
  (R (Value.tuple #[]) w_83)
  (DrawV w_83 fun S_8 w_84 =>
  BinV BinOp.gtr (nthV s 0) (Value.int IntKind.i64 0) fun t74_8 =>
  SplitV t74_8
  (BinV BinOp.sub (nthV s 0) (Value.int IntKind.i64 1) fun t78_8 =>
  IdxV 1 v0 t78_8 fun t79_8 =>
  LoadS S_8 false 1 t79_8 w_84 fun t80_8 =>
  IdxV 1 v0 t60_1 fun t83_8 =>
  LoadS S_8 false 1 t83_8 w_84 fun t84_8 =>
  CallV Try.prog N.cmp_Less [t80_8, t84_8] w_84 fun t85_8 w_85 =>
  Chg S_8 w_84 w_85 ∧
  NotV t85_8 fun t86_8 =>
  SplitV t86_8
  (CallV Try.prog N.slices_partitionEqualOrdered [v0, nthV s 0, nthV s 1, t60_1] w_85 fun t92_8 w_86 =>
  K [t92_8, nthV s 1, nthV s 2, nthV s 3, nthV s 4] w_86)
  (CallV Try.prog N.slices_partitionOrdered [v0, nthV s 0, nthV s 1, t60_1] w_85 fun t99_16 w_87 =>
  ExtractV t99_16 0 fun t100_16 =>
  ExtractV t99_16 1 fun t101_16 =>
  BinV BinOp.sub t100_16 (nthV s 0) fun t105_16 =>
  BinV BinOp.sub (nthV s 1) t100_16 fun t108_16 =>
  BinV BinOp.quo t21 (Value.int IntKind.i64 8) fun t110_16 =>
  BinV BinOp.lss t105_16 t108_16 fun t113_16 =>
  SplitV t113_16
  (BinV BinOp.geq t105_16 t110_16 fun t116_16 =>
  CallV Try.prog N.slices_pdqsortOrdered [v0, nthV s 0, t100_16, nthV s 2] w_87 fun _ w_88 =>
  BinV BinOp.add t100_16 (Value.int IntKind.i64 1) fun t123_16 =>
  K [t123_16, nthV s 1, nthV s 2, t116_16, t101_16] w_88)
  (BinV BinOp.geq t108_16 t110_16 fun t126_16 =>
  BinV BinOp.add t100_16 (Value.int IntKind.i64 1) fun t129_16 =>
  CallV Try.prog N.slices_pdqsortOrdered [v0, t129_16, nthV s 1, nthV s 2] w_87 fun _ w_89 =>
  K [nthV s 0, t100_16, nthV s 2, t126_16, t101_16] w_89)))
  (CallV Try.prog N.slices_partitionOrdered [v0, nthV s 0, nthV s 1, t60_1] w_84 fun t99_17 w_90 =>
  ExtractV t99_17 0 fun t100_17 =>
  ExtractV t99_17 1 fun t101_17 =>
  BinV BinOp.sub t100_17 (nthV s 0) fun t105_17 =>
  BinV BinOp.sub (nthV s 1) t100_17 fun t108_17 =>
  BinV BinOp.quo t21 (Value.int IntKind.i64 8) fun t110_17 =>
  BinV BinOp.lss t105_17 t108_17 fun t113_17 =>
  SplitV t113_17
  (BinV BinOp.geq t105_17 t110_17 fun t116_17 =>
  CallV Try.prog N.slices_pdqsortOrdered [v0, nthV s 0, t100_17, nthV s 2] w_90 fun _ w_91 =>
  BinV BinOp.add t100_17 (Value.int IntKind.i64 1) fun t123_17 =>
  K [t123_17, nthV s 1, nthV s 2, t116_17, t101_17] w_91)
  (BinV BinOp.geq t108_17 t110_17 fun t126_17 =>
  BinV BinOp.add t100_17 (Value.int IntKind.i64 1) fun t129_17 =>
  CallV Try.prog N.slices_pdqsortOrdered [v0, t129_17, nthV s 1, nthV s 2] w_90 fun _ w_92 =>
  K [nthV s 0, t100_17, nthV s 2, t126_17, t101_17] w_92))))
  (DrawV w_82 fun S_9 w_93 =>
  BinV BinOp.gtr (nthV s 0) (Value.int IntKind.i64 0) fun t74_9 =>
  SplitV t74_9
  (BinV BinOp.sub (nthV s 0) (Value.int IntKind.i64 1) fun t78_9 =>
  IdxV 1 v0 t78_9 fun t79_9 =>
  LoadS S_9 false 1 t79_9 w_93 fun t80_9 =>
  IdxV 1 v0 t60_1 fun t83_9 =>
  LoadS S_9 false 1 t83_9 w_93 fun t84_9 =>
  CallV Try.prog N.cmp_Less [t80_9, t84_9] w_93 fun t85_9 w_94 =>
  Chg S_9 w_93 w_94 ∧
  NotV t85_9 fun t86_9 =>
  SplitV t86_9
  (CallV Try.prog N.slices_partitionEqualOrdered [v0, nthV s 0, nthV s 1, t60_1] w_94 fun t92_9 w_95 =>
  K [t92_9, nthV s 1, nthV s 2, nthV s 3, nthV s 4] w_95)
  (CallV Try.prog N.slices_partitionOrdered [v0, nthV s 0, nthV s 1, t60_1] w_94 fun t99_18 w_96 =>
  ExtractV t99_18 0 fun t100_18 =>
  ExtractV t99_18 1 fun t101_18 =>
  BinV BinOp.sub t100_18 (nthV s 0) fun t105_18 =>
  BinV BinOp.sub (nthV s 1) t100_18 fun t108_18 =>
  BinV BinOp.quo t21 (Value.int IntKind.i64 8) fun t110_18 =>
  BinV BinOp.lss t105_18 t108_18 fun t113_18 =>
  SplitV t113_18
  (BinV BinOp.geq t105_18 t110_18 fun t116_18 =>
  CallV Try.prog N.slices_pdqsortOrdered [v0, nthV s 0, t100_18, nthV s 2] w_96 fun _ w_97 =>
  BinV BinOp.add t100_18 (Value.int IntKind.i64 1) fun t123_18 =>
  K [t123_18, nthV s 1, nthV s 2, t116_18, t101_18] w_97)
  (BinV BinOp.geq t108_18 t110_18 fun t126_18 =>
  BinV BinOp.add t100_18 (Value.int IntKind.i64 1) fun t129_18 =>
  CallV Try.prog N.slices_pdqsortOrdered [v0, t129_18, nthV s 1, nthV s 2] w_96 fun _ w_98 =>
  K [nthV s 0, t100_18, nthV s 2, t126_18, t101_18] w_98)))
  (CallV Try.prog N.slices_partitionOrdered [v0, nthV s 0, nthV s 1, t60_1] w_93 fun t99_19 w_99 =>
  ExtractV t99_19 0 fun t100_19 =>
  ExtractV t99_19 1 fun t101_19 =>
  BinV BinOp.sub t100_19 (nthV s 0) fun t105_19 =>
  BinV BinOp.sub (nthV s 1) t100_19 fun t108_19 =>
  BinV BinOp.quo t21 (Value.int IntKind.i64 8) fun t110_19 =>
  BinV BinOp.lss t105_19 t108_19 fun t113_19 =>
  SplitV t113_19
  (BinV BinOp.geq t105_19 t110_19 fun t116_19 =>
  CallV Try.prog N.slices_pdqsortOrdered [v0, nthV s 0, t100_19, nthV s 2] w_99 fun _ w_100 =>
  BinV BinOp.add t100_19 (Value.int IntKind.i64 1) fun t123_19 =>
  K [t123_19, nthV s 1, nthV s 2, t116_19, t101_19] w_100)
  (BinV BinOp.geq t108_19 t110_19 fun t126_19 =>
  BinV BinOp.add t100_19 (Value.int IntKind.i64 1) fun t129_19 =>
  CallV Try.prog N.slices_pdqsortOrdered [v0, t129_19, nthV s 1, nthV s 2] w_99 fun _ w_101 =>
  K [nthV s 0, t100_19, nthV s 2, t126_19, t101_19] w_101))))
  (DrawV w_82 fun S_10 w_102 =>
  BinV BinOp.gtr (nthV s 0) (Value.int IntKind.i64 0) fun t74_10 =>
  SplitV t74_10
  (BinV BinOp.sub (nthV s 0) (Value.int IntKind.i64 1) fun t78_10 =>
  IdxV 1 v0 t78_10 fun t79_10 =>
  LoadS S_10 false 1 t79_10 w_102 fun t80_10 =>
  IdxV 1 v0 t60_1 fun t83_10 =>
  LoadS S_10 false 1 t83_10 w_102 fun t84_10 =>
  CallV Try.prog N.cmp_Less [t80_10, t84_10] w_102 fun t85_10 w_103 =>
  Chg S_10 w_102 w_103 ∧
  NotV t85_10 fun t86_10 =>
  SplitV t86_10
  (CallV Try.prog N.slices_partitionEqualOrdered [v0, nthV s 0, nthV s 1, t60_1] w_103 fun t92_10 w_104 =>
  K [t92_10, nthV s 1, nthV s 2, nthV s 3, nthV s 4] w_104)
  (CallV Try.prog N.slices_partitionOrdered [v0, nthV s 0, nthV s 1, t60_1] w_103 fun t99_20 w_105 =>
  ExtractV t99_20 0 fun t100_20 =>
  ExtractV t99_20 1 fun t101_20 =>
  BinV BinOp.sub t100_20 (nthV s 0) fun t105_20 =>
  BinV BinOp.sub (nthV s 1) t100_20 fun t108_20 =>
  BinV BinOp.quo t21 (Value.int IntKind.i64 8) fun t110_20 =>
  BinV BinOp.lss t105_20 t108_20 fun t113_20 =>
  SplitV t113_20
  (BinV BinOp.geq t105_20 t110_20 fun t116_20 =>
  CallV Try.prog N.slices_pdqsortOrdered [v0, nthV s 0, t100_20, nthV s 2] w_105 fun _ w_106 =>
  BinV BinOp.add t100_20 (Value.int IntKind.i64 1) fun t123_20 =>
  K [t123_20, nthV s 1, nthV s 2, t116_20, t101_20] w_106)
  (BinV BinOp.geq t108_20 t110_20 fun t126_20 =>
  BinV BinOp.add t100_20 (Value.int IntKind.i64 1) fun t129_20 =>
  CallV Try.prog N.slices_pdqsortOrdered [v0, t129_20, nthV s 1, nthV s 2] w_105 fun _ w_107 =>
  K [nthV s 0, t100_20, nthV s 2, t126_20, t101_20] w_107)))
  (CallV Try.prog N.slices_partitionOrdered [v0, nthV s 0, nthV s 1, t60_1] w_102 fun t99_21 w_108 =>
  ExtractV t99_21 0 fun t100_21 =>
  ExtractV t99_21 1 fun t101_21 =>
  BinV BinOp.sub t100_21 (nthV s 0) fun t105_21 =>
  BinV BinOp.sub (nthV s 1) t100_21 fun t108_21 =>
  BinV BinOp.quo t21 (Value.int IntKind.i64 8) fun t110_21 =>
  BinV BinOp.lss t105_21 t108_21 fun t113_21 =>
  SplitV t113_21
  (BinV BinOp.geq t105_21 t110_21 fun t116_21 =>
  CallV Try.prog N.slices_pdqsortOrdered [v0, nthV s 0, t100_21, nthV s 2] w_108 fun _ w_109 =>
  BinV BinOp.add t100_21 (Value.int IntKind.i64 1) fun t123_21 =>
  K [t123_21, nthV s 1, nthV s 2, t116_21, t101_21] w_109)
  (BinV BinOp.geq t108_21 t110_21 fun t126_21 =>
  BinV BinOp.add t100_21 (Value.int IntKind.i64 1) fun t129_21 =>
  CallV Try.prog N.slices_pdqsortOrdered [v0, t129_21, nthV s 1, nthV s 2] w_108 fun _ w_110 =>
  K [nthV s 0, t100_21, nthV s 2, t126_21, t101_21] w_110))))
  (DrawV w_82 fun S_11 w_111 =>
  BinV BinOp.gtr (nthV s 0) (Value.int IntKind.i64 0) fun t74_11 =>
  SplitV t74_11
  (BinV BinOp.sub (nthV s 0) (Value.int IntKind.i64 1) fun t78_11 =>
  IdxV 1 v0 t78_11 fun t79_11 =>
  LoadS S_11 false 1 t79_11 w_111 fun t80_11 =>
  IdxV 1 v0 t60_1 fun t83_11 =>
  LoadS S_11 false 1 t83_11 w_111 fun t84_11 =>
  CallV Try.prog N.cmp_Less [t80_11, t84_11] w_111 fun t85_11 w_112 =>
  Chg S_11 w_111 w_112 ∧
  NotV t85_11 fun t86_11 =>
  SplitV t86_11
  (CallV Try.prog N.slices_partitionEqualOrdered [v0, nthV s 0, nthV s 1, t60_1] w_112 fun t92_11 w_113 =>
  K [t92_11, nthV s 1, nthV s 2, nthV s 3, nthV s 4] w_113)
  (CallV Try.prog N.slices_partitionOrdered [v0, nthV s 0, nthV s 1, t60_1] w_112 fun t99_22 w_114 =>
  ExtractV t99_22 0 fun t100_22 =>
  ExtractV t99_22 1 fun t101_22 =>
  BinV BinOp.sub t100_22 (nthV s 0) fun t105_22 =>
  BinV BinOp.sub (nthV s 1) t100_22 fun t108_22 =>
  BinV BinOp.quo t21 (Value.int IntKind.i64 8) fun t110_22 =>
  BinV BinOp.lss t105_22 t108_22 fun t113_22 =>
  SplitV t113_22
  (BinV BinOp.geq t105_22 t110_22 fun t116_22 =>
  CallV Try.prog N.slices_pdqsortOrdered [v0, nthV s 0, t100_22, nthV s 2] w_114 fun _ w_115 =>
  BinV BinOp.add t100_22 (Value.int IntKind.i64 1) fun t123_22 =>
  K [t123_22, nthV s 1, nthV s 2, t116_22, t101_22] w_115)
  (BinV BinOp.geq t108_22 t110_22 fun t126_22 =>
  BinV BinOp.add t100_22 (Value.int IntKind.i64 1) fun t129_22 =>
  CallV Try.prog N.slices_pdqsortOrdered [v0, t129_22, nthV s 1, nthV s 2] w_114 fun _ w_116 =>
  K [nthV s 0, t100_22, nthV s 2, t126_22, t101_22] w_116)))
  (CallV Try.prog N.slices_partitionOrdered [v0, nthV s 0, nthV s 1, t60_1] w_111 fun t99_23 w_117 =>
  ExtractV t99_23 0 fun t100_23 =>
  ExtractV t99_23 1 fun t101_23 =>
  BinV BinOp.sub t100_23 (nthV s 0) fun t105_23 =>
  BinV BinOp.sub (nthV s 1) t100_23 fun t108_23 =>
  BinV BinOp.quo t21 (Value.int IntKind.i64 8) fun t110_23 =>
  BinV BinOp.lss t105_23 t108_23 fun t113_23 =>
  SplitV t113_23
  (BinV BinOp.geq t105_23 t110_23 fun t116_23 =>
  CallV Try.prog N.slices_pdqsortOrdered [v0, nthV s 0, t100_23, nthV s 2] w_117 fun _ w_118 =>
  BinV BinOp.add t100_23 (Value.int IntKind.i64 1) fun t123_23 =>
  K [t123_23, nthV s 1, nthV s 2, t116_23, t101_23] w_118)
  (BinV BinOp.geq t108_23 t110_23 fun t126_23 =>
  BinV BinOp.add t100_23 (Value.int IntKind.i64 1) fun t129_23 =>
  CallV Try.prog N.slices_pdqsortOrdered [v0, t129_23, nthV s 1, nthV s 2] w_117 fun _ w_119 =>
  K [nthV s 0, t100_23, nthV s 2, t126_23, t101_23] w_119))))
  (SplitV (nthV s 3)
  (SplitV (nthV s 4)
  (BinV BinOp.eql t48_1 (Value.int IntKind.i64 1) fun t67_3 =>
  SplitV t67_3
  (CallV Try.prog N.slices_partialInsertionSortOrdered [v0, nthV s 0, nthV s 1] w_81 fun t72_3 w_120 =>
  SplitV t72_3
  (R (Value.tuple #[]) w_120)
  (DrawV w_120 fun S_12 w_121 =>
  BinV BinOp.gtr (nthV s 0) (Value.int IntKind.i64 0) fun t74_12 =>
  SplitV t74_12
  (BinV BinOp.sub (nthV s 0) (Value.int IntKind.i64 1) fun t78_12 =>
  IdxV 1 v0 t78_12 fun t79_12 =>
  LoadS S_12 false 1 t79_12 w_121 fun t80_12 =>
  IdxV 1 v0 t47_1 fun t83_12 =>
  LoadS S_12 false 1 t83_12 w_121 fun t84_12 =>
  CallV Try.prog N.cmp_Less [t80_12, t84_12] w_121 fun t85_12 w_122 =>
  Chg S_12 w_121 w_122 ∧
  NotV t85_12 fun t86_12 =>
  SplitV t86_12
  (CallV Try.prog N.slices_partitionEqualOrdered [v0, nthV s 0, nthV s 1, t47_1] w_122 fun t92_12 w_123 =>
  K [t92_12, nthV s 1, nthV s 2, nthV s 3, nthV s 4] w_123)
  (CallV Try.prog N.slices_partitionOrdered [v0, nthV s 0, nthV s 1, t47_1] w_122 fun t99_24 w_124 =>
  ExtractV t99_24 0 fun t100_24 =>
  ExtractV t99_24 1 fun t101_24 =>
  BinV BinOp.sub t100_24 (nthV s 0) fun t105_24 =>
  BinV BinOp.sub (nthV s 1) t100_24 fun t108_24 =>
  BinV BinOp.quo t21 (Value.int IntKind.i64 8) fun t110_24 =>
  BinV BinOp.lss t105_24 t108_24 fun t113_24 =>
  SplitV t113_24
  (BinV BinOp.geq t105_24 t110_24 fun t116_24 =>
  CallV Try.prog N.slices_pdqsortOrdered [v0, nthV s 0, t100_24, nthV s 2] w_124 fun _ w_125 =>
  BinV BinOp.add t100_24 (Value.int IntKind.i64 1) fun t123_24 =>
  K [t123_24, nthV s 1, nthV s 2, t116_24, t101_24] w_125)
  (BinV BinOp.geq t108_24 t110_24 fun t126_24 =>
  BinV BinOp.add t100_24 (Value.int IntKind.i64 1) fun t129_24 =>
  CallV Try.prog N.slices_pdqsortOrdered [v0, t129_24, nthV s 1, nthV s 2] w_124 fun _ w_126 =>
  K [nthV s 0, t100_24, nthV s 2, t126_24, t101_24] w_126)))
  (CallV Try.prog N.slices_partitionOrdered [v0, nthV s 0, nthV s 1, t47_1] w_121 fun t99_25 w_127 =>
  ExtractV t99_25 0 fun t100_25 =>
  ExtractV t99_25 1 fun t101_25 =>
  BinV BinOp.sub t100_25 (nthV s 0) fun t105_25 =>
  BinV BinOp.sub (nthV s 1) t100_25 fun t108_25 =>
  BinV BinOp.quo t21 (Value.int IntKind.i64 8) fun t110_25 =>
  BinV BinOp.lss t105_25 t108_25 fun t113_25 =>
  SplitV t113_25
  (BinV BinOp.geq t105_25 t110_25 fun t116_25 =>
  CallV Try.prog N.slices_pdqsortOrdered [v0, nthV s 0, t100_25, nthV s 2] w_127 fun _ w_128 =>
  BinV BinOp.add t100_25 (Value.int IntKind.i64 1) fun t123_25 =>
  K [t123_25, nthV s 1, nthV s 2, t116_25, t101_25] w_128)
  (BinV BinOp.geq t108_25 t110_25 fun t126_25 =>
  BinV BinOp.add t100_25 (Value.int IntKind.i64 1) fun t129_25 =>
  CallV Try.prog N.slices_pdqsortOrdered [v0, t129_25, nthV s 1, nthV s 2] w_127 fun _ w_129 =>
  K [nthV s 0, t100_25, nthV s 2, t126_25, t101_25] w_129))))
  (DrawV w_81 fun S_13 w_130 =>
  BinV BinOp.gtr (nthV s 0) (Value.int IntKind.i64 0) fun t74_13 =>
  SplitV t74_13
  (BinV BinOp.sub (nthV s 0) (Value.int IntKind.i64 1) fun t78_13 =>
  IdxV 1 v0 t78_13 fun t79_13 =>
  LoadS S_13 false 1 t79_13 w_130 fun t80_13 =>
  IdxV 1 v0 t47_1 fun t83_13 =>
  LoadS S_13 false 1 t83_13 w_130 fun t84_13 =>
  CallV Try.prog N.cmp_Less [t80_13, t84_13] w_130 fun t85_13 w_131 =>
  Chg S_13 w_130 w_131 ∧
  NotV t85_13 fun t86_13 =>
  SplitV t86_13
  (CallV Try.prog N.slices_partitionEqualOrdered [v0, nthV s 0, nthV s 1, t47_1] w_131 fun t92_13 w_132 =>
  K [t92_13, nthV s 1, nthV s 2, nthV s 3, nthV s 4] w_132)
  (CallV Try.prog N.slices_partitionOrdered [v0, nthV s 0, nthV s 1, t47_1] w_131 fun t99_26 w_133 =>
  ExtractV t99_26 0 fun t100_26 =>
  ExtractV t99_26 1 fun t101_26 =>
  BinV BinOp.sub t100_26 (nthV s 0) fun t105_26 =>
  BinV BinOp.sub (nthV s 1) t100_26 fun t108_26 =>
  BinV BinOp.quo t21 (Value.int IntKind.i64 8) fun t110_26 =>
  BinV BinOp.lss t105_26 t108_26 fun t113_26 =>
  SplitV t113_26
  (BinV BinOp.geq t105_26 t110_26 fun t116_26 =>
  CallV Try.prog N.slices_pdqsortOrdered [v0, nthV s 0, t100_26, nthV s 2] w_133 fun _ w_134 =>
  BinV BinOp.add t100_26 (Value.int IntKind.i64 1) fun t123_26 =>
  K [t123_26, nthV s 1, nthV s 2, t116_26, t101_26] w_134)
  (BinV BinOp.geq t108_26 t110_26 fun t126_26 =>
  BinV BinOp.add t100_26 (Value.int IntKind.i64 1) fun t129_26 =>
  CallV Try.prog N.slices_pdqsortOrdered [v0, t129_26, nthV s 1, nthV s 2] w_133 fun _ w_135 =>
  K [nthV s 0, t100_26, nthV s 2, t126_26, t101_26] w_135)))
  (CallV Try.prog N.slices_partitionOrdered [v0, nthV s 0, nthV s 1, t47_1] w_130 fun t99_27 w_136 =>
  ExtractV t99_27 0 fun t100_27 =>
  ExtractV t99_27 1 fun t101_27 =>
  BinV BinOp.sub t100_27 (nthV s 0) fun t105_27 =>
  BinV BinOp.sub (nthV s 1) t100_27 fun t108_27 =>
  BinV BinOp.quo t21 (Value.int IntKind.i64 8) fun t110_27 =>
  BinV BinOp.lss t105_27 t108_27 fun t113_27 =>
  SplitV t113_27
  (BinV BinOp.geq t105_27 t110_27 fun t116_27 =>
  CallV Try.prog N.slices_pdqsortOrdered [v0, nthV s 0, t100_27, nthV s 2] w_136 fun _ w_137 =>
  BinV BinOp.add t100_27 (Value.int IntKind.i64 1) fun t123_27 =>
  K [t123_27, nthV s 1, nthV s 2, t116_27, t101_27] w_137)
  (BinV BinOp.geq t108_27 t110_27 fun t126_27 =>
  BinV BinOp.add t100_27 (Value.int IntKind.i64 1) fun t129_27 =>
  CallV Try.prog N.slices_pdqsortOrdered [v0, t129_27, nthV s 1, nthV s 2] w_136 fun _ w_138 =>
  K [nthV s 0, t100_27, nthV s 2, t126_27, t101_27] w_138))))
  (DrawV w_81 fun S_14 w_139 =>
  BinV BinOp.gtr (nthV s 0) (Value.int IntKind.i64 0) fun t74_14 =>
  SplitV t74_14
  (BinV BinOp.sub (nthV s 0) (Value.int IntKind.i64 1) fun t78_14 =>
  IdxV 1 v0 t78_14 fun t79_14 =>
  LoadS S_14 false 1 t79_14 w_139 fun t80_14 =>
  IdxV 1 v0 t47_1 fun t83_14 =>
  LoadS S_14 false 1 t83_14 w_139 fun t84_14 =>
  CallV Try.prog N.cmp_Less [t80_14, t84_14] w_139 fun t85_14 w_140 =>
  Chg S_14 w_139 w_140 ∧
  NotV t85_14 fun t86_14 =>
  SplitV t86_14
  (CallV Try.prog N.slices_partitionEqualOrdered [v0, nthV s 0, nthV s 1, t47_1] w_140 fun t92_14 w_141 =>
  K [t92_14, nthV s 1, nthV s 2, nthV s 3, nthV s 4] w_141)
  (CallV Try.prog N.slices_partitionOrdered [v0, nthV s 0, nthV s 1, t47_1] w_140 fun t99_28 w_142 =>
  ExtractV t99_28 0 fun t100_28 =>
  ExtractV t99_28 1 fun t101_28 =>
  BinV BinOp.sub t100_28 (nthV s 0) fun t105_28 =>
  BinV BinOp.sub (nthV s 1) t100_28 fun t108_28 =>
  BinV BinOp.quo t21 (Value.int IntKind.i64 8) fun t110_28 =>
  BinV BinOp.lss t105_28 t108_28 fun t113_28 =>
  SplitV t113_28
  (BinV BinOp.geq t105_28 t110_28 fun t116_28 =>
  CallV Try.prog N.slices_pdqsortOrdered [v0, nthV s 0, t100_28, nthV s 2] w_142 fun _ w_143 =>
  BinV BinOp.add t100_28 (Value.int IntKind.i64 1) fun t123_28 =>
  K [t123_28, nthV s 1, nthV s 2, t116_28, t101_28] w_143)
  (BinV BinOp.geq t108_28 t110_28 fun t126_28 =>
  BinV BinOp.add t100_28 (Value.int IntKind.i64 1) fun t129_28 =>
  CallV Try.prog N.slices_pdqsortOrdered [v0, t129_28, nthV s 1, nthV s 2] w_142 fun _ w_144 =>
  K [nthV s 0, t100_28, nthV s 2, t126_28, t101_28] w_144)))
  (CallV Try.prog N.slices_partitionOrdered [v0, nthV s 0, nthV s 1, t47_1] w_139 fun t99_29 w_145 =>
  ExtractV t99_29 0 fun t100_29 =>
  ExtractV t99_29 1 fun t101_29 =>
  BinV BinOp.sub t100_29 (nthV s 0) fun t105_29 =>
  BinV BinOp.sub (nthV s 1) t100_29 fun t108_29 =>
  BinV BinOp.quo t21 (Value.int IntKind.i64 8) fun t110_29 =>
  BinV BinOp.lss t105_29 t108_29 fun t113_29 =>
  SplitV t113_29
  (BinV BinOp.geq t105_29 t110_29 fun t116_29 =>
  CallV Try.prog N.slices_pdqsortOrdered [v0, nthV s 0, t100_29, nthV s 2] w_145 fun _ w_146 =>
  BinV BinOp.add t100_29 (Value.int IntKind.i64 1) fun t123_29 =>
  K [t123_29, nthV s 1, nthV s 2, t116_29, t101_29] w_146)
  (BinV BinOp.geq t108_29 t110_29 fun t126_29 =>
  BinV BinOp.add t100_29 (Value.int IntKind.i64 1) fun t129_29 =>
  CallV Try.prog N.slices_pdqsortOrdered [v0, t129_29, nthV s 1, nthV s 2] w_145 fun _ w_147 =>
  K [nthV s 0, t100_29, nthV s 2, t126_29, t101_29] w_147))))
  (DrawV w_81 fun S_15 w_148 =>
  BinV BinOp.gtr (nthV s 0) (Value.int IntKind.i64 0) fun t74_15 =>
  SplitV t74_15
  (BinV BinOp.sub (nthV s 0) (Value.int IntKind.i64 1) fun t78_15 =>
  IdxV 1 v0 t78_15 fun t79_15 =>
  LoadS S_15 false 1 t79_15 w_148 fun t80_15 =>
  IdxV 1 v0 t47_1 fun t83_15 =>
  LoadS S_15 false 1 t83_15 w_148 fun t84_15 =>
  CallV Try.prog N.cmp_Less [t80_15, t84_15] w_148 fun t85_15 w_149 =>
  Chg S_15 w_148 w_149 ∧
  NotV t85_15 fun t86_15 =>
  SplitV t86_15
  (CallV Try.prog N.slices_partitionEqualOrdered [v0, nthV s 0, nthV s 1, t47_1] w_149 fun t92_15 w_150 =>
  K [t92_15, nthV s 1, nthV s 2, nthV s 3, nthV s 4] w_150)
  (CallV Try.prog N.slices_partitionOrdered [v0, nthV s 0, nthV s 1, t47_1] w_149 fun t99_30 w_151 =>
  ExtractV t99_30 0 fun t100_30 =>
  ExtractV t99_30 1 fun t101_30 =>
  BinV BinOp.sub t100_30 (nthV s 0) fun t105_30 =>
  BinV BinOp.sub (nthV s 1) t100_30 fun t108_30 =>
  BinV BinOp.quo t21 (Value.int IntKind.i64 8) fun t110_30 =>
  BinV BinOp.lss t105_30 t108_30 fun t113_30 =>
  SplitV t113_30
  (BinV BinOp.geq t105_30 t110_30 fun t116_30 =>
  CallV Try.prog N.slices_pdqsortOrdered [v0, nthV s 0, t100_30, nthV s 2] w_151 fun _ w_152 =>
  BinV BinOp.add t100_30 (Value.int IntKind.i64 1) fun t123_30 =>
  K [t123_30, nthV s 1, nthV s 2, t116_30, t101_30] w_152)
  (BinV BinOp.geq t108_30 t110_30 fun t126_30 =>
  BinV BinOp.add t100_30 (Value.int IntKind.i64 1) fun t129_30 =>
  CallV Try.prog N.slices_pdqsortOrdered [v0, t129_30, nthV s 1, nthV s 2] w_151 fun _ w_153 =>
  K [nthV s 0, t100_30, nthV s 2, t126_30, t101_30] w_153)))
  (CallV Try.prog N.slices_partitionOrdered [v0, nthV s 0, nthV s 1, t47_1] w_148 fun t99_31 w_154 =>
  ExtractV t99_31 0 fun t100_31 =>
  ExtractV t99_31 1 fun t101_31 =>
  BinV BinOp.sub t100_31 (nthV s 0) fun t105_31 =>
  BinV BinOp.sub (nthV s 1) t100_31 fun t108_31 =>
  BinV BinOp.quo t21 (Value.int IntKind.i64 8) fun t110_31 =>
  BinV BinOp.lss t105_31 t108_31 fun t113_31 =>
  SplitV t113_31
  (BinV BinOp.geq t105_31 t110_31 fun t116_31 =>
  CallV Try.prog N.slices_pdqsortOrdered [v0, nthV s 0, t100_31, nthV s 2] w_154 fun _ w_155 =>
  BinV BinOp.add t100_31 (Value.int IntKind.i64 1) fun t123_31 =>
  K [t123_31, nthV s 1, nthV s 2, t116_31, t101_31] w_155)
  (BinV BinOp.geq t108_31 t110_31 fun t126_31 =>
  BinV BinOp.add t100_31 (Value.int IntKind.i64 1) fun t129_31 =>
  CallV Try.prog N.slices_pdqsortOrdered [v0, t129_31, nthV s 1, nthV s 2] w_154 fun _ w_156 =>
  K [nthV s 0, t100_31, nthV s 2, t126_31, t101_31] w_156)))))))) :
    Calls Try.prog N.slices_pdqsortOrdered #[v0, v1, v2, v3] w (Ret R) :=
  callsB (args := [v0, v1, v2, v3]) ⟨(annOf [(2, [1, 2, 3, 8, 9])]), (annOf []), []⟩ Try.func132 rfl (cast (by kernel_rfl) h)

theorem c_slices_insertionSortOrdered (v0 : Value) (v1 : Value) (v2 : Value) (w : World) (R : Value → World → Prop) (h :
  BinV BinOp.add v1 (Value.int IntKind.i64 1) fun t9 =>
  LoopV [t9] w fun s _ w_1 K =>
  BinV BinOp.lss (nthV s 0) v2 fun t12 =>
  SplitV t12
  (LoopV [nthV s 0] w_1 fun s_1 _ w_2 K_1 =>
  DrawV w_2 fun S w_3 =>
  BinV BinOp.gtr (nthV s_1 0) v1 fun t18 =>
  SplitV t18
  (IdxV 1 v0 (nthV s_1 0) fun t22 =>
  LoadS S false 1 t22 w_3 fun t23 =>
  BinV BinOp.sub (nthV s_1 0) (Value.int IntKind.i64 1) fun t26 =>
  IdxV 1 v0 t26 fun t27 =>
  LoadS S false 1 t27 w_3 fun t28 =>
  CallV Try.prog N.cmp_Less [t23, t28] w_3 fun t29 w_4 =>
  Chg S w_3 w_4 ∧
  SplitV t29
  (DrawV w_4 fun S_1 w_5 =>
  BinV BinOp.sub (nthV s_1 0) (Value.int IntKind.i64 1) fun t37 =>
  BinV BinOp.sub (nthV s_1 0) (Value.int IntKind.i64 1) fun t40 =>
  IdxV 1 v0 t40 fun t41 =>
  LoadS (fun _ => False) false 1 t41 w_5 fun t42 =>
  IdxV 1 v0 (nthV s_1 0) fun t45 =>
  LoadS (fun _ => False) false 1 t45 w_5 fun t46 =>
  IdxV 1 v0 (nthV s_1 0) fun t47 =>
  StoreV 1 t47 t42 w_5 fun w_6 =>
  Chg S_1 w_5 w_6 ∧
  IdxV 1 v0 t37 fun t48 =>
  StoreV 1 t48 t46 w_6 fun w_7 =>
  BinV BinOp.sub (nthV s_1 0) (Value.int IntKind.i64 1) fun t32 =>
  K_1 [t32] w_7)
  (BinV BinOp.add (nthV s 0) (Value.int IntKind.i64 1) fun t14 =>
  K [t14] w_4))
  (BinV BinOp.add (nthV s 0) (Value.int IntKind.i64 1) fun t14_1 =>
  K [t14_1] w_3))
  (R (Value.tuple #[]) w_1)) :
    Calls Try.prog N.slices_insertionSortOrdered #[v0, v1, v2] w (Ret R) :=
  callsB (args := [v0, v1, v2]) ⟨(annOf [(1, [6]), (4, [7])]), (annOf []), [1006]⟩ Try.func134 rfl (cast (by kernel_rfl) h)

theorem c_cmp_Less (v0 : Value) (v1 : Value) (w : World) (R : Value → World → Prop) (h :
  CallV Try.prog N.cmp_isNaN [v0] w fun t6 w_1 =>
  SplitV t6
  (CallV Try.prog N.cmp_isNaN [v1] w_1 fun t9 w_2 =>
  NotV t9 fun t10 =>
  SplitV t10
  (R (Value.bool true) w_2)
  (BinV BinOp.lss v0 v1 fun t15 =>
  R t15 w_2))
  (BinV BinOp.lss v0 v1 fun t15_1 =>
  R t15_1 w_1)) :
    Calls Try.prog N.cmp_Less #[v0, v1] w (Ret R) :=
  callsB (args := [v0, v1]) ⟨(annOf []), (annOf []), []⟩ Try.func140 rfl (cast (by kernel_rfl) h)

theorem c_cmp_isNaN (v0 : Value) (w : World) (R : Value → World → Prop) (h :
  BinV BinOp.neq v0 v0 fun t5 =>
  R t5 w) :
    Calls Try.prog N.cmp_isNaN #[v0] w (Ret R) :=
  callsB (args := [v0]) ⟨(annOf []), (annOf []), []⟩ Try.func150 rfl (cast (by kernel_rfl) h)

theorem c_math_bits_Len (v0 : Value) (w : World) (R : Value → World → Prop) (h :
  CallV Try.prog N.math_bits_Len64 [v0] w fun t7 w_1 =>
  R t7 w_1) :
    Calls Try.prog N.math_bits_Len #[v0] w (Ret R) :=
  callsB (args := [v0]) ⟨(annOf []), (annOf []), []⟩ Try.func133 rfl (cast (by kernel_rfl) h)

theorem c_math_bits_Len64 (v0 : Value) (w : World) (R : Value → World → Prop) (h :
  BinV BinOp.geq v0 (Value.int IntKind.u64 4294967296) fun t4 =>
  SplitV t4
  (ShV BinOp.shr v0 (Value.int IntKind.u64 32) fun t6 =>
  BinV BinOp.geq t6 (Value.int IntKind.u64 65536) fun t8 =>
  SplitV t8
  (ShV BinOp.shr t6 (Value.int IntKind.u64 16) fun t10 =>
  BinV BinOp.add (Value.int IntKind.i64 32) (Value.int IntKind.i64 16) fun t12 =>
  BinV BinOp.geq t10 (Value.int IntKind.u64 256) fun t14 =>
  SplitV t14
  (ShV BinOp.shr t10 (Value.int IntKind.u64 8) fun t16 =>
  BinV BinOp.add t12 (Value.int IntKind.i64 8) fun t18 =>
  ConvV IntKind.u8 t16 fun t21 =>
  IndexSV 256 t21 fun t22 =>
  ConvV IntKind.i64 t22 fun t23 =>
  BinV BinOp.add t18 t23 fun t24 =>
  R t24 w)
  (ConvV IntKind.u8 t10 fun t21_1 =>
  IndexSV 256 t21_1 fun t22_1 =>
  ConvV IntKind.i64 t22_1 fun t23_1 =>
  BinV BinOp.add t12 t23_1 fun t24_1 =>
  R t24_1 w))
  (BinV BinOp.geq t6 (Value.int IntKind.u64 256) fun t14_1 =>
  SplitV t14_1
  (ShV BinOp.shr t6 (Value.int IntKind.u64 8) fun t16_1 =>
  BinV BinOp.add (Value.int IntKind.i64 32) (Value.int IntKind.i64 8) fun t18_1 =>
  ConvV IntKind.u8 t16_1 fun t21_2 =>
  IndexSV 256 t21_2 fun t22_2 =>
  ConvV IntKind.i64 t22_2 fun t23_2 =>
  BinV BinOp.add t18_1 t23_2 fun t24_2 =>
  R t24_2 w)
  (ConvV IntKind.u8 t6 fun t21_3 =>
  IndexSV 256 t21_3 fun t22_3 =>
  ConvV IntKind.i64 t22_3 fun t23_3 =>
  BinV BinOp.add (Value.int IntKind.i64 32) t23_3 fun t24_3 =>
  R t24_3 w)))
  (BinV BinOp.geq v0 (Value.int IntKind.u64 65536) fun t8_1 =>
  SplitV t8_1
  (ShV BinOp.shr v0 (Value.int IntKind.u64 16) fun t10_1 =>
  BinV BinOp.add (Value.int IntKind.i64 0) (Value.int IntKind.i64 16) fun t12_1 =>
  BinV BinOp.geq t10_1 (Value.int IntKind.u64 256) fun t14_2 =>
  SplitV t14_2
  (ShV BinOp.shr t10_1 (Value.int IntKind.u64 8) fun t16_2 =>
  BinV BinOp.add t12_1 (Value.int IntKind.i64 8) fun t18_2 =>
  ConvV IntKind.u8 t16_2 fun t21_4 =>
  IndexSV 256 t21_4 fun t22_4 =>
  ConvV IntKind.i64 t22_4 fun t23_4 =>
  BinV BinOp.add t18_2 t23_4 fun t24_4 =>
  R t24_4 w)
  (ConvV IntKind.u8 t10_1 fun t21_5 =>
  IndexSV 256 t21_5 fun t22_5 =>
  ConvV IntKind.i64 t22_5 fun t23_5 =>
  BinV BinOp.add t12_1 t23_5 fun t24_5 =>
  R t24_5 w))
  (BinV BinOp.geq v0 (Value.int IntKind.u64 256) fun t14_3 =>
  SplitV t14_3
  (ShV BinOp.shr v0 (Value.int IntKind.u64 8) fun t16_3 =>
  BinV BinOp.add (Value.int IntKind.i64 0) (Value.int IntKind.i64 8) fun t18_3 =>
  ConvV IntKind.u8 t16_3 fun t21_6 =>
  IndexSV 256 t21_6 fun t22_6 =>
  ConvV IntKind.i64 t22_6 fun t23_6 =>
  BinV BinOp.add t18_3 t23_6 fun t24_6 =>
  R t24_6 w)
  (ConvV IntKind.u8 v0 fun t21_7 =>
  IndexSV 256 t21_7 fun t22_7 =>
  ConvV IntKind.i64 t22_7 fun t23_7 =>
  BinV BinOp.add (Value.int IntKind.i64 0) t23_7 fun t24_7 =>
  R t24_7 w)))) :
    Calls Try.prog N.math_bits_Len64 #[v0] w (Ret R) :=
  callsB (args := [v0]) ⟨(annOf []), (annOf []), []⟩ Try.func144 rfl (cast (by kernel_rfl) h)

theorem c_slices_Reverse (v0 : Value) (w : World) (R : Value → World → Prop) (h :
  LenV v0 fun t5 =>
  BinV BinOp.sub t5 (Value.int IntKind.i64 1) fun t6 =>
  LoopV [Value.int IntKind.i64 0, t6] w fun s _ w_1 K =>
  BinV BinOp.lss (nthV s 0) (nthV s 1) fun t9 =>
  SplitV t9
  (DrawV w_1 fun S w_2 =>
  IdxV 1 v0 (nthV s 1) fun t20 =>
  LoadS (fun _ => False) false 1 t20 w_2 fun t21 =>
  IdxV 1 v0 (nthV s 0) fun t24 =>
  LoadS (fun _ => False) false 1 t24 w_2 fun t25 =>
  IdxV 1 v0 (nthV s 0) fun t26 =>
  StoreV 1 t26 t21 w_2 fun w_3 =>
  Chg S w_2 w_3 ∧
  IdxV 1 v0 (nthV s 1) fun t27 =>
  StoreV 1 t27 t25 w_3 fun w_4 =>
  BinV BinOp.add (nthV s 0) (Value.int IntKind.i64 1) fun t11 =>
  BinV BinOp.sub (nthV s 1) (Value.int IntKind.i64 1) fun t13 =>
  K [t11, t13] w_4)
  (R (Value.tuple #[]) w_1)) :
    Calls Try.prog N.slices_Reverse #[v0] w (Ret R) :=
  callsB (args := [v0]) ⟨(annOf [(1, [2, 3])]), (annOf []), [1003]⟩ Try.func131 rfl (cast (by kernel_rfl) h)

end Go.Proofs.Ytblgkpfnjlobjaa
