/- The conditions of functions, off their texts. Printed by a program; Lean checks each one. -/
import Derived.Test.YtblgkpfnjlobjaaNames
import Derived.Test.YtblgkpfnjlobjaaV9
namespace Go.Proofs.Ytblgkpfnjlobjaa
open Go Go.V
set_option maxRecDepth 100000
theorem c_impl_countTableOf (v0 : Value) (w : World) (R : Value → World → Prop) (h :
  LenV v0 fun t8 =>
  BuildV #[Value.int IntKind.i64 0, Value.int IntKind.i64 0, Value.int IntKind.i64 0, Value.int IntKind.i64 0, Value.int IntKind.i64 0, Value.int IntKind.i64 0, Value.int IntKind.i64 0, Value.int IntKind.i64 0, Value.int IntKind.i64 0, Value.int IntKind.i64 0, Value.int IntKind.i64 0] (fun i => ([(0, 10), (10, 1)] : List (Nat × Nat))[i]?) [(1, t8)] fun t9 =>
  BoxV T.impl_countTable t9 w fun t10 w_1 =>
  LenV v0 fun t12 =>
  LoopV [Value.int IntKind.i64 0] w_1 fun s _ w_2 K =>
  BinV BinOp.lss (nthV s 0) t12 fun t14 =>
  SplitV t14
  (CallV Try.prog N.impl_PlanUses [v0, nthV s 0] w_2 fun t18 w_3 =>
  LenV t18 fun t19 =>
  LoopV [Value.int IntKind.i64 0] w_3 fun s_1 _ w_4 K_1 =>
  BinV BinOp.lss (nthV s_1 0) t19 fun t21 =>
  SplitV t21
  (IdxV 1 t18 (nthV s_1 0) fun t22 =>
  LoadV false 1 t22 w_4 fun t23 =>
  DrawV w_4 fun S w_5 =>
  NilV t10 fun t26 =>
  FAddrV 0 t26 fun t27 =>
  IdxAV 10 1 t27 t23 fun t28 =>
  LoadS S false 1 t28 w_5 fun t29 =>
  BinV BinOp.add t29 (Value.int IntKind.i64 1) fun t30 =>
  NilV t10 fun t31 =>
  FAddrV 0 t31 fun t32 =>
  IdxAV 10 1 t32 t23 fun t33 =>
  StoreV 1 t33 t30 w_5 fun w_6 =>
  BinV BinOp.add (nthV s_1 0) (Value.int IntKind.i64 1) fun t34 =>
  K_1 [t34] w_6)
  (BinV BinOp.add (nthV s 0) (Value.int IntKind.i64 1) fun t35 =>
  K [t35] w_4))
  (R t10 w_2)) :
    Calls Try.prog N.impl_countTableOf #[v0] w (Ret R) :=
  callsB (args := [v0]) ⟨(annOf [(3, [13]), (6, [20])]), (annOf []), [8]⟩ Try.func100 rfl (cast (by kernel_rfl) h)

theorem c_impl_countTable_list (v0 : Value) (w : World) (R : Value → World → Prop) (h :
  DrawV w fun S w_1 =>
  NilV v0 fun t4 =>
  FAddrV 0 t4 fun t5 =>
  NilV v0 fun t7 =>
  FAddrV 10 t7 fun t8 =>
  LoadS S false 1 t8 w_1 fun t9 =>
  SliceAV 10 1 t5 none (some t9) fun t10 =>
  CallV Try.prog N.impl_copyInts [t10] w_1 fun t11 w_2 =>
  Chg S w_1 w_2 ∧
  R t11 w_2) :
    Calls Try.prog N.impl_countTable_list #[v0] w (Ret R) :=
  callsB (args := [v0]) ⟨(annOf []), (annOf []), []⟩ Try.func101 rfl (cast (by kernel_rfl) h)

theorem c_impl_CountsOf (v0 : Value) (w : World) (R : Value → World → Prop) (h :
  CallV Try.prog N.impl_PlanValid [v0] w fun t4 w_1 =>
  NotV t4 fun t5 =>
  SplitV t5
  (R (Value.slice none 0 0) w_1)
  (CallV Try.prog N.impl_countTableOf [v0] w_1 fun t7 w_2 =>
  CallV Try.prog N.impl_countTable_list [t7] w_2 fun t8 w_3 =>
  R t8 w_3)) :
    Calls Try.prog N.impl_CountsOf #[v0] w (Ret R) :=
  callsB (args := [v0]) ⟨(annOf []), (annOf []), []⟩ Try.func76 rfl (cast (by kernel_rfl) h)

theorem c_spec_l11Counts (v0 : Value) (w : World) (R : Value → World → Prop) (h :
  BSliceV T.int 1 0 #[Value.int IntKind.i64 0] [] w fun t7 w_1 =>
  LoopV [t7, Value.int IntKind.i64 0] w_1 fun s _ w_2 K =>
  LenV v0 fun t10 =>
  BinV BinOp.lss (nthV s 1) t10 fun t11 =>
  SplitV t11
  (LoopV [Value.int IntKind.i64 0, Value.int IntKind.i64 0] w_2 fun s_1 _ w_3 K_1 =>
  IdxV 3 v0 (nthV s 1) fun t17 =>
  FAddrV 1 t17 fun t18 =>
  LoadV false 1 t18 w_3 fun t19 =>
  LenV t19 fun t20 =>
  BinV BinOp.lss (nthV s_1 1) t20 fun t21 =>
  SplitV t21
  (DrawV w_3 fun S w_4 =>
  IdxV 3 v0 (nthV s 1) fun t26 =>
  FAddrV 1 t26 fun t27 =>
  LoadS S false 1 t27 w_4 fun t28 =>
  SliceV 1 t28 none (some (nthV s_1 1)) fun t30 =>
  IdxV 3 v0 (nthV s 1) fun t33 =>
  FAddrV 1 t33 fun t34 =>
  LoadS S false 1 t34 w_4 fun t35 =>
  IdxV 1 t35 (nthV s_1 1) fun t37 =>
  LoadS S false 1 t37 w_4 fun t38 =>
  CallV Try.prog N.spec_l3Has [t30, t38] w_4 fun t39 w_5 =>
  Chg S w_4 w_5 ∧
  NotV t39 fun t40 =>
  SplitV t40
  (BinV BinOp.add (nthV s_1 0) (Value.int IntKind.i64 1) fun t42 =>
  BinV BinOp.add (nthV s_1 1) (Value.int IntKind.i64 1) fun t23 =>
  K_1 [t42, t23] w_5)
  (BinV BinOp.add (nthV s_1 1) (Value.int IntKind.i64 1) fun t23_1 =>
  K_1 [nthV s_1 0, t23_1] w_5))
  (BSliceV T.int 1 1 #[Value.int IntKind.i64 0] [(0, nthV s_1 0)] w_3 fun t45 w_6 =>
  AppendV Try.prog T.sl_int (nthV s 0) t45 w_6 fun t46 w_7 =>
  BinV BinOp.add (nthV s 1) (Value.int IntKind.i64 1) fun t13 =>
  K [t46, t13] w_7))
  (R (nthV s 0) w_2)) :
    Calls Try.prog N.spec_l11Counts #[v0] w (Ret R) :=
  callsB (args := [v0]) ⟨(annOf [(3, [3, 4]), (7, [5, 6])]), (annOf []), []⟩ Try.func73 rfl (cast (by kernel_rfl) h)

theorem c_spec_CountsReady (v0 : Value) (w : World) (R : Value → World → Prop) (h :
  BSliceV T.int 1 0 #[Value.int IntKind.i64 0] [] w fun t5 w_1 =>
  LoopV [t5, Value.int IntKind.i64 0] w_1 fun s _ w_2 K =>
  LenV v0 fun t8 =>
  BinV BinOp.lss (nthV s 1) t8 fun t9 =>
  SplitV t9
  (IdxV 1 v0 (nthV s 1) fun t14 =>
  LoadV false 1 t14 w_2 fun t15 =>
  BinV BinOp.eql t15 (Value.int IntKind.i64 0) fun t16 =>
  SplitV t16
  (BSliceV T.int 1 1 #[Value.int IntKind.i64 0] [(0, nthV s 1)] w_2 fun t19 w_3 =>
  AppendV Try.prog T.sl_int (nthV s 0) t19 w_3 fun t20 w_4 =>
  BinV BinOp.add (nthV s 1) (Value.int IntKind.i64 1) fun t11 =>
  K [t20, t11] w_4)
  (BinV BinOp.add (nthV s 1) (Value.int IntKind.i64 1) fun t11_1 =>
  K [nthV s 0, t11_1] w_2))
  (R (nthV s 0) w_2)) :
    Calls Try.prog N.spec_CountsReady #[v0] w (Ret R) :=
  callsB (args := [v0]) ⟨(annOf [(3, [3, 4])]), (annOf []), []⟩ Try.func74 rfl (cast (by kernel_rfl) h)

theorem c_impl_CountsReady (v0 : Value) (w : World) (R : Value → World → Prop) (h :
  LenV v0 fun t7 =>
  LoopV [Value.slice none 0 0, Value.int IntKind.i64 0] w fun s _ w_1 K =>
  BinV BinOp.lss (nthV s 1) t7 fun t9 =>
  SplitV t9
  (IdxV 1 v0 (nthV s 1) fun t11 =>
  LoadV false 1 t11 w_1 fun t12 =>
  BinV BinOp.eql t12 (Value.int IntKind.i64 0) fun t14 =>
  SplitV t14
  (BSliceV T.int 1 1 #[Value.int IntKind.i64 0] [(0, nthV s 1)] w_1 fun t17 w_2 =>
  AppendV Try.prog T.sl_int (nthV s 0) t17 w_2 fun t18 w_3 =>
  BinV BinOp.add (nthV s 1) (Value.int IntKind.i64 1) fun t19 =>
  K [t18, t19] w_3)
  (BinV BinOp.add (nthV s 1) (Value.int IntKind.i64 1) fun t19_1 =>
  K [nthV s 0, t19_1] w_1))
  (R (nthV s 0) w_1)) :
    Calls Try.prog N.impl_CountsReady #[v0] w (Ret R) :=
  callsB (args := [v0]) ⟨(annOf [(3, [3, 8])]), (annOf []), []⟩ Try.func77 rfl (cast (by kernel_rfl) h)

theorem c_impl_workersFit (v0 : Value) (w : World) (R : Value → World → Prop) (h :
  BinV BinOp.geq v0 (Value.int IntKind.i64 1) fun t4 =>
  SplitV t4
  (BinV BinOp.leq v0 (Value.int IntKind.i64 4) fun t7 =>
  R t7 w)
  (R (Value.bool false) w)) :
    Calls Try.prog N.impl_workersFit #[v0] w (Ret R) :=
  callsB (args := [v0]) ⟨(annOf []), (annOf []), []⟩ Try.func75 rfl (cast (by kernel_rfl) h)

theorem c_spec_DrawCrewNew (v0 : Value) (w : World) (R : Value → World → Prop) (h :
  CallV Try.prog N.spec_l6Open [v0] w fun t7 w_1 =>
  CallV Try.prog N.spec_l91Plan [t7] w_1 fun t9 w_2 =>
  CallV Try.prog N.spec_l6Rd_pick [t7, Value.int IntKind.i64 4] w_2 fun t12 w_3 =>
  BinV BinOp.add (Value.int IntKind.i64 1) t12 fun t13 =>
  CallV Try.prog N.spec_l6Rd_pick [t7, Value.int IntKind.i64 20] w_3 fun t15 w_4 =>
  BinV BinOp.quo t15 (Value.int IntKind.i64 19) fun t16 =>
  BinV BinOp.mul t16 (Value.int IntKind.i64 4) fun t17 =>
  BinV BinOp.sub t13 t17 fun t18 =>
  R (Value.tuple #[t9, t18]) w_4) :
    Calls Try.prog N.spec_DrawCrewNew #[v0] w (Ret R) :=
  callsB (args := [v0]) ⟨(annOf []), (annOf []), []⟩ Try.func46 rfl (cast (by kernel_rfl) h)

end Go.Proofs.Ytblgkpfnjlobjaa
