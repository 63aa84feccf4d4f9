/- The conditions of functions, off their texts. Printed by a program; Lean checks each one. -/
import Derived.Test.YtblgkpfnjlobjaaNames
import Derived.Test.YtblgkpfnjlobjaaV9
namespace Go.Proofs.Ytblgkpfnjlobjaa
open Go Go.V
set_option maxRecDepth 100000
theorem c_spec_l3Copy (v0 : Value) (w : World) (R : Value → World → Prop) (h :
  BSliceV T.impl_Node 3 0 #[Value.int IntKind.i64 0, Value.slice none 0 0, Value.slice none 0 0] [] w fun t6 w_1 =>
  LoopV [t6, Value.int IntKind.i64 0] w_1 fun s _ w_2 K =>
  LenV v0 fun t9 =>
  BinV BinOp.lss (nthV s 1) t9 fun t10 =>
  SplitV t10
  (IdxV 3 v0 (nthV s 1) fun t15 =>
  LoadV true 3 t15 w_2 fun t16 =>
  BoxV T.impl_Node (Value.agg #[Value.int IntKind.i64 0, Value.slice none 0 0, Value.slice none 0 0]) w_2 fun t5 w_3 =>
  StoreV 3 t5 t16 w_3 fun w_4 =>
  DrawV w_4 fun S w_5 =>
  FAddrV 0 t5 fun t18 =>
  LoadS S false 1 t18 w_5 fun t19 =>
  FAddrV 1 t5 fun t21 =>
  LoadS S false 1 t21 w_5 fun t22 =>
  FAddrV 2 t5 fun t25 =>
  LoadS S false 1 t25 w_5 fun t26 =>
  (BSliceV T.int 1 0 #[Value.int IntKind.i64 0] [] w_5 fun t20 w_6 =>
  Chg S w_5 w_6 ∧
  (AppendV Try.prog T.sl_int t20 t22 w_6 fun t23 w_7 =>
  Chg S w_6 w_7 ∧
  BSliceV T.int 1 0 #[Value.int IntKind.i64 0] [] w_7 fun t24 w_8 =>
  Chg S w_7 w_8 ∧
  AppendV Try.prog T.sl_int t24 t26 w_8 fun t27 w_9 =>
  Chg S w_8 w_9 ∧
  BuildV #[Value.int IntKind.i64 0, Value.slice none 0 0, Value.slice none 0 0] (fun i => ([(0, 1), (1, 1), (2, 1)] : List (Nat × Nat))[i]?) [(0, t19), (1, t23), (2, t27)] fun t28 =>
  BSliceV T.impl_Node 3 1 #[Value.int IntKind.i64 0, Value.slice none 0 0, Value.slice none 0 0] [(0, t28)] w_9 fun t29 w_10 =>
  Chg S w_9 w_10 ∧
  AppendV Try.prog T.sl_impl_Node (nthV s 0) t29 w_10 fun t30 w_11 =>
  Chg S w_10 w_11 ∧
  BinV BinOp.add (nthV s 1) (Value.int IntKind.i64 1) fun t12 =>
  K [t30, t12] w_11) ∧
  (BSliceV T.int 1 0 #[Value.int IntKind.i64 0] [] w_6 fun t24_1 w_12 =>
  Chg S w_6 w_12 ∧
  AppendV Try.prog T.sl_int t20 t22 w_12 fun t23_1 w_13 =>
  Chg S w_12 w_13 ∧
  AppendV Try.prog T.sl_int t24_1 t26 w_13 fun t27_1 w_14 =>
  Chg S w_13 w_14 ∧
  BuildV #[Value.int IntKind.i64 0, Value.slice none 0 0, Value.slice none 0 0] (fun i => ([(0, 1), (1, 1), (2, 1)] : List (Nat × Nat))[i]?) [(0, t19), (1, t23_1), (2, t27_1)] fun t28_1 =>
  BSliceV T.impl_Node 3 1 #[Value.int IntKind.i64 0, Value.slice none 0 0, Value.slice none 0 0] [(0, t28_1)] w_14 fun t29_1 w_15 =>
  Chg S w_14 w_15 ∧
  AppendV Try.prog T.sl_impl_Node (nthV s 0) t29_1 w_15 fun t30_1 w_16 =>
  Chg S w_15 w_16 ∧
  BinV BinOp.add (nthV s 1) (Value.int IntKind.i64 1) fun t12_1 =>
  K [t30_1, t12_1] w_16)) ∧
  (BSliceV T.int 1 0 #[Value.int IntKind.i64 0] [] w_5 fun t24_2 w_17 =>
  Chg S w_5 w_17 ∧
  BSliceV T.int 1 0 #[Value.int IntKind.i64 0] [] w_17 fun t20_1 w_18 =>
  Chg S w_17 w_18 ∧
  AppendV Try.prog T.sl_int t20_1 t22 w_18 fun t23_2 w_19 =>
  Chg S w_18 w_19 ∧
  AppendV Try.prog T.sl_int t24_2 t26 w_19 fun t27_2 w_20 =>
  Chg S w_19 w_20 ∧
  BuildV #[Value.int IntKind.i64 0, Value.slice none 0 0, Value.slice none 0 0] (fun i => ([(0, 1), (1, 1), (2, 1)] : List (Nat × Nat))[i]?) [(0, t19), (1, t23_2), (2, t27_2)] fun t28_2 =>
  BSliceV T.impl_Node 3 1 #[Value.int IntKind.i64 0, Value.slice none 0 0, Value.slice none 0 0] [(0, t28_2)] w_20 fun t29_2 w_21 =>
  Chg S w_20 w_21 ∧
  AppendV Try.prog T.sl_impl_Node (nthV s 0) t29_2 w_21 fun t30_2 w_22 =>
  Chg S w_21 w_22 ∧
  BinV BinOp.add (nthV s 1) (Value.int IntKind.i64 1) fun t12_2 =>
  K [t30_2, t12_2] w_22))
  (R (nthV s 0) w_2)) :
    Calls Try.prog N.spec_l3Copy #[v0] w (Ret R) :=
  callsB (args := [v0]) ⟨(annOf [(3, [3, 4])]), (annOf []), []⟩ Try.func51 rfl (cast (by kernel_rfl) h)

end Go.Proofs.Ytblgkpfnjlobjaa
