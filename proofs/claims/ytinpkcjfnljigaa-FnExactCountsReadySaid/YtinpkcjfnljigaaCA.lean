/- The conditions of functions, off their texts. Printed by a program; Lean checks each one. -/
import Derived.Test.YtinpkcjfnljigaaNames
import Derived.Test.YtinpkcjfnljigaaV9
namespace Go.Proofs.Ytinpkcjfnljigaa
open Go Go.V
set_option maxRecDepth 100000
theorem c_laws_toIntS (v0 : Value) (w : World) (R : Value → World → Prop) (h :
  LenV v0 fun t6 =>
  MakeSliceV T.int 1 8 #[Value.int IntKind.i64 0] t6 t6 w fun t7 w_1 =>
  LoopV [Value.int IntKind.i64 0] w_1 fun s _ w_2 K =>
  LenV v0 fun t10 =>
  BinV BinOp.lss (nthV s 0) t10 fun t11 =>
  SplitV t11
  (IdxV 1 v0 (nthV s 0) fun t18 =>
  LoadV false 1 t18 w_2 fun t19 =>
  IdxV 1 t7 (nthV s 0) fun t20 =>
  StoreV 1 t20 t19 w_2 fun w_3 =>
  BinV BinOp.add (nthV s 0) (Value.int IntKind.i64 1) fun t13 =>
  K [t13] w_3)
  (R t7 w_2)) :
    Calls Try.prog N.laws_toIntS #[v0] w (Ret R) :=
  callsB (args := [v0]) ⟨(annOf [(3, [4])]), (annOf [])⟩ Try.func18 rfl (cast (by kernel_rfl) h)

theorem c_laws_eqIntS (v0 : Value) (v1 : Value) (w : World) (R : Value → World → Prop) (h :
  LenV v0 fun t7 =>
  LenV v1 fun t9 =>
  BinV BinOp.neq t7 t9 fun t10 =>
  SplitV t10
  (R (Value.bool false) w)
  (LoopV [Value.int IntKind.i64 0] w fun s _ w_1 K =>
  LenV v0 fun t13 =>
  BinV BinOp.lss (nthV s 0) t13 fun t14 =>
  SplitV t14
  (DrawV w_1 fun S w_2 =>
  IdxV 1 v0 (nthV s 0) fun t19 =>
  LoadS S false 1 t19 w_2 fun t20 =>
  IdxV 1 v1 (nthV s 0) fun t23 =>
  LoadS S false 1 t23 w_2 fun t24 =>
  BinV BinOp.neq t20 t24 fun t25 =>
  SplitV t25
  (R (Value.bool false) w_2)
  (BinV BinOp.add (nthV s 0) (Value.int IntKind.i64 1) fun t16 =>
  K [t16] w_2))
  (R (Value.bool true) w_1))) :
    Calls Try.prog N.laws_eqIntS #[v0, v1] w (Ret R) :=
  callsB (args := [v0, v1]) ⟨(annOf [(4, [5])]), (annOf [])⟩ Try.func20 rfl (cast (by kernel_rfl) h)

theorem c_laws_markIntS (v0 : Value) (v1 : Value) (w : World) (R : Value → World → Prop) (h :
  LoopV [v1, Value.int IntKind.i64 0] w fun s _ w_1 K =>
  LenV v0 fun t8 =>
  BinV BinOp.lss (nthV s 1) t8 fun t9 =>
  SplitV t9
  (IdxV 1 v0 (nthV s 1) fun t15 =>
  StoreV 1 t15 (nthV s 0) w_1 fun w_2 =>
  BinV BinOp.add (nthV s 0) (Value.int IntKind.i64 1) fun t17 =>
  BinV BinOp.add (nthV s 1) (Value.int IntKind.i64 1) fun t11 =>
  K [t17, t11] w_2)
  (R (nthV s 0) w_1)) :
    Calls Try.prog N.laws_markIntS #[v0, v1] w (Ret R) :=
  callsB (args := [v0, v1]) ⟨(annOf [(2, [1, 5])]), (annOf [])⟩ Try.func21 rfl (cast (by kernel_rfl) h)

theorem c_laws_heldIntS (v0 : Value) (v1 : Value) (w : World) (R : Value → World → Prop) (h :
  LoopV [v1, Value.int IntKind.i64 0] w fun s _ w_1 K =>
  LenV v0 fun t8 =>
  BinV BinOp.lss (nthV s 1) t8 fun t9 =>
  SplitV t9
  (IdxV 1 v0 (nthV s 1) fun t14 =>
  LoadV false 1 t14 w_1 fun t15 =>
  BinV BinOp.neq t15 (nthV s 0) fun t17 =>
  SplitV t17
  (R (Value.int IntKind.i64 (-1)) w_1)
  (BinV BinOp.add (nthV s 0) (Value.int IntKind.i64 1) fun t19 =>
  BinV BinOp.add (nthV s 1) (Value.int IntKind.i64 1) fun t11 =>
  K [t19, t11] w_1))
  (R (nthV s 0) w_1)) :
    Calls Try.prog N.laws_heldIntS #[v0, v1] w (Ret R) :=
  callsB (args := [v0, v1]) ⟨(annOf [(2, [1, 5])]), (annOf [])⟩ Try.func22 rfl (cast (by kernel_rfl) h)

theorem c_laws_sameRow (v0 : Value) (v1 : Value) (w : World) (R : Value → World → Prop) (h :
  LenV v0 fun t7 =>
  LenV v1 fun t9 =>
  BinV BinOp.neq t7 t9 fun t10 =>
  SplitV t10
  (R (Value.bool false) w)
  (LoopV [Value.int IntKind.i64 0] w fun s _ w_1 K =>
  LenV v0 fun t13 =>
  BinV BinOp.lss (nthV s 0) t13 fun t14 =>
  SplitV t14
  (DrawV w_1 fun S w_2 =>
  IdxV 1 v0 (nthV s 0) fun t19 =>
  LoadS S false 1 t19 w_2 fun t20 =>
  IdxV 1 v1 (nthV s 0) fun t23 =>
  LoadS S false 1 t23 w_2 fun t24 =>
  BinV BinOp.neq t20 t24 fun t25 =>
  SplitV t25
  (R (Value.bool false) w_2)
  (BinV BinOp.add (nthV s 0) (Value.int IntKind.i64 1) fun t16 =>
  K [t16] w_2))
  (R (Value.bool true) w_1))) :
    Calls Try.prog N.laws_sameRow #[v0, v1] w (Ret R) :=
  callsB (args := [v0, v1]) ⟨(annOf [(4, [5])]), (annOf [])⟩ Try.func24 rfl (cast (by kernel_rfl) h)

theorem c_spec_CountsReady (v0 : Value) (w : World) (R : Value → World → Prop) (h :
  BSliceV T.int 1 0 #[Value.int IntKind.i64 0] [] w fun t5 w_1 =>
  LoopV [t5, Value.int IntKind.i64 0] w_1 fun s _ w_2 K =>
  LenV v0 fun t8 =>
  BinV BinOp.lss (nthV s 1) t8 fun t9 =>
  SplitV t9
  (IdxV 1 v0 (nthV s 1) fun t14 =>
  LoadV false 1 t14 w_2 fun t15 =>
  BinV BinOp.eql t15 (Value.int IntKind.i64 0) fun t16 =>
  SplitV t16
  (BSliceV T.int 1 1 #[Value.int IntKind.i64 0] [(0, nthV s 1)] w_2 fun t19 w_3 =>
  AppendV Try.prog T.sl_int (nthV s 0) t19 w_3 fun t20 w_4 =>
  BinV BinOp.add (nthV s 1) (Value.int IntKind.i64 1) fun t11 =>
  K [t20, t11] w_4)
  (BinV BinOp.add (nthV s 1) (Value.int IntKind.i64 1) fun t11_1 =>
  K [nthV s 0, t11_1] w_2))
  (R (nthV s 0) w_2)) :
    Calls Try.prog N.spec_CountsReady #[v0] w (Ret R) :=
  callsB (args := [v0]) ⟨(annOf [(3, [3, 4])]), (annOf [])⟩ Try.func17 rfl (cast (by kernel_rfl) h)

theorem c_impl_CountsReady (v0 : Value) (w : World) (R : Value → World → Prop) (h :
  LenV v0 fun t7 =>
  LoopV [Value.slice none 0 0, Value.int IntKind.i64 0] w fun s _ w_1 K =>
  BinV BinOp.lss (nthV s 1) t7 fun t9 =>
  SplitV t9
  (IdxV 1 v0 (nthV s 1) fun t11 =>
  LoadV false 1 t11 w_1 fun t12 =>
  BinV BinOp.eql t12 (Value.int IntKind.i64 0) fun t14 =>
  SplitV t14
  (BSliceV T.int 1 1 #[Value.int IntKind.i64 0] [(0, nthV s 1)] w_1 fun t17 w_2 =>
  AppendV Try.prog T.sl_int (nthV s 0) t17 w_2 fun t18 w_3 =>
  BinV BinOp.add (nthV s 1) (Value.int IntKind.i64 1) fun t19 =>
  K [t18, t19] w_3)
  (BinV BinOp.add (nthV s 1) (Value.int IntKind.i64 1) fun t19_1 =>
  K [nthV s 0, t19_1] w_1))
  (R (nthV s 0) w_1)) :
    Calls Try.prog N.impl_CountsReady #[v0] w (Ret R) :=
  callsB (args := [v0]) ⟨(annOf [(3, [3, 8])]), (annOf [])⟩ Try.func19 rfl (cast (by kernel_rfl) h)

theorem c_spec_l6In (v0 : Value) (v1 : Value) (v2 : Value) (w : World) (R : Value → World → Prop) (h :
  BinV BinOp.geq v0 v1 fun t9 =>
  SplitV t9
  (BinV BinOp.leq v0 v2 fun t13 =>
  R t13 w)
  (R (Value.bool false) w)) :
    Calls Try.prog N.spec_l6In #[v0, v1, v2] w (Ret R) :=
  callsB (args := [v0, v1, v2]) ⟨(annOf []), (annOf [])⟩ Try.func39 rfl (cast (by kernel_rfl) h)

theorem c_spec_l3Has (v0 : Value) (v1 : Value) (w : World) (R : Value → World → Prop) (h :
  LoopV [Value.int IntKind.i64 0] w fun s _ w_1 K =>
  LenV v0 fun t8 =>
  BinV BinOp.lss (nthV s 0) t8 fun t9 =>
  SplitV t9
  (IdxV 1 v0 (nthV s 0) fun t14 =>
  LoadV false 1 t14 w_1 fun t15 =>
  BinV BinOp.eql t15 v1 fun t17 =>
  SplitV t17
  (R (Value.bool true) w_1)
  (BinV BinOp.add (nthV s 0) (Value.int IntKind.i64 1) fun t11 =>
  K [t11] w_1))
  (R (Value.bool false) w_1)) :
    Calls Try.prog N.spec_l3Has #[v0, v1] w (Ret R) :=
  callsB (args := [v0, v1]) ⟨(annOf [(2, [5])]), (annOf [])⟩ Try.func40 rfl (cast (by kernel_rfl) h)

theorem c_spec_DequeValid (v0 : Value) (w : World) (R : Value → World → Prop) (h :
  LoopV [Value.int IntKind.i64 0] w fun s _ w_1 K =>
  LenV v0 fun t6 =>
  BinV BinOp.lss (nthV s 0) t6 fun t7 =>
  SplitV t7
  (DrawV w_1 fun S w_2 =>
  IdxV 1 v0 (nthV s 0) fun t12 =>
  LoadS S false 1 t12 w_2 fun t13 =>
  CallV Try.prog N.spec_l6In [t13, Value.int IntKind.i64 0, Value.int IntKind.i64 9] w_2 fun t14 w_3 =>
  Chg S w_2 w_3 ∧
  NotV t14 fun t15 =>
  SplitV t15
  (R (Value.bool false) w_3)
  (SliceV 1 v0 none (some (nthV s 0)) fun t19 =>
  IdxV 1 v0 (nthV s 0) fun t22 =>
  LoadS S false 1 t22 w_2 fun t23 =>
  CallV Try.prog N.spec_l3Has [t19, t23] w_3 fun t24 w_4 =>
  Chg S w_2 w_4 ∧
  SplitV t24
  (R (Value.bool false) w_4)
  (BinV BinOp.add (nthV s 0) (Value.int IntKind.i64 1) fun t9 =>
  K [t9] w_4)))
  (LenV v0 fun t27 =>
  BinV BinOp.leq t27 (Value.int IntKind.i64 10) fun t28 =>
  R t28 w_1)) :
    Calls Try.prog N.spec_DequeValid #[v0] w (Ret R) :=
  callsB (args := [v0]) ⟨(annOf [(2, [3])]), (annOf [])⟩ Try.func25 rfl (cast (by kernel_rfl) h)

theorem c_impl_DequeValid (v0 : Value) (w : World) (R : Value → World → Prop) (h :
  LenV v0 fun t7 =>
  BinV BinOp.gtr t7 (Value.int IntKind.i64 10) fun t8 =>
  SplitV t8
  (R (Value.bool false) w)
  (LenV v0 fun t10 =>
  LoopV [Value.int IntKind.i64 0] w fun s _ w_1 K =>
  BinV BinOp.lss (nthV s 0) t10 fun t12 =>
  SplitV t12
  (IdxV 1 v0 (nthV s 0) fun t13 =>
  LoadV false 1 t13 w_1 fun t14 =>
  BinV BinOp.lss t14 (Value.int IntKind.i64 0) fun t16 =>
  SplitV t16
  (R (Value.bool false) w_1)
  (BinV BinOp.geq t14 (Value.int IntKind.i64 10) fun t19 =>
  SplitV t19
  (R (Value.bool false) w_1)
  (BinV BinOp.add (nthV s 0) (Value.int IntKind.i64 1) fun t21 =>
  K [t21] w_1)))
  (CallV Try.prog N.impl_dequeOf [v0] w_1 fun t23 w_2 =>
  BoxV T.impl_deque_int (Value.agg #[Value.slice none 0 0]) w_2 fun t5 w_3 =>
  StoreV 1 t5 t23 w_3 fun w_4 =>
  CallV Try.prog N.impl_deque_different [t5] w_4 fun t24 w_5 =>
  R t24 w_5))) :
    Calls Try.prog N.impl_DequeValid #[v0] w (Ret R) :=
  callsB (args := [v0]) ⟨(annOf [(4, [11])]), (annOf [])⟩ Try.func26 rfl (cast (by kernel_rfl) h)

theorem c_impl_dequeOf (v0 : Value) (w : World) (R : Value → World → Prop) (h :
  BoxV T.impl_deque_int (Value.agg #[Value.slice none 0 0]) w fun t2 w_1 =>
  AppendV Try.prog T.sl_int (Value.slice none 0 0) v0 w_1 fun t4 w_2 =>
  BuildV #[Value.slice none 0 0] (fun i => ([(0, 1)] : List (Nat × Nat))[i]?) [(0, t4)] fun t5 =>
  StoreV 1 t2 t5 w_2 fun w_3 =>
  LoadV true 1 t2 w_3 fun r =>
  R r w_3) :
    Calls Try.prog N.impl_dequeOf #[v0] w (Ret R) :=
  callsB (args := [v0]) ⟨(annOf []), (annOf [])⟩ Try.func41 rfl (cast (by kernel_rfl) h)

theorem c_impl_deque_different (v0 : Value) (w : World) (R : Value → World → Prop) (h :
  ∀ w_1, New w (Obj.map #[] 0) w_1 →
  NilV v0 fun t8 =>
  FAddrV 0 t8 fun t9 =>
  LoadV false 1 t9 w_1 fun t10 =>
  LenV t10 fun t11 =>
  LoopV [Value.int IntKind.i64 0] w_1 fun s _ w_2 K =>
  BinV BinOp.lss (nthV s 0) t11 fun t13 =>
  SplitV t13
  (IdxV 1 t10 (nthV s 0) fun t14 =>
  LoadV false 1 t14 w_2 fun t15 =>
  LookupV Try.prog T.map_int_int (Value.map (some w.heap.size)) t15 false w_2 fun t18 w_3 =>
  BinV BinOp.add t18 (Value.int IntKind.i64 1) fun t19 =>
  MapUpdV Try.prog T.map_int_int (Value.map (some w.heap.size)) t15 t19 w_3 fun w_4 =>
  BinV BinOp.add (nthV s 0) (Value.int IntKind.i64 1) fun t20 =>
  K [t20] w_4)
  (DrawV w_2 fun S w_5 =>
  NilV v0 fun t24 =>
  FAddrV 0 t24 fun t25 =>
  LoadS S false 1 t25 w_5 fun t26 =>
  LenV t26 fun t27 =>
  LenMV (Value.map (some w.heap.size)) w_5 fun t22 =>
  Chg S w_5 w_5 ∧
  BinV BinOp.eql t22 t27 fun t28 =>
  R t28 w_5)) :
    Calls Try.prog N.impl_deque_different #[v0] w (Ret R) :=
  callsB (args := [v0]) ⟨(annOf [(3, [12])]), (annOf [])⟩ Try.func42 rfl (cast (by kernel_rfl) h)

theorem c_impl_deque_steal (v0 : Value) (w : World) (R : Value → World → Prop) (h :
  NilV v0 fun t5 =>
  FAddrV 0 t5 fun t6 =>
  LoadV false 1 t6 w fun t7 =>
  IdxV 1 t7 (Value.int IntKind.i64 0) fun t8 =>
  LoadV false 1 t8 w fun t9 =>
  NilV v0 fun t12 =>
  FAddrV 0 t12 fun t13 =>
  LoadV false 1 t13 w fun t14 =>
  SliceV 1 t14 (some (Value.int IntKind.i64 1)) none fun t15 =>
  NilV v0 fun t16 =>
  FAddrV 0 t16 fun t17 =>
  StoreV 1 t17 t15 w fun w_1 =>
  R t9 w_1) :
    Calls Try.prog N.impl_deque_steal #[v0] w (Ret R) :=
  callsB (args := [v0]) ⟨(annOf []), (annOf [])⟩ Try.func44 rfl (cast (by kernel_rfl) h)

theorem c_impl_deque_pop (v0 : Value) (w : World) (R : Value → World → Prop) (h :
  NilV v0 fun t6 =>
  FAddrV 0 t6 fun t7 =>
  LoadV false 1 t7 w fun t8 =>
  LenV t8 fun t9 =>
  BinV BinOp.sub t9 (Value.int IntKind.i64 1) fun t10 =>
  NilV v0 fun t12 =>
  FAddrV 0 t12 fun t13 =>
  LoadV false 1 t13 w fun t14 =>
  IdxV 1 t14 t10 fun t16 =>
  LoadV false 1 t16 w fun t17 =>
  NilV v0 fun t20 =>
  FAddrV 0 t20 fun t21 =>
  LoadV false 1 t21 w fun t22 =>
  SliceV 1 t22 none (some t10) fun t24 =>
  NilV v0 fun t25 =>
  FAddrV 0 t25 fun t26 =>
  StoreV 1 t26 t24 w fun w_1 =>
  R t17 w_1) :
    Calls Try.prog N.impl_deque_pop #[v0] w (Ret R) :=
  callsB (args := [v0]) ⟨(annOf []), (annOf [])⟩ Try.func45 rfl (cast (by kernel_rfl) h)

theorem c_impl_deque_push (v0 : Value) (v1 : Value) (w : World) (R : Value → World → Prop) (h :
  NilV v0 fun t6 =>
  FAddrV 0 t6 fun t7 =>
  LoadV false 1 t7 w fun t8 =>
  BSliceV T.int 1 1 #[Value.int IntKind.i64 0] [(0, v1)] w fun t10 w_1 =>
  AppendV Try.prog T.sl_int t8 t10 w_1 fun t11 w_2 =>
  NilV v0 fun t12 =>
  FAddrV 0 t12 fun t13 =>
  StoreV 1 t13 t11 w_2 fun w_3 =>
  R (Value.tuple #[]) w_3) :
    Calls Try.prog N.impl_deque_push #[v0, v1] w (Ret R) :=
  callsB (args := [v0, v1]) ⟨(annOf []), (annOf [])⟩ Try.func46 rfl (cast (by kernel_rfl) h)

theorem c_spec_DequeSteal (v0 : Value) (w : World) (R : Value → World → Prop) (h :
  CallV Try.prog N.spec_DequeValid [v0] w fun t6 w_1 =>
  NotV t6 fun t7 =>
  SplitV t7
  (BSliceV T.int 1 0 #[Value.int IntKind.i64 0] [] w_1 fun t13 w_2 =>
  R (Value.tuple #[t13, Value.int IntKind.i64 0, Value.bool false]) w_2)
  (LenV v0 fun t10 =>
  BinV BinOp.eql t10 (Value.int IntKind.i64 0) fun t11 =>
  SplitV t11
  (BSliceV T.int 1 0 #[Value.int IntKind.i64 0] [] w_1 fun t13_1 w_3 =>
  R (Value.tuple #[t13_1, Value.int IntKind.i64 0, Value.bool false]) w_3)
  (DrawV w_1 fun S w_4 =>
  SliceV 1 v0 (some (Value.int IntKind.i64 1)) none fun t16 =>
  IdxV 1 v0 (Value.int IntKind.i64 0) fun t19 =>
  LoadS S false 1 t19 w_4 fun t20 =>
  BSliceV T.int 1 0 #[Value.int IntKind.i64 0] [] w_4 fun t14 w_5 =>
  Chg S w_4 w_5 ∧
  AppendV Try.prog T.sl_int t14 t16 w_5 fun t17 w_6 =>
  Chg S w_4 w_6 ∧
  R (Value.tuple #[t17, t20, Value.bool true]) w_6))) :
    Calls Try.prog N.spec_DequeSteal #[v0] w (Ret R) :=
  callsB (args := [v0]) ⟨(annOf []), (annOf [])⟩ Try.func28 rfl (cast (by kernel_rfl) h)

theorem c_impl_DequeSteal (v0 : Value) (w : World) (R : Value → World → Prop) (h :
  CallV Try.prog N.impl_DequeValid [v0] w fun t8 w_1 =>
  NotV t8 fun t9 =>
  SplitV t9
  (R (Value.tuple #[Value.slice none 0 0, Value.int IntKind.i64 0, Value.bool false]) w_1)
  (LenV v0 fun t12 =>
  BinV BinOp.eql t12 (Value.int IntKind.i64 0) fun t13 =>
  SplitV t13
  (R (Value.tuple #[Value.slice none 0 0, Value.int IntKind.i64 0, Value.bool false]) w_1)
  (CallV Try.prog N.impl_dequeOf [v0] w_1 fun t16 w_2 =>
  BoxV T.impl_deque_int (Value.agg #[Value.slice none 0 0]) w_2 fun t5 w_3 =>
  StoreV 1 t5 t16 w_3 fun w_4 =>
  CallV Try.prog N.impl_deque_steal [t5] w_4 fun t17 w_5 =>
  FAddrV 0 t5 fun t18 =>
  LoadV false 1 t18 w_5 fun t19 =>
  R (Value.tuple #[t19, t17, Value.bool true]) w_5))) :
    Calls Try.prog N.impl_DequeSteal #[v0] w (Ret R) :=
  callsB (args := [v0]) ⟨(annOf []), (annOf [])⟩ Try.func29 rfl (cast (by kernel_rfl) h)

theorem c_spec_DequePop (v0 : Value) (w : World) (R : Value → World → Prop) (h :
  LenV v0 fun t7 =>
  BinV BinOp.sub t7 (Value.int IntKind.i64 1) fun t8 =>
  CallV Try.prog N.spec_DequeValid [v0] w fun t10 w_1 =>
  NotV t10 fun t11 =>
  SplitV t11
  (BSliceV T.int 1 0 #[Value.int IntKind.i64 0] [] w_1 fun t16 w_2 =>
  R (Value.tuple #[t16, Value.int IntKind.i64 0, Value.bool false]) w_2)
  (BinV BinOp.lss t8 (Value.int IntKind.i64 0) fun t14 =>
  SplitV t14
  (BSliceV T.int 1 0 #[Value.int IntKind.i64 0] [] w_1 fun t16_1 w_3 =>
  R (Value.tuple #[t16_1, Value.int IntKind.i64 0, Value.bool false]) w_3)
  (DrawV w_1 fun S w_4 =>
  SliceV 1 v0 none (some t8) fun t20 =>
  IdxV 1 v0 t8 fun t24 =>
  LoadS S false 1 t24 w_4 fun t25 =>
  BSliceV T.int 1 0 #[Value.int IntKind.i64 0] [] w_4 fun t17 w_5 =>
  Chg S w_4 w_5 ∧
  AppendV Try.prog T.sl_int t17 t20 w_5 fun t21 w_6 =>
  Chg S w_4 w_6 ∧
  R (Value.tuple #[t21, t25, Value.bool true]) w_6))) :
    Calls Try.prog N.spec_DequePop #[v0] w (Ret R) :=
  callsB (args := [v0]) ⟨(annOf []), (annOf [])⟩ Try.func30 rfl (cast (by kernel_rfl) h)

theorem c_impl_DequePop (v0 : Value) (w : World) (R : Value → World → Prop) (h :
  CallV Try.prog N.impl_DequeValid [v0] w fun t8 w_1 =>
  NotV t8 fun t9 =>
  SplitV t9
  (R (Value.tuple #[Value.slice none 0 0, Value.int IntKind.i64 0, Value.bool false]) w_1)
  (LenV v0 fun t12 =>
  BinV BinOp.eql t12 (Value.int IntKind.i64 0) fun t13 =>
  SplitV t13
  (R (Value.tuple #[Value.slice none 0 0, Value.int IntKind.i64 0, Value.bool false]) w_1)
  (CallV Try.prog N.impl_dequeOf [v0] w_1 fun t16 w_2 =>
  BoxV T.impl_deque_int (Value.agg #[Value.slice none 0 0]) w_2 fun t5 w_3 =>
  StoreV 1 t5 t16 w_3 fun w_4 =>
  CallV Try.prog N.impl_deque_pop [t5] w_4 fun t17 w_5 =>
  FAddrV 0 t5 fun t18 =>
  LoadV false 1 t18 w_5 fun t19 =>
  R (Value.tuple #[t19, t17, Value.bool true]) w_5))) :
    Calls Try.prog N.impl_DequePop #[v0] w (Ret R) :=
  callsB (args := [v0]) ⟨(annOf []), (annOf [])⟩ Try.func31 rfl (cast (by kernel_rfl) h)

theorem c_spec_DequePush (v0 : Value) (v1 : Value) (w : World) (R : Value → World → Prop) (h :
  BSliceV T.int 1 0 #[Value.int IntKind.i64 0] [] w fun t7 w_1 =>
  AppendV Try.prog T.sl_int t7 v0 w_1 fun t9 w_2 =>
  BSliceV T.int 1 1 #[Value.int IntKind.i64 0] [(0, v1)] w_2 fun t11 w_3 =>
  AppendV Try.prog T.sl_int t9 t11 w_3 fun t12 w_4 =>
  CallV Try.prog N.spec_DequeValid [t12] w_4 fun t14 w_5 =>
  NotV t14 fun t15 =>
  SplitV t15
  (BSliceV T.int 1 0 #[Value.int IntKind.i64 0] [] w_5 fun t16 w_6 =>
  R (Value.tuple #[t16, Value.bool false]) w_6)
  (R (Value.tuple #[t12, Value.bool true]) w_5)) :
    Calls Try.prog N.spec_DequePush #[v0, v1] w (Ret R) :=
  callsB (args := [v0, v1]) ⟨(annOf []), (annOf [])⟩ Try.func32 rfl (cast (by kernel_rfl) h)

theorem c_impl_DequePush (v0 : Value) (v1 : Value) (w : World) (R : Value → World → Prop) (h :
  CallV Try.prog N.impl_DequeValid [v0] w fun t8 w_1 =>
  NotV t8 fun t9 =>
  SplitV t9
  (R (Value.tuple #[Value.slice none 0 0, Value.bool false]) w_1)
  (CallV Try.prog N.impl_dequeOf [v0] w_1 fun t11 w_2 =>
  BoxV T.impl_deque_int (Value.agg #[Value.slice none 0 0]) w_2 fun t6 w_3 =>
  StoreV 1 t6 t11 w_3 fun w_4 =>
  CallV Try.prog N.impl_deque_push [t6, v1] w_4 fun _ w_5 =>
  FAddrV 0 t6 fun t14 =>
  LoadV false 1 t14 w_5 fun t15 =>
  CallV Try.prog N.impl_DequeValid [t15] w_5 fun t16 w_6 =>
  NotV t16 fun t17 =>
  SplitV t17
  (R (Value.tuple #[Value.slice none 0 0, Value.bool false]) w_6)
  (FAddrV 0 t6 fun t18 =>
  LoadV false 1 t18 w_6 fun t19 =>
  R (Value.tuple #[t19, Value.bool true]) w_6))) :
    Calls Try.prog N.impl_DequePush #[v0, v1] w (Ret R) :=
  callsB (args := [v0, v1]) ⟨(annOf []), (annOf [])⟩ Try.func33 rfl (cast (by kernel_rfl) h)

theorem c_spec_l6Open (v0 : Value) (w : World) (R : Value → World → Prop) (h :
  LenV v0 fun t4 =>
  BinV BinOp.gtr t4 (Value.int IntKind.i64 2000) fun t5 =>
  SplitV t5
  (SliceV 1 v0 none (some (Value.int IntKind.i64 2000)) fun t7 =>
  BuildV #[Value.slice none 0 0, Value.int IntKind.i64 0] (fun i => ([(0, 1), (1, 1)] : List (Nat × Nat))[i]?) [(0, t7)] fun t9 =>
  BoxV T.spec_l6Rd t9 w fun t10 w_1 =>
  R t10 w_1)
  (BuildV #[Value.slice none 0 0, Value.int IntKind.i64 0] (fun i => ([(0, 1), (1, 1)] : List (Nat × Nat))[i]?) [(0, v0)] fun t9_1 =>
  BoxV T.spec_l6Rd t9_1 w fun t10_1 w_2 =>
  R t10_1 w_2)) :
    Calls Try.prog N.spec_l6Open #[v0] w (Ret R) :=
  callsB (args := [v0]) ⟨(annOf []), (annOf [])⟩ Try.func37 rfl (cast (by kernel_rfl) h)

theorem c_spec_l91Deque (v0 : Value) (w : World) (R : Value → World → Prop) (h :
  BSliceV T.int 1 0 #[Value.int IntKind.i64 0] [] w fun t7 w_1 =>
  CallV Try.prog N.spec_l6Rd_pick [v0, Value.int IntKind.i64 6] w_1 fun t9 w_2 =>
  CallV Try.prog N.spec_l6Rd_pick [v0, Value.int IntKind.i64 16] w_2 fun t11 w_3 =>
  BinV BinOp.eql t11 (Value.int IntKind.i64 0) fun t12 =>
  SplitV t12
  (CallV Try.prog N.spec_l6Rd_pick [v0, Value.int IntKind.i64 10] w_3 fun t14 w_4 =>
  LoopV [t7, Value.int IntKind.i64 0] w_4 fun s _ w_5 K =>
  BinV BinOp.lss (nthV s 1) (Value.int IntKind.i64 10) fun t17 =>
  SplitV t17
  (BinV BinOp.mul (Value.int IntKind.i64 3) (nthV s 1) fun t23 =>
  BinV BinOp.add t14 t23 fun t24 =>
  BinV BinOp.rem t24 (Value.int IntKind.i64 10) fun t25 =>
  BSliceV T.int 1 1 #[Value.int IntKind.i64 0] [(0, t25)] w_5 fun t26 w_6 =>
  AppendV Try.prog T.sl_int (nthV s 0) t26 w_6 fun t27 w_7 =>
  BinV BinOp.add (nthV s 1) (Value.int IntKind.i64 1) fun t19 =>
  K [t27, t19] w_7)
  (BinV BinOp.gtr (Value.int IntKind.i64 10) (Value.int IntKind.i64 0) fun t29 =>
  SplitV t29
  (CallV Try.prog N.spec_l6Rd_pick [v0, Value.int IntKind.i64 24] w_5 fun t32 w_8 =>
  BinV BinOp.eql t32 (Value.int IntKind.i64 0) fun t33 =>
  SplitV t33
  (DrawV w_8 fun S w_9 =>
  IdxV 1 (nthV s 0) (Value.int IntKind.i64 0) fun t40 =>
  LoadS S false 1 t40 w_9 fun t41 =>
  (CallV Try.prog N.spec_l6Rd_pick [v0, Value.int IntKind.i64 10] w_9 fun t38 w_10 =>
  Chg S w_9 w_10 ∧
  (BSliceV T.int 1 3 #[Value.int IntKind.i64 0] [(0, Value.int IntKind.i64 (-1)), (1, Value.int IntKind.i64 10), (2, t41)] w_10 fun t42 w_11 =>
  Chg S w_9 w_11 ∧
  CallV Try.prog N.spec_l6Rd_pick [v0, Value.int IntKind.i64 3] w_11 fun t44 w_12 =>
  Chg S w_9 w_12 ∧
  IdxV 1 t42 t44 fun t45 =>
  LoadS S false 1 t45 w_9 fun t46 =>
  IdxV 1 (nthV s 0) t38 fun t47 =>
  StoreV 1 t47 t46 w_12 fun w_13 =>
  Chg S w_9 w_13 ∧
  R (nthV s 0) w_13) ∧
  (CallV Try.prog N.spec_l6Rd_pick [v0, Value.int IntKind.i64 3] w_10 fun t44_1 w_14 =>
  Chg S w_9 w_14 ∧
  BSliceV T.int 1 3 #[Value.int IntKind.i64 0] [(0, Value.int IntKind.i64 (-1)), (1, Value.int IntKind.i64 10), (2, t41)] w_14 fun t42_1 w_15 =>
  Chg S w_9 w_15 ∧
  IdxV 1 t42_1 t44_1 fun t45_1 =>
  LoadS S false 1 t45_1 w_9 fun t46_1 =>
  IdxV 1 (nthV s 0) t38 fun t47_1 =>
  StoreV 1 t47_1 t46_1 w_15 fun w_16 =>
  Chg S w_9 w_16 ∧
  R (nthV s 0) w_16)) ∧
  (BSliceV T.int 1 3 #[Value.int IntKind.i64 0] [(0, Value.int IntKind.i64 (-1)), (1, Value.int IntKind.i64 10), (2, t41)] w_9 fun t42_2 w_17 =>
  Chg S w_9 w_17 ∧
  CallV Try.prog N.spec_l6Rd_pick [v0, Value.int IntKind.i64 10] w_17 fun t38_1 w_18 =>
  Chg S w_9 w_18 ∧
  CallV Try.prog N.spec_l6Rd_pick [v0, Value.int IntKind.i64 3] w_18 fun t44_2 w_19 =>
  Chg S w_9 w_19 ∧
  IdxV 1 t42_2 t44_2 fun t45_2 =>
  LoadS S false 1 t45_2 w_9 fun t46_2 =>
  IdxV 1 (nthV s 0) t38_1 fun t47_2 =>
  StoreV 1 t47_2 t46_2 w_19 fun w_20 =>
  Chg S w_9 w_20 ∧
  R (nthV s 0) w_20))
  (R (nthV s 0) w_8))
  (R (nthV s 0) w_5)))
  (CallV Try.prog N.spec_l6Rd_pick [v0, Value.int IntKind.i64 10] w_3 fun t14_1 w_21 =>
  LoopV [t7, Value.int IntKind.i64 0] w_21 fun s_1 _ w_22 K_1 =>
  BinV BinOp.lss (nthV s_1 1) t9 fun t17_1 =>
  SplitV t17_1
  (BinV BinOp.mul (Value.int IntKind.i64 3) (nthV s_1 1) fun t23_1 =>
  BinV BinOp.add t14_1 t23_1 fun t24_1 =>
  BinV BinOp.rem t24_1 (Value.int IntKind.i64 10) fun t25_1 =>
  BSliceV T.int 1 1 #[Value.int IntKind.i64 0] [(0, t25_1)] w_22 fun t26_1 w_23 =>
  AppendV Try.prog T.sl_int (nthV s_1 0) t26_1 w_23 fun t27_1 w_24 =>
  BinV BinOp.add (nthV s_1 1) (Value.int IntKind.i64 1) fun t19_1 =>
  K_1 [t27_1, t19_1] w_24)
  (BinV BinOp.gtr t9 (Value.int IntKind.i64 0) fun t29_1 =>
  SplitV t29_1
  (CallV Try.prog N.spec_l6Rd_pick [v0, Value.int IntKind.i64 24] w_22 fun t32_1 w_25 =>
  BinV BinOp.eql t32_1 (Value.int IntKind.i64 0) fun t33_1 =>
  SplitV t33_1
  (DrawV w_25 fun S_1 w_26 =>
  IdxV 1 (nthV s_1 0) (Value.int IntKind.i64 0) fun t40_1 =>
  LoadS S_1 false 1 t40_1 w_26 fun t41_1 =>
  (CallV Try.prog N.spec_l6Rd_pick [v0, t9] w_26 fun t38_2 w_27 =>
  Chg S_1 w_26 w_27 ∧
  (BSliceV T.int 1 3 #[Value.int IntKind.i64 0] [(0, Value.int IntKind.i64 (-1)), (1, Value.int IntKind.i64 10), (2, t41_1)] w_27 fun t42_3 w_28 =>
  Chg S_1 w_26 w_28 ∧
  CallV Try.prog N.spec_l6Rd_pick [v0, Value.int IntKind.i64 3] w_28 fun t44_3 w_29 =>
  Chg S_1 w_26 w_29 ∧
  IdxV 1 t42_3 t44_3 fun t45_3 =>
  LoadS S_1 false 1 t45_3 w_26 fun t46_3 =>
  IdxV 1 (nthV s_1 0) t38_2 fun t47_3 =>
  StoreV 1 t47_3 t46_3 w_29 fun w_30 =>
  Chg S_1 w_26 w_30 ∧
  R (nthV s_1 0) w_30) ∧
  (CallV Try.prog N.spec_l6Rd_pick [v0, Value.int IntKind.i64 3] w_27 fun t44_4 w_31 =>
  Chg S_1 w_26 w_31 ∧
  BSliceV T.int 1 3 #[Value.int IntKind.i64 0] [(0, Value.int IntKind.i64 (-1)), (1, Value.int IntKind.i64 10), (2, t41_1)] w_31 fun t42_4 w_32 =>
  Chg S_1 w_26 w_32 ∧
  IdxV 1 t42_4 t44_4 fun t45_4 =>
  LoadS S_1 false 1 t45_4 w_26 fun t46_4 =>
  IdxV 1 (nthV s_1 0) t38_2 fun t47_4 =>
  StoreV 1 t47_4 t46_4 w_32 fun w_33 =>
  Chg S_1 w_26 w_33 ∧
  R (nthV s_1 0) w_33)) ∧
  (BSliceV T.int 1 3 #[Value.int IntKind.i64 0] [(0, Value.int IntKind.i64 (-1)), (1, Value.int IntKind.i64 10), (2, t41_1)] w_26 fun t42_5 w_34 =>
  Chg S_1 w_26 w_34 ∧
  CallV Try.prog N.spec_l6Rd_pick [v0, t9] w_34 fun t38_3 w_35 =>
  Chg S_1 w_26 w_35 ∧
  CallV Try.prog N.spec_l6Rd_pick [v0, Value.int IntKind.i64 3] w_35 fun t44_5 w_36 =>
  Chg S_1 w_26 w_36 ∧
  IdxV 1 t42_5 t44_5 fun t45_5 =>
  LoadS S_1 false 1 t45_5 w_26 fun t46_5 =>
  IdxV 1 (nthV s_1 0) t38_3 fun t47_5 =>
  StoreV 1 t47_5 t46_5 w_36 fun w_37 =>
  Chg S_1 w_26 w_37 ∧
  R (nthV s_1 0) w_37))
  (R (nthV s_1 0) w_25))
  (R (nthV s_1 0) w_22)))) :
    Calls Try.prog N.spec_l91Deque #[v0] w (Ret R) :=
  callsB (args := [v0]) ⟨(annOf [(7, [3, 6])]), (annOf [])⟩ Try.func43 rfl (cast (by kernel_rfl) h)

theorem c_spec_DrawCountsReady (v0 : Value) (w : World) (R : Value → World → Prop) (h :
  CallV Try.prog N.spec_l6Open [v0] w fun t8 w_1 =>
  BSliceV T.int 1 0 #[Value.int IntKind.i64 0] [] w_1 fun t9 w_2 =>
  CallV Try.prog N.spec_l6Rd_pick [t8, Value.int IntKind.i64 8] w_2 fun t11 w_3 =>
  LoopV [t9, Value.int IntKind.i64 0] w_3 fun s _ w_4 K =>
  BinV BinOp.lss (nthV s 1) t11 fun t14 =>
  SplitV t14
  (CallV Try.prog N.spec_l6Rd_pick [t8, Value.int IntKind.i64 4] w_4 fun t19 w_5 =>
  CallV Try.prog N.spec_l6Rd_pick [t8, Value.int IntKind.i64 20] w_5 fun t21 w_6 =>
  BinV BinOp.quo t21 (Value.int IntKind.i64 19) fun t22 =>
  BinV BinOp.mul t22 (Value.int IntKind.i64 2) fun t23 =>
  BinV BinOp.sub t19 t23 fun t24 =>
  BSliceV T.int 1 1 #[Value.int IntKind.i64 0] [(0, t24)] w_6 fun t25 w_7 =>
  AppendV Try.prog T.sl_int (nthV s 0) t25 w_7 fun t26 w_8 =>
  BinV BinOp.add (nthV s 1) (Value.int IntKind.i64 1) fun t16 =>
  K [t26, t16] w_8)
  (R (nthV s 0) w_4)) :
    Calls Try.prog N.spec_DrawCountsReady #[v0] w (Ret R) :=
  callsB (args := [v0]) ⟨(annOf [(5, [4, 6])]), (annOf [])⟩ Try.func23 rfl (cast (by kernel_rfl) h)

theorem c_spec_DrawDequeValid (v0 : Value) (w : World) (R : Value → World → Prop) (h :
  CallV Try.prog N.spec_l6Open [v0] w fun t4 w_1 =>
  CallV Try.prog N.spec_l91Deque [t4] w_1 fun t5 w_2 =>
  R t5 w_2) :
    Calls Try.prog N.spec_DrawDequeValid #[v0] w (Ret R) :=
  callsB (args := [v0]) ⟨(annOf []), (annOf [])⟩ Try.func27 rfl (cast (by kernel_rfl) h)

theorem c_spec_DrawDequeSteal (v0 : Value) (w : World) (R : Value → World → Prop) (h :
  CallV Try.prog N.spec_l6Open [v0] w fun t4 w_1 =>
  CallV Try.prog N.spec_l91Deque [t4] w_1 fun t5 w_2 =>
  R t5 w_2) :
    Calls Try.prog N.spec_DrawDequeSteal #[v0] w (Ret R) :=
  callsB (args := [v0]) ⟨(annOf []), (annOf [])⟩ Try.func34 rfl (cast (by kernel_rfl) h)

theorem c_spec_DrawDequePush (v0 : Value) (w : World) (R : Value → World → Prop) (h :
  CallV Try.prog N.spec_l6Open [v0] w fun t7 w_1 =>
  CallV Try.prog N.spec_l91Deque [t7] w_1 fun t9 w_2 =>
  CallV Try.prog N.spec_l6Rd_pick [t7, Value.int IntKind.i64 11] w_2 fun t12 w_3 =>
  CallV Try.prog N.spec_l6Rd_pick [t7, Value.int IntKind.i64 20] w_3 fun t14 w_4 =>
  BinV BinOp.quo t14 (Value.int IntKind.i64 19) fun t15 =>
  BinV BinOp.sub t12 t15 fun t16 =>
  R (Value.tuple #[t9, t16]) w_4) :
    Calls Try.prog N.spec_DrawDequePush #[v0] w (Ret R) :=
  callsB (args := [v0]) ⟨(annOf []), (annOf [])⟩ Try.func35 rfl (cast (by kernel_rfl) h)

theorem c_spec_DrawDequePop (v0 : Value) (w : World) (R : Value → World → Prop) (h :
  CallV Try.prog N.spec_l6Open [v0] w fun t4 w_1 =>
  CallV Try.prog N.spec_l91Deque [t4] w_1 fun t5 w_2 =>
  R t5 w_2) :
    Calls Try.prog N.spec_DrawDequePop #[v0] w (Ret R) :=
  callsB (args := [v0]) ⟨(annOf []), (annOf [])⟩ Try.func36 rfl (cast (by kernel_rfl) h)

end Go.Proofs.Ytinpkcjfnljigaa
