/- The conditions of functions, off their texts. Printed by a program; Lean checks each one. -/
import Derived.Test.YtinpkcjfnljigaaNames
import Derived.Test.YtinpkcjfnljigaaV9
namespace Go.Proofs.Ytinpkcjfnljigaa
open Go Go.V
set_option maxRecDepth 100000
theorem c_spec_DequeValid (v0 : Value) (w : World) (R : Value → World → Prop) (h :
  LoopV [Value.int IntKind.i64 0] w fun s _ w_1 K =>
  LenV v0 fun t6 =>
  BinV BinOp.lss (nthV s 0) t6 fun t7 =>
  SplitV t7
  (DrawV w_1 fun S w_2 =>
  IdxV 1 v0 (nthV s 0) fun t12 =>
  LoadS S false 1 t12 w_2 fun t13 =>
  CallV Try.prog N.spec_l6In [t13, Value.int IntKind.i64 0, Value.int IntKind.i64 9] w_2 fun t14 w_3 =>
  Chg S w_2 w_3 ∧
  NotV t14 fun t15 =>
  SplitV t15
  (R (Value.bool false) w_3)
  (SliceV 1 v0 none (some (nthV s 0)) fun t19 =>
  IdxV 1 v0 (nthV s 0) fun t22 =>
  LoadS S false 1 t22 w_3 fun t23 =>
  CallV Try.prog N.spec_l3Has [t19, t23] w_3 fun t24 w_4 =>
  Chg S w_3 w_4 ∧
  SplitV t24
  (R (Value.bool false) w_4)
  (BinV BinOp.add (nthV s 0) (Value.int IntKind.i64 1) fun t9 =>
  K [t9] w_4)))
  (LenV v0 fun t27 =>
  BinV BinOp.leq t27 (Value.int IntKind.i64 10) fun t28 =>
  R t28 w_1)) :
    Calls Try.prog N.spec_DequeValid #[v0] w (Ret R) :=
  callsB (args := [v0]) ⟨(annOf [(2, [3])]), (annOf [])⟩ Try.func25 rfl (cast (by kernel_rfl) h)

theorem c_impl_DequeValid (v0 : Value) (w : World) (R : Value → World → Prop) (h :
  LenV v0 fun t7 =>
  BinV BinOp.gtr t7 (Value.int IntKind.i64 10) fun t8 =>
  SplitV t8
  (R (Value.bool false) w)
  (LenV v0 fun t10 =>
  LoopV [Value.int IntKind.i64 0] w fun s _ w_1 K =>
  BinV BinOp.lss (nthV s 0) t10 fun t12 =>
  SplitV t12
  (IdxV 1 v0 (nthV s 0) fun t13 =>
  LoadV false 1 t13 w_1 fun t14 =>
  BinV BinOp.lss t14 (Value.int IntKind.i64 0) fun t16 =>
  SplitV t16
  (R (Value.bool false) w_1)
  (BinV BinOp.geq t14 (Value.int IntKind.i64 10) fun t19 =>
  SplitV t19
  (R (Value.bool false) w_1)
  (BinV BinOp.add (nthV s 0) (Value.int IntKind.i64 1) fun t21 =>
  K [t21] w_1)))
  (CallV Try.prog N.impl_dequeOf [v0] w_1 fun t23 w_2 =>
  BoxV T.impl_deque_int (Value.agg #[Value.slice none 0 0]) w_2 fun t5 w_3 =>
  StoreV 1 t5 t23 w_3 fun w_4 =>
  CallV Try.prog N.impl_deque_different [t5] w_4 fun t24 w_5 =>
  R t24 w_5))) :
    Calls Try.prog N.impl_DequeValid #[v0] w (Ret R) :=
  callsB (args := [v0]) ⟨(annOf [(4, [11])]), (annOf [])⟩ Try.func26 rfl (cast (by kernel_rfl) h)

theorem c_impl_dequeOf (v0 : Value) (w : World) (R : Value → World → Prop) (h :
  BoxV T.impl_deque_int (Value.agg #[Value.slice none 0 0]) w fun t2 w_1 =>
  AppendV Try.prog T.sl_int (Value.slice none 0 0) v0 w_1 fun t4 w_2 =>
  BuildV #[Value.slice none 0 0] (fun i => ([(0, 1)] : List (Nat × Nat))[i]?) [(0, t4)] fun t5 =>
  StoreV 1 t2 t5 w_2 fun w_3 =>
  LoadV true 1 t2 w_3 fun r =>
  R r w_3) :
    Calls Try.prog N.impl_dequeOf #[v0] w (Ret R) :=
  callsB (args := [v0]) ⟨(annOf []), (annOf [])⟩ Try.func41 rfl (cast (by kernel_rfl) h)

theorem c_impl_deque_different (v0 : Value) (w : World) (R : Value → World → Prop) (h :
  ∀ w_1, New w (Obj.map #[] 0) w_1 →
  NilV v0 fun t8 =>
  FAddrV 0 t8 fun t9 =>
  LoadV false 1 t9 w_1 fun t10 =>
  LenV t10 fun t11 =>
  LoopV [Value.int IntKind.i64 0] w_1 fun s _ w_2 K =>
  BinV BinOp.lss (nthV s 0) t11 fun t13 =>
  SplitV t13
  (IdxV 1 t10 (nthV s 0) fun t14 =>
  LoadV false 1 t14 w_2 fun t15 =>
  LookupV Try.prog T.map_int_int (Value.map (some w.heap.size)) t15 false w_2 fun t18 w_3 =>
  BinV BinOp.add t18 (Value.int IntKind.i64 1) fun t19 =>
  MapUpdV Try.prog T.map_int_int (Value.map (some w.heap.size)) t15 t19 w_3 fun w_4 =>
  BinV BinOp.add (nthV s 0) (Value.int IntKind.i64 1) fun t20 =>
  K [t20] w_4)
  (DrawV w_2 fun S w_5 =>
  NilV v0 fun t24 =>
  FAddrV 0 t24 fun t25 =>
  LoadS S false 1 t25 w_5 fun t26 =>
  LenV t26 fun t27 =>
  LenMV (Value.map (some w.heap.size)) w_5 fun t22 =>
  Chg S w_5 w_5 ∧
  BinV BinOp.eql t22 t27 fun t28 =>
  R t28 w_5)) :
    Calls Try.prog N.impl_deque_different #[v0] w (Ret R) :=
  callsB (args := [v0]) ⟨(annOf [(3, [12])]), (annOf [])⟩ Try.func42 rfl (cast (by kernel_rfl) h)

theorem c_impl_deque_steal (v0 : Value) (w : World) (R : Value → World → Prop) (h :
  NilV v0 fun t5 =>
  FAddrV 0 t5 fun t6 =>
  LoadV false 1 t6 w fun t7 =>
  IdxV 1 t7 (Value.int IntKind.i64 0) fun t8 =>
  LoadV false 1 t8 w fun t9 =>
  NilV v0 fun t12 =>
  FAddrV 0 t12 fun t13 =>
  LoadV false 1 t13 w fun t14 =>
  SliceV 1 t14 (some (Value.int IntKind.i64 1)) none fun t15 =>
  NilV v0 fun t16 =>
  FAddrV 0 t16 fun t17 =>
  StoreV 1 t17 t15 w fun w_1 =>
  R t9 w_1) :
    Calls Try.prog N.impl_deque_steal #[v0] w (Ret R) :=
  callsB (args := [v0]) ⟨(annOf []), (annOf [])⟩ Try.func44 rfl (cast (by kernel_rfl) h)

theorem c_impl_deque_pop (v0 : Value) (w : World) (R : Value → World → Prop) (h :
  NilV v0 fun t6 =>
  FAddrV 0 t6 fun t7 =>
  LoadV false 1 t7 w fun t8 =>
  LenV t8 fun t9 =>
  BinV BinOp.sub t9 (Value.int IntKind.i64 1) fun t10 =>
  NilV v0 fun t12 =>
  FAddrV 0 t12 fun t13 =>
  LoadV false 1 t13 w fun t14 =>
  IdxV 1 t14 t10 fun t16 =>
  LoadV false 1 t16 w fun t17 =>
  NilV v0 fun t20 =>
  FAddrV 0 t20 fun t21 =>
  LoadV false 1 t21 w fun t22 =>
  SliceV 1 t22 none (some t10) fun t24 =>
  NilV v0 fun t25 =>
  FAddrV 0 t25 fun t26 =>
  StoreV 1 t26 t24 w fun w_1 =>
  R t17 w_1) :
    Calls Try.prog N.impl_deque_pop #[v0] w (Ret R) :=
  callsB (args := [v0]) ⟨(annOf []), (annOf [])⟩ Try.func45 rfl (cast (by kernel_rfl) h)

theorem c_impl_deque_push (v0 : Value) (v1 : Value) (w : World) (R : Value → World → Prop) (h :
  NilV v0 fun t6 =>
  FAddrV 0 t6 fun t7 =>
  LoadV false 1 t7 w fun t8 =>
  BSliceV T.int 1 1 #[Value.int IntKind.i64 0] [(0, v1)] w fun t10 w_1 =>
  AppendV Try.prog T.sl_int t8 t10 w_1 fun t11 w_2 =>
  NilV v0 fun t12 =>
  FAddrV 0 t12 fun t13 =>
  StoreV 1 t13 t11 w_2 fun w_3 =>
  R (Value.tuple #[]) w_3) :
    Calls Try.prog N.impl_deque_push #[v0, v1] w (Ret R) :=
  callsB (args := [v0, v1]) ⟨(annOf []), (annOf [])⟩ Try.func46 rfl (cast (by kernel_rfl) h)

theorem c_spec_DequeSteal (v0 : Value) (w : World) (R : Value → World → Prop) (h :
  CallV Try.prog N.spec_DequeValid [v0] w fun t6 w_1 =>
  NotV t6 fun t7 =>
  SplitV t7
  (BSliceV T.int 1 0 #[Value.int IntKind.i64 0] [] w_1 fun t13 w_2 =>
  R (Value.tuple #[t13, Value.int IntKind.i64 0, Value.bool false]) w_2)
  (LenV v0 fun t10 =>
  BinV BinOp.eql t10 (Value.int IntKind.i64 0) fun t11 =>
  SplitV t11
  (BSliceV T.int 1 0 #[Value.int IntKind.i64 0] [] w_1 fun t13_1 w_3 =>
  R (Value.tuple #[t13_1, Value.int IntKind.i64 0, Value.bool false]) w_3)
  (DrawV w_1 fun S w_4 =>
  SliceV 1 v0 (some (Value.int IntKind.i64 1)) none fun t16 =>
  IdxV 1 v0 (Value.int IntKind.i64 0) fun t19 =>
  LoadS S false 1 t19 w_4 fun t20 =>
  BSliceV T.int 1 0 #[Value.int IntKind.i64 0] [] w_4 fun t14 w_5 =>
  Chg S w_4 w_5 ∧
  AppendV Try.prog T.sl_int t14 t16 w_5 fun t17 w_6 =>
  Chg S w_5 w_6 ∧
  R (Value.tuple #[t17, t20, Value.bool true]) w_6))) :
    Calls Try.prog N.spec_DequeSteal #[v0] w (Ret R) :=
  callsB (args := [v0]) ⟨(annOf []), (annOf [])⟩ Try.func28 rfl (cast (by kernel_rfl) h)

theorem c_impl_DequeSteal (v0 : Value) (w : World) (R : Value → World → Prop) (h :
  CallV Try.prog N.impl_DequeValid [v0] w fun t8 w_1 =>
  NotV t8 fun t9 =>
  SplitV t9
  (R (Value.tuple #[Value.slice none 0 0, Value.int IntKind.i64 0, Value.bool false]) w_1)
  (LenV v0 fun t12 =>
  BinV BinOp.eql t12 (Value.int IntKind.i64 0) fun t13 =>
  SplitV t13
  (R (Value.tuple #[Value.slice none 0 0, Value.int IntKind.i64 0, Value.bool false]) w_1)
  (CallV Try.prog N.impl_dequeOf [v0] w_1 fun t16 w_2 =>
  BoxV T.impl_deque_int (Value.agg #[Value.slice none 0 0]) w_2 fun t5 w_3 =>
  StoreV 1 t5 t16 w_3 fun w_4 =>
  CallV Try.prog N.impl_deque_steal [t5] w_4 fun t17 w_5 =>
  FAddrV 0 t5 fun t18 =>
  LoadV false 1 t18 w_5 fun t19 =>
  R (Value.tuple #[t19, t17, Value.bool true]) w_5))) :
    Calls Try.prog N.impl_DequeSteal #[v0] w (Ret R) :=
  callsB (args := [v0]) ⟨(annOf []), (annOf [])⟩ Try.func29 rfl (cast (by kernel_rfl) h)

theorem c_spec_DequePop (v0 : Value) (w : World) (R : Value → World → Prop) (h :
  LenV v0 fun t7 =>
  BinV BinOp.sub t7 (Value.int IntKind.i64 1) fun t8 =>
  CallV Try.prog N.spec_DequeValid [v0] w fun t10 w_1 =>
  NotV t10 fun t11 =>
  SplitV t11
  (BSliceV T.int 1 0 #[Value.int IntKind.i64 0] [] w_1 fun t16 w_2 =>
  R (Value.tuple #[t16, Value.int IntKind.i64 0, Value.bool false]) w_2)
  (BinV BinOp.lss t8 (Value.int IntKind.i64 0) fun t14 =>
  SplitV t14
  (BSliceV T.int 1 0 #[Value.int IntKind.i64 0] [] w_1 fun t16_1 w_3 =>
  R (Value.tuple #[t16_1, Value.int IntKind.i64 0, Value.bool false]) w_3)
  (DrawV w_1 fun S w_4 =>
  SliceV 1 v0 none (some t8) fun t20 =>
  IdxV 1 v0 t8 fun t24 =>
  LoadS S false 1 t24 w_4 fun t25 =>
  BSliceV T.int 1 0 #[Value.int IntKind.i64 0] [] w_4 fun t17 w_5 =>
  Chg S w_4 w_5 ∧
  AppendV Try.prog T.sl_int t17 t20 w_5 fun t21 w_6 =>
  Chg S w_5 w_6 ∧
  R (Value.tuple #[t21, t25, Value.bool true]) w_6))) :
    Calls Try.prog N.spec_DequePop #[v0] w (Ret R) :=
  callsB (args := [v0]) ⟨(annOf []), (annOf [])⟩ Try.func30 rfl (cast (by kernel_rfl) h)

theorem c_impl_DequePop (v0 : Value) (w : World) (R : Value → World → Prop) (h :
  CallV Try.prog N.impl_DequeValid [v0] w fun t8 w_1 =>
  NotV t8 fun t9 =>
  SplitV t9
  (R (Value.tuple #[Value.slice none 0 0, Value.int IntKind.i64 0, Value.bool false]) w_1)
  (LenV v0 fun t12 =>
  BinV BinOp.eql t12 (Value.int IntKind.i64 0) fun t13 =>
  SplitV t13
  (R (Value.tuple #[Value.slice none 0 0, Value.int IntKind.i64 0, Value.bool false]) w_1)
  (CallV Try.prog N.impl_dequeOf [v0] w_1 fun t16 w_2 =>
  BoxV T.impl_deque_int (Value.agg #[Value.slice none 0 0]) w_2 fun t5 w_3 =>
  StoreV 1 t5 t16 w_3 fun w_4 =>
  CallV Try.prog N.impl_deque_pop [t5] w_4 fun t17 w_5 =>
  FAddrV 0 t5 fun t18 =>
  LoadV false 1 t18 w_5 fun t19 =>
  R (Value.tuple #[t19, t17, Value.bool true]) w_5))) :
    Calls Try.prog N.impl_DequePop #[v0] w (Ret R) :=
  callsB (args := [v0]) ⟨(annOf []), (annOf [])⟩ Try.func31 rfl (cast (by kernel_rfl) h)

theorem c_spec_DequePush (v0 : Value) (v1 : Value) (w : World) (R : Value → World → Prop) (h :
  BSliceV T.int 1 0 #[Value.int IntKind.i64 0] [] w fun t7 w_1 =>
  AppendV Try.prog T.sl_int t7 v0 w_1 fun t9 w_2 =>
  BSliceV T.int 1 1 #[Value.int IntKind.i64 0] [(0, v1)] w_2 fun t11 w_3 =>
  AppendV Try.prog T.sl_int t9 t11 w_3 fun t12 w_4 =>
  CallV Try.prog N.spec_DequeValid [t12] w_4 fun t14 w_5 =>
  NotV t14 fun t15 =>
  SplitV t15
  (BSliceV T.int 1 0 #[Value.int IntKind.i64 0] [] w_5 fun t16 w_6 =>
  R (Value.tuple #[t16, Value.bool false]) w_6)
  (R (Value.tuple #[t12, Value.bool true]) w_5)) :
    Calls Try.prog N.spec_DequePush #[v0, v1] w (Ret R) :=
  callsB (args := [v0, v1]) ⟨(annOf []), (annOf [])⟩ Try.func32 rfl (cast (by kernel_rfl) h)

theorem c_impl_DequePush (v0 : Value) (v1 : Value) (w : World) (R : Value → World → Prop) (h :
  CallV Try.prog N.impl_DequeValid [v0] w fun t8 w_1 =>
  NotV t8 fun t9 =>
  SplitV t9
  (R (Value.tuple #[Value.slice none 0 0, Value.bool false]) w_1)
  (CallV Try.prog N.impl_dequeOf [v0] w_1 fun t11 w_2 =>
  BoxV T.impl_deque_int (Value.agg #[Value.slice none 0 0]) w_2 fun t6 w_3 =>
  StoreV 1 t6 t11 w_3 fun w_4 =>
  CallV Try.prog N.impl_deque_push [t6, v1] w_4 fun _ w_5 =>
  FAddrV 0 t6 fun t14 =>
  LoadV false 1 t14 w_5 fun t15 =>
  CallV Try.prog N.impl_DequeValid [t15] w_5 fun t16 w_6 =>
  NotV t16 fun t17 =>
  SplitV t17
  (R (Value.tuple #[Value.slice none 0 0, Value.bool false]) w_6)
  (FAddrV 0 t6 fun t18 =>
  LoadV false 1 t18 w_6 fun t19 =>
  R (Value.tuple #[t19, Value.bool true]) w_6))) :
    Calls Try.prog N.impl_DequePush #[v0, v1] w (Ret R) :=
  callsB (args := [v0, v1]) ⟨(annOf []), (annOf [])⟩ Try.func33 rfl (cast (by kernel_rfl) h)

end Go.Proofs.Ytinpkcjfnljigaa
