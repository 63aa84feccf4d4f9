/- The conditions of functions, off their texts. Printed by a program; Lean checks each one. -/
import Derived.Test.YtpfabjjeacdikaaNames
import Derived.Test.YtpfabjjeacdikaaV9
namespace Go.Proofs.Ytpfabjjeacdikaa
open Go Go.V
set_option maxRecDepth 100000
theorem c_impl_givenWork_needs (v0 : Value) (w : World) (R : Value → World → Prop) (h :
  BoxV T.impl_givenWork v0 w fun _ w_1 =>
  R (Value.int IntKind.i64 0) w_1) :
    Calls Try.prog N.impl_givenWork_needs #[v0] w (Ret R) :=
  callsB (args := [v0]) ⟨(annOf []), (annOf []), []⟩ Try.func167 rfl (cast (by kernel_rfl) h)

theorem c_impl_workOf (v0 : Value) (w : World) (R : Value → World → Prop) (h :
  BinV BinOp.eql v0 (Value.int IntKind.i64 0) fun t5 =>
  SplitV t5
  (BuildV #[] (fun i => ([] : List (Nat × Nat))[i]?) [] fun t6 =>
  R (Value.iface T.impl_givenWork t6) w)
  (BinV BinOp.eql v0 (Value.int IntKind.i64 1) fun t9 =>
  SplitV t9
  (BuildV #[Value.nilFunc] (fun i => ([(0, 1)] : List (Nat × Nat))[i]?) [(0, Value.func (Fn.func N.impl_RowAdd) #[] #[])] fun t10 =>
  R (Value.iface T.impl_pairWork t10) w)
  (BinV BinOp.eql v0 (Value.int IntKind.i64 2) fun t13 =>
  SplitV t13
  (BuildV #[Value.nilFunc] (fun i => ([(0, 1)] : List (Nat × Nat))[i]?) [(0, Value.func (Fn.func N.impl_RowTimes) #[] #[])] fun t14 =>
  R (Value.iface T.impl_pairWork t14) w)
  (BinV BinOp.eql v0 (Value.int IntKind.i64 3) fun t17 =>
  SplitV t17
  (BuildV #[Value.nilFunc] (fun i => ([(0, 1)] : List (Nat × Nat))[i]?) [(0, Value.func (Fn.func N.impl_RowSums) #[] #[])] fun t18 =>
  R (Value.iface T.impl_loneWork t18) w)
  (BinV BinOp.eql v0 (Value.int IntKind.i64 4) fun t21 =>
  SplitV t21
  (BuildV #[Value.nilFunc] (fun i => ([(0, 1)] : List (Nat × Nat))[i]?) [(0, Value.func (Fn.func N.impl_RowSort) #[] #[])] fun t22 =>
  R (Value.iface T.impl_loneWork t22) w)
  (BinV BinOp.eql v0 (Value.int IntKind.i64 5) fun t25 =>
  SplitV t25
  (BuildV #[Value.nilFunc] (fun i => ([(0, 1)] : List (Nat × Nat))[i]?) [(0, Value.func (Fn.func N.impl_RowTurn) #[] #[])] fun t26 =>
  R (Value.iface T.impl_loneWork t26) w)
  (R Value.nilIface w))))))) :
    Calls Try.prog N.impl_workOf #[v0] w (Ret R) :=
  callsB (args := [v0]) ⟨(annOf []), (annOf []), []⟩ Try.func106 rfl (cast (by kernel_rfl) h)

theorem c_impl_KindValid (v0 : Value) (w : World) (R : Value → World → Prop) (h :
  CallV Try.prog N.impl_workOf [v0] w fun t4 w_1 =>
  isNilC (Operand.const Value.nilIface) = true ∧ INilV BinOp.neq t4 fun t5 =>
  R t5 w_1) :
    Calls Try.prog N.impl_KindValid #[v0] w (Ret R) :=
  callsB (args := [v0]) ⟨(annOf []), (annOf []), []⟩ Try.func111 rfl (cast (by kernel_rfl) h)

theorem c_impl_KindNeeds (v0 : Value) (w : World) (R : Value → World → Prop) (h :
  CallV Try.prog N.impl_workOf [v0] w fun t5 w_1 =>
  isNilC (Operand.const Value.nilIface) = true ∧ INilV BinOp.eql t5 fun t7 =>
  SplitV t7
  (R (Value.int IntKind.i64 (-1)) w_1)
  (InvokeV Try.prog (okFn Try.prog) t5 "loop.example/workplans/impl.needs" [] w_1 fun t9 w_2 =>
  R t9 w_2)) :
    Calls Try.prog N.impl_KindNeeds #[v0] w (Ret R) :=
  callsB (args := [v0]) ⟨(annOf []), (annOf []), []⟩ Try.func112 rfl (cast (by kernel_rfl) h)

theorem c_impl_loneWork_needs (v0 : Value) (w : World) (R : Value → World → Prop) (h :
  BoxV T.impl_loneWork v0 w fun _ w_1 =>
  R (Value.int IntKind.i64 1) w_1) :
    Calls Try.prog N.impl_loneWork_needs #[v0] w (Ret R) :=
  callsB (args := [v0]) ⟨(annOf []), (annOf []), []⟩ Try.func108 rfl (cast (by kernel_rfl) h)

theorem c_impl_pairWork_needs (v0 : Value) (w : World) (R : Value → World → Prop) (h :
  BoxV T.impl_pairWork v0 w fun _ w_1 =>
  R (Value.int IntKind.i64 2) w_1) :
    Calls Try.prog N.impl_pairWork_needs #[v0] w (Ret R) :=
  callsB (args := [v0]) ⟨(annOf []), (annOf []), []⟩ Try.func107 rfl (cast (by kernel_rfl) h)

theorem c_impl_rowValues_valid (v0 : Value) (w : World) (R : Value → World → Prop) (h :
  LenV v0 fun t6 =>
  BinV BinOp.gtr t6 (Value.int IntKind.i64 6) fun t7 =>
  SplitV t7
  (R (Value.bool false) w)
  (LenV v0 fun t9 =>
  LoopV [Value.int IntKind.i64 0] w fun s _ w_1 K =>
  BinV BinOp.lss (nthV s 0) t9 fun t11 =>
  SplitV t11
  (IdxV 1 v0 (nthV s 0) fun t12 =>
  LoadV false 1 t12 w_1 fun t13 =>
  BinV BinOp.lss t13 (Value.int IntKind.i64 0) fun t15 =>
  SplitV t15
  (R (Value.bool false) w_1)
  (BinV BinOp.geq t13 (Value.int IntKind.i64 1009) fun t18 =>
  SplitV t18
  (R (Value.bool false) w_1)
  (BinV BinOp.add (nthV s 0) (Value.int IntKind.i64 1) fun t20 =>
  K [t20] w_1)))
  (R (Value.bool true) w_1))) :
    Calls Try.prog N.impl_rowValues_valid #[v0] w (Ret R) :=
  callsB (args := [v0]) ⟨(annOf [(4, [10])]), (annOf []), []⟩ Try.func122 rfl (cast (by kernel_rfl) h)

theorem c_impl_RowValid (v0 : Value) (w : World) (R : Value → World → Prop) (h :
  CallV Try.prog N.impl_rowValues_valid [v0] w fun t4 w_1 =>
  R t4 w_1) :
    Calls Try.prog N.impl_RowValid #[v0] w (Ret R) :=
  callsB (args := [v0]) ⟨(annOf []), (annOf []), []⟩ Try.func113 rfl (cast (by kernel_rfl) h)

theorem c_spec_RowValid (v0 : Value) (w : World) (R : Value → World → Prop) (h :
  LoopV [Value.int IntKind.i64 0] w fun s _ w_1 K =>
  LenV v0 fun t6 =>
  BinV BinOp.lss (nthV s 0) t6 fun t7 =>
  SplitV t7
  (IdxV 1 v0 (nthV s 0) fun t12 =>
  LoadV false 1 t12 w_1 fun t13 =>
  CallV Try.prog N.spec_l6In [t13, Value.int IntKind.i64 0, Value.int IntKind.i64 1008] w_1 fun t14 w_2 =>
  NotV t14 fun t15 =>
  SplitV t15
  (R (Value.bool false) w_2)
  (BinV BinOp.add (nthV s 0) (Value.int IntKind.i64 1) fun t9 =>
  K [t9] w_2))
  (LenV v0 fun t17 =>
  BinV BinOp.leq t17 (Value.int IntKind.i64 6) fun t18 =>
  R t18 w_1)) :
    Calls Try.prog N.spec_RowValid #[v0] w (Ret R) :=
  callsB (args := [v0]) ⟨(annOf [(2, [3])]), (annOf []), []⟩ Try.func110 rfl (cast (by kernel_rfl) h)

theorem c_spec_KindValid (v0 : Value) (w : World) (R : Value → World → Prop) (h :
  CallV Try.prog N.spec_l6In [v0, Value.int IntKind.i64 0, Value.int IntKind.i64 5] w fun t4 w_1 =>
  R t4 w_1) :
    Calls Try.prog N.spec_KindValid #[v0] w (Ret R) :=
  callsB (args := [v0]) ⟨(annOf []), (annOf []), []⟩ Try.func121 rfl (cast (by kernel_rfl) h)

theorem c_spec_KindNeeds (v0 : Value) (w : World) (R : Value → World → Prop) (h :
  CallV Try.prog N.spec_KindValid [v0] w fun t5 w_1 =>
  NotV t5 fun t6 =>
  SplitV t6
  (R (Value.int IntKind.i64 (-1)) w_1)
  (BinV BinOp.eql v0 (Value.int IntKind.i64 0) fun t9 =>
  SplitV t9
  (R (Value.int IntKind.i64 0) w_1)
  (BinV BinOp.eql v0 (Value.int IntKind.i64 1) fun t12 =>
  SplitV t12
  (R (Value.int IntKind.i64 2) w_1)
  (BinV BinOp.eql v0 (Value.int IntKind.i64 2) fun t15 =>
  SplitV t15
  (R (Value.int IntKind.i64 2) w_1)
  (R (Value.int IntKind.i64 1) w_1))))) :
    Calls Try.prog N.spec_KindNeeds #[v0] w (Ret R) :=
  callsB (args := [v0]) ⟨(annOf []), (annOf []), []⟩ Try.func109 rfl (cast (by kernel_rfl) h)

end Go.Proofs.Ytpfabjjeacdikaa
