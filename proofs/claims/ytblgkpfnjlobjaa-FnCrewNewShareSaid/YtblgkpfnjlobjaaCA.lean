/- The conditions of functions, off their texts. Printed by a program; Lean checks each one. -/
import Derived.Test.YtblgkpfnjlobjaaNames
import Derived.Test.YtblgkpfnjlobjaaV9
namespace Go.Proofs.Ytblgkpfnjlobjaa
open Go Go.V
set_option maxRecDepth 100000
theorem c_laws_toIntS (v0 : Value) (w : World) (R : Value → World → Prop) (h :
  LenV v0 fun t6 =>
  MakeSliceV T.int 1 8 #[Value.int IntKind.i64 0] t6 t6 w fun t7 w_1 =>
  LoopV [Value.int IntKind.i64 0] w_1 fun s _ w_2 K =>
  LenV v0 fun t10 =>
  BinV BinOp.lss (nthV s 0) t10 fun t11 =>
  SplitV t11
  (IdxV 1 v0 (nthV s 0) fun t18 =>
  LoadV false 1 t18 w_2 fun t19 =>
  IdxV 1 t7 (nthV s 0) fun t20 =>
  StoreV 1 t20 t19 w_2 fun w_3 =>
  BinV BinOp.add (nthV s 0) (Value.int IntKind.i64 1) fun t13 =>
  K [t13] w_3)
  (R t7 w_2)) :
    Calls Try.prog N.laws_toIntS #[v0] w (Ret R) :=
  callsB (args := [v0]) ⟨(annOf [(3, [4])]), (annOf []), []⟩ Try.func23 rfl (cast (by kernel_rfl) h)

theorem c_laws_eqIntS (v0 : Value) (v1 : Value) (w : World) (R : Value → World → Prop) (h :
  LenV v0 fun t7 =>
  LenV v1 fun t9 =>
  BinV BinOp.neq t7 t9 fun t10 =>
  SplitV t10
  (R (Value.bool false) w)
  (LoopV [Value.int IntKind.i64 0] w fun s _ w_1 K =>
  LenV v0 fun t13 =>
  BinV BinOp.lss (nthV s 0) t13 fun t14 =>
  SplitV t14
  (DrawV w_1 fun S w_2 =>
  IdxV 1 v0 (nthV s 0) fun t19 =>
  LoadS S false 1 t19 w_2 fun t20 =>
  IdxV 1 v1 (nthV s 0) fun t23 =>
  LoadS S false 1 t23 w_2 fun t24 =>
  BinV BinOp.neq t20 t24 fun t25 =>
  SplitV t25
  (R (Value.bool false) w_2)
  (BinV BinOp.add (nthV s 0) (Value.int IntKind.i64 1) fun t16 =>
  K [t16] w_2))
  (R (Value.bool true) w_1))) :
    Calls Try.prog N.laws_eqIntS #[v0, v1] w (Ret R) :=
  callsB (args := [v0, v1]) ⟨(annOf [(4, [5])]), (annOf []), []⟩ Try.func25 rfl (cast (by kernel_rfl) h)

theorem c_laws_markIntS (v0 : Value) (v1 : Value) (w : World) (R : Value → World → Prop) (h :
  LoopV [v1, Value.int IntKind.i64 0] w fun s _ w_1 K =>
  LenV v0 fun t8 =>
  BinV BinOp.lss (nthV s 1) t8 fun t9 =>
  SplitV t9
  (IdxV 1 v0 (nthV s 1) fun t15 =>
  StoreV 1 t15 (nthV s 0) w_1 fun w_2 =>
  BinV BinOp.add (nthV s 0) (Value.int IntKind.i64 1) fun t17 =>
  BinV BinOp.add (nthV s 1) (Value.int IntKind.i64 1) fun t11 =>
  K [t17, t11] w_2)
  (R (nthV s 0) w_1)) :
    Calls Try.prog N.laws_markIntS #[v0, v1] w (Ret R) :=
  callsB (args := [v0, v1]) ⟨(annOf [(2, [1, 5])]), (annOf []), []⟩ Try.func26 rfl (cast (by kernel_rfl) h)

theorem c_laws_heldIntS (v0 : Value) (v1 : Value) (w : World) (R : Value → World → Prop) (h :
  LoopV [v1, Value.int IntKind.i64 0] w fun s _ w_1 K =>
  LenV v0 fun t8 =>
  BinV BinOp.lss (nthV s 1) t8 fun t9 =>
  SplitV t9
  (IdxV 1 v0 (nthV s 1) fun t14 =>
  LoadV false 1 t14 w_1 fun t15 =>
  BinV BinOp.neq t15 (nthV s 0) fun t17 =>
  SplitV t17
  (R (Value.int IntKind.i64 (-1)) w_1)
  (BinV BinOp.add (nthV s 0) (Value.int IntKind.i64 1) fun t19 =>
  BinV BinOp.add (nthV s 1) (Value.int IntKind.i64 1) fun t11 =>
  K [t19, t11] w_1))
  (R (nthV s 0) w_1)) :
    Calls Try.prog N.laws_heldIntS #[v0, v1] w (Ret R) :=
  callsB (args := [v0, v1]) ⟨(annOf [(2, [1, 5])]), (annOf []), []⟩ Try.func55 rfl (cast (by kernel_rfl) h)

theorem c_laws_sameRow (v0 : Value) (v1 : Value) (w : World) (R : Value → World → Prop) (h :
  LenV v0 fun t7 =>
  LenV v1 fun t9 =>
  BinV BinOp.neq t7 t9 fun t10 =>
  SplitV t10
  (R (Value.bool false) w)
  (LoopV [Value.int IntKind.i64 0] w fun s _ w_1 K =>
  LenV v0 fun t13 =>
  BinV BinOp.lss (nthV s 0) t13 fun t14 =>
  SplitV t14
  (DrawV w_1 fun S w_2 =>
  IdxV 1 v0 (nthV s 0) fun t19 =>
  LoadS S false 1 t19 w_2 fun t20 =>
  IdxV 1 v1 (nthV s 0) fun t23 =>
  LoadS S false 1 t23 w_2 fun t24 =>
  BinV BinOp.neq t20 t24 fun t25 =>
  SplitV t25
  (R (Value.bool false) w_2)
  (BinV BinOp.add (nthV s 0) (Value.int IntKind.i64 1) fun t16 =>
  K [t16] w_2))
  (R (Value.bool true) w_1))) :
    Calls Try.prog N.laws_sameRow #[v0, v1] w (Ret R) :=
  callsB (args := [v0, v1]) ⟨(annOf [(4, [5])]), (annOf []), []⟩ Try.func35 rfl (cast (by kernel_rfl) h)

theorem c_spec_l6In (v0 : Value) (v1 : Value) (v2 : Value) (w : World) (R : Value → World → Prop) (h :
  BinV BinOp.geq v0 v1 fun t9 =>
  SplitV t9
  (BinV BinOp.leq v0 v2 fun t13 =>
  R t13 w)
  (R (Value.bool false) w)) :
    Calls Try.prog N.spec_l6In #[v0, v1, v2] w (Ret R) :=
  callsB (args := [v0, v1, v2]) ⟨(annOf []), (annOf []), []⟩ Try.func50 rfl (cast (by kernel_rfl) h)

theorem c_spec_l3Has (v0 : Value) (v1 : Value) (w : World) (R : Value → World → Prop) (h :
  LoopV [Value.int IntKind.i64 0] w fun s _ w_1 K =>
  LenV v0 fun t8 =>
  BinV BinOp.lss (nthV s 0) t8 fun t9 =>
  SplitV t9
  (IdxV 1 v0 (nthV s 0) fun t14 =>
  LoadV false 1 t14 w_1 fun t15 =>
  BinV BinOp.eql t15 v1 fun t17 =>
  SplitV t17
  (R (Value.bool true) w_1)
  (BinV BinOp.add (nthV s 0) (Value.int IntKind.i64 1) fun t11 =>
  K [t11] w_1))
  (R (Value.bool false) w_1)) :
    Calls Try.prog N.spec_l3Has #[v0, v1] w (Ret R) :=
  callsB (args := [v0, v1]) ⟨(annOf [(2, [5])]), (annOf []), []⟩ Try.func99 rfl (cast (by kernel_rfl) h)

theorem c_spec_l6Open (v0 : Value) (w : World) (R : Value → World → Prop) (h :
  LenV v0 fun t4 =>
  BinV BinOp.gtr t4 (Value.int IntKind.i64 2000) fun t5 =>
  SplitV t5
  (SliceV 1 v0 none (some (Value.int IntKind.i64 2000)) fun t7 =>
  BuildV #[Value.slice none 0 0, Value.int IntKind.i64 0] (fun i => ([(0, 1), (1, 1)] : List (Nat × Nat))[i]?) [(0, t7)] fun t9 =>
  BoxV T.spec_l6Rd t9 w fun t10 w_1 =>
  R t10 w_1)
  (BuildV #[Value.slice none 0 0, Value.int IntKind.i64 0] (fun i => ([(0, 1), (1, 1)] : List (Nat × Nat))[i]?) [(0, v0)] fun t9_1 =>
  BoxV T.spec_l6Rd t9_1 w fun t10_1 w_2 =>
  R t10_1 w_2)) :
    Calls Try.prog N.spec_l6Open #[v0] w (Ret R) :=
  callsB (args := [v0]) ⟨(annOf []), (annOf []), []⟩ Try.func60 rfl (cast (by kernel_rfl) h)

theorem c_spec_l6Rd_pick (v0 : Value) (v1 : Value) (w : World) (R : Value → World → Prop) (h :
  NilV v0 fun t9 =>
  FAddrV 1 t9 fun t10 =>
  LoadV false 1 t10 w fun t11 =>
  BinV BinOp.add t11 (Value.int IntKind.i64 1) fun t12 =>
  NilV v0 fun t13 =>
  FAddrV 1 t13 fun t14 =>
  StoreV 1 t14 t12 w fun w_1 =>
  BinV BinOp.lss v1 (Value.int IntKind.i64 1) fun t16 =>
  SplitV t16
  (R (Value.int IntKind.i64 0) w_1)
  (NilV v0 fun t19 =>
  FAddrV 0 t19 fun t20 =>
  LoadV false 1 t20 w_1 fun t21 =>
  LenV t21 fun t22 =>
  BinV BinOp.eql t22 (Value.int IntKind.i64 0) fun t23 =>
  SplitV t23
  (R (Value.int IntKind.i64 0) w_1)
  (NilV v0 fun t26 =>
  FAddrV 1 t26 fun t27 =>
  LoadV false 1 t27 w_1 fun t28 =>
  BinV BinOp.sub t28 (Value.int IntKind.i64 1) fun t29 =>
  NilV v0 fun t32 =>
  FAddrV 0 t32 fun t33 =>
  LoadV false 1 t33 w_1 fun t34 =>
  LenV t34 fun t35 =>
  BinV BinOp.lss t29 t35 fun t36 =>
  SplitV t36
  (NilV v0 fun t38 =>
  FAddrV 0 t38 fun t39 =>
  LoadV false 1 t39 w_1 fun t40 =>
  IdxV 1 t40 t29 fun t42 =>
  LoadV false 1 t42 w_1 fun t43 =>
  ConvV IntKind.i64 t43 fun t44 =>
  BinV BinOp.rem t44 v1 fun t46 =>
  R t46 w_1)
  (DrawV w_1 fun S w_2 =>
  NilV v0 fun t48 =>
  FAddrV 0 t48 fun t49 =>
  LoadS S false 1 t49 w_2 fun t50 =>
  NilV v0 fun t53 =>
  FAddrV 0 t53 fun t54 =>
  LoadS S false 1 t54 w_2 fun t55 =>
  LenV t55 fun t56 =>
  BinV BinOp.rem t29 t56 fun t57 =>
  IdxV 1 t50 t57 fun t58 =>
  LoadS S false 1 t58 w_2 fun t59 =>
  ConvV IntKind.i64 t59 fun t60 =>
  BinV BinOp.mul t60 (Value.int IntKind.i64 131) fun t61 =>
  NilV v0 fun t63 =>
  FAddrV 0 t63 fun t64 =>
  LoadS S false 1 t64 w_2 fun t65 =>
  BinV BinOp.mul t29 (Value.int IntKind.i64 7) fun t67 =>
  BinV BinOp.add t67 (Value.int IntKind.i64 3) fun t68 =>
  NilV v0 fun t70 =>
  FAddrV 0 t70 fun t71 =>
  LoadS S false 1 t71 w_2 fun t72 =>
  LenV t72 fun t73 =>
  BinV BinOp.rem t68 t73 fun t74 =>
  IdxV 1 t65 t74 fun t75 =>
  LoadS S false 1 t75 w_2 fun t76 =>
  ConvV IntKind.i64 t76 fun t77 =>
  BinV BinOp.mul t77 (Value.int IntKind.i64 1117) fun t78 =>
  BinV BinOp.add t61 t78 fun t79 =>
  BinV BinOp.mul t29 (Value.int IntKind.i64 29) fun t81 =>
  BinV BinOp.add t79 t81 fun t82 =>
  NilV v0 fun t85 =>
  FAddrV 0 t85 fun t86 =>
  LoadS S false 1 t86 w_2 fun t87 =>
  LenV t87 fun t88 =>
  BinV BinOp.quo t29 t88 fun t89 =>
  BinV BinOp.mul t89 (Value.int IntKind.i64 53) fun t90 =>
  BinV BinOp.add t82 t90 fun t91 =>
  BinV BinOp.quo t91 (Value.int IntKind.i64 64) fun t94 =>
  BinV BinOp.xor t91 t94 fun t95 =>
  BinV BinOp.rem t95 v1 fun t98 =>
  R t98 w_2)))) :
    Calls Try.prog N.spec_l6Rd_pick #[v0, v1] w (Ret R) :=
  callsB (args := [v0, v1]) ⟨(annOf []), (annOf []), []⟩ Try.func66 rfl (cast (by kernel_rfl) h)

theorem c_impl_givenWork_needs (v0 : Value) (w : World) (R : Value → World → Prop) (h :
  BoxV T.impl_givenWork v0 w fun _ w_1 =>
  R (Value.int IntKind.i64 0) w_1) :
    Calls Try.prog N.impl_givenWork_needs #[v0] w (Ret R) :=
  callsB (args := [v0]) ⟨(annOf []), (annOf []), []⟩ Try.func168 rfl (cast (by kernel_rfl) h)

theorem c_impl_workOf (v0 : Value) (w : World) (R : Value → World → Prop) (h :
  BinV BinOp.eql v0 (Value.int IntKind.i64 0) fun t5 =>
  SplitV t5
  (BuildV #[] (fun i => ([] : List (Nat × Nat))[i]?) [] fun t6 =>
  R (Value.iface T.impl_givenWork t6) w)
  (BinV BinOp.eql v0 (Value.int IntKind.i64 1) fun t9 =>
  SplitV t9
  (BuildV #[Value.nilFunc] (fun i => ([(0, 1)] : List (Nat × Nat))[i]?) [(0, Value.func (Fn.func N.impl_RowAdd) #[] #[])] fun t10 =>
  R (Value.iface T.impl_pairWork t10) w)
  (BinV BinOp.eql v0 (Value.int IntKind.i64 2) fun t13 =>
  SplitV t13
  (BuildV #[Value.nilFunc] (fun i => ([(0, 1)] : List (Nat × Nat))[i]?) [(0, Value.func (Fn.func N.impl_RowTimes) #[] #[])] fun t14 =>
  R (Value.iface T.impl_pairWork t14) w)
  (BinV BinOp.eql v0 (Value.int IntKind.i64 3) fun t17 =>
  SplitV t17
  (BuildV #[Value.nilFunc] (fun i => ([(0, 1)] : List (Nat × Nat))[i]?) [(0, Value.func (Fn.func N.impl_RowSums) #[] #[])] fun t18 =>
  R (Value.iface T.impl_loneWork t18) w)
  (BinV BinOp.eql v0 (Value.int IntKind.i64 4) fun t21 =>
  SplitV t21
  (BuildV #[Value.nilFunc] (fun i => ([(0, 1)] : List (Nat × Nat))[i]?) [(0, Value.func (Fn.func N.impl_RowSort) #[] #[])] fun t22 =>
  R (Value.iface T.impl_loneWork t22) w)
  (BinV BinOp.eql v0 (Value.int IntKind.i64 5) fun t25 =>
  SplitV t25
  (BuildV #[Value.nilFunc] (fun i => ([(0, 1)] : List (Nat × Nat))[i]?) [(0, Value.func (Fn.func N.impl_RowTurn) #[] #[])] fun t26 =>
  R (Value.iface T.impl_loneWork t26) w)
  (R Value.nilIface w))))))) :
    Calls Try.prog N.impl_workOf #[v0] w (Ret R) :=
  callsB (args := [v0]) ⟨(annOf []), (annOf []), []⟩ Try.func96 rfl (cast (by kernel_rfl) h)

theorem c_impl_KindValid (v0 : Value) (w : World) (R : Value → World → Prop) (h :
  CallV Try.prog N.impl_workOf [v0] w fun t4 w_1 =>
  isNilC (Operand.const Value.nilIface) = true ∧ INilV BinOp.neq t4 fun t5 =>
  R t5 w_1) :
    Calls Try.prog N.impl_KindValid #[v0] w (Ret R) :=
  callsB (args := [v0]) ⟨(annOf []), (annOf []), []⟩ Try.func105 rfl (cast (by kernel_rfl) h)

theorem c_impl_KindNeeds (v0 : Value) (w : World) (R : Value → World → Prop) (h :
  CallV Try.prog N.impl_workOf [v0] w fun t5 w_1 =>
  isNilC (Operand.const Value.nilIface) = true ∧ INilV BinOp.eql t5 fun t7 =>
  SplitV t7
  (R (Value.int IntKind.i64 (-1)) w_1)
  (InvokeV Try.prog (okFn Try.prog) t5 "loop.example/workplans/impl.needs" [] w_1 fun t9 w_2 =>
  R t9 w_2)) :
    Calls Try.prog N.impl_KindNeeds #[v0] w (Ret R) :=
  callsB (args := [v0]) ⟨(annOf []), (annOf []), []⟩ Try.func106 rfl (cast (by kernel_rfl) h)

theorem c_impl_loneWork_needs (v0 : Value) (w : World) (R : Value → World → Prop) (h :
  BoxV T.impl_loneWork v0 w fun _ w_1 =>
  R (Value.int IntKind.i64 1) w_1) :
    Calls Try.prog N.impl_loneWork_needs #[v0] w (Ret R) :=
  callsB (args := [v0]) ⟨(annOf []), (annOf []), []⟩ Try.func98 rfl (cast (by kernel_rfl) h)

theorem c_impl_pairWork_needs (v0 : Value) (w : World) (R : Value → World → Prop) (h :
  BoxV T.impl_pairWork v0 w fun _ w_1 =>
  R (Value.int IntKind.i64 2) w_1) :
    Calls Try.prog N.impl_pairWork_needs #[v0] w (Ret R) :=
  callsB (args := [v0]) ⟨(annOf []), (annOf []), []⟩ Try.func97 rfl (cast (by kernel_rfl) h)

theorem c_impl_rowValues_valid (v0 : Value) (w : World) (R : Value → World → Prop) (h :
  LenV v0 fun t6 =>
  BinV BinOp.gtr t6 (Value.int IntKind.i64 6) fun t7 =>
  SplitV t7
  (R (Value.bool false) w)
  (LenV v0 fun t9 =>
  LoopV [Value.int IntKind.i64 0] w fun s _ w_1 K =>
  BinV BinOp.lss (nthV s 0) t9 fun t11 =>
  SplitV t11
  (IdxV 1 v0 (nthV s 0) fun t12 =>
  LoadV false 1 t12 w_1 fun t13 =>
  BinV BinOp.lss t13 (Value.int IntKind.i64 0) fun t15 =>
  SplitV t15
  (R (Value.bool false) w_1)
  (BinV BinOp.geq t13 (Value.int IntKind.i64 1009) fun t18 =>
  SplitV t18
  (R (Value.bool false) w_1)
  (BinV BinOp.add (nthV s 0) (Value.int IntKind.i64 1) fun t20 =>
  K [t20] w_1)))
  (R (Value.bool true) w_1))) :
    Calls Try.prog N.impl_rowValues_valid #[v0] w (Ret R) :=
  callsB (args := [v0]) ⟨(annOf [(4, [10])]), (annOf []), []⟩ Try.func121 rfl (cast (by kernel_rfl) h)

theorem c_impl_RowValid (v0 : Value) (w : World) (R : Value → World → Prop) (h :
  CallV Try.prog N.impl_rowValues_valid [v0] w fun t4 w_1 =>
  R t4 w_1) :
    Calls Try.prog N.impl_RowValid #[v0] w (Ret R) :=
  callsB (args := [v0]) ⟨(annOf []), (annOf []), []⟩ Try.func107 rfl (cast (by kernel_rfl) h)

theorem c_spec_RowValid (v0 : Value) (w : World) (R : Value → World → Prop) (h :
  LoopV [Value.int IntKind.i64 0] w fun s _ w_1 K =>
  LenV v0 fun t6 =>
  BinV BinOp.lss (nthV s 0) t6 fun t7 =>
  SplitV t7
  (IdxV 1 v0 (nthV s 0) fun t12 =>
  LoadV false 1 t12 w_1 fun t13 =>
  CallV Try.prog N.spec_l6In [t13, Value.int IntKind.i64 0, Value.int IntKind.i64 1008] w_1 fun t14 w_2 =>
  NotV t14 fun t15 =>
  SplitV t15
  (R (Value.bool false) w_2)
  (BinV BinOp.add (nthV s 0) (Value.int IntKind.i64 1) fun t9 =>
  K [t9] w_2))
  (LenV v0 fun t17 =>
  BinV BinOp.leq t17 (Value.int IntKind.i64 6) fun t18 =>
  R t18 w_1)) :
    Calls Try.prog N.spec_RowValid #[v0] w (Ret R) :=
  callsB (args := [v0]) ⟨(annOf [(2, [3])]), (annOf []), []⟩ Try.func103 rfl (cast (by kernel_rfl) h)

theorem c_spec_KindValid (v0 : Value) (w : World) (R : Value → World → Prop) (h :
  CallV Try.prog N.spec_l6In [v0, Value.int IntKind.i64 0, Value.int IntKind.i64 5] w fun t4 w_1 =>
  R t4 w_1) :
    Calls Try.prog N.spec_KindValid #[v0] w (Ret R) :=
  callsB (args := [v0]) ⟨(annOf []), (annOf []), []⟩ Try.func115 rfl (cast (by kernel_rfl) h)

theorem c_spec_KindNeeds (v0 : Value) (w : World) (R : Value → World → Prop) (h :
  CallV Try.prog N.spec_KindValid [v0] w fun t5 w_1 =>
  NotV t5 fun t6 =>
  SplitV t6
  (R (Value.int IntKind.i64 (-1)) w_1)
  (BinV BinOp.eql v0 (Value.int IntKind.i64 0) fun t9 =>
  SplitV t9
  (R (Value.int IntKind.i64 0) w_1)
  (BinV BinOp.eql v0 (Value.int IntKind.i64 1) fun t12 =>
  SplitV t12
  (R (Value.int IntKind.i64 2) w_1)
  (BinV BinOp.eql v0 (Value.int IntKind.i64 2) fun t15 =>
  SplitV t15
  (R (Value.int IntKind.i64 2) w_1)
  (R (Value.int IntKind.i64 1) w_1))))) :
    Calls Try.prog N.spec_KindNeeds #[v0] w (Ret R) :=
  callsB (args := [v0]) ⟨(annOf []), (annOf []), []⟩ Try.func102 rfl (cast (by kernel_rfl) h)

theorem c_spec_l3Wide (v0 : Value) (w : World) (R : Value → World → Prop) (h :
  LoopV [Value.int IntKind.i64 0] w fun s _ w_1 K =>
  LenV v0 fun t6 =>
  BinV BinOp.lss (nthV s 0) t6 fun t7 =>
  SplitV t7
  (IdxV 3 v0 (nthV s 0) fun t12 =>
  FAddrV 0 t12 fun t13 =>
  LoadV false 1 t13 w_1 fun t14 =>
  BinV BinOp.eql t14 (Value.int IntKind.i64 0) fun t15 =>
  SplitV t15
  (IdxV 3 v0 (nthV s 0) fun t18 =>
  FAddrV 2 t18 fun t19 =>
  LoadV false 1 t19 w_1 fun t20 =>
  LenV t20 fun t21 =>
  R t21 w_1)
  (BinV BinOp.add (nthV s 0) (Value.int IntKind.i64 1) fun t9 =>
  K [t9] w_1))
  (R (Value.int IntKind.i64 0) w_1)) :
    Calls Try.prog N.spec_l3Wide #[v0] w (Ret R) :=
  callsB (args := [v0]) ⟨(annOf [(2, [3])]), (annOf []), []⟩ Try.func84 rfl (cast (by kernel_rfl) h)

theorem c_spec_l3Node (v0 : Value) (v1 : Value) (v2 : Value) (w : World) (R : Value → World → Prop) (h :
  BoxV T.impl_Node v0 w fun t3 w_1 =>
  DrawV w_1 fun S w_2 =>
  FAddrV 0 t3 fun t8 =>
  LoadS S false 1 t8 w_2 fun t9 =>
  FAddrV 1 t3 fun t11 =>
  LoadS S false 1 t11 w_2 fun t12 =>
  LenV t12 fun t13 =>
  CallV Try.prog N.spec_KindNeeds [t9] w_2 fun t10 w_3 =>
  Chg S w_2 w_3 ∧
  BinV BinOp.neq t10 t13 fun t14 =>
  SplitV t14
  (R (Value.bool false) w_3)
  (FAddrV 2 t3 fun t16 =>
  LoadS S false 1 t16 w_3 fun t17 =>
  CallV Try.prog N.spec_RowValid [t17] w_3 fun t18 w_4 =>
  Chg S w_3 w_4 ∧
  NotV t18 fun t19 =>
  SplitV t19
  (R (Value.bool false) w_4)
  (LoopV [Value.int IntKind.i64 0] w_4 fun s _ w_5 K =>
  FAddrV 1 t3 fun t22 =>
  LoadV false 1 t22 w_5 fun t23 =>
  LenV t23 fun t24 =>
  BinV BinOp.lss (nthV s 0) t24 fun t25 =>
  SplitV t25
  (FAddrV 1 t3 fun t28 =>
  LoadV false 1 t28 w_5 fun t29 =>
  IdxV 1 t29 (nthV s 0) fun t31 =>
  LoadV false 1 t31 w_5 fun t32 =>
  BinV BinOp.sub v1 (Value.int IntKind.i64 1) fun t34 =>
  CallV Try.prog N.spec_l6In [t32, Value.int IntKind.i64 0, t34] w_5 fun t35 w_6 =>
  NotV t35 fun t36 =>
  SplitV t36
  (R (Value.bool false) w_6)
  (BinV BinOp.add (nthV s 0) (Value.int IntKind.i64 1) fun t27 =>
  K [t27] w_6))
  (FAddrV 0 t3 fun t37 =>
  LoadV false 1 t37 w_5 fun t38 =>
  BinV BinOp.eql t38 (Value.int IntKind.i64 0) fun t39 =>
  SplitV t39
  (FAddrV 2 t3 fun t40 =>
  LoadV false 1 t40 w_5 fun t41 =>
  LenV t41 fun t42 =>
  BinV BinOp.eql t42 v2 fun t44 =>
  R t44 w_5)
  (FAddrV 2 t3 fun t45 =>
  LoadV false 1 t45 w_5 fun t46 =>
  LenV t46 fun t47 =>
  BinV BinOp.eql t47 (Value.int IntKind.i64 0) fun t48 =>
  R t48 w_5))))) :
    Calls Try.prog N.spec_l3Node #[v0, v1, v2] w (Ret R) :=
  callsB (args := [v0, v1, v2]) ⟨(annOf [(4, [7])]), (annOf []), []⟩ Try.func83 rfl (cast (by kernel_rfl) h)

theorem c_spec_PlanValid (v0 : Value) (w : World) (R : Value → World → Prop) (h :
  LoopV [Value.int IntKind.i64 0] w fun s _ w_1 K =>
  LenV v0 fun t6 =>
  BinV BinOp.lss (nthV s 0) t6 fun t7 =>
  SplitV t7
  (DrawV w_1 fun S w_2 =>
  IdxV 3 v0 (nthV s 0) fun t12 =>
  LoadS S true 3 t12 w_2 fun t13 =>
  CallV Try.prog N.spec_l3Wide [v0] w_2 fun t16 w_3 =>
  Chg S w_2 w_3 ∧
  CallV Try.prog N.spec_l3Node [t13, nthV s 0, t16] w_3 fun t17 w_4 =>
  Chg S w_3 w_4 ∧
  NotV t17 fun t18 =>
  SplitV t18
  (R (Value.bool false) w_4)
  (BinV BinOp.add (nthV s 0) (Value.int IntKind.i64 1) fun t9 =>
  K [t9] w_4))
  (LenV v0 fun t20 =>
  BinV BinOp.leq t20 (Value.int IntKind.i64 10) fun t21 =>
  R t21 w_1)) :
    Calls Try.prog N.spec_PlanValid #[v0] w (Ret R) :=
  callsB (args := [v0]) ⟨(annOf [(2, [3])]), (annOf []), []⟩ Try.func49 rfl (cast (by kernel_rfl) h)

theorem c_impl_nodeFits (v0 : Value) (v1 : Value) (w : World) (R : Value → World → Prop) (h :
  BoxV T.impl_Node v0 w fun t2 w_1 =>
  DrawV w_1 fun S w_2 =>
  FAddrV 0 t2 fun t7 =>
  LoadS S false 1 t7 w_2 fun t8 =>
  CallV Try.prog N.impl_KindValid [t8] w_2 fun t9 w_3 =>
  Chg S w_2 w_3 ∧
  NotV t9 fun t10 =>
  SplitV t10
  (R (Value.bool false) w_3)
  (FAddrV 1 t2 fun t12 =>
  LoadS S false 1 t12 w_3 fun t13 =>
  LenV t13 fun t14 =>
  FAddrV 0 t2 fun t15 =>
  LoadS S false 1 t15 w_3 fun t16 =>
  CallV Try.prog N.impl_KindNeeds [t16] w_3 fun t17 w_4 =>
  Chg S w_3 w_4 ∧
  BinV BinOp.neq t14 t17 fun t18 =>
  SplitV t18
  (R (Value.bool false) w_4)
  (FAddrV 1 t2 fun t20 =>
  LoadV false 1 t20 w_4 fun t21 =>
  LenV t21 fun t22 =>
  LoopV [Value.int IntKind.i64 0] w_4 fun s _ w_5 K =>
  BinV BinOp.lss (nthV s 0) t22 fun t24 =>
  SplitV t24
  (IdxV 1 t21 (nthV s 0) fun t25 =>
  LoadV false 1 t25 w_5 fun t26 =>
  BinV BinOp.lss t26 (Value.int IntKind.i64 0) fun t28 =>
  SplitV t28
  (R (Value.bool false) w_5)
  (BinV BinOp.geq t26 v1 fun t32 =>
  SplitV t32
  (R (Value.bool false) w_5)
  (BinV BinOp.add (nthV s 0) (Value.int IntKind.i64 1) fun t34 =>
  K [t34] w_5)))
  (FAddrV 0 t2 fun t35 =>
  LoadV false 1 t35 w_5 fun t36 =>
  BinV BinOp.eql t36 (Value.int IntKind.i64 0) fun t37 =>
  SplitV t37
  (FAddrV 2 t2 fun t38 =>
  LoadV false 1 t38 w_5 fun t39 =>
  CallV Try.prog N.impl_RowValid [t39] w_5 fun t40 w_6 =>
  R t40 w_6)
  (FAddrV 2 t2 fun t41 =>
  LoadV false 1 t41 w_5 fun t42 =>
  LenV t42 fun t43 =>
  BinV BinOp.eql t43 (Value.int IntKind.i64 0) fun t44 =>
  R t44 w_5))))) :
    Calls Try.prog N.impl_nodeFits #[v0, v1] w (Ret R) :=
  callsB (args := [v0, v1]) ⟨(annOf [(4, [23])]), (annOf []), []⟩ Try.func92 rfl (cast (by kernel_rfl) h)

theorem c_impl_planNode_needsAlready (v0 : Value) (v1 : Value) (w : World) (R : Value → World → Prop) (h :
  NilV v0 fun t8 =>
  FAddrV 1 t8 fun t9 =>
  LoadV false 1 t9 w fun t10 =>
  LenV t10 fun t11 =>
  LoopV [Value.int IntKind.i64 0] w fun s _ w_1 K =>
  BinV BinOp.lss (nthV s 0) t11 fun t13 =>
  SplitV t13
  (IdxV 1 t10 (nthV s 0) fun t14 =>
  LoadV false 1 t14 w_1 fun t15 =>
  PEqV false t15 v1 w_1 fun t18 =>
  SplitV t18
  (R (Value.bool true) w_1)
  (BinV BinOp.add (nthV s 0) (Value.int IntKind.i64 1) fun t19 =>
  K [t19] w_1))
  (R (Value.bool false) w_1)) :
    Calls Try.prog N.impl_planNode_needsAlready #[v0, v1] w (Ret R) :=
  callsB (args := [v0, v1]) ⟨(annOf [(2, [12])]), (annOf []), []⟩ Try.func108 rfl (cast (by kernel_rfl) h)

theorem c_impl_planNode_link (v0 : Value) (v1 : Value) (w : World) (R : Value → World → Prop) (h :
  CallV Try.prog N.impl_planNode_needsAlready [v0, v1] w fun t6 w_1 =>
  SplitV t6
  (R (Value.tuple #[]) w_1)
  (NilV v0 fun t9 =>
  FAddrV 1 t9 fun t10 =>
  LoadV false 1 t10 w_1 fun t11 =>
  BSliceV T.p_impl_planNode 1 1 #[Value.pointer none] [(0, v1)] w_1 fun t13 w_2 =>
  AppendV Try.prog T.sl_p_impl_planNode t11 t13 w_2 fun t14 w_3 =>
  NilV v0 fun t15 =>
  FAddrV 1 t15 fun t16 =>
  StoreV 1 t16 t14 w_3 fun w_4 =>
  NilV v1 fun t19 =>
  FAddrV 2 t19 fun t20 =>
  LoadV false 1 t20 w_4 fun t21 =>
  BSliceV T.p_impl_planNode 1 1 #[Value.pointer none] [(0, v0)] w_4 fun t23 w_5 =>
  AppendV Try.prog T.sl_p_impl_planNode t21 t23 w_5 fun t24 w_6 =>
  NilV v1 fun t25 =>
  FAddrV 2 t25 fun t26 =>
  StoreV 1 t26 t24 w_6 fun w_7 =>
  R (Value.tuple #[]) w_7)) :
    Calls Try.prog N.impl_planNode_link #[v0, v1] w (Ret R) :=
  callsB (args := [v0, v1]) ⟨(annOf []), (annOf []), []⟩ Try.func93 rfl (cast (by kernel_rfl) h)

theorem c_impl_graphOf (v0 : Value) (w : World) (R : Value → World → Prop) (h :
  LenV v0 fun t12 =>
  BinV BinOp.gtr t12 (Value.int IntKind.i64 10) fun t13 =>
  SplitV t13
  (R (Value.tuple #[Value.slice none 0 0, Value.bool false]) w)
  (LenV v0 fun t15 =>
  MakeSliceV T.p_impl_planNode 1 8 #[Value.pointer none] (Value.int IntKind.i64 0) t15 w fun t16 w_1 =>
  LenV v0 fun t18 =>
  LoopV [t16, Value.int IntKind.i64 (-1), Value.int IntKind.i64 0] w_1 fun s _ w_2 K =>
  BinV BinOp.lss (nthV s 2) t18 fun t20 =>
  SplitV t20
  (IdxV 3 v0 (nthV s 2) fun t22 =>
  LoadV true 3 t22 w_2 fun t23 =>
  BoxV T.impl_Node (Value.agg #[Value.int IntKind.i64 0, Value.slice none 0 0, Value.slice none 0 0]) w_2 fun t7 w_3 =>
  StoreV 3 t7 t23 w_3 fun w_4 =>
  LoadV true 3 t7 w_4 fun t24 =>
  CallV Try.prog N.impl_nodeFits [t24, nthV s 2] w_4 fun t26 w_5 =>
  NotV t26 fun t27 =>
  SplitV t27
  (R (Value.tuple #[Value.slice none 0 0, Value.bool false]) w_5)
  (JoinV (fun M =>
  FAddrV 0 t7 fun t28 =>
  LoadV false 1 t28 w_5 fun t29 =>
  BinV BinOp.eql t29 (Value.int IntKind.i64 0) fun t30 =>
  SplitV t30
  (BinV BinOp.geq (nthV s 1) (Value.int IntKind.i64 0) fun t32 =>
  SplitV t32
  (FAddrV 2 t7 fun t34 =>
  LoadV false 1 t34 w_5 fun t35 =>
  LenV t35 fun t36 =>
  BinV BinOp.neq t36 (nthV s 1) fun t38 =>
  SplitV t38
  (R (Value.tuple #[Value.slice none 0 0, Value.bool false]) w_5)
  (FAddrV 2 t7 fun t40 =>
  LoadV false 1 t40 w_5 fun t41 =>
  LenV t41 fun t42 =>
  M [t42] w_5))
  (FAddrV 2 t7 fun t40_1 =>
  LoadV false 1 t40_1 w_5 fun t41_1 =>
  LenV t41_1 fun t42_1 =>
  M [t42_1] w_5))
  (M [nthV s 1] w_5))
  (fun s_1 _ w_6 =>
  BuildV #[Value.int IntKind.i64 0, Value.slice none 0 0, Value.slice none 0 0] (fun i => ([(0, 1), (1, 1), (2, 1)] : List (Nat × Nat))[i]?) [(0, nthV s 2)] fun t44 =>
  BoxV T.impl_planNode t44 w_6 fun t45 w_7 =>
  FAddrV 1 t7 fun t46 =>
  LoadV false 1 t46 w_7 fun t47 =>
  LenV t47 fun t48 =>
  LoopV [Value.int IntKind.i64 0] w_7 fun s_2 _ w_8 K_1 =>
  BinV BinOp.lss (nthV s_2 0) t48 fun t50 =>
  SplitV t50
  (IdxV 1 t47 (nthV s_2 0) fun t51 =>
  LoadV false 1 t51 w_8 fun t52 =>
  IdxV 1 (nthV s 0) t52 fun t56 =>
  LoadV false 1 t56 w_8 fun t57 =>
  CallV Try.prog N.impl_planNode_link [t45, t57] w_8 fun _ w_9 =>
  BinV BinOp.add (nthV s_2 0) (Value.int IntKind.i64 1) fun t59 =>
  K_1 [t59] w_9)
  (BSliceV T.p_impl_planNode 1 1 #[Value.pointer none] [(0, t45)] w_8 fun t62 w_10 =>
  AppendV Try.prog T.sl_p_impl_planNode (nthV s 0) t62 w_10 fun t63 w_11 =>
  BinV BinOp.add (nthV s 2) (Value.int IntKind.i64 1) fun t64 =>
  K [t63, nthV s_1 0, t64] w_11))))
  (R (Value.tuple #[nthV s 0, Value.bool true]) w_2))) :
    Calls Try.prog N.impl_graphOf #[v0] w (Ret R) :=
  callsB (args := [v0]) ⟨(annOf [(6, [4, 5, 19]), (16, [49])]), (annOf [(14, [5])]), []⟩ Try.func65 rfl (cast (by kernel_rfl) h)

theorem c_impl_PlanValid (v0 : Value) (w : World) (R : Value → World → Prop) (h :
  CallV Try.prog N.impl_graphOf [v0] w fun t7 w_1 =>
  ExtractV t7 0 fun _ =>
  ExtractV t7 1 fun t9 =>
  R t9 w_1) :
    Calls Try.prog N.impl_PlanValid #[v0] w (Ret R) :=
  callsB (args := [v0]) ⟨(annOf []), (annOf []), []⟩ Try.func34 rfl (cast (by kernel_rfl) h)

theorem c_impl_isNode (v0 : Value) (v1 : Value) (w : World) (R : Value → World → Prop) (h :
  BinV BinOp.geq v1 (Value.int IntKind.i64 0) fun t6 =>
  SplitV t6
  (LenV v0 fun t10 =>
  BinV BinOp.lss v1 t10 fun t11 =>
  R t11 w)
  (R (Value.bool false) w)) :
    Calls Try.prog N.impl_isNode #[v0, v1] w (Ret R) :=
  callsB (args := [v0, v1]) ⟨(annOf []), (annOf []), []⟩ Try.func64 rfl (cast (by kernel_rfl) h)

theorem c_impl_PlanUses (v0 : Value) (v1 : Value) (w : World) (R : Value → World → Prop) (h :
  CallV Try.prog N.impl_graphOf [v0] w fun t12 w_1 =>
  ExtractV t12 0 fun t13 =>
  ExtractV t12 1 fun t14 =>
  NotV t14 fun t16 =>
  SplitV t16
  (R (Value.slice none 0 0) w_1)
  (CallV Try.prog N.impl_isNode [v0, v1] w_1 fun t20 w_2 =>
  NotV t20 fun t21 =>
  SplitV t21
  (R (Value.slice none 0 0) w_2)
  (IdxV 1 t13 v1 fun t25 =>
  LoadV false 1 t25 w_2 fun t26 =>
  NilV t26 fun t27 =>
  FAddrV 2 t27 fun t28 =>
  LoadV false 1 t28 w_2 fun t29 =>
  LenV t29 fun t30 =>
  LoopV [Value.slice none 0 0, Value.int IntKind.i64 0] w_2 fun s _ w_3 K =>
  BinV BinOp.lss (nthV s 1) t30 fun t32 =>
  SplitV t32
  (IdxV 1 t29 (nthV s 1) fun t33 =>
  LoadV false 1 t33 w_3 fun t34 =>
  NilV t34 fun t37 =>
  FAddrV 0 t37 fun t38 =>
  LoadV false 1 t38 w_3 fun t39 =>
  BSliceV T.int 1 1 #[Value.int IntKind.i64 0] [(0, t39)] w_3 fun t40 w_4 =>
  AppendV Try.prog T.sl_int (nthV s 0) t40 w_4 fun t41 w_5 =>
  BinV BinOp.add (nthV s 1) (Value.int IntKind.i64 1) fun t42 =>
  K [t41, t42] w_5)
  (R (nthV s 0) w_3)))) :
    Calls Try.prog N.impl_PlanUses #[v0, v1] w (Ret R) :=
  callsB (args := [v0, v1]) ⟨(annOf [(6, [7, 31])]), (annOf []), []⟩ Try.func114 rfl (cast (by kernel_rfl) h)

theorem c_impl_copyInts (v0 : Value) (w : World) (R : Value → World → Prop) (h :
  AppendV Try.prog T.sl_int (Value.slice none 0 0) v0 w fun t4 w_1 =>
  R t4 w_1) :
    Calls Try.prog N.impl_copyInts #[v0] w (Ret R) :=
  callsB (args := [v0]) ⟨(annOf []), (annOf []), []⟩ Try.func70 rfl (cast (by kernel_rfl) h)

theorem c_impl_copyNode (v0 : Value) (w : World) (R : Value → World → Prop) (h :
  BoxV T.impl_Node v0 w fun t1 w_1 =>
  BoxV T.impl_Node (Value.agg #[Value.int IntKind.i64 0, Value.slice none 0 0, Value.slice none 0 0]) w_1 fun t2 w_2 =>
  DrawV w_2 fun S w_3 =>
  FAddrV 0 t1 fun t3 =>
  LoadS S false 1 t3 w_3 fun t4 =>
  FAddrV 1 t1 fun t5 =>
  LoadS S false 1 t5 w_3 fun t6 =>
  FAddrV 2 t1 fun t8 =>
  LoadS S false 1 t8 w_3 fun t9 =>
  CallV Try.prog N.impl_copyInts [t6] w_3 fun t7 w_4 =>
  Chg S w_3 w_4 ∧
  CallV Try.prog N.impl_copyInts [t9] w_4 fun t10 w_5 =>
  Chg S w_4 w_5 ∧
  BuildV #[Value.int IntKind.i64 0, Value.slice none 0 0, Value.slice none 0 0] (fun i => ([(0, 1), (1, 1), (2, 1)] : List (Nat × Nat))[i]?) [(0, t4), (1, t7), (2, t10)] fun t11 =>
  StoreV 3 t2 t11 w_5 fun w_6 =>
  LoadV true 3 t2 w_6 fun r =>
  R r w_6) :
    Calls Try.prog N.impl_copyNode #[v0] w (Ret R) :=
  callsB (args := [v0]) ⟨(annOf []), (annOf []), []⟩ Try.func86 rfl (cast (by kernel_rfl) h)

theorem c_laws_hasInt (v0 : Value) (v1 : Value) (w : World) (R : Value → World → Prop) (h :
  LoopV [Value.int IntKind.i64 0] w fun s _ w_1 K =>
  LenV v0 fun t8 =>
  BinV BinOp.lss (nthV s 0) t8 fun t9 =>
  SplitV t9
  (IdxV 1 v0 (nthV s 0) fun t14 =>
  LoadV false 1 t14 w_1 fun t15 =>
  BinV BinOp.eql t15 v1 fun t17 =>
  SplitV t17
  (R (Value.bool true) w_1)
  (BinV BinOp.add (nthV s 0) (Value.int IntKind.i64 1) fun t11 =>
  K [t11] w_1))
  (R (Value.bool false) w_1)) :
    Calls Try.prog N.laws_hasInt #[v0, v1] w (Ret R) :=
  callsB (args := [v0, v1]) ⟨(annOf [(2, [5])]), (annOf []), []⟩ Try.func38 rfl (cast (by kernel_rfl) h)

theorem c_spec_l91Row (v0 : Value) (v1 : Value) (w : World) (R : Value → World → Prop) (h :
  BSliceV T.int 1 0 #[Value.int IntKind.i64 0] [] w fun t7 w_1 =>
  LoopV [t7, Value.int IntKind.i64 0] w_1 fun s _ w_2 K =>
  BinV BinOp.lss (nthV s 1) v1 fun t10 =>
  SplitV t10
  (CallV Try.prog N.spec_l6Rd_pick [v0, Value.int IntKind.i64 5] w_2 fun t15 w_3 =>
  CallV Try.prog N.spec_l6Rd_pick [v0, Value.int IntKind.i64 1009] w_3 fun t17 w_4 =>
  BSliceV T.int 1 2 #[Value.int IntKind.i64 0] [(0, t15), (1, t17)] w_4 fun t18 w_5 =>
  CallV Try.prog N.spec_l6Rd_pick [v0, Value.int IntKind.i64 2] w_5 fun t20 w_6 =>
  IdxV 1 t18 t20 fun t21 =>
  LoadV false 1 t21 w_6 fun t22 =>
  BSliceV T.int 1 1 #[Value.int IntKind.i64 0] [(0, t22)] w_6 fun t23 w_7 =>
  AppendV Try.prog T.sl_int (nthV s 0) t23 w_7 fun t24 w_8 =>
  BinV BinOp.add (nthV s 1) (Value.int IntKind.i64 1) fun t12 =>
  K [t24, t12] w_8)
  (BinV BinOp.gtr v1 (Value.int IntKind.i64 0) fun t26 =>
  SplitV t26
  (CallV Try.prog N.spec_l6Rd_pick [v0, Value.int IntKind.i64 50] w_2 fun t29 w_9 =>
  BinV BinOp.eql t29 (Value.int IntKind.i64 0) fun t30 =>
  SplitV t30
  (CallV Try.prog N.spec_l6Rd_pick [v0, v1] w_9 fun t35 w_10 =>
  BSliceV T.int 1 3 #[Value.int IntKind.i64 0] [(0, Value.int IntKind.i64 (-1)), (1, Value.int IntKind.i64 1008), (2, Value.int IntKind.i64 1009)] w_10 fun t36 w_11 =>
  CallV Try.prog N.spec_l6Rd_pick [v0, Value.int IntKind.i64 3] w_11 fun t38 w_12 =>
  IdxV 1 t36 t38 fun t39 =>
  LoadV false 1 t39 w_12 fun t40 =>
  IdxV 1 (nthV s 0) t35 fun t41 =>
  StoreV 1 t41 t40 w_12 fun w_13 =>
  R (nthV s 0) w_13)
  (R (nthV s 0) w_9))
  (R (nthV s 0) w_2))) :
    Calls Try.prog N.spec_l91Row #[v0, v1] w (Ret R) :=
  callsB (args := [v0, v1]) ⟨(annOf [(3, [5, 6])]), (annOf []), []⟩ Try.func95 rfl (cast (by kernel_rfl) h)

theorem c_spec_l91Node (v0 : Value) (v1 : Value) (v2 : Value) (w : World) (R : Value → World → Prop) (h :
  BoxV T.impl_Node (Value.agg #[Value.int IntKind.i64 0, Value.slice none 0 0, Value.slice none 0 0]) w fun t6 w_1 =>
  CallV Try.prog N.spec_l6Rd_pick [v0, Value.int IntKind.i64 6] w_1 fun t10 w_2 =>
  BSliceV T.int 1 0 #[Value.int IntKind.i64 0] [] w_2 fun t11 w_3 =>
  BSliceV T.int 1 0 #[Value.int IntKind.i64 0] [] w_3 fun t12 w_4 =>
  BuildV #[Value.int IntKind.i64 0, Value.slice none 0 0, Value.slice none 0 0] (fun i => ([(0, 1), (1, 1), (2, 1)] : List (Nat × Nat))[i]?) [(0, t10), (1, t11), (2, t12)] fun t13 =>
  BoxV T.impl_Node (Value.agg #[Value.int IntKind.i64 0, Value.slice none 0 0, Value.slice none 0 0]) w_4 fun t7 w_5 =>
  StoreV 3 t7 t13 w_5 fun w_6 =>
  JoinV (fun M =>
  BinV BinOp.eql v1 (Value.int IntKind.i64 0) fun t15 =>
  SplitV t15
  (FAddrV 0 t7 fun t16 =>
  StoreV 1 t16 (Value.int IntKind.i64 0) w_6 fun w_7 =>
  M [] w_7)
  (M [] w_6))
  (fun _ _ w_8 =>
  JoinV (fun M_1 =>
  FAddrV 0 t7 fun t17 =>
  LoadV false 1 t17 w_8 fun t18 =>
  BinV BinOp.eql t18 (Value.int IntKind.i64 0) fun t19 =>
  SplitV t19
  (CallV Try.prog N.spec_l91Row [v0, v2] w_8 fun t22 w_9 =>
  FAddrV 2 t7 fun t23 =>
  StoreV 1 t23 t22 w_9 fun w_10 =>
  M_1 [] w_10)
  (M_1 [] w_8))
  (fun _ _ w_11 =>
  LoopV [Value.int IntKind.i64 0] w_11 fun s_2 _ w_12 K =>
  FAddrV 0 t7 fun t25 =>
  LoadV false 1 t25 w_12 fun t26 =>
  CallV Try.prog N.spec_KindNeeds [t26] w_12 fun t27 w_13 =>
  BinV BinOp.lss (nthV s_2 0) t27 fun t28 =>
  SplitV t28
  (DrawV w_13 fun S w_14 =>
  FAddrV 1 t7 fun t31 =>
  LoadS S false 1 t31 w_14 fun t32 =>
  CallV Try.prog N.spec_l6Rd_pick [v0, v1] w_14 fun t35 w_15 =>
  Chg S w_14 w_15 ∧
  BSliceV T.int 1 1 #[Value.int IntKind.i64 0] [(0, t35)] w_15 fun t36 w_16 =>
  Chg S w_15 w_16 ∧
  AppendV Try.prog T.sl_int t32 t36 w_16 fun t37 w_17 =>
  Chg S w_16 w_17 ∧
  FAddrV 1 t7 fun t38 =>
  StoreV 1 t38 t37 w_17 fun w_18 =>
  BinV BinOp.add (nthV s_2 0) (Value.int IntKind.i64 1) fun t30 =>
  K [t30] w_18)
  (LoadV true 3 t7 w_13 fun t39 =>
  StoreV 3 t6 t39 w_13 fun w_19 =>
  LoadV true 3 t6 w_19 fun r =>
  R r w_19)))) :
    Calls Try.prog N.spec_l91Node #[v0, v1, v2] w (Ret R) :=
  callsB (args := [v0, v1, v2]) ⟨(annOf [(7, [8])]), (annOf [(4, []), (6, [])]), []⟩ Try.func94 rfl (cast (by kernel_rfl) h)

theorem c_spec_l91Plan (v0 : Value) (w : World) (R : Value → World → Prop) (h :
  BSliceV T.impl_Node 3 0 #[Value.int IntKind.i64 0, Value.slice none 0 0, Value.slice none 0 0] [] w fun t7 w_1 =>
  CallV Try.prog N.spec_l6Rd_pick [v0, Value.int IntKind.i64 4] w_1 fun t9 w_2 =>
  CallV Try.prog N.spec_l6Rd_pick [v0, Value.int IntKind.i64 8] w_2 fun t11 w_3 =>
  BinV BinOp.add (Value.int IntKind.i64 1) t11 fun t12 =>
  JoinV (fun M =>
  CallV Try.prog N.spec_l6Rd_pick [v0, Value.int IntKind.i64 16] w_3 fun t14 w_4 =>
  BinV BinOp.eql t14 (Value.int IntKind.i64 0) fun t15 =>
  SplitV t15
  (BSliceV T.int 1 3 #[Value.int IntKind.i64 0] [(0, Value.int IntKind.i64 0), (1, Value.int IntKind.i64 10), (2, Value.int IntKind.i64 11)] w_4 fun t16 w_5 =>
  CallV Try.prog N.spec_l6Rd_pick [v0, Value.int IntKind.i64 3] w_5 fun t18 w_6 =>
  IdxV 1 t16 t18 fun t19 =>
  LoadV false 1 t19 w_6 fun t20 =>
  M [t20] w_6)
  (M [t12] w_4))
  (fun s _ w_7 =>
  LoopV [t7, Value.int IntKind.i64 0] w_7 fun s_1 _ w_8 K =>
  BinV BinOp.lss (nthV s_1 1) (nthV s 0) fun t23 =>
  SplitV t23
  (CallV Try.prog N.spec_l91Node [v0, nthV s_1 1, t9] w_8 fun t30 w_9 =>
  BSliceV T.impl_Node 3 1 #[Value.int IntKind.i64 0, Value.slice none 0 0, Value.slice none 0 0] [(0, t30)] w_9 fun t31 w_10 =>
  AppendV Try.prog T.sl_impl_Node (nthV s_1 0) t31 w_10 fun t32 w_11 =>
  BinV BinOp.add (nthV s_1 1) (Value.int IntKind.i64 1) fun t25 =>
  K [t32, t25] w_11)
  (JoinV (fun M_1 =>
  BinV BinOp.gtr (nthV s 0) (Value.int IntKind.i64 1) fun t34 =>
  SplitV t34
  (CallV Try.prog N.spec_l6Rd_pick [v0, Value.int IntKind.i64 40] w_8 fun t36 w_12 =>
  BinV BinOp.eql t36 (Value.int IntKind.i64 0) fun t38 =>
  SplitV t38
  (BinV BinOp.sub (nthV s 0) (Value.int IntKind.i64 1) fun t41 =>
  BinV BinOp.sub (nthV s 0) (Value.int IntKind.i64 1) fun t43 =>
  BSliceV T.int 1 1 #[Value.int IntKind.i64 0] [(0, t43)] w_12 fun t44 w_13 =>
  BuildV #[Value.int IntKind.i64 0, Value.slice none 0 0, Value.slice none 0 0] (fun i => ([(0, 1), (1, 1), (2, 1)] : List (Nat × Nat))[i]?) [(0, Value.int IntKind.i64 4), (1, t44)] fun t45 =>
  IdxV 3 (nthV s_1 0) t41 fun t46 =>
  StoreV 3 t46 t45 w_13 fun w_14 =>
  M_1 [] w_14)
  (BinV BinOp.eql t36 (Value.int IntKind.i64 1) fun t48 =>
  SplitV t48
  (BinV BinOp.sub (nthV s 0) (Value.int IntKind.i64 1) fun t51 =>
  BinV BinOp.add t9 (Value.int IntKind.i64 1) fun t54 =>
  CallV Try.prog N.spec_l91Row [v0, t54] w_12 fun t55 w_15 =>
  BuildV #[Value.int IntKind.i64 0, Value.slice none 0 0, Value.slice none 0 0] (fun i => ([(0, 1), (1, 1), (2, 1)] : List (Nat × Nat))[i]?) [(0, Value.int IntKind.i64 0), (2, t55)] fun t56 =>
  IdxV 3 (nthV s_1 0) t51 fun t57 =>
  StoreV 3 t57 t56 w_15 fun w_16 =>
  M_1 [] w_16)
  (M_1 [] w_12)))
  (M_1 [] w_8))
  (fun _ _ w_17 =>
  R (nthV s_1 0) w_17)))) :
    Calls Try.prog N.spec_l91Plan #[v0] w (Ret R) :=
  callsB (args := [v0]) ⟨(annOf [(7, [3, 6])]), (annOf [(6, [5]), (16, [])]), []⟩ Try.func67 rfl (cast (by kernel_rfl) h)

end Go.Proofs.Ytblgkpfnjlobjaa
