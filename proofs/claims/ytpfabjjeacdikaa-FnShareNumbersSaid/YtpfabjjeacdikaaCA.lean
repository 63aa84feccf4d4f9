/- The conditions of functions, off their texts. Printed by a program; Lean checks each one. -/
import Derived.Test.YtpfabjjeacdikaaNames
import Derived.Test.YtpfabjjeacdikaaV9
namespace Go.Proofs.Ytpfabjjeacdikaa
open Go Go.V
set_option maxRecDepth 100000
theorem c_laws_toIntS (v0 : Value) (w : World) (R : Value → World → Prop) (h :
  LenV v0 fun t6 =>
  MakeSliceV T.int 1 8 #[Value.int IntKind.i64 0] t6 t6 w fun t7 w_1 =>
  LoopV [Value.int IntKind.i64 0] w_1 fun s _ w_2 K =>
  LenV v0 fun t10 =>
  BinV BinOp.lss (nthV s 0) t10 fun t11 =>
  SplitV t11
  (IdxV 1 v0 (nthV s 0) fun t18 =>
  LoadV false 1 t18 w_2 fun t19 =>
  IdxV 1 t7 (nthV s 0) fun t20 =>
  StoreV 1 t20 t19 w_2 fun w_3 =>
  BinV BinOp.add (nthV s 0) (Value.int IntKind.i64 1) fun t13 =>
  K [t13] w_3)
  (R t7 w_2)) :
    Calls Try.prog N.laws_toIntS #[v0] w (Ret R) :=
  callsB (args := [v0]) ⟨(annOf [(3, [4])]), (annOf []), []⟩ Try.func36 rfl (cast (by kernel_rfl) h)

theorem c_laws_eqIntS (v0 : Value) (v1 : Value) (w : World) (R : Value → World → Prop) (h :
  LenV v0 fun t7 =>
  LenV v1 fun t9 =>
  BinV BinOp.neq t7 t9 fun t10 =>
  SplitV t10
  (R (Value.bool false) w)
  (LoopV [Value.int IntKind.i64 0] w fun s _ w_1 K =>
  LenV v0 fun t13 =>
  BinV BinOp.lss (nthV s 0) t13 fun t14 =>
  SplitV t14
  (DrawV w_1 fun S w_2 =>
  IdxV 1 v0 (nthV s 0) fun t19 =>
  LoadS S false 1 t19 w_2 fun t20 =>
  IdxV 1 v1 (nthV s 0) fun t23 =>
  LoadS S false 1 t23 w_2 fun t24 =>
  BinV BinOp.neq t20 t24 fun t25 =>
  SplitV t25
  (R (Value.bool false) w_2)
  (BinV BinOp.add (nthV s 0) (Value.int IntKind.i64 1) fun t16 =>
  K [t16] w_2))
  (R (Value.bool true) w_1))) :
    Calls Try.prog N.laws_eqIntS #[v0, v1] w (Ret R) :=
  callsB (args := [v0, v1]) ⟨(annOf [(4, [5])]), (annOf []), []⟩ Try.func27 rfl (cast (by kernel_rfl) h)

theorem c_laws_markIntS (v0 : Value) (v1 : Value) (w : World) (R : Value → World → Prop) (h :
  LoopV [v1, Value.int IntKind.i64 0] w fun s _ w_1 K =>
  LenV v0 fun t8 =>
  BinV BinOp.lss (nthV s 1) t8 fun t9 =>
  SplitV t9
  (IdxV 1 v0 (nthV s 1) fun t15 =>
  StoreV 1 t15 (nthV s 0) w_1 fun w_2 =>
  BinV BinOp.add (nthV s 0) (Value.int IntKind.i64 1) fun t17 =>
  BinV BinOp.add (nthV s 1) (Value.int IntKind.i64 1) fun t11 =>
  K [t17, t11] w_2)
  (R (nthV s 0) w_1)) :
    Calls Try.prog N.laws_markIntS #[v0, v1] w (Ret R) :=
  callsB (args := [v0, v1]) ⟨(annOf [(2, [1, 5])]), (annOf []), []⟩ Try.func30 rfl (cast (by kernel_rfl) h)

theorem c_laws_heldIntS (v0 : Value) (v1 : Value) (w : World) (R : Value → World → Prop) (h :
  LoopV [v1, Value.int IntKind.i64 0] w fun s _ w_1 K =>
  LenV v0 fun t8 =>
  BinV BinOp.lss (nthV s 1) t8 fun t9 =>
  SplitV t9
  (IdxV 1 v0 (nthV s 1) fun t14 =>
  LoadV false 1 t14 w_1 fun t15 =>
  BinV BinOp.neq t15 (nthV s 0) fun t17 =>
  SplitV t17
  (R (Value.int IntKind.i64 (-1)) w_1)
  (BinV BinOp.add (nthV s 0) (Value.int IntKind.i64 1) fun t19 =>
  BinV BinOp.add (nthV s 1) (Value.int IntKind.i64 1) fun t11 =>
  K [t19, t11] w_1))
  (R (nthV s 0) w_1)) :
    Calls Try.prog N.laws_heldIntS #[v0, v1] w (Ret R) :=
  callsB (args := [v0, v1]) ⟨(annOf [(2, [1, 5])]), (annOf []), []⟩ Try.func31 rfl (cast (by kernel_rfl) h)

theorem c_laws_sameRow (v0 : Value) (v1 : Value) (w : World) (R : Value → World → Prop) (h :
  LenV v0 fun t7 =>
  LenV v1 fun t9 =>
  BinV BinOp.neq t7 t9 fun t10 =>
  SplitV t10
  (R (Value.bool false) w)
  (LoopV [Value.int IntKind.i64 0] w fun s _ w_1 K =>
  LenV v0 fun t13 =>
  BinV BinOp.lss (nthV s 0) t13 fun t14 =>
  SplitV t14
  (DrawV w_1 fun S w_2 =>
  IdxV 1 v0 (nthV s 0) fun t19 =>
  LoadS S false 1 t19 w_2 fun t20 =>
  IdxV 1 v1 (nthV s 0) fun t23 =>
  LoadS S false 1 t23 w_2 fun t24 =>
  BinV BinOp.neq t20 t24 fun t25 =>
  SplitV t25
  (R (Value.bool false) w_2)
  (BinV BinOp.add (nthV s 0) (Value.int IntKind.i64 1) fun t16 =>
  K [t16] w_2))
  (R (Value.bool true) w_1))) :
    Calls Try.prog N.laws_sameRow #[v0, v1] w (Ret R) :=
  callsB (args := [v0, v1]) ⟨(annOf [(4, [5])]), (annOf []), []⟩ Try.func23 rfl (cast (by kernel_rfl) h)

theorem c_spec_l6In (v0 : Value) (v1 : Value) (v2 : Value) (w : World) (R : Value → World → Prop) (h :
  BinV BinOp.geq v0 v1 fun t9 =>
  SplitV t9
  (BinV BinOp.leq v0 v2 fun t13 =>
  R t13 w)
  (R (Value.bool false) w)) :
    Calls Try.prog N.spec_l6In #[v0, v1, v2] w (Ret R) :=
  callsB (args := [v0, v1, v2]) ⟨(annOf []), (annOf []), []⟩ Try.func59 rfl (cast (by kernel_rfl) h)

theorem c_spec_l3Has (v0 : Value) (v1 : Value) (w : World) (R : Value → World → Prop) (h :
  LoopV [Value.int IntKind.i64 0] w fun s _ w_1 K =>
  LenV v0 fun t8 =>
  BinV BinOp.lss (nthV s 0) t8 fun t9 =>
  SplitV t9
  (IdxV 1 v0 (nthV s 0) fun t14 =>
  LoadV false 1 t14 w_1 fun t15 =>
  BinV BinOp.eql t15 v1 fun t17 =>
  SplitV t17
  (R (Value.bool true) w_1)
  (BinV BinOp.add (nthV s 0) (Value.int IntKind.i64 1) fun t11 =>
  K [t11] w_1))
  (R (Value.bool false) w_1)) :
    Calls Try.prog N.spec_l3Has #[v0, v1] w (Ret R) :=
  callsB (args := [v0, v1]) ⟨(annOf [(2, [5])]), (annOf []), []⟩ Try.func60 rfl (cast (by kernel_rfl) h)

end Go.Proofs.Ytpfabjjeacdikaa
