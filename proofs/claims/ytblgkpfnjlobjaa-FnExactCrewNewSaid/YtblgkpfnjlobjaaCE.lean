/- The conditions of functions, off their texts. Printed by a program; Lean checks each one. -/
import Derived.Test.YtblgkpfnjlobjaaNames
import Derived.Test.YtblgkpfnjlobjaaV9
namespace Go.Proofs.Ytblgkpfnjlobjaa
open Go Go.V
set_option maxRecDepth 100000
theorem c_laws_szIntS (v0 : Value) (v1 : Value) (w : World) (R : Value → World → Prop) (h :
  LenV v0 fun t7 =>
  BinV BinOp.sub v1 t7 fun t8 =>
  BinV BinOp.lss t8 (Value.int IntKind.i64 0) fun t10 =>
  SplitV t10
  (R (Value.int IntKind.i64 (-1)) w)
  (R t8 w)) :
    Calls Try.prog N.laws_szIntS #[v0, v1] w (Ret R) :=
  callsB (args := [v0, v1]) ⟨(annOf []), (annOf []), []⟩ Try.func82 rfl (cast (by kernel_rfl) h)

theorem c_laws_szNode (v0 : Value) (v1 : Value) (w : World) (R : Value → World → Prop) (h :
  BoxV T.laws_Node v0 w fun t2 w_1 =>
  FAddrV 1 t2 fun t5 =>
  LoadV false 1 t5 w_1 fun t6 =>
  CallV Try.prog N.laws_szIntS [t6, v1] w_1 fun t8 w_2 =>
  BinV BinOp.lss t8 (Value.int IntKind.i64 0) fun t10 =>
  SplitV t10
  (R (Value.int IntKind.i64 (-1)) w_2)
  (FAddrV 2 t2 fun t11 =>
  LoadV false 1 t11 w_2 fun t12 =>
  CallV Try.prog N.laws_szIntS [t12, t8] w_2 fun t14 w_3 =>
  BinV BinOp.lss t14 (Value.int IntKind.i64 0) fun t16 =>
  SplitV t16
  (R (Value.int IntKind.i64 (-1)) w_3)
  (R t14 w_3))) :
    Calls Try.prog N.laws_szNode #[v0, v1] w (Ret R) :=
  callsB (args := [v0, v1]) ⟨(annOf []), (annOf []), []⟩ Try.func48 rfl (cast (by kernel_rfl) h)

theorem c_laws_szNodeS (v0 : Value) (v1 : Value) (w : World) (R : Value → World → Prop) (h :
  LenV v0 fun t8 =>
  BinV BinOp.sub v1 t8 fun t9 =>
  BinV BinOp.lss t9 (Value.int IntKind.i64 0) fun t11 =>
  SplitV t11
  (R (Value.int IntKind.i64 (-1)) w)
  (LoopV [t9, Value.int IntKind.i64 0] w fun s _ w_1 K =>
  LenV v0 fun t14 =>
  BinV BinOp.lss (nthV s 1) t14 fun t15 =>
  SplitV t15
  (IdxV 3 v0 (nthV s 1) fun t20 =>
  LoadV true 3 t20 w_1 fun t21 =>
  CallV Try.prog N.laws_szNode [t21, nthV s 0] w_1 fun t23 w_2 =>
  BinV BinOp.lss t23 (Value.int IntKind.i64 0) fun t25 =>
  SplitV t25
  (R (Value.int IntKind.i64 (-1)) w_2)
  (BinV BinOp.add (nthV s 1) (Value.int IntKind.i64 1) fun t17 =>
  K [t23, t17] w_2))
  (R (nthV s 0) w_1))) :
    Calls Try.prog N.laws_szNodeS #[v0, v1] w (Ret R) :=
  callsB (args := [v0, v1]) ⟨(annOf [(5, [1, 5])]), (annOf []), []⟩ Try.func15 rfl (cast (by kernel_rfl) h)

theorem c_laws_toNode (v0 : Value) (w : World) (R : Value → World → Prop) (h :
  BoxV T.laws_Node v0 w fun t1 w_1 =>
  BoxV T.impl_Node (Value.agg #[Value.int IntKind.i64 0, Value.slice none 0 0, Value.slice none 0 0]) w_1 fun t2 w_2 =>
  BoxV T.impl_Node (Value.agg #[Value.int IntKind.i64 0, Value.slice none 0 0, Value.slice none 0 0]) w_2 fun t3 w_3 =>
  FAddrV 0 t1 fun t4 =>
  LoadV false 1 t4 w_3 fun t5 =>
  FAddrV 0 t3 fun t6 =>
  StoreV 1 t6 t5 w_3 fun w_4 =>
  FAddrV 1 t1 fun t7 =>
  LoadV false 1 t7 w_4 fun t8 =>
  CallV Try.prog N.laws_toIntS [t8] w_4 fun t9 w_5 =>
  FAddrV 1 t3 fun t10 =>
  StoreV 1 t10 t9 w_5 fun w_6 =>
  FAddrV 2 t1 fun t11 =>
  LoadV false 1 t11 w_6 fun t12 =>
  CallV Try.prog N.laws_toIntS [t12] w_6 fun t13 w_7 =>
  FAddrV 2 t3 fun t14 =>
  StoreV 1 t14 t13 w_7 fun w_8 =>
  LoadV true 3 t3 w_8 fun t15 =>
  StoreV 3 t2 t15 w_8 fun w_9 =>
  LoadV true 3 t2 w_9 fun r =>
  R r w_9) :
    Calls Try.prog N.laws_toNode #[v0] w (Ret R) :=
  callsB (args := [v0]) ⟨(annOf []), (annOf []), []⟩ Try.func53 rfl (cast (by kernel_rfl) h)

theorem c_laws_toNodeS (v0 : Value) (w : World) (R : Value → World → Prop) (h :
  LenV v0 fun t6 =>
  MakeSliceV T.impl_Node 3 56 #[Value.int IntKind.i64 0, Value.slice none 0 0, Value.slice none 0 0] t6 t6 w fun t7 w_1 =>
  LoopV [Value.int IntKind.i64 0] w_1 fun s _ w_2 K =>
  LenV v0 fun t10 =>
  BinV BinOp.lss (nthV s 0) t10 fun t11 =>
  SplitV t11
  (IdxV 3 v0 (nthV s 0) fun t18 =>
  LoadV true 3 t18 w_2 fun t19 =>
  CallV Try.prog N.laws_toNode [t19] w_2 fun t20 w_3 =>
  IdxV 3 t7 (nthV s 0) fun t21 =>
  StoreV 3 t21 t20 w_3 fun w_4 =>
  BinV BinOp.add (nthV s 0) (Value.int IntKind.i64 1) fun t13 =>
  K [t13] w_4)
  (R t7 w_2)) :
    Calls Try.prog N.laws_toNodeS #[v0] w (Ret R) :=
  callsB (args := [v0]) ⟨(annOf [(3, [4])]), (annOf []), []⟩ Try.func17 rfl (cast (by kernel_rfl) h)

theorem c_laws_eqNode (v0 : Value) (v1 : Value) (w : World) (R : Value → World → Prop) (h :
  BoxV T.impl_Node v0 w fun t2 w_1 =>
  BoxV T.impl_Node v1 w_1 fun t3 w_2 =>
  FAddrV 0 t2 fun t5 =>
  LoadV false 1 t5 w_2 fun t6 =>
  FAddrV 0 t3 fun t7 =>
  LoadV false 1 t7 w_2 fun t8 =>
  BinV BinOp.neq t6 t8 fun t9 =>
  SplitV t9
  (R (Value.bool false) w_2)
  (FAddrV 1 t2 fun t10 =>
  LoadV false 1 t10 w_2 fun t11 =>
  FAddrV 1 t3 fun t12 =>
  LoadV false 1 t12 w_2 fun t13 =>
  CallV Try.prog N.laws_eqIntS [t11, t13] w_2 fun t14 w_3 =>
  NotV t14 fun t15 =>
  SplitV t15
  (R (Value.bool false) w_3)
  (FAddrV 2 t2 fun t16 =>
  LoadV false 1 t16 w_3 fun t17 =>
  FAddrV 2 t3 fun t18 =>
  LoadV false 1 t18 w_3 fun t19 =>
  CallV Try.prog N.laws_eqIntS [t17, t19] w_3 fun t20 w_4 =>
  NotV t20 fun t21 =>
  SplitV t21
  (R (Value.bool false) w_4)
  (R (Value.bool true) w_4)))) :
    Calls Try.prog N.laws_eqNode #[v0, v1] w (Ret R) :=
  callsB (args := [v0, v1]) ⟨(annOf []), (annOf []), []⟩ Try.func54 rfl (cast (by kernel_rfl) h)

theorem c_laws_eqNodeS (v0 : Value) (v1 : Value) (w : World) (R : Value → World → Prop) (h :
  LenV v0 fun t7 =>
  LenV v1 fun t9 =>
  BinV BinOp.neq t7 t9 fun t10 =>
  SplitV t10
  (R (Value.bool false) w)
  (LoopV [Value.int IntKind.i64 0] w fun s _ w_1 K =>
  LenV v0 fun t13 =>
  BinV BinOp.lss (nthV s 0) t13 fun t14 =>
  SplitV t14
  (DrawV w_1 fun S w_2 =>
  IdxV 3 v0 (nthV s 0) fun t19 =>
  LoadS S true 3 t19 w_2 fun t20 =>
  IdxV 3 v1 (nthV s 0) fun t23 =>
  LoadS S true 3 t23 w_2 fun t24 =>
  CallV Try.prog N.laws_eqNode [t20, t24] w_2 fun t25 w_3 =>
  Chg S w_2 w_3 ∧
  NotV t25 fun t26 =>
  SplitV t26
  (R (Value.bool false) w_3)
  (BinV BinOp.add (nthV s 0) (Value.int IntKind.i64 1) fun t16 =>
  K [t16] w_3))
  (R (Value.bool true) w_1))) :
    Calls Try.prog N.laws_eqNodeS #[v0, v1] w (Ret R) :=
  callsB (args := [v0, v1]) ⟨(annOf [(4, [5])]), (annOf []), []⟩ Try.func19 rfl (cast (by kernel_rfl) h)

theorem c_laws_markNodeS (v0 : Value) (v1 : Value) (w : World) (R : Value → World → Prop) (h :
  LoopV [v1, Value.int IntKind.i64 0] w fun s _ w_1 K =>
  LenV v0 fun t8 =>
  BinV BinOp.lss (nthV s 1) t8 fun t9 =>
  SplitV t9
  (IdxV 3 v0 (nthV s 1) fun t15 =>
  FAddrV 0 t15 fun t16 =>
  StoreV 1 t16 (nthV s 0) w_1 fun w_2 =>
  BinV BinOp.add (nthV s 0) (Value.int IntKind.i64 1) fun t18 =>
  IdxV 3 v0 (nthV s 1) fun t21 =>
  FAddrV 1 t21 fun t22 =>
  LoadV false 1 t22 w_2 fun t23 =>
  CallV Try.prog N.laws_markIntS [t23, t18] w_2 fun t25 w_3 =>
  IdxV 3 v0 (nthV s 1) fun t28 =>
  FAddrV 2 t28 fun t29 =>
  LoadV false 1 t29 w_3 fun t30 =>
  CallV Try.prog N.laws_markIntS [t30, t25] w_3 fun t32 w_4 =>
  BinV BinOp.add (nthV s 1) (Value.int IntKind.i64 1) fun t11 =>
  K [t32, t11] w_4)
  (R (nthV s 0) w_1)) :
    Calls Try.prog N.laws_markNodeS #[v0, v1] w (Ret R) :=
  callsB (args := [v0, v1]) ⟨(annOf [(2, [1, 5])]), (annOf []), []⟩ Try.func20 rfl (cast (by kernel_rfl) h)

theorem c_laws_heldNodeS (v0 : Value) (v1 : Value) (w : World) (R : Value → World → Prop) (h :
  LoopV [v1, Value.int IntKind.i64 0] w fun s _ w_1 K =>
  LenV v0 fun t8 =>
  BinV BinOp.lss (nthV s 1) t8 fun t9 =>
  SplitV t9
  (IdxV 3 v0 (nthV s 1) fun t14 =>
  FAddrV 0 t14 fun t15 =>
  LoadV false 1 t15 w_1 fun t16 =>
  BinV BinOp.neq t16 (nthV s 0) fun t18 =>
  SplitV t18
  (R (Value.int IntKind.i64 (-1)) w_1)
  (BinV BinOp.add (nthV s 0) (Value.int IntKind.i64 1) fun t20 =>
  IdxV 3 v0 (nthV s 1) fun t23 =>
  FAddrV 1 t23 fun t24 =>
  LoadV false 1 t24 w_1 fun t25 =>
  CallV Try.prog N.laws_heldIntS [t25, t20] w_1 fun t27 w_2 =>
  BinV BinOp.lss t27 (Value.int IntKind.i64 0) fun t29 =>
  SplitV t29
  (R (Value.int IntKind.i64 (-1)) w_2)
  (IdxV 3 v0 (nthV s 1) fun t32 =>
  FAddrV 2 t32 fun t33 =>
  LoadV false 1 t33 w_2 fun t34 =>
  CallV Try.prog N.laws_heldIntS [t34, t27] w_2 fun t36 w_3 =>
  BinV BinOp.lss t36 (Value.int IntKind.i64 0) fun t38 =>
  SplitV t38
  (R (Value.int IntKind.i64 (-1)) w_3)
  (BinV BinOp.add (nthV s 1) (Value.int IntKind.i64 1) fun t11 =>
  K [t36, t11] w_3))))
  (R (nthV s 0) w_1)) :
    Calls Try.prog N.laws_heldNodeS #[v0, v1] w (Ret R) :=
  callsB (args := [v0, v1]) ⟨(annOf [(2, [1, 5])]), (annOf []), []⟩ Try.func21 rfl (cast (by kernel_rfl) h)

end Go.Proofs.Ytblgkpfnjlobjaa
