/- The conditions of functions, off their texts. Printed by a program; Lean checks each one. -/
import Derived.Test.YtmbfkhacejnnhaaNames
import Derived.Test.YtmbfkhacejnnhaaV9
namespace Go.Proofs.Ytmbfkhacejnnhaa
open Go Go.V
set_option maxRecDepth 100000
theorem c_laws_sameNode (v0 : Value) (v1 : Value) (w : World) (R : Value → World → Prop) (h :
  BoxV T.impl_Node v0 w fun t2 w_1 =>
  BoxV T.impl_Node v1 w_1 fun t3 w_2 =>
  FAddrV 0 t2 fun t5 =>
  LoadV false 1 t5 w_2 fun t6 =>
  FAddrV 0 t3 fun t7 =>
  LoadV false 1 t7 w_2 fun t8 =>
  BinV BinOp.eql t6 t8 fun t9 =>
  SplitV t9
  (FAddrV 1 t2 fun t11 =>
  LoadV false 1 t11 w_2 fun t12 =>
  FAddrV 1 t3 fun t13 =>
  LoadV false 1 t13 w_2 fun t14 =>
  CallV Try.prog N.laws_sameRow [t12, t14] w_2 fun t15 w_3 =>
  SplitV t15
  (FAddrV 2 t2 fun t18 =>
  LoadV false 1 t18 w_3 fun t19 =>
  FAddrV 2 t3 fun t20 =>
  LoadV false 1 t20 w_3 fun t21 =>
  CallV Try.prog N.laws_sameRow [t19, t21] w_3 fun t22 w_4 =>
  R t22 w_4)
  (R (Value.bool false) w_3))
  (R (Value.bool false) w_2)) :
    Calls Try.prog N.laws_sameNode #[v0, v1] w (Ret R) :=
  callsB (args := [v0, v1]) ⟨(annOf []), (annOf []), []⟩ Try.func33 rfl (cast (by kernel_rfl) h)

theorem c_laws_samePlan (v0 : Value) (v1 : Value) (w : World) (R : Value → World → Prop) (h :
  LenV v0 fun t7 =>
  LenV v1 fun t9 =>
  BinV BinOp.neq t7 t9 fun t10 =>
  SplitV t10
  (R (Value.bool false) w)
  (LoopV [Value.int IntKind.i64 0] w fun s _ w_1 K =>
  LenV v0 fun t13 =>
  BinV BinOp.lss (nthV s 0) t13 fun t14 =>
  SplitV t14
  (DrawV w_1 fun S w_2 =>
  IdxV 3 v0 (nthV s 0) fun t19 =>
  LoadS S true 3 t19 w_2 fun t20 =>
  IdxV 3 v1 (nthV s 0) fun t23 =>
  LoadS S true 3 t23 w_2 fun t24 =>
  CallV Try.prog N.laws_sameNode [t20, t24] w_2 fun t25 w_3 =>
  Chg S w_2 w_3 ∧
  NotV t25 fun t26 =>
  SplitV t26
  (R (Value.bool false) w_3)
  (BinV BinOp.add (nthV s 0) (Value.int IntKind.i64 1) fun t16 =>
  K [t16] w_3))
  (R (Value.bool true) w_1))) :
    Calls Try.prog N.laws_samePlan #[v0, v1] w (Ret R) :=
  callsB (args := [v0, v1]) ⟨(annOf [(4, [5])]), (annOf []), []⟩ Try.func16 rfl (cast (by kernel_rfl) h)

end Go.Proofs.Ytmbfkhacejnnhaa
