/- The conditions of functions, off their texts. Printed by a program; Lean checks each one. -/
import Derived.Test.YtblgkpfnjlobjaaNames
import Derived.Test.YtblgkpfnjlobjaaV9
namespace Go.Proofs.Ytblgkpfnjlobjaa
open Go Go.V
set_option maxRecDepth 100000
theorem c_spec_l13Same (v0 : Value) (v1 : Value) (w : World) (R : Value → World → Prop) (h :
  LenV v0 fun t7 =>
  LenV v1 fun t9 =>
  BinV BinOp.neq t7 t9 fun t10 =>
  SplitV t10
  (R (Value.bool false) w)
  (LoopV [Value.int IntKind.i64 0] w fun s _ w_1 K =>
  LenV v0 fun t13 =>
  BinV BinOp.lss (nthV s 0) t13 fun t14 =>
  SplitV t14
  (DrawV w_1 fun S w_2 =>
  IdxV 1 v0 (nthV s 0) fun t19 =>
  LoadS S false 1 t19 w_2 fun t20 =>
  IdxV 1 v1 (nthV s 0) fun t23 =>
  LoadS S false 1 t23 w_2 fun t24 =>
  BinV BinOp.neq t20 t24 fun t25 =>
  SplitV t25
  (R (Value.bool false) w_2)
  (BinV BinOp.add (nthV s 0) (Value.int IntKind.i64 1) fun t16 =>
  K [t16] w_2))
  (R (Value.bool true) w_1))) :
    Calls Try.prog N.spec_l13Same #[v0, v1] w (Ret R) :=
  callsB (args := [v0, v1]) ⟨(annOf [(4, [5])]), (annOf []), []⟩ Try.func62 rfl (cast (by kernel_rfl) h)

end Go.Proofs.Ytblgkpfnjlobjaa
