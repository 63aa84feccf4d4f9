/- The conditions of functions, off their texts. Printed by a program; Lean checks each one. -/
import Derived.Test.YtebllnbjldladaaNames
import Derived.Test.YtebllnbjldladaaV9
namespace Go.Proofs.Ytebllnbjldladaa
open Go Go.V
set_option maxRecDepth 100000
theorem c_laws_FnOrderReady (v0 : Value) (v1 : Value) (w : World) (R : Value → World → Prop) (h :
  LenV v0 fun t11 =>
  BinV BinOp.gtr t11 (Value.int IntKind.i64 1048576) fun t12 =>
  SplitV t12
  (R (Value.bool true) w)
  (LenV v1 fun t15 =>
  BinV BinOp.gtr t15 (Value.int IntKind.i64 1048576) fun t16 =>
  SplitV t16
  (R (Value.bool true) w)
  (CallV Try.prog N.spec_DrawOrderFits [v0] w fun t20 w_1 =>
  ExtractV t20 0 fun t21 =>
  ExtractV t20 1 fun t22 =>
  CallV Try.prog N.impl_OrderFits [t21, t22] w_1 fun t25 w_2 =>
  CallV Try.prog N.spec_OrderFits [t21, t22] w_2 fun t28 w_3 =>
  BoolV BinOp.neq t25 t28 fun t31 =>
  SplitV t31
  (BoolV BinOp.eql t25 t28 fun t38 =>
  R t38 w_3)
  (NotV t25 fun t34 =>
  SplitV t34
  (BoolV BinOp.eql t25 t28 fun t38_1 =>
  R t38_1 w_3)
  (LenV v1 fun t40 =>
  LenV t22 fun t42 =>
  BinV BinOp.add t42 (Value.int IntKind.i64 1) fun t43 =>
  BinV BinOp.rem t40 t43 fun t44 =>
  SliceV 1 t22 none (some t44) fun t48 =>
  CallV Try.prog N.impl_ReadyOf [t21, t48] w_3 fun t49 w_4 =>
  LenV t49 fun t50 =>
  BinV BinOp.eql t50 (Value.int IntKind.i64 0) fun t51 =>
  LenV t22 fun t54 =>
  BinV BinOp.eql t44 t54 fun t55 =>
  BoolV BinOp.eql t51 t55 fun t56 =>
  R t56 w_4))))) :
    Calls Try.prog N.laws_FnOrderReady #[v0, v1] w (Ret R) :=
  callsB (args := [v0, v1]) ⟨(annOf []), (annOf []), []⟩ Try.func7 rfl (cast (by kernel_rfl) h)

end Go.Proofs.Ytebllnbjldladaa
