/- The conditions of functions, off their texts. Printed by a program; Lean checks each one. -/
import Derived.Test.YtpfabjjeacdikaaNames
import Derived.Test.YtpfabjjeacdikaaV9
namespace Go.Proofs.Ytpfabjjeacdikaa
open Go Go.V
set_option maxRecDepth 100000
theorem c_laws_FnOrder (v0 : Value) (w : World) (R : Value → World → Prop) (h :
  LenV v0 fun t9 =>
  BinV BinOp.gtr t9 (Value.int IntKind.i64 1048576) fun t10 =>
  SplitV t10
  (R (Value.bool true) w)
  (CallV Try.prog N.spec_DrawOrderFits [v0] w fun t13 w_1 =>
  ExtractV t13 0 fun t14 =>
  ExtractV t13 1 fun t15 =>
  CallV Try.prog N.impl_OrderFits [t14, t15] w_1 fun t18 w_2 =>
  CallV Try.prog N.spec_OrderFits [t14, t15] w_2 fun t21 w_3 =>
  BoolV BinOp.neq t18 t21 fun t24 =>
  SplitV t24
  (BoolV BinOp.eql t18 t21 fun t31 =>
  R t31 w_3)
  (NotV t18 fun t27 =>
  SplitV t27
  (BoolV BinOp.eql t18 t21 fun t31_1 =>
  R t31_1 w_3)
  (LoopV [Value.int IntKind.i64 0] w_3 fun s _ w_4 K =>
  LenV t15 fun t34 =>
  BinV BinOp.lss (nthV s 0) t34 fun t35 =>
  SplitV t35
  (DrawV w_4 fun S w_5 =>
  SliceV 1 t15 none (some (nthV s 0)) fun t40 =>
  IdxV 1 t15 (nthV s 0) fun t43 =>
  LoadS S false 1 t43 w_5 fun t44 =>
  CallV Try.prog N.laws_hasInt [t40, t44] w_5 fun t45 w_6 =>
  Chg S w_5 w_6 ∧
  SplitV t45
  (R (Value.bool false) w_6)
  (SliceV 1 t15 none (some (nthV s 0)) fun t50 =>
  IdxV 1 t15 (nthV s 0) fun t54 =>
  LoadS S false 1 t54 w_6 fun t55 =>
  CallV Try.prog N.impl_ReadyOf [t14, t50] w_6 fun t51 w_7 =>
  Chg S w_6 w_7 ∧
  CallV Try.prog N.laws_hasInt [t51, t55] w_7 fun t56 w_8 =>
  Chg S w_7 w_8 ∧
  NotV t56 fun t57 =>
  SplitV t57
  (R (Value.bool false) w_8)
  (BinV BinOp.add (nthV s 0) (Value.int IntKind.i64 1) fun t37 =>
  K [t37] w_8)))
  (LenV t15 fun t60 =>
  LenV t14 fun t62 =>
  BinV BinOp.eql t60 t62 fun t63 =>
  R t63 w_4))))) :
    Calls Try.prog N.laws_FnOrder #[v0] w (Ret R) :=
  callsB (args := [v0]) ⟨(annOf [(9, [7])]), (annOf []), []⟩ Try.func3 rfl (cast (by kernel_rfl) h)

end Go.Proofs.Ytpfabjjeacdikaa
