/- The conditions of functions, off their texts. Printed by a program; Lean checks each one. -/
import Derived.Test.YtblgkpfnjlobjaaNames
import Derived.Test.YtblgkpfnjlobjaaV9
namespace Go.Proofs.Ytblgkpfnjlobjaa
open Go Go.V
set_option maxRecDepth 100000
theorem c_laws_FnFoldTwice (v0 : Value) (w : World) (R : Value → World → Prop) (h :
  LenV v0 fun t12 =>
  BinV BinOp.gtr t12 (Value.int IntKind.i64 1048576) fun t13 =>
  SplitV t13
  (R (Value.bool true) w)
  (CallV Try.prog N.spec_DrawFoldNode [v0] w fun t16 w_1 =>
  ExtractV t16 0 fun t17 =>
  ExtractV t16 1 fun t18 =>
  CallV Try.prog N.impl_FoldNode [t17, t18] w_1 fun t22 w_2 =>
  ExtractV t22 0 fun t23 =>
  ExtractV t22 1 fun t24 =>
  CallV Try.prog N.spec_FoldNode [t17, t18] w_2 fun t28 w_3 =>
  ExtractV t28 0 fun t29 =>
  ExtractV t28 1 fun t30 =>
  BoolV BinOp.neq t24 t30 fun t33 =>
  SplitV t33
  (BoolV BinOp.eql t24 t30 fun t46 =>
  SplitV t46
  (CallV Try.prog N.laws_samePlan [t23, t29] w_3 fun t50 w_4 =>
  R t50 w_4)
  (R (Value.bool false) w_3))
  (CallV Try.prog N.laws_samePlan [t23, t29] w_3 fun t37 w_5 =>
  NotV t37 fun t38 =>
  SplitV t38
  (BoolV BinOp.eql t24 t30 fun t46_1 =>
  SplitV t46_1
  (CallV Try.prog N.laws_samePlan [t23, t29] w_5 fun t50_1 w_6 =>
  R t50_1 w_6)
  (R (Value.bool false) w_5))
  (NotV t24 fun t42 =>
  SplitV t42
  (BoolV BinOp.eql t24 t30 fun t46_2 =>
  SplitV t46_2
  (CallV Try.prog N.laws_samePlan [t23, t29] w_5 fun t50_2 w_7 =>
  R t50_2 w_7)
  (R (Value.bool false) w_5))
  (CallV Try.prog N.impl_FoldNode [t23, t18] w_5 fun t55 w_8 =>
  ExtractV t55 0 fun t56 =>
  ExtractV t55 1 fun t57 =>
  SplitV t57
  (CallV Try.prog N.laws_samePlan [t56, t23] w_8 fun t62 w_9 =>
  SplitV t62
  (CallV Try.prog N.impl_PlanNeeds [t23, t18] w_9 fun t67 w_10 =>
  LenV t67 fun t68 =>
  BinV BinOp.eql t68 (Value.int IntKind.i64 0) fun t69 =>
  R t69 w_10)
  (R (Value.bool false) w_9))
  (R (Value.bool false) w_8)))))) :
    Calls Try.prog N.laws_FnFoldTwice #[v0] w (Ret R) :=
  callsB (args := [v0]) ⟨(annOf []), (annOf []), []⟩ Try.func9 rfl (cast (by kernel_rfl) h)

end Go.Proofs.Ytblgkpfnjlobjaa
