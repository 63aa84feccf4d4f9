/- The conditions of functions, off their texts. Printed by a program; Lean checks each one. -/
import Derived.Test.YtokfjjjfecblgaaNames
import Derived.Test.YtokfjjjfecblgaaV9
namespace Go.Proofs.Ytokfjjjfecblgaa
open Go Go.V
set_option maxRecDepth 100000
theorem c_laws_FnLoseNothing (v0 : Value) (w : World) (R : Value → World → Prop) (h :
  LenV v0 fun t15 =>
  BinV BinOp.gtr t15 (Value.int IntKind.i64 1048576) fun t16 =>
  SplitV t16
  (R (Value.bool true) w)
  (CallV Try.prog N.spec_DrawLoseRows [v0] w fun t19 w_1 =>
  ExtractV t19 0 fun t20 =>
  ExtractV t19 1 fun t21 =>
  ExtractV t19 2 fun t22 =>
  CallV Try.prog N.impl_LoseRows [t20, t21, t22] w_1 fun t27 w_2 =>
  ExtractV t27 0 fun t28 =>
  ExtractV t27 1 fun t29 =>
  CallV Try.prog N.spec_LoseRows [t20, t21, t22] w_2 fun t34 w_3 =>
  ExtractV t34 0 fun t35 =>
  ExtractV t34 1 fun t36 =>
  BoolV BinOp.neq t29 t36 fun t39 =>
  SplitV t39
  (BoolV BinOp.eql t29 t36 fun t52 =>
  SplitV t52
  (CallV Try.prog N.laws_sameRow [t28, t35] w_3 fun t56 w_4 =>
  R t56 w_4)
  (R (Value.bool false) w_3))
  (CallV Try.prog N.laws_sameRow [t28, t35] w_3 fun t43 w_5 =>
  NotV t43 fun t44 =>
  SplitV t44
  (BoolV BinOp.eql t29 t36 fun t52_1 =>
  SplitV t52_1
  (CallV Try.prog N.laws_sameRow [t28, t35] w_5 fun t56_1 w_6 =>
  R t56_1 w_6)
  (R (Value.bool false) w_5))
  (NotV t29 fun t48 =>
  SplitV t48
  (BoolV BinOp.eql t29 t36 fun t52_2 =>
  SplitV t52_2
  (CallV Try.prog N.laws_sameRow [t28, t35] w_5 fun t56_2 w_7 =>
  R t56_2 w_7)
  (R (Value.bool false) w_5))
  (BSliceV T.int 1 0 #[Value.int IntKind.i64 0] [] w_5 fun t61 w_8 =>
  CallV Try.prog N.impl_LoseRows [t20, t21, t61] w_8 fun t62 w_9 =>
  ExtractV t62 0 fun t63 =>
  ExtractV t62 1 fun t64 =>
  BSliceV T.int 1 0 #[Value.int IntKind.i64 0] [] w_9 fun t67 w_10 =>
  CallV Try.prog N.impl_LoseRows [t20, t67, t22] w_10 fun t69 w_11 =>
  ExtractV t69 0 fun t70 =>
  ExtractV t69 1 fun t71 =>
  SplitV t64
  (SplitV t71
  (LenV t63 fun t78 =>
  BinV BinOp.eql t78 (Value.int IntKind.i64 0) fun t79 =>
  SplitV t79
  (LenV t70 fun t83 =>
  BinV BinOp.eql t83 (Value.int IntKind.i64 0) fun t84 =>
  R t84 w_11)
  (R (Value.bool false) w_11))
  (R (Value.bool false) w_11))
  (R (Value.bool false) w_11)))))) :
    Calls Try.prog N.laws_FnLoseNothing #[v0] w (Ret R) :=
  callsB (args := [v0]) ⟨(annOf []), (annOf []), []⟩ Try.func9 rfl (cast (by kernel_rfl) h)

end Go.Proofs.Ytokfjjjfecblgaa
