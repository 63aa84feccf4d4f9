/- The conditions of functions, off their texts. Printed by a program; Lean checks each one. -/
import Derived.Test.YtblgkpfnjlobjaaNames
import Derived.Test.YtblgkpfnjlobjaaV9
namespace Go.Proofs.Ytblgkpfnjlobjaa
open Go Go.V
set_option maxRecDepth 100000
theorem c_laws_FnFoldAllTurn (v0 : Value) (w : World) (R : Value → World → Prop) (h :
  LenV v0 fun t14 =>
  BinV BinOp.gtr t14 (Value.int IntKind.i64 1048576) fun t15 =>
  SplitV t15
  (R (Value.bool true) w)
  (CallV Try.prog N.spec_DrawFoldAll [v0] w fun t18 w_1 =>
  ExtractV t18 0 fun t19 =>
  ExtractV t18 1 fun t20 =>
  CallV Try.prog N.impl_FoldAll [t19, t20] w_1 fun t24 w_2 =>
  ExtractV t24 0 fun t25 =>
  ExtractV t24 1 fun t26 =>
  CallV Try.prog N.spec_FoldAll [t19, t20] w_2 fun t30 w_3 =>
  ExtractV t30 0 fun t31 =>
  ExtractV t30 1 fun t32 =>
  BoolV BinOp.neq t26 t32 fun t35 =>
  SplitV t35
  (BoolV BinOp.eql t26 t32 fun t48 =>
  SplitV t48
  (CallV Try.prog N.laws_samePlan [t25, t31] w_3 fun t52 w_4 =>
  R t52 w_4)
  (R (Value.bool false) w_3))
  (CallV Try.prog N.laws_samePlan [t25, t31] w_3 fun t39 w_5 =>
  NotV t39 fun t40 =>
  SplitV t40
  (BoolV BinOp.eql t26 t32 fun t48_1 =>
  SplitV t48_1
  (CallV Try.prog N.laws_samePlan [t25, t31] w_5 fun t52_1 w_6 =>
  R t52_1 w_6)
  (R (Value.bool false) w_5))
  (NotV t26 fun t44 =>
  SplitV t44
  (BoolV BinOp.eql t26 t32 fun t48_2 =>
  SplitV t48_2
  (CallV Try.prog N.laws_samePlan [t25, t31] w_5 fun t52_2 w_7 =>
  R t52_2 w_7)
  (R (Value.bool false) w_5))
  (BSliceV T.int 1 0 #[Value.int IntKind.i64 0] [] w_5 fun t54 w_8 =>
  LenV t20 fun t56 =>
  BinV BinOp.sub t56 (Value.int IntKind.i64 1) fun t57 =>
  LoopV [t54, t57] w_8 fun s _ w_9 K =>
  BinV BinOp.geq (nthV s 1) (Value.int IntKind.i64 0) fun t59 =>
  SplitV t59
  (IdxV 1 t20 (nthV s 1) fun t65 =>
  LoadV false 1 t65 w_9 fun t66 =>
  BSliceV T.int 1 1 #[Value.int IntKind.i64 0] [(0, t66)] w_9 fun t67 w_10 =>
  AppendV Try.prog T.sl_int (nthV s 0) t67 w_10 fun t68 w_11 =>
  BinV BinOp.sub (nthV s 1) (Value.int IntKind.i64 1) fun t61 =>
  K [t68, t61] w_11)
  (CallV Try.prog N.impl_FoldAll [t19, nthV s 0] w_9 fun t72 w_12 =>
  ExtractV t72 0 fun t73 =>
  ExtractV t72 1 fun t74 =>
  SplitV t74
  (CallV Try.prog N.laws_samePlan [t73, t25] w_12 fun t79 w_13 =>
  SplitV t79
  (CallV Try.prog N.impl_FoldSame [t19, t25] w_13 fun t84 w_14 =>
  R t84 w_14)
  (R (Value.bool false) w_13))
  (R (Value.bool false) w_12))))))) :
    Calls Try.prog N.laws_FnFoldAllTurn #[v0] w (Ret R) :=
  callsB (args := [v0]) ⟨(annOf [(10, [9, 10])]), (annOf []), []⟩ Try.func5 rfl (cast (by kernel_rfl) h)

end Go.Proofs.Ytblgkpfnjlobjaa
