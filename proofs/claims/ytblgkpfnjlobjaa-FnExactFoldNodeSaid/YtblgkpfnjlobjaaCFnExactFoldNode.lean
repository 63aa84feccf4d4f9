/- The conditions of functions, off their texts. Printed by a program; Lean checks each one. -/
import Derived.Test.YtblgkpfnjlobjaaNames
import Derived.Test.YtblgkpfnjlobjaaV9
namespace Go.Proofs.Ytblgkpfnjlobjaa
open Go Go.V
set_option maxRecDepth 100000
theorem c_laws_FnExactFoldNode (v0 : Value) (v1 : Value) (w : World) (R : Value → World → Prop) (h :
  CallV Try.prog N.laws_szNodeS [v0, Value.int IntKind.i64 1048576] w fun t18 w_1 =>
  BinV BinOp.lss t18 (Value.int IntKind.i64 0) fun t20 =>
  SplitV t20
  (R (Value.bool true) w_1)
  (CallV Try.prog N.laws_toNodeS [v0] w_1 fun t23 w_2 =>
  CallV Try.prog N.spec_FoldNode [t23, v1] w_2 fun t25 w_3 =>
  ExtractV t25 0 fun t26 =>
  ExtractV t25 1 fun t27 =>
  CallV Try.prog N.laws_toNodeS [v0] w_3 fun t29 w_4 =>
  CallV Try.prog N.impl_FoldNode [t29, v1] w_4 fun t33 w_5 =>
  ExtractV t33 0 fun t34 =>
  ExtractV t33 1 fun t35 =>
  CallV Try.prog N.laws_eqNodeS [t34, t26] w_5 fun t38 w_6 =>
  NotV t38 fun t39 =>
  SplitV t39
  (R (Value.bool false) w_6)
  (BoolV BinOp.neq t35 t27 fun t43 =>
  SplitV t43
  (R (Value.bool false) w_6)
  (CallV Try.prog N.laws_toNodeS [v0] w_6 fun t47 w_7 =>
  CallV Try.prog N.laws_eqNodeS [t29, t47] w_7 fun t48 w_8 =>
  NotV t48 fun t49 =>
  SplitV t49
  (R (Value.bool false) w_8)
  (CallV Try.prog N.laws_markNodeS [t29, Value.int IntKind.i64 1] w_8 fun t52 w_9 =>
  BinV BinOp.lss t52 (Value.int IntKind.i64 0) fun t54 =>
  SplitV t54
  (R (Value.bool false) w_9)
  (CallV Try.prog N.laws_eqNodeS [t34, t26] w_9 fun t58 w_10 =>
  NotV t58 fun t59 =>
  SplitV t59
  (R (Value.bool false) w_10)
  (BoolV BinOp.neq t35 t27 fun t64 =>
  SplitV t64
  (R (Value.bool false) w_10)
  (CallV Try.prog N.laws_markNodeS [t34, Value.int IntKind.i64 1] w_10 fun t68 w_11 =>
  CallV Try.prog N.laws_heldNodeS [t34, Value.int IntKind.i64 1] w_11 fun t71 w_12 =>
  BinV BinOp.lss t71 (Value.int IntKind.i64 0) fun t73 =>
  SplitV t73
  (R (Value.bool false) w_12)
  (BinV BinOp.neq t71 t68 fun t76 =>
  SplitV t76
  (R (Value.bool false) w_12)
  (CallV Try.prog N.laws_toNodeS [v0] w_12 fun t79 w_13 =>
  CallV Try.prog N.impl_FoldNode [t79, v1] w_13 fun t81 w_14 =>
  ExtractV t81 0 fun t82 =>
  ExtractV t81 1 fun t83 =>
  CallV Try.prog N.laws_eqNodeS [t82, t26] w_14 fun t86 w_15 =>
  NotV t86 fun t87 =>
  SplitV t87
  (R (Value.bool false) w_15)
  (BoolV BinOp.neq t83 t27 fun t91 =>
  SplitV t91
  (R (Value.bool false) w_15)
  (CallV Try.prog N.laws_heldNodeS [t34, Value.int IntKind.i64 1] w_15 fun t95 w_16 =>
  BinV BinOp.lss t95 (Value.int IntKind.i64 0) fun t97 =>
  SplitV t97
  (R (Value.bool false) w_16)
  (BinV BinOp.neq t95 t68 fun t100 =>
  SplitV t100
  (R (Value.bool false) w_16)
  (R (Value.bool true) w_16)))))))))))))) :
    Calls Try.prog N.laws_FnExactFoldNode #[v0, v1] w (Ret R) :=
  callsB (args := [v0, v1]) ⟨(annOf []), (annOf []), []⟩ Try.func3 rfl (cast (by kernel_rfl) h)

end Go.Proofs.Ytblgkpfnjlobjaa
