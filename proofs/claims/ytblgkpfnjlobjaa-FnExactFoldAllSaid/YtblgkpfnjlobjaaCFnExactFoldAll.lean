/- The conditions of functions, off their texts. Printed by a program; Lean checks each one. -/
import Derived.Test.YtblgkpfnjlobjaaNames
import Derived.Test.YtblgkpfnjlobjaaV9
namespace Go.Proofs.Ytblgkpfnjlobjaa
open Go Go.V
set_option maxRecDepth 100000
theorem c_laws_FnExactFoldAll (v0 : Value) (v1 : Value) (w : World) (R : Value → World → Prop) (h :
  LenV v1 fun t18 =>
  BinV BinOp.gtr t18 (Value.int IntKind.i64 1048576) fun t19 =>
  SplitV t19
  (R (Value.bool true) w)
  (CallV Try.prog N.laws_szNodeS [v0, Value.int IntKind.i64 1048576] w fun t22 w_1 =>
  BinV BinOp.lss t22 (Value.int IntKind.i64 0) fun t24 =>
  SplitV t24
  (R (Value.bool true) w_1)
  (CallV Try.prog N.laws_toNodeS [v0] w_1 fun t27 w_2 =>
  CallV Try.prog N.laws_toIntS [v1] w_2 fun t29 w_3 =>
  CallV Try.prog N.spec_FoldAll [t27, t29] w_3 fun t30 w_4 =>
  ExtractV t30 0 fun t31 =>
  ExtractV t30 1 fun t32 =>
  CallV Try.prog N.laws_toNodeS [v0] w_4 fun t34 w_5 =>
  CallV Try.prog N.laws_toIntS [v1] w_5 fun t36 w_6 =>
  CallV Try.prog N.impl_FoldAll [t34, t36] w_6 fun t40 w_7 =>
  ExtractV t40 0 fun t41 =>
  ExtractV t40 1 fun t42 =>
  CallV Try.prog N.laws_eqNodeS [t41, t31] w_7 fun t45 w_8 =>
  NotV t45 fun t46 =>
  SplitV t46
  (R (Value.bool false) w_8)
  (BoolV BinOp.neq t42 t32 fun t50 =>
  SplitV t50
  (R (Value.bool false) w_8)
  (CallV Try.prog N.laws_toNodeS [v0] w_8 fun t54 w_9 =>
  CallV Try.prog N.laws_eqNodeS [t34, t54] w_9 fun t55 w_10 =>
  NotV t55 fun t56 =>
  SplitV t56
  (R (Value.bool false) w_10)
  (CallV Try.prog N.laws_toIntS [v1] w_10 fun t59 w_11 =>
  CallV Try.prog N.laws_eqIntS [t36, t59] w_11 fun t60 w_12 =>
  NotV t60 fun t61 =>
  SplitV t61
  (R (Value.bool false) w_12)
  (CallV Try.prog N.laws_markNodeS [t34, Value.int IntKind.i64 1] w_12 fun t64 w_13 =>
  CallV Try.prog N.laws_markIntS [t36, t64] w_13 fun t67 w_14 =>
  BinV BinOp.lss t67 (Value.int IntKind.i64 0) fun t69 =>
  SplitV t69
  (R (Value.bool false) w_14)
  (CallV Try.prog N.laws_eqNodeS [t41, t31] w_14 fun t73 w_15 =>
  NotV t73 fun t74 =>
  SplitV t74
  (R (Value.bool false) w_15)
  (BoolV BinOp.neq t42 t32 fun t79 =>
  SplitV t79
  (R (Value.bool false) w_15)
  (CallV Try.prog N.laws_markNodeS [t41, Value.int IntKind.i64 1] w_15 fun t83 w_16 =>
  CallV Try.prog N.laws_heldNodeS [t41, Value.int IntKind.i64 1] w_16 fun t86 w_17 =>
  BinV BinOp.lss t86 (Value.int IntKind.i64 0) fun t88 =>
  SplitV t88
  (R (Value.bool false) w_17)
  (BinV BinOp.neq t86 t83 fun t91 =>
  SplitV t91
  (R (Value.bool false) w_17)
  (CallV Try.prog N.laws_toNodeS [v0] w_17 fun t94 w_18 =>
  CallV Try.prog N.laws_toIntS [v1] w_18 fun t96 w_19 =>
  CallV Try.prog N.impl_FoldAll [t94, t96] w_19 fun t97 w_20 =>
  ExtractV t97 0 fun t98 =>
  ExtractV t97 1 fun t99 =>
  CallV Try.prog N.laws_eqNodeS [t98, t31] w_20 fun t102 w_21 =>
  NotV t102 fun t103 =>
  SplitV t103
  (R (Value.bool false) w_21)
  (BoolV BinOp.neq t99 t32 fun t107 =>
  SplitV t107
  (R (Value.bool false) w_21)
  (CallV Try.prog N.laws_heldNodeS [t41, Value.int IntKind.i64 1] w_21 fun t111 w_22 =>
  BinV BinOp.lss t111 (Value.int IntKind.i64 0) fun t113 =>
  SplitV t113
  (R (Value.bool false) w_22)
  (BinV BinOp.neq t111 t83 fun t116 =>
  SplitV t116
  (R (Value.bool false) w_22)
  (R (Value.bool true) w_22)))))))))))))))) :
    Calls Try.prog N.laws_FnExactFoldAll #[v0, v1] w (Ret R) :=
  callsB (args := [v0, v1]) ⟨(annOf []), (annOf []), []⟩ Try.func4 rfl (cast (by kernel_rfl) h)

end Go.Proofs.Ytblgkpfnjlobjaa
