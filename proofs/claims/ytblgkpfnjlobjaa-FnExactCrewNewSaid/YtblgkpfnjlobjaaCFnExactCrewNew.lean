/- The conditions of functions, off their texts. Printed by a program; Lean checks each one. -/
import Derived.Test.YtblgkpfnjlobjaaNames
import Derived.Test.YtblgkpfnjlobjaaV9
namespace Go.Proofs.Ytblgkpfnjlobjaa
open Go Go.V
set_option maxRecDepth 100000
theorem c_laws_FnExactCrewNew (v0 : Value) (v1 : Value) (w : World) (R : Value → World → Prop) (h :
  CallV Try.prog N.laws_szNodeS [v0, Value.int IntKind.i64 1048576] w fun t18 w_1 =>
  BinV BinOp.lss t18 (Value.int IntKind.i64 0) fun t20 =>
  SplitV t20
  (R (Value.bool true) w_1)
  (CallV Try.prog N.laws_toNodeS [v0] w_1 fun t23 w_2 =>
  CallV Try.prog N.spec_CrewNew [t23, v1] w_2 fun t25 w_3 =>
  ExtractV t25 0 fun t26 =>
  ExtractV t25 1 fun t27 =>
  BoxV T.impl_Crew (Value.agg #[Value.slice none 0 0, Value.slice none 0 0, Value.slice none 0 0, Value.slice none 0 0]) w_3 fun t6 w_4 =>
  StoreV 4 t6 t26 w_4 fun w_5 =>
  CallV Try.prog N.laws_toNodeS [v0] w_5 fun t29 w_6 =>
  CallV Try.prog N.impl_CrewNew [t29, v1] w_6 fun t33 w_7 =>
  ExtractV t33 0 fun t34 =>
  ExtractV t33 1 fun t35 =>
  BoxV T.impl_Crew (Value.agg #[Value.slice none 0 0, Value.slice none 0 0, Value.slice none 0 0, Value.slice none 0 0]) w_7 fun t9 w_8 =>
  StoreV 4 t9 t34 w_8 fun w_9 =>
  LoadV true 4 t9 w_9 fun t36 =>
  LoadV true 4 t6 w_9 fun t37 =>
  CallV Try.prog N.laws_eqCrew [t36, t37] w_9 fun t38 w_10 =>
  NotV t38 fun t39 =>
  SplitV t39
  (R (Value.bool false) w_10)
  (BoolV BinOp.neq t35 t27 fun t43 =>
  SplitV t43
  (R (Value.bool false) w_10)
  (CallV Try.prog N.laws_toNodeS [v0] w_10 fun t47 w_11 =>
  CallV Try.prog N.laws_eqNodeS [t29, t47] w_11 fun t48 w_12 =>
  NotV t48 fun t49 =>
  SplitV t49
  (R (Value.bool false) w_12)
  (CallV Try.prog N.laws_markNodeS [t29, Value.int IntKind.i64 1] w_12 fun t52 w_13 =>
  BinV BinOp.lss t52 (Value.int IntKind.i64 0) fun t54 =>
  SplitV t54
  (R (Value.bool false) w_13)
  (LoadV true 4 t9 w_13 fun t56 =>
  LoadV true 4 t6 w_13 fun t57 =>
  CallV Try.prog N.laws_eqCrew [t56, t57] w_13 fun t58 w_14 =>
  NotV t58 fun t59 =>
  SplitV t59
  (R (Value.bool false) w_14)
  (BoolV BinOp.neq t35 t27 fun t64 =>
  SplitV t64
  (R (Value.bool false) w_14)
  (LoadV true 4 t9 w_14 fun t66 =>
  CallV Try.prog N.laws_markCrew [t66, Value.int IntKind.i64 1] w_14 fun t68 w_15 =>
  LoadV true 4 t9 w_15 fun t69 =>
  CallV Try.prog N.laws_heldCrew [t69, Value.int IntKind.i64 1] w_15 fun t71 w_16 =>
  BinV BinOp.lss t71 (Value.int IntKind.i64 0) fun t73 =>
  SplitV t73
  (R (Value.bool false) w_16)
  (BinV BinOp.neq t71 t68 fun t76 =>
  SplitV t76
  (R (Value.bool false) w_16)
  (CallV Try.prog N.laws_toNodeS [v0] w_16 fun t79 w_17 =>
  CallV Try.prog N.impl_CrewNew [t79, v1] w_17 fun t81 w_18 =>
  ExtractV t81 0 fun t82 =>
  ExtractV t81 1 fun t83 =>
  BoxV T.impl_Crew (Value.agg #[Value.slice none 0 0, Value.slice none 0 0, Value.slice none 0 0, Value.slice none 0 0]) w_18 fun t14 w_19 =>
  StoreV 4 t14 t82 w_19 fun w_20 =>
  LoadV true 4 t14 w_20 fun t84 =>
  LoadV true 4 t6 w_20 fun t85 =>
  CallV Try.prog N.laws_eqCrew [t84, t85] w_20 fun t86 w_21 =>
  NotV t86 fun t87 =>
  SplitV t87
  (R (Value.bool false) w_21)
  (BoolV BinOp.neq t83 t27 fun t91 =>
  SplitV t91
  (R (Value.bool false) w_21)
  (LoadV true 4 t9 w_21 fun t93 =>
  CallV Try.prog N.laws_heldCrew [t93, Value.int IntKind.i64 1] w_21 fun t95 w_22 =>
  BinV BinOp.lss t95 (Value.int IntKind.i64 0) fun t97 =>
  SplitV t97
  (R (Value.bool false) w_22)
  (BinV BinOp.neq t95 t68 fun t100 =>
  SplitV t100
  (R (Value.bool false) w_22)
  (R (Value.bool true) w_22)))))))))))))) :
    Calls Try.prog N.laws_FnExactCrewNew #[v0, v1] w (Ret R) :=
  callsB (args := [v0, v1]) ⟨(annOf []), (annOf []), []⟩ Try.func13 rfl (cast (by kernel_rfl) h)

end Go.Proofs.Ytblgkpfnjlobjaa
