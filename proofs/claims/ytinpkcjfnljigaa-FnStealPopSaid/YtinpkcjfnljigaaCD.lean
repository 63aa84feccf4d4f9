/- The conditions of functions, off their texts. Printed by a program; Lean checks each one. -/
import Derived.Test.YtinpkcjfnljigaaNames
import Derived.Test.YtinpkcjfnljigaaV9
namespace Go.Proofs.Ytinpkcjfnljigaa
open Go Go.V
set_option maxRecDepth 100000
theorem c_spec_l91Deque (v0 : Value) (w : World) (R : Value → World → Prop) (h :
  BSliceV T.int 1 0 #[Value.int IntKind.i64 0] [] w fun t7 w_1 =>
  CallV Try.prog N.spec_l6Rd_pick [v0, Value.int IntKind.i64 6] w_1 fun t9 w_2 =>
  JoinV (fun M =>
  CallV Try.prog N.spec_l6Rd_pick [v0, Value.int IntKind.i64 16] w_2 fun t11 w_3 =>
  BinV BinOp.eql t11 (Value.int IntKind.i64 0) fun t12 =>
  SplitV t12
  (M [Value.int IntKind.i64 10] w_3)
  (M [t9] w_3))
  (fun s _ w_4 =>
  CallV Try.prog N.spec_l6Rd_pick [v0, Value.int IntKind.i64 10] w_4 fun t14 w_5 =>
  LoopV [t7, Value.int IntKind.i64 0] w_5 fun s_1 _ w_6 K =>
  BinV BinOp.lss (nthV s_1 1) (nthV s 0) fun t17 =>
  SplitV t17
  (BinV BinOp.mul (Value.int IntKind.i64 3) (nthV s_1 1) fun t23 =>
  BinV BinOp.add t14 t23 fun t24 =>
  BinV BinOp.rem t24 (Value.int IntKind.i64 10) fun t25 =>
  BSliceV T.int 1 1 #[Value.int IntKind.i64 0] [(0, t25)] w_6 fun t26 w_7 =>
  AppendV Try.prog T.sl_int (nthV s_1 0) t26 w_7 fun t27 w_8 =>
  BinV BinOp.add (nthV s_1 1) (Value.int IntKind.i64 1) fun t19 =>
  K [t27, t19] w_8)
  (BinV BinOp.gtr (nthV s 0) (Value.int IntKind.i64 0) fun t29 =>
  SplitV t29
  (CallV Try.prog N.spec_l6Rd_pick [v0, Value.int IntKind.i64 24] w_6 fun t32 w_9 =>
  BinV BinOp.eql t32 (Value.int IntKind.i64 0) fun t33 =>
  SplitV t33
  (DrawV w_9 fun S w_10 =>
  IdxV 1 (nthV s_1 0) (Value.int IntKind.i64 0) fun t40 =>
  LoadS S false 1 t40 w_10 fun t41 =>
  (CallV Try.prog N.spec_l6Rd_pick [v0, nthV s 0] w_10 fun t38 w_11 =>
  Chg S w_10 w_11 ∧
  (BSliceV T.int 1 3 #[Value.int IntKind.i64 0] [(0, Value.int IntKind.i64 (-1)), (1, Value.int IntKind.i64 10), (2, t41)] w_11 fun t42 w_12 =>
  Chg S w_11 w_12 ∧
  CallV Try.prog N.spec_l6Rd_pick [v0, Value.int IntKind.i64 3] w_12 fun t44 w_13 =>
  Chg S w_12 w_13 ∧
  IdxV 1 t42 t44 fun t45 =>
  LoadS S false 1 t45 w_13 fun t46 =>
  IdxV 1 (nthV s_1 0) t38 fun t47 =>
  StoreV 1 t47 t46 w_13 fun w_14 =>
  R (nthV s_1 0) w_14) ∧
  (CallV Try.prog N.spec_l6Rd_pick [v0, Value.int IntKind.i64 3] w_11 fun t44_1 w_15 =>
  Chg S w_11 w_15 ∧
  BSliceV T.int 1 3 #[Value.int IntKind.i64 0] [(0, Value.int IntKind.i64 (-1)), (1, Value.int IntKind.i64 10), (2, t41)] w_15 fun t42_1 w_16 =>
  Chg S w_15 w_16 ∧
  IdxV 1 t42_1 t44_1 fun t45_1 =>
  LoadS S false 1 t45_1 w_16 fun t46_1 =>
  IdxV 1 (nthV s_1 0) t38 fun t47_1 =>
  StoreV 1 t47_1 t46_1 w_16 fun w_17 =>
  R (nthV s_1 0) w_17)) ∧
  (BSliceV T.int 1 3 #[Value.int IntKind.i64 0] [(0, Value.int IntKind.i64 (-1)), (1, Value.int IntKind.i64 10), (2, t41)] w_10 fun t42_2 w_18 =>
  Chg S w_10 w_18 ∧
  CallV Try.prog N.spec_l6Rd_pick [v0, nthV s 0] w_18 fun t38_1 w_19 =>
  Chg S w_18 w_19 ∧
  CallV Try.prog N.spec_l6Rd_pick [v0, Value.int IntKind.i64 3] w_19 fun t44_2 w_20 =>
  Chg S w_19 w_20 ∧
  IdxV 1 t42_2 t44_2 fun t45_2 =>
  LoadS S false 1 t45_2 w_20 fun t46_2 =>
  IdxV 1 (nthV s_1 0) t38_1 fun t47_2 =>
  StoreV 1 t47_2 t46_2 w_20 fun w_21 =>
  R (nthV s_1 0) w_21))
  (R (nthV s_1 0) w_9))
  (R (nthV s_1 0) w_6)))) :
    Calls Try.prog N.spec_l91Deque #[v0] w (Ret R) :=
  callsB (args := [v0]) ⟨(annOf [(7, [3, 6])]), (annOf [(5, [4])])⟩ Try.func43 rfl (cast (by kernel_rfl) h)

theorem c_spec_DrawCountsReady (v0 : Value) (w : World) (R : Value → World → Prop) (h :
  CallV Try.prog N.spec_l6Open [v0] w fun t8 w_1 =>
  BSliceV T.int 1 0 #[Value.int IntKind.i64 0] [] w_1 fun t9 w_2 =>
  CallV Try.prog N.spec_l6Rd_pick [t8, Value.int IntKind.i64 8] w_2 fun t11 w_3 =>
  LoopV [t9, Value.int IntKind.i64 0] w_3 fun s _ w_4 K =>
  BinV BinOp.lss (nthV s 1) t11 fun t14 =>
  SplitV t14
  (CallV Try.prog N.spec_l6Rd_pick [t8, Value.int IntKind.i64 4] w_4 fun t19 w_5 =>
  CallV Try.prog N.spec_l6Rd_pick [t8, Value.int IntKind.i64 20] w_5 fun t21 w_6 =>
  BinV BinOp.quo t21 (Value.int IntKind.i64 19) fun t22 =>
  BinV BinOp.mul t22 (Value.int IntKind.i64 2) fun t23 =>
  BinV BinOp.sub t19 t23 fun t24 =>
  BSliceV T.int 1 1 #[Value.int IntKind.i64 0] [(0, t24)] w_6 fun t25 w_7 =>
  AppendV Try.prog T.sl_int (nthV s 0) t25 w_7 fun t26 w_8 =>
  BinV BinOp.add (nthV s 1) (Value.int IntKind.i64 1) fun t16 =>
  K [t26, t16] w_8)
  (R (nthV s 0) w_4)) :
    Calls Try.prog N.spec_DrawCountsReady #[v0] w (Ret R) :=
  callsB (args := [v0]) ⟨(annOf [(5, [4, 6])]), (annOf [])⟩ Try.func23 rfl (cast (by kernel_rfl) h)

theorem c_spec_DrawDequeValid (v0 : Value) (w : World) (R : Value → World → Prop) (h :
  CallV Try.prog N.spec_l6Open [v0] w fun t4 w_1 =>
  CallV Try.prog N.spec_l91Deque [t4] w_1 fun t5 w_2 =>
  R t5 w_2) :
    Calls Try.prog N.spec_DrawDequeValid #[v0] w (Ret R) :=
  callsB (args := [v0]) ⟨(annOf []), (annOf [])⟩ Try.func27 rfl (cast (by kernel_rfl) h)

theorem c_spec_DrawDequeSteal (v0 : Value) (w : World) (R : Value → World → Prop) (h :
  CallV Try.prog N.spec_l6Open [v0] w fun t4 w_1 =>
  CallV Try.prog N.spec_l91Deque [t4] w_1 fun t5 w_2 =>
  R t5 w_2) :
    Calls Try.prog N.spec_DrawDequeSteal #[v0] w (Ret R) :=
  callsB (args := [v0]) ⟨(annOf []), (annOf [])⟩ Try.func34 rfl (cast (by kernel_rfl) h)

theorem c_spec_DrawDequePush (v0 : Value) (w : World) (R : Value → World → Prop) (h :
  CallV Try.prog N.spec_l6Open [v0] w fun t7 w_1 =>
  CallV Try.prog N.spec_l91Deque [t7] w_1 fun t9 w_2 =>
  CallV Try.prog N.spec_l6Rd_pick [t7, Value.int IntKind.i64 11] w_2 fun t12 w_3 =>
  CallV Try.prog N.spec_l6Rd_pick [t7, Value.int IntKind.i64 20] w_3 fun t14 w_4 =>
  BinV BinOp.quo t14 (Value.int IntKind.i64 19) fun t15 =>
  BinV BinOp.sub t12 t15 fun t16 =>
  R (Value.tuple #[t9, t16]) w_4) :
    Calls Try.prog N.spec_DrawDequePush #[v0] w (Ret R) :=
  callsB (args := [v0]) ⟨(annOf []), (annOf [])⟩ Try.func35 rfl (cast (by kernel_rfl) h)

theorem c_spec_DrawDequePop (v0 : Value) (w : World) (R : Value → World → Prop) (h :
  CallV Try.prog N.spec_l6Open [v0] w fun t4 w_1 =>
  CallV Try.prog N.spec_l91Deque [t4] w_1 fun t5 w_2 =>
  R t5 w_2) :
    Calls Try.prog N.spec_DrawDequePop #[v0] w (Ret R) :=
  callsB (args := [v0]) ⟨(annOf []), (annOf [])⟩ Try.func36 rfl (cast (by kernel_rfl) h)

end Go.Proofs.Ytinpkcjfnljigaa
