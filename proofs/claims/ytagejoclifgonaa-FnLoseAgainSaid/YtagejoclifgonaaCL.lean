/- The conditions of functions, off their texts. Printed by a program; Lean checks each one. -/
import Derived.Test.YtagejoclifgonaaNames
import Derived.Test.YtagejoclifgonaaV9
namespace Go.Proofs.Ytagejoclifgonaa
open Go Go.V
set_option maxRecDepth 100000
theorem c_spec_l13Order (v0 : Value) (v1 : Value) (w : World) (R : Value → World → Prop) (h :
  LoopV [Value.int IntKind.i64 0] w fun s _ w_1 K =>
  LenV v1 fun t8 =>
  BinV BinOp.lss (nthV s 0) t8 fun t9 =>
  SplitV t9
  (DrawV w_1 fun S w_2 =>
  IdxV 1 v1 (nthV s 0) fun t14 =>
  LoadS S false 1 t14 w_2 fun t15 =>
  LenV v0 fun t17 =>
  BinV BinOp.sub t17 (Value.int IntKind.i64 1) fun t18 =>
  CallV Try.prog N.spec_l6In [t15, Value.int IntKind.i64 0, t18] w_2 fun t19 w_3 =>
  Chg S w_2 w_3 ∧
  NotV t19 fun t20 =>
  SplitV t20
  (R (Value.bool false) w_3)
  (SliceV 1 v1 none (some (nthV s 0)) fun t24 =>
  IdxV 1 v1 (nthV s 0) fun t27 =>
  LoadS S false 1 t27 w_3 fun t28 =>
  CallV Try.prog N.spec_l3Has [t24, t28] w_3 fun t29 w_4 =>
  Chg S w_3 w_4 ∧
  SplitV t29
  (R (Value.bool false) w_4)
  (SliceV 1 v1 none (some (nthV s 0)) fun t34 =>
  IdxV 1 v1 (nthV s 0) fun t38 =>
  LoadS S false 1 t38 w_4 fun t39 =>
  IdxV 3 v0 t39 fun t40 =>
  FAddrV 1 t40 fun t41 =>
  LoadS S false 1 t41 w_4 fun t42 =>
  CallV Try.prog N.spec_l5All [t34, t42] w_4 fun t43 w_5 =>
  Chg S w_4 w_5 ∧
  NotV t43 fun t44 =>
  SplitV t44
  (R (Value.bool false) w_5)
  (BinV BinOp.add (nthV s 0) (Value.int IntKind.i64 1) fun t11 =>
  K [t11] w_5))))
  (R (Value.bool true) w_1)) :
    Calls Try.prog N.spec_l13Order #[v0, v1] w (Ret R) :=
  callsB (args := [v0, v1]) ⟨(annOf [(2, [5])]), (annOf []), []⟩ Try.func75 rfl (cast (by kernel_rfl) h)

theorem c_impl_neededAgain (v0 : Value) (v1 : Value) (v2 : Value) (w : World) (R : Value → World → Prop) (h :
  LenV v0 fun t10 =>
  LoopV [Value.int IntKind.i64 0] w fun s _ w_1 K =>
  BinV BinOp.lss (nthV s 0) t10 fun t12 =>
  SplitV t12
  (IdxV 1 v0 (nthV s 0) fun t13 =>
  LoadV false 1 t13 w_1 fun t14 =>
  CallV Try.prog N.impl_nodeSet_has [v1, t14] w_1 fun t17 w_2 =>
  NotV t17 fun t18 =>
  SplitV t18
  (R (Value.bool true) w_2)
  (CallV Try.prog N.impl_nodeSet_has [v2, t14] w_2 fun t22 w_3 =>
  SplitV t22
  (R (Value.bool true) w_3)
  (BinV BinOp.add (nthV s 0) (Value.int IntKind.i64 1) fun t24 =>
  K [t24] w_3)))
  (LenV v0 fun t26 =>
  BinV BinOp.eql t26 (Value.int IntKind.i64 0) fun t27 =>
  R t27 w_1)) :
    Calls Try.prog N.impl_neededAgain #[v0, v1, v2] w (Ret R) :=
  callsB (args := [v0, v1, v2]) ⟨(annOf [(2, [11])]), (annOf []), []⟩ Try.func114 rfl (cast (by kernel_rfl) h)

theorem c_impl_loseSet (v0 : Value) (v1 : Value) (v2 : Value) (w : World) (R : Value → World → Prop) (h :
  CallV Try.prog N.impl_PlanValid [v0] w fun t13 w_1 =>
  NotV t13 fun t14 =>
  SplitV t14
  (R (Value.tuple #[Value.int IntKind.u16 0, Value.bool false]) w_1)
  (CallV Try.prog N.impl_orderBegins [v0, v1] w_1 fun t18 w_2 =>
  NotV t18 fun t19 =>
  SplitV t19
  (R (Value.tuple #[Value.int IntKind.u16 0, Value.bool false]) w_2)
  (CallV Try.prog N.impl_setOf [v0, v1] w_2 fun t23 w_3 =>
  CallV Try.prog N.impl_setOf [v0, v2] w_3 fun t27 w_4 =>
  BinV BinOp.and t23 t27 fun t28 =>
  LenV v0 fun t30 =>
  BinV BinOp.sub t30 (Value.int IntKind.i64 1) fun t31 =>
  LoopV [Value.int IntKind.u16 0, t31] w_4 fun s _ w_5 K =>
  BinV BinOp.geq (nthV s 1) (Value.int IntKind.i64 0) fun t33 =>
  SplitV t33
  (CallV Try.prog N.impl_nodeSet_has [t28, nthV s 1] w_5 fun t38 w_6 =>
  SplitV t38
  (CallV Try.prog N.impl_PlanUses [v0, nthV s 1] w_6 fun t42 w_7 =>
  CallV Try.prog N.impl_neededAgain [t42, t23, nthV s 0] w_7 fun t45 w_8 =>
  SplitV t45
  (CallV Try.prog N.impl_nodeSet_with [nthV s 0, nthV s 1] w_8 fun t49 w_9 =>
  BinV BinOp.sub (nthV s 1) (Value.int IntKind.i64 1) fun t35 =>
  K [t49, t35] w_9)
  (BinV BinOp.sub (nthV s 1) (Value.int IntKind.i64 1) fun t35_1 =>
  K [nthV s 0, t35_1] w_8))
  (BinV BinOp.sub (nthV s 1) (Value.int IntKind.i64 1) fun t35_2 =>
  K [nthV s 0, t35_2] w_6))
  (R (Value.tuple #[nthV s 0, Value.bool true]) w_5)))) :
    Calls Try.prog N.impl_loseSet #[v0, v1, v2] w (Ret R) :=
  callsB (args := [v0, v1, v2]) ⟨(annOf [(7, [10, 11])]), (annOf []), []⟩ Try.func68 rfl (cast (by kernel_rfl) h)

theorem c_impl_LoseRows (v0 : Value) (v1 : Value) (v2 : Value) (w : World) (R : Value → World → Prop) (h :
  CallV Try.prog N.impl_loseSet [v0, v1, v2] w fun t14 w_1 =>
  ExtractV t14 0 fun t15 =>
  ExtractV t14 1 fun t16 =>
  NotV t16 fun t18 =>
  SplitV t18
  (R (Value.tuple #[Value.slice none 0 0, Value.bool false]) w_1)
  (CallV Try.prog N.impl_nodeSet_list [t15] w_1 fun t20 w_2 =>
  R (Value.tuple #[t20, Value.bool true]) w_2)) :
    Calls Try.prog N.impl_LoseRows #[v0, v1, v2] w (Ret R) :=
  callsB (args := [v0, v1, v2]) ⟨(annOf []), (annOf []), []⟩ Try.func30 rfl (cast (by kernel_rfl) h)

theorem c_impl_LoseAgain (v0 : Value) (v1 : Value) (v2 : Value) (w : World) (R : Value → World → Prop) (h :
  CallV Try.prog N.impl_loseSet [v0, v1, v2] w fun t17 w_1 =>
  ExtractV t17 0 fun t18 =>
  ExtractV t17 1 fun t19 =>
  NotV t19 fun t21 =>
  SplitV t21
  (R (Value.tuple #[Value.slice none 0 0, Value.bool false]) w_1)
  (LenV v1 fun t23 =>
  LoopV [Value.slice none 0 0, Value.int IntKind.i64 0] w_1 fun s _ w_2 K =>
  BinV BinOp.lss (nthV s 1) t23 fun t25 =>
  SplitV t25
  (IdxV 1 v1 (nthV s 1) fun t26 =>
  LoadV false 1 t26 w_2 fun t27 =>
  CallV Try.prog N.impl_nodeSet_has [t18, t27] w_2 fun t30 w_3 =>
  NotV t30 fun t31 =>
  SplitV t31
  (BSliceV T.int 1 1 #[Value.int IntKind.i64 0] [(0, t27)] w_3 fun t34 w_4 =>
  AppendV Try.prog T.sl_int (nthV s 0) t34 w_4 fun t35 w_5 =>
  BinV BinOp.add (nthV s 1) (Value.int IntKind.i64 1) fun t36 =>
  K [t35, t36] w_5)
  (BinV BinOp.add (nthV s 1) (Value.int IntKind.i64 1) fun t36_1 =>
  K [nthV s 0, t36_1] w_3))
  (R (Value.tuple #[nthV s 0, Value.bool true]) w_2))) :
    Calls Try.prog N.impl_LoseAgain #[v0, v1, v2] w (Ret R) :=
  callsB (args := [v0, v1, v2]) ⟨(annOf [(6, [10, 24])]), (annOf []), []⟩ Try.func23 rfl (cast (by kernel_rfl) h)

theorem c_spec_l16Again (v0 : Value) (v1 : Value) (v2 : Value) (w : World) (R : Value → World → Prop) (h :
  BSliceV T.int 1 0 #[Value.int IntKind.i64 0] [] w fun t9 w_1 =>
  LoopV [t9, Value.int IntKind.i64 0] w_1 fun s _ w_2 K =>
  LenV v0 fun t12 =>
  BinV BinOp.lss (nthV s 1) t12 fun t13 =>
  SplitV t13
  (CallV Try.prog N.spec_l3Has [v1, nthV s 1] w_2 fun t18 w_3 =>
  SplitV t18
  (CallV Try.prog N.spec_l3Has [v2, nthV s 1] w_3 fun t22 w_4 =>
  SplitV t22
  (BSliceV T.int 1 1 #[Value.int IntKind.i64 0] [(0, nthV s 1)] w_4 fun t26 w_5 =>
  AppendV Try.prog T.sl_int (nthV s 0) t26 w_5 fun t27 w_6 =>
  BinV BinOp.add (nthV s 1) (Value.int IntKind.i64 1) fun t15 =>
  K [t27, t15] w_6)
  (BinV BinOp.add (nthV s 1) (Value.int IntKind.i64 1) fun t15_1 =>
  K [nthV s 0, t15_1] w_4))
  (BinV BinOp.add (nthV s 1) (Value.int IntKind.i64 1) fun t15_2 =>
  K [nthV s 0, t15_2] w_3))
  (R (nthV s 0) w_2)) :
    Calls Try.prog N.spec_l16Again #[v0, v1, v2] w (Ret R) :=
  callsB (args := [v0, v1, v2]) ⟨(annOf [(3, [7, 8])]), (annOf []), []⟩ Try.func120 rfl (cast (by kernel_rfl) h)

theorem c_spec_l16Wanted (v0 : Value) (v1 : Value) (v2 : Value) (w : World) (R : Value → World → Prop) (h :
  CallV Try.prog N.spec_l16Again [v0, v1, v2] w fun t17 w_1 =>
  LenV v0 fun t19 =>
  MakeSliceV T.bool 1 1 #[Value.bool false] t19 t19 w_1 fun t20 w_2 =>
  LenV v0 fun t22 =>
  BinV BinOp.sub t22 (Value.int IntKind.i64 1) fun t23 =>
  LoopV [t23] w_2 fun s _ w_3 K =>
  BinV BinOp.geq (nthV s 0) (Value.int IntKind.i64 0) fun t25 =>
  SplitV t25
  (CallV Try.prog N.spec_l3Has [t17, nthV s 0] w_3 fun t30 w_4 =>
  NotV t30 fun t31 =>
  SplitV t31
  (BinV BinOp.sub (nthV s 0) (Value.int IntKind.i64 1) fun t27 =>
  K [t27] w_4)
  (CallV Try.prog N.spec_PlanUses [v0, nthV s 0] w_4 fun t34 w_5 =>
  LenV t34 fun t38 =>
  BinV BinOp.eql t38 (Value.int IntKind.i64 0) fun t39 =>
  IdxV 1 t20 (nthV s 0) fun t40 =>
  StoreV 1 t40 t39 w_5 fun w_6 =>
  LoopV [Value.int IntKind.i64 0] w_6 fun s_1 _ w_7 K_1 =>
  LenV t34 fun t43 =>
  BinV BinOp.lss (nthV s_1 0) t43 fun t44 =>
  SplitV t44
  (IdxV 1 t34 (nthV s_1 0) fun t50 =>
  LoadV false 1 t50 w_7 fun t51 =>
  CallV Try.prog N.spec_l3Has [v1, t51] w_7 fun t52 w_8 =>
  NotV t52 fun t53 =>
  SplitV t53
  (IdxV 1 t20 (nthV s 0) fun t65 =>
  StoreV 1 t65 (Value.bool true) w_8 fun w_9 =>
  BinV BinOp.add (nthV s_1 0) (Value.int IntKind.i64 1) fun t46 =>
  K_1 [t46] w_9)
  (IdxV 1 t34 (nthV s_1 0) fun t58 =>
  LoadV false 1 t58 w_8 fun t59 =>
  IdxV 1 t20 t59 fun t60 =>
  LoadV false 1 t60 w_8 fun t61 =>
  SplitV t61
  (IdxV 1 t20 (nthV s 0) fun t65_1 =>
  StoreV 1 t65_1 (Value.bool true) w_8 fun w_10 =>
  BinV BinOp.add (nthV s_1 0) (Value.int IntKind.i64 1) fun t46_1 =>
  K_1 [t46_1] w_10)
  (BinV BinOp.add (nthV s_1 0) (Value.int IntKind.i64 1) fun t46_2 =>
  K_1 [t46_2] w_8)))
  (BinV BinOp.sub (nthV s 0) (Value.int IntKind.i64 1) fun t27_1 =>
  K [t27_1] w_7)))
  (BSliceV T.int 1 0 #[Value.int IntKind.i64 0] [] w_3 fun t66 w_11 =>
  LoopV [t66, Value.int IntKind.i64 0] w_11 fun s_2 _ w_12 K_2 =>
  LenV v0 fun t69 =>
  BinV BinOp.lss (nthV s_2 1) t69 fun t70 =>
  SplitV t70
  (IdxV 1 t20 (nthV s_2 1) fun t75 =>
  LoadV false 1 t75 w_12 fun t76 =>
  SplitV t76
  (BSliceV T.int 1 1 #[Value.int IntKind.i64 0] [(0, nthV s_2 1)] w_12 fun t79 w_13 =>
  AppendV Try.prog T.sl_int (nthV s_2 0) t79 w_13 fun t80 w_14 =>
  BinV BinOp.add (nthV s_2 1) (Value.int IntKind.i64 1) fun t72 =>
  K_2 [t80, t72] w_14)
  (BinV BinOp.add (nthV s_2 1) (Value.int IntKind.i64 1) fun t72_1 =>
  K_2 [nthV s_2 0, t72_1] w_12))
  (R (nthV s_2 0) w_12))) :
    Calls Try.prog N.spec_l16Wanted #[v0, v1, v2] w (Ret R) :=
  callsB (args := [v0, v1, v2]) ⟨(annOf [(4, [9]), (10, [11]), (16, [12, 13])]), (annOf []), []⟩ Try.func76 rfl (cast (by kernel_rfl) h)

theorem c_spec_LoseRows (v0 : Value) (v1 : Value) (v2 : Value) (w : World) (R : Value → World → Prop) (h :
  CallV Try.prog N.spec_PlanValid [v0] w fun t9 w_1 =>
  NotV t9 fun t10 =>
  SplitV t10
  (BSliceV T.int 1 0 #[Value.int IntKind.i64 0] [] w_1 fun t17 w_2 =>
  R (Value.tuple #[t17, Value.bool false]) w_2)
  (CallV Try.prog N.spec_l13Order [v0, v1] w_1 fun t14 w_3 =>
  NotV t14 fun t15 =>
  SplitV t15
  (BSliceV T.int 1 0 #[Value.int IntKind.i64 0] [] w_3 fun t17_1 w_4 =>
  R (Value.tuple #[t17_1, Value.bool false]) w_4)
  (CallV Try.prog N.spec_l16Wanted [v0, v1, v2] w_3 fun t21 w_5 =>
  R (Value.tuple #[t21, Value.bool true]) w_5))) :
    Calls Try.prog N.spec_LoseRows #[v0, v1, v2] w (Ret R) :=
  callsB (args := [v0, v1, v2]) ⟨(annOf []), (annOf []), []⟩ Try.func31 rfl (cast (by kernel_rfl) h)

theorem c_spec_LoseAgain (v0 : Value) (v1 : Value) (v2 : Value) (w : World) (R : Value → World → Prop) (h :
  CallV Try.prog N.spec_LoseRows [v0, v1, v2] w fun t16 w_1 =>
  ExtractV t16 0 fun t17 =>
  ExtractV t16 1 fun t18 =>
  BSliceV T.int 1 0 #[Value.int IntKind.i64 0] [] w_1 fun t19 w_2 =>
  LoopV [t19, Value.int IntKind.i64 0] w_2 fun s _ w_3 K =>
  LenV v1 fun t22 =>
  BinV BinOp.lss (nthV s 1) t22 fun t23 =>
  SplitV t23
  (SplitV t18
  (IdxV 1 v1 (nthV s 1) fun t32 =>
  LoadV false 1 t32 w_3 fun t33 =>
  CallV Try.prog N.spec_l3Has [t17, t33] w_3 fun t34 w_4 =>
  NotV t34 fun t35 =>
  SplitV t35
  (IdxV 1 v1 (nthV s 1) fun t39 =>
  LoadV false 1 t39 w_4 fun t40 =>
  BSliceV T.int 1 1 #[Value.int IntKind.i64 0] [(0, t40)] w_4 fun t41 w_5 =>
  AppendV Try.prog T.sl_int (nthV s 0) t41 w_5 fun t42 w_6 =>
  BinV BinOp.add (nthV s 1) (Value.int IntKind.i64 1) fun t28 =>
  K [t42, t28] w_6)
  (BinV BinOp.add (nthV s 1) (Value.int IntKind.i64 1) fun t28_1 =>
  K [nthV s 0, t28_1] w_4))
  (R (Value.tuple #[nthV s 0, t18]) w_3))
  (R (Value.tuple #[nthV s 0, t18]) w_3)) :
    Calls Try.prog N.spec_LoseAgain #[v0, v1, v2] w (Ret R) :=
  callsB (args := [v0, v1, v2]) ⟨(annOf [(4, [10, 11])]), (annOf []), []⟩ Try.func24 rfl (cast (by kernel_rfl) h)

theorem c_spec_PlanUses (v0 : Value) (v1 : Value) (w : World) (R : Value → World → Prop) (h :
  BSliceV T.int 1 0 #[Value.int IntKind.i64 0] [] w fun t7 w_1 =>
  LoopV [t7, Value.int IntKind.i64 0] w_1 fun s _ w_2 K =>
  LenV v0 fun t10 =>
  BinV BinOp.lss (nthV s 1) t10 fun t11 =>
  SplitV t11
  (CallV Try.prog N.spec_PlanValid [v0] w_2 fun t14 w_3 =>
  SplitV t14
  (IdxV 3 v0 (nthV s 1) fun t20 =>
  FAddrV 1 t20 fun t21 =>
  LoadV false 1 t21 w_3 fun t22 =>
  CallV Try.prog N.spec_l3Has [t22, v1] w_3 fun t24 w_4 =>
  SplitV t24
  (BSliceV T.int 1 1 #[Value.int IntKind.i64 0] [(0, nthV s 1)] w_4 fun t27 w_5 =>
  AppendV Try.prog T.sl_int (nthV s 0) t27 w_5 fun t28 w_6 =>
  BinV BinOp.add (nthV s 1) (Value.int IntKind.i64 1) fun t17 =>
  K [t28, t17] w_6)
  (BinV BinOp.add (nthV s 1) (Value.int IntKind.i64 1) fun t17_1 =>
  K [nthV s 0, t17_1] w_4))
  (R (nthV s 0) w_3))
  (R (nthV s 0) w_2)) :
    Calls Try.prog N.spec_PlanUses #[v0, v1] w (Ret R) :=
  callsB (args := [v0, v1]) ⟨(annOf [(3, [5, 6])]), (annOf []), []⟩ Try.func121 rfl (cast (by kernel_rfl) h)

theorem c_spec_l92Lost (v0 : Value) (w : World) (R : Value → World → Prop) (h :
  CallV Try.prog N.spec_l91Plan [v0] w fun t10 w_1 =>
  CallV Try.prog N.spec_l91Order [v0, t10] w_1 fun t13 w_2 =>
  BSliceV T.int 1 0 #[Value.int IntKind.i64 0] [] w_2 fun t14 w_3 =>
  LoopV [t14, Value.int IntKind.i64 0] w_3 fun s _ w_4 K =>
  LenV t10 fun t17 =>
  BinV BinOp.lss (nthV s 1) t17 fun t18 =>
  SplitV t18
  (CallV Try.prog N.spec_l6Rd_pick [v0, Value.int IntKind.i64 2] w_4 fun t22 w_5 =>
  BinV BinOp.eql t22 (Value.int IntKind.i64 0) fun t23 =>
  SplitV t23
  (BSliceV T.int 1 1 #[Value.int IntKind.i64 0] [(0, nthV s 1)] w_5 fun t26 w_6 =>
  AppendV Try.prog T.sl_int (nthV s 0) t26 w_6 fun t27 w_7 =>
  BinV BinOp.add (nthV s 1) (Value.int IntKind.i64 1) fun t20 =>
  K [t27, t20] w_7)
  (BinV BinOp.add (nthV s 1) (Value.int IntKind.i64 1) fun t20_1 =>
  K [nthV s 0, t20_1] w_5))
  (LenV t13 fun t29 =>
  BinV BinOp.gtr t29 (Value.int IntKind.i64 1) fun t30 =>
  SplitV t30
  (CallV Try.prog N.spec_l6Rd_pick [v0, Value.int IntKind.i64 24] w_4 fun t33 w_8 =>
  BinV BinOp.eql t33 (Value.int IntKind.i64 0) fun t34 =>
  SplitV t34
  (IdxV 1 t13 (Value.int IntKind.i64 0) fun t38 =>
  LoadV false 1 t38 w_8 fun t39 =>
  IdxV 1 t13 (Value.int IntKind.i64 1) fun t40 =>
  StoreV 1 t40 t39 w_8 fun w_9 =>
  R (Value.tuple #[t10, t13, nthV s 0]) w_9)
  (R (Value.tuple #[t10, t13, nthV s 0]) w_8))
  (R (Value.tuple #[t10, t13, nthV s 0]) w_4))) :
    Calls Try.prog N.spec_l92Lost #[v0] w (Ret R) :=
  callsB (args := [v0]) ⟨(annOf [(5, [7, 8])]), (annOf []), []⟩ Try.func67 rfl (cast (by kernel_rfl) h)

theorem c_spec_DrawLoseRows (v0 : Value) (w : World) (R : Value → World → Prop) (h :
  CallV Try.prog N.spec_l6Open [v0] w fun t6 w_1 =>
  CallV Try.prog N.spec_l92Lost [t6] w_1 fun t7 w_2 =>
  ExtractV t7 0 fun t8 =>
  ExtractV t7 1 fun t9 =>
  ExtractV t7 2 fun t10 =>
  R (Value.tuple #[t8, t9, t10]) w_2) :
    Calls Try.prog N.spec_DrawLoseRows #[v0] w (Ret R) :=
  callsB (args := [v0]) ⟨(annOf []), (annOf []), []⟩ Try.func29 rfl (cast (by kernel_rfl) h)

theorem c_spec_DrawLoseAgain (v0 : Value) (w : World) (R : Value → World → Prop) (h :
  CallV Try.prog N.spec_l6Open [v0] w fun t6 w_1 =>
  CallV Try.prog N.spec_l92Lost [t6] w_1 fun t7 w_2 =>
  ExtractV t7 0 fun t8 =>
  ExtractV t7 1 fun t9 =>
  ExtractV t7 2 fun t10 =>
  R (Value.tuple #[t8, t9, t10]) w_2) :
    Calls Try.prog N.spec_DrawLoseAgain #[v0] w (Ret R) :=
  callsB (args := [v0]) ⟨(annOf []), (annOf []), []⟩ Try.func22 rfl (cast (by kernel_rfl) h)

end Go.Proofs.Ytagejoclifgonaa
