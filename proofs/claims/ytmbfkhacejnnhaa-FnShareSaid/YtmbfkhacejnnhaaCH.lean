/- The conditions of functions, off their texts. Printed by a program; Lean checks each one. -/
import Derived.Test.YtmbfkhacejnnhaaNames
import Derived.Test.YtmbfkhacejnnhaaV9
namespace Go.Proofs.Ytmbfkhacejnnhaa
open Go Go.V
set_option maxRecDepth 100000
theorem c_impl_PlanShare (v0 : Value) (w : World) (R : Value → World → Prop) (h :
  CallV Try.prog N.impl_PlanValid [v0] w fun t13 w_1 =>
  NotV t13 fun t14 =>
  SplitV t14
  (R (Value.tuple #[Value.slice none 0 0, Value.slice none 0 0, Value.bool false]) w_1)
  (LenV v0 fun t16 =>
  MakeSliceV T.int 1 8 #[Value.int IntKind.i64 0] (Value.int IntKind.i64 0) t16 w_1 fun t17 w_2 =>
  CallV Try.prog N.impl_ShareFirst [v0] w_2 fun t19 w_3 =>
  LenV t19 fun t20 =>
  LoopV [Value.slice none 0 0, t17, Value.int IntKind.i64 0] w_3 fun s _ w_4 K =>
  BinV BinOp.lss (nthV s 2) t20 fun t22 =>
  SplitV t22
  (IdxV 1 t19 (nthV s 2) fun t24 =>
  LoadV false 1 t24 w_4 fun t25 =>
  BinV BinOp.neq t25 (nthV s 2) fun t28 =>
  SplitV t28
  (IdxV 1 (nthV s 1) t25 fun t32 =>
  LoadV false 1 t32 w_4 fun t33 =>
  BSliceV T.int 1 1 #[Value.int IntKind.i64 0] [(0, t33)] w_4 fun t34 w_5 =>
  AppendV Try.prog T.sl_int (nthV s 1) t34 w_5 fun t35 w_6 =>
  BinV BinOp.add (nthV s 2) (Value.int IntKind.i64 1) fun t67 =>
  K [nthV s 0, t35, t67] w_6)
  (IdxV 3 v0 (nthV s 2) fun t38 =>
  LoadV true 3 t38 w_4 fun t39 =>
  CallV Try.prog N.impl_copyNode [t39] w_4 fun t40 w_7 =>
  BoxV T.impl_Node (Value.agg #[Value.int IntKind.i64 0, Value.slice none 0 0, Value.slice none 0 0]) w_7 fun t9 w_8 =>
  StoreV 3 t9 t40 w_8 fun w_9 =>
  FAddrV 1 t9 fun t41 =>
  LoadV false 1 t41 w_9 fun t42 =>
  LenV t42 fun t43 =>
  LoopV [Value.int IntKind.i64 0] w_9 fun s_1 _ w_10 K_1 =>
  BinV BinOp.lss (nthV s_1 0) t43 fun t45 =>
  SplitV t45
  (IdxV 1 t42 (nthV s_1 0) fun t47 =>
  LoadV false 1 t47 w_10 fun t48 =>
  DrawV w_10 fun S w_11 =>
  FAddrV 1 t9 fun t49 =>
  LoadS S false 1 t49 w_11 fun t50 =>
  IdxV 1 (nthV s 1) t48 fun t54 =>
  LoadS S false 1 t54 w_11 fun t55 =>
  IdxV 1 t50 (nthV s_1 0) fun t56 =>
  StoreV 1 t56 t55 w_11 fun w_12 =>
  BinV BinOp.add (nthV s_1 0) (Value.int IntKind.i64 1) fun t57 =>
  K_1 [t57] w_12)
  (LenV (nthV s 0) fun t60 =>
  BSliceV T.int 1 1 #[Value.int IntKind.i64 0] [(0, t60)] w_10 fun t61 w_13 =>
  AppendV Try.prog T.sl_int (nthV s 1) t61 w_13 fun t62 w_14 =>
  LoadV true 3 t9 w_14 fun t64 =>
  BSliceV T.impl_Node 3 1 #[Value.int IntKind.i64 0, Value.slice none 0 0, Value.slice none 0 0] [(0, t64)] w_14 fun t65 w_15 =>
  AppendV Try.prog T.sl_impl_Node (nthV s 0) t65 w_15 fun t66 w_16 =>
  BinV BinOp.add (nthV s 2) (Value.int IntKind.i64 1) fun t67_1 =>
  K [t66, t62, t67_1] w_16)))
  (R (Value.tuple #[nthV s 0, nthV s 1, Value.bool true]) w_4))) :
    Calls Try.prog N.impl_PlanShare #[v0] w (Ret R) :=
  callsB (args := [v0]) ⟨(annOf [(6, [5, 6, 21]), (12, [44])]), (annOf []), []⟩ Try.func14 rfl (cast (by kernel_rfl) h)

theorem c_spec_PlanShare (v0 : Value) (w : World) (R : Value → World → Prop) (h :
  BSliceV T.impl_Node 3 0 #[Value.int IntKind.i64 0, Value.slice none 0 0, Value.slice none 0 0] [] w fun t12 w_1 =>
  BSliceV T.int 1 0 #[Value.int IntKind.i64 0] [] w_1 fun t13 w_2 =>
  CallV Try.prog N.spec_PlanValid [v0] w_2 fun t15 w_3 =>
  NotV t15 fun t16 =>
  SplitV t16
  (R (Value.tuple #[t12, t13, Value.bool false]) w_3)
  (CallV Try.prog N.spec_l22First [v0] w_3 fun t20 w_4 =>
  CallV Try.prog N.spec_l3Copy [v0] w_4 fun t22 w_5 =>
  LoopV [t12, t13, Value.int IntKind.i64 0] w_5 fun s _ w_6 K =>
  LenV v0 fun t25 =>
  BinV BinOp.lss (nthV s 2) t25 fun t26 =>
  SplitV t26
  (IdxV 1 t20 (nthV s 2) fun t31 =>
  LoadV false 1 t31 w_6 fun t32 =>
  BinV BinOp.lss t32 (nthV s 2) fun t34 =>
  SplitV t34
  (IdxV 1 t20 (nthV s 2) fun t39 =>
  LoadV false 1 t39 w_6 fun t40 =>
  IdxV 1 (nthV s 1) t40 fun t41 =>
  LoadV false 1 t41 w_6 fun t42 =>
  BSliceV T.int 1 1 #[Value.int IntKind.i64 0] [(0, t42)] w_6 fun t43 w_7 =>
  AppendV Try.prog T.sl_int (nthV s 1) t43 w_7 fun t44 w_8 =>
  BinV BinOp.add (nthV s 2) (Value.int IntKind.i64 1) fun t28 =>
  K [nthV s 0, t44, t28] w_8)
  (IdxV 3 t22 (nthV s 2) fun t47 =>
  LoadV true 3 t47 w_6 fun t48 =>
  BoxV T.impl_Node (Value.agg #[Value.int IntKind.i64 0, Value.slice none 0 0, Value.slice none 0 0]) w_6 fun t10 w_9 =>
  StoreV 3 t10 t48 w_9 fun w_10 =>
  LoopV [Value.int IntKind.i64 0] w_10 fun s_1 _ w_11 K_1 =>
  FAddrV 1 t10 fun t50 =>
  LoadV false 1 t50 w_11 fun t51 =>
  LenV t51 fun t52 =>
  BinV BinOp.lss (nthV s_1 0) t52 fun t53 =>
  SplitV t53
  (DrawV w_11 fun S w_12 =>
  FAddrV 1 t10 fun t56 =>
  LoadS S false 1 t56 w_12 fun t57 =>
  FAddrV 1 t10 fun t60 =>
  LoadS S false 1 t60 w_12 fun t61 =>
  IdxV 1 t61 (nthV s_1 0) fun t63 =>
  LoadS S false 1 t63 w_12 fun t64 =>
  IdxV 1 (nthV s 1) t64 fun t65 =>
  LoadS S false 1 t65 w_12 fun t66 =>
  IdxV 1 t57 (nthV s_1 0) fun t67 =>
  StoreV 1 t67 t66 w_12 fun w_13 =>
  BinV BinOp.add (nthV s_1 0) (Value.int IntKind.i64 1) fun t55 =>
  K_1 [t55] w_13)
  (LenV (nthV s 0) fun t70 =>
  BSliceV T.int 1 1 #[Value.int IntKind.i64 0] [(0, t70)] w_11 fun t71 w_14 =>
  AppendV Try.prog T.sl_int (nthV s 1) t71 w_14 fun t72 w_15 =>
  LoadV true 3 t10 w_15 fun t74 =>
  BSliceV T.impl_Node 3 1 #[Value.int IntKind.i64 0, Value.slice none 0 0, Value.slice none 0 0] [(0, t74)] w_15 fun t75 w_16 =>
  AppendV Try.prog T.sl_impl_Node (nthV s 0) t75 w_16 fun t76 w_17 =>
  BinV BinOp.add (nthV s 2) (Value.int IntKind.i64 1) fun t28_1 =>
  K [t76, t72, t28_1] w_17)))
  (R (Value.tuple #[nthV s 0, nthV s 1, Value.bool true]) w_6))) :
    Calls Try.prog N.spec_PlanShare #[v0] w (Ret R) :=
  callsB (args := [v0]) ⟨(annOf [(8, [5, 6, 9]), (14, [11])]), (annOf []), []⟩ Try.func15 rfl (cast (by kernel_rfl) h)

end Go.Proofs.Ytmbfkhacejnnhaa
