/- The conditions of functions, off their texts. Printed by a program; Lean checks each one. -/
import Derived.Test.YtmbfkhacejnnhaaNames
import Derived.Test.YtmbfkhacejnnhaaV9
namespace Go.Proofs.Ytmbfkhacejnnhaa
open Go Go.V
set_option maxRecDepth 100000
theorem c_laws_FnFirstSwap (v0 : Value) (w : World) (R : Value → World → Prop) (h :
  LenV v0 fun t9 =>
  BinV BinOp.gtr t9 (Value.int IntKind.i64 1048576) fun t10 =>
  SplitV t10
  (R (Value.bool true) w)
  (CallV Try.prog N.spec_DrawShareFirst [v0] w fun t12 w_1 =>
  CallV Try.prog N.impl_ShareFirst [t12] w_1 fun t14 w_2 =>
  CallV Try.prog N.spec_ShareFirst [t12] w_2 fun t16 w_3 =>
  CallV Try.prog N.laws_sameRow [t14, t16] w_3 fun t19 w_4 =>
  NotV t19 fun t20 =>
  SplitV t20
  (CallV Try.prog N.laws_sameRow [t14, t16] w_4 fun t28 w_5 =>
  R t28 w_5)
  (LenV t16 fun t23 =>
  BinV BinOp.eql t23 (Value.int IntKind.i64 0) fun t24 =>
  SplitV t24
  (CallV Try.prog N.laws_sameRow [t14, t16] w_4 fun t28_1 w_6 =>
  R t28_1 w_6)
  (LenV t12 fun t30 =>
  BinV BinOp.sub t30 (Value.int IntKind.i64 1) fun t31 =>
  BSliceV T.impl_Node 3 0 #[Value.int IntKind.i64 0, Value.slice none 0 0, Value.slice none 0 0] [] w_4 fun t32 w_7 =>
  AppendV Try.prog T.sl_impl_Node t32 t12 w_7 fun t34 w_8 =>
  IdxV 3 t12 t31 fun t37 =>
  FAddrV 0 t37 fun t38 =>
  LoadV false 1 t38 w_8 fun t39 =>
  CallV Try.prog N.impl_KindSwaps [t39] w_8 fun t40 w_9 =>
  SplitV t40
  (DrawV w_9 fun S w_10 =>
  IdxV 3 t12 t31 fun t45 =>
  FAddrV 1 t45 fun t46 =>
  LoadS S false 1 t46 w_10 fun t47 =>
  IdxV 1 t47 (Value.int IntKind.i64 1) fun t48 =>
  LoadS S false 1 t48 w_10 fun t49 =>
  IdxV 3 t12 t31 fun t52 =>
  FAddrV 1 t52 fun t53 =>
  LoadS S false 1 t53 w_10 fun t54 =>
  IdxV 1 t54 (Value.int IntKind.i64 0) fun t55 =>
  LoadS S false 1 t55 w_10 fun t56 =>
  BSliceV T.int 1 2 #[Value.int IntKind.i64 0] [(0, t49), (1, t56)] w_10 fun t57 w_11 =>
  Chg S w_10 w_11 ∧
  IdxV 3 t34 t31 fun t58 =>
  FAddrV 1 t58 fun t59 =>
  StoreV 1 t59 t57 w_11 fun w_12 =>
  Chg S w_11 w_12 ∧
  CallV Try.prog N.impl_ShareFirst [t34] w_12 fun t61 w_13 =>
  CallV Try.prog N.laws_sameRow [t61, t14] w_13 fun t63 w_14 =>
  R t63 w_14)
  (CallV Try.prog N.impl_ShareFirst [t34] w_9 fun t61_1 w_15 =>
  CallV Try.prog N.laws_sameRow [t61_1, t14] w_15 fun t63_1 w_16 =>
  R t63_1 w_16))))) :
    Calls Try.prog N.laws_FnFirstSwap #[v0] w (Ret R) :=
  callsB (args := [v0]) ⟨(annOf []), (annOf []), []⟩ Try.func3 rfl (cast (by kernel_rfl) h)

end Go.Proofs.Ytmbfkhacejnnhaa
