/- The conditions of functions, off their texts. Printed by a program; Lean checks each one. -/
import Derived.Test.YtpfabjjeacdikaaNames
import Derived.Test.YtpfabjjeacdikaaV9
namespace Go.Proofs.Ytpfabjjeacdikaa
open Go Go.V
set_option maxRecDepth 100000
theorem c_spec_l6Open (v0 : Value) (w : World) (R : Value → World → Prop) (h :
  LenV v0 fun t4 =>
  BinV BinOp.gtr t4 (Value.int IntKind.i64 2000) fun t5 =>
  SplitV t5
  (SliceV 1 v0 none (some (Value.int IntKind.i64 2000)) fun t7 =>
  BuildV #[Value.slice none 0 0, Value.int IntKind.i64 0] (fun i => ([(0, 1), (1, 1)] : List (Nat × Nat))[i]?) [(0, t7)] fun t9 =>
  BoxV T.spec_l6Rd t9 w fun t10 w_1 =>
  R t10 w_1)
  (BuildV #[Value.slice none 0 0, Value.int IntKind.i64 0] (fun i => ([(0, 1), (1, 1)] : List (Nat × Nat))[i]?) [(0, v0)] fun t9_1 =>
  BoxV T.spec_l6Rd t9_1 w fun t10_1 w_2 =>
  R t10_1 w_2)) :
    Calls Try.prog N.spec_l6Open #[v0] w (Ret R) :=
  callsB (args := [v0]) ⟨(annOf []), (annOf []), []⟩ Try.func53 rfl (cast (by kernel_rfl) h)

theorem c_spec_l6Rd_pick (v0 : Value) (v1 : Value) (w : World) (R : Value → World → Prop) (h :
  NilV v0 fun t9 =>
  FAddrV 1 t9 fun t10 =>
  LoadV false 1 t10 w fun t11 =>
  BinV BinOp.add t11 (Value.int IntKind.i64 1) fun t12 =>
  NilV v0 fun t13 =>
  FAddrV 1 t13 fun t14 =>
  StoreV 1 t14 t12 w fun w_1 =>
  BinV BinOp.lss v1 (Value.int IntKind.i64 1) fun t16 =>
  SplitV t16
  (R (Value.int IntKind.i64 0) w_1)
  (NilV v0 fun t19 =>
  FAddrV 0 t19 fun t20 =>
  LoadV false 1 t20 w_1 fun t21 =>
  LenV t21 fun t22 =>
  BinV BinOp.eql t22 (Value.int IntKind.i64 0) fun t23 =>
  SplitV t23
  (R (Value.int IntKind.i64 0) w_1)
  (NilV v0 fun t26 =>
  FAddrV 1 t26 fun t27 =>
  LoadV false 1 t27 w_1 fun t28 =>
  BinV BinOp.sub t28 (Value.int IntKind.i64 1) fun t29 =>
  NilV v0 fun t32 =>
  FAddrV 0 t32 fun t33 =>
  LoadV false 1 t33 w_1 fun t34 =>
  LenV t34 fun t35 =>
  BinV BinOp.lss t29 t35 fun t36 =>
  SplitV t36
  (NilV v0 fun t38 =>
  FAddrV 0 t38 fun t39 =>
  LoadV false 1 t39 w_1 fun t40 =>
  IdxV 1 t40 t29 fun t42 =>
  LoadV false 1 t42 w_1 fun t43 =>
  ConvV IntKind.i64 t43 fun t44 =>
  BinV BinOp.rem t44 v1 fun t46 =>
  R t46 w_1)
  (DrawV w_1 fun S w_2 =>
  NilV v0 fun t48 =>
  FAddrV 0 t48 fun t49 =>
  LoadS S false 1 t49 w_2 fun t50 =>
  NilV v0 fun t53 =>
  FAddrV 0 t53 fun t54 =>
  LoadS S false 1 t54 w_2 fun t55 =>
  LenV t55 fun t56 =>
  BinV BinOp.rem t29 t56 fun t57 =>
  IdxV 1 t50 t57 fun t58 =>
  LoadS S false 1 t58 w_2 fun t59 =>
  ConvV IntKind.i64 t59 fun t60 =>
  BinV BinOp.mul t60 (Value.int IntKind.i64 131) fun t61 =>
  NilV v0 fun t63 =>
  FAddrV 0 t63 fun t64 =>
  LoadS S false 1 t64 w_2 fun t65 =>
  BinV BinOp.mul t29 (Value.int IntKind.i64 7) fun t67 =>
  BinV BinOp.add t67 (Value.int IntKind.i64 3) fun t68 =>
  NilV v0 fun t70 =>
  FAddrV 0 t70 fun t71 =>
  LoadS S false 1 t71 w_2 fun t72 =>
  LenV t72 fun t73 =>
  BinV BinOp.rem t68 t73 fun t74 =>
  IdxV 1 t65 t74 fun t75 =>
  LoadS S false 1 t75 w_2 fun t76 =>
  ConvV IntKind.i64 t76 fun t77 =>
  BinV BinOp.mul t77 (Value.int IntKind.i64 1117) fun t78 =>
  BinV BinOp.add t61 t78 fun t79 =>
  BinV BinOp.mul t29 (Value.int IntKind.i64 29) fun t81 =>
  BinV BinOp.add t79 t81 fun t82 =>
  NilV v0 fun t85 =>
  FAddrV 0 t85 fun t86 =>
  LoadS S false 1 t86 w_2 fun t87 =>
  LenV t87 fun t88 =>
  BinV BinOp.quo t29 t88 fun t89 =>
  BinV BinOp.mul t89 (Value.int IntKind.i64 53) fun t90 =>
  BinV BinOp.add t82 t90 fun t91 =>
  BinV BinOp.quo t91 (Value.int IntKind.i64 64) fun t94 =>
  BinV BinOp.xor t91 t94 fun t95 =>
  BinV BinOp.rem t95 v1 fun t98 =>
  R t98 w_2)))) :
    Calls Try.prog N.spec_l6Rd_pick #[v0, v1] w (Ret R) :=
  callsB (args := [v0, v1]) ⟨(annOf []), (annOf []), []⟩ Try.func56 rfl (cast (by kernel_rfl) h)

end Go.Proofs.Ytpfabjjeacdikaa
