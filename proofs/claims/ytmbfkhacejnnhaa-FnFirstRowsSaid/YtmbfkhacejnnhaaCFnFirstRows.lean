/- The conditions of functions, off their texts. Printed by a program; Lean checks each one. -/
import Derived.Test.YtmbfkhacejnnhaaNames
import Derived.Test.YtmbfkhacejnnhaaV9
namespace Go.Proofs.Ytmbfkhacejnnhaa
open Go Go.V
set_option maxRecDepth 100000
theorem c_laws_FnFirstRows (v0 : Value) (w : World) (R : Value → World → Prop) (h :
  LenV v0 fun t10 =>
  BinV BinOp.gtr t10 (Value.int IntKind.i64 1048576) fun t11 =>
  SplitV t11
  (R (Value.bool true) w)
  (CallV Try.prog N.spec_DrawShareFirst [v0] w fun t13 w_1 =>
  CallV Try.prog N.impl_ShareFirst [t13] w_1 fun t15 w_2 =>
  CallV Try.prog N.spec_ShareFirst [t13] w_2 fun t17 w_3 =>
  CallV Try.prog N.laws_sameRow [t15, t17] w_3 fun t20 w_4 =>
  NotV t20 fun t21 =>
  SplitV t21
  (CallV Try.prog N.laws_sameRow [t15, t17] w_4 fun t29 w_5 =>
  R t29 w_5)
  (LenV t17 fun t24 =>
  BinV BinOp.eql t24 (Value.int IntKind.i64 0) fun t25 =>
  SplitV t25
  (CallV Try.prog N.laws_sameRow [t15, t17] w_4 fun t29_1 w_6 =>
  R t29_1 w_6)
  (CallV Try.prog N.impl_ValuesOf [t13] w_4 fun t32 w_7 =>
  ExtractV t32 0 fun t33 =>
  ExtractV t32 1 fun t34 =>
  LoopV [Value.int IntKind.i64 0] w_7 fun s _ w_8 K =>
  LenV t15 fun t37 =>
  BinV BinOp.lss (nthV s 0) t37 fun t38 =>
  SplitV t38
  (DrawV w_8 fun S w_9 =>
  IdxV 1 t33 (nthV s 0) fun t43 =>
  LoadS S false 1 t43 w_9 fun t44 =>
  IdxV 1 t15 (nthV s 0) fun t48 =>
  LoadS S false 1 t48 w_9 fun t49 =>
  IdxV 1 t33 t49 fun t50 =>
  LoadS S false 1 t50 w_9 fun t51 =>
  CallV Try.prog N.laws_sameRow [t44, t51] w_9 fun t52 w_10 =>
  Chg S w_9 w_10 ∧
  NotV t52 fun t53 =>
  SplitV t53
  (R (Value.bool false) w_10)
  (BinV BinOp.add (nthV s 0) (Value.int IntKind.i64 1) fun t40 =>
  K [t40] w_10))
  (R t34 w_8))))) :
    Calls Try.prog N.laws_FnFirstRows #[v0] w (Ret R) :=
  callsB (args := [v0]) ⟨(annOf [(10, [8])]), (annOf []), []⟩ Try.func4 rfl (cast (by kernel_rfl) h)

end Go.Proofs.Ytmbfkhacejnnhaa
