/-
Folding changes no row: the law FnFoldValues returns true at every seed, and writes nothing that was there.
No condition.
-/
import Derived.Test.YtblgkpfnjlobjaaFoldPre
import Derived.Test.YtblgkpfnjlobjaaCFnFoldValues
namespace Go.Proofs.Ytblgkpfnjlobjaa
open Go Go.V

theorem fnFoldValues_ok {w : World} {v : Value} {bs : List Int} (hx : RowIn .u8 w v bs) : Calls Try.prog N.laws_FnFoldValues #[v] w (Ret fun r w' => Ext w w' ∧ r = .bool true) := by
  refine ret_k fun R hR => c_laws_FnFoldValues _ _ _ ?_
  obtain ⟨va, vc, hv, hvc, _⟩ := hx.out
  have e0 : LenV v = LenV (.slice va bs.length vc) := by rw [hv]
  rw [e0]
  simp only [LenV_i, Bin_gtr, Split_d]
  refine ⟨fun _ => hR _ _ ⟨Ext.refl _, rfl⟩, fun _ => ?_⟩
  refine drawFoldNode hx fun t a w1 p lo hd => ?_
  have hp := hd.pl.plan
  simp only [Ext_20, Ext_21]
  refine fold_eq (implFoldNode_ok hp a) (fun w2 E => specFoldNode_ok (hp.ext E) a) (fun w' E => hR _ _ ⟨hd.ext.trans E, rfl⟩) fun u w2 hK hu E2 => ?_
  refine callV_of (implFoldSame_ok (hp.ext E2) hu) rfl ?_
  rintro _ w3 ⟨E3, rfl⟩
  have hs : SameO p (foldO p [a]) := by
    unfold foldO
    rw [if_pos hK]
    exact ⟨hK.1, foldP_ok hK.1 _, (foldP_vals hK.1 _).symm⟩
  exact hR _ _ ⟨(hd.ext.trans E2).trans E3, by rw [decide_eq_true hs]⟩
end Go.Proofs.Ytblgkpfnjlobjaa
