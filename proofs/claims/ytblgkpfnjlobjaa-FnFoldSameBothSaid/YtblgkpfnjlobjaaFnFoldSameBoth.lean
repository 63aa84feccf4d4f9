/-
Both plans may be exchanged: the law FnFoldSameBoth returns true at every seed, and writes nothing that was there.
No condition.
-/
import Derived.Test.YtblgkpfnjlobjaaFoldPre
import Derived.Test.YtblgkpfnjlobjaaCFnFoldSameBoth
namespace Go.Proofs.Ytblgkpfnjlobjaa
open Go Go.V

theorem fnFoldSameBoth_ok {w : World} {v : Value} {bs : List Int} (hx : RowIn .u8 w v bs) : Calls Try.prog N.laws_FnFoldSameBoth #[v] w (Ret fun r w' => Ext w w' ∧ r = .bool true) := by
  refine ret_k fun R hR => c_laws_FnFoldSameBoth _ _ _ ?_
  obtain ⟨va, vc, hv, hvc, _⟩ := hx.out
  have e0 : LenV v = LenV (.slice va bs.length vc) := by rw [hv]
  rw [e0]
  simp only [LenV_i, Bin_gtr, Split_d]
  refine ⟨fun _ => hR _ _ ⟨Ext.refl _, rfl⟩, fun _ => ?_⟩
  refine drawFoldSame hx fun t u w1 p q hp hq e1 => ?_
  simp only [Ext_20, Ext_21]
  refine callV_of (implFoldSame_ok hp hq) rfl ?_
  rintro _ w2 ⟨E2, rfl⟩
  refine callV_of (specFoldSame_ok (hp.ext E2) (hq.ext E2)) rfl ?_
  rintro _ w3 ⟨E3, rfl⟩
  have e3 := E2.trans E3
  simp only [go_sem]
  refine ⟨fun h => by simp at h, fun _ => ?_⟩
  refine callV_of (implFoldSame_ok (hq.ext e3) (hp.ext e3)) rfl ?_
  rintro _ w4 ⟨E4, rfl⟩
  have e4 := e3.trans E4
  have hsw : SameO q p ↔ SameO p q := ⟨fun h => ⟨h.2.1, h.1, h.2.2.symm⟩, fun h => ⟨h.2.1, h.1, h.2.2.symm⟩⟩
  have hsb : (decide (SameO q p) == decide (SameO p q)) = true := by simp [hsw]
  simp only [Bool_eql, hsb, go_sem]
  refine ⟨fun _ => ?_, fun h => (by cases h)⟩
  refine callV_of (implFoldSame_ok (hp.ext e4) (hp.ext e4)) rfl ?_
  rintro _ w5 ⟨E5, rfl⟩
  refine callV_of (implPlanValid_ok (hp.ext (e4.trans E5))) rfl ?_
  rintro _ w6 ⟨E6, rfl⟩
  simp only [go_sem]
  have hself : SameO p p ↔ PlanOk p := ⟨fun h => h.1, fun h => ⟨h, h, rfl⟩⟩
  exact hR _ _ ⟨((e1.trans e4).trans E5).trans E6, by simp [hself]⟩
end Go.Proofs.Ytblgkpfnjlobjaa
