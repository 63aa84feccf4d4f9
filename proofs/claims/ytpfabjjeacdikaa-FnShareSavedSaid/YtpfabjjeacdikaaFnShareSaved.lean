/-
What is saved is what the shared plan lacks: the law FnShareSaved returns true at every seed, and writes nothing that was there.
No condition.
-/
import Derived.Test.YtpfabjjeacdikaaDrawTwice
import Derived.Test.YtpfabjjeacdikaaSaved
import Derived.Test.YtpfabjjeacdikaaCFnShareSaved
namespace Go.Proofs.Ytpfabjjeacdikaa
open Go Go.V

theorem drawShareSaved {w : World} {v : Value} {bs : List Int} (hx : RowIn .u8 w v bs) {K : Value → World → Prop} (hK : ∀ t w' p lo, Drawn w t w' p lo → K t w') : CallV Try.prog N.spec_DrawShareSaved [v] w K := by
  refine callV_of (ret_k (Q := fun r w' => K r w') fun R hR => c_spec_DrawShareSaved _ _ _ ?_) rfl fun _ _ h => h
  exact drawTwice hx fun t w' p lo hd => hR _ _ (hK _ _ _ _ hd)

theorem fnShareSaved_ok {w : World} {v : Value} {bs : List Int} (hx : RowIn .u8 w v bs) : Calls Try.prog N.laws_FnShareSaved #[v] w (Ret fun r w' => Ext w w' ∧ r = .bool true) := by
  refine ret_k fun R hR => c_laws_FnShareSaved _ _ _ ?_
  obtain ⟨a, c, hv, hc, _⟩ := hx.out
  have e0 : LenV v = LenV (.slice a bs.length c) := by rw [hv]
  rw [e0]
  simp only [go_sem]
  refine ⟨fun _ => hR _ _ ⟨Ext.refl _, rfl⟩, fun hlen => ?_⟩
  refine drawShareSaved hx fun t w1 p lo hdr => ?_
  have hp := hdr.pl.plan
  have hpl := hdr.len
  refine callV_of (implShareSaved_ok hp) rfl ?_
  rintro _ w2 ⟨E2, rfl⟩
  refine callV_of (specShareSaved_ok (hp.ext E2)) rfl ?_
  rintro _ w3 ⟨E3, rfl⟩
  have E23 := E2.trans E3
  have e3 := hdr.ext.trans E23
  have hs := savedO_range p
  simp only [go_sem]
  refine ⟨fun h => absurd rfl h, fun _ => ⟨fun _ => hR _ _ ⟨e3, by simp⟩, fun hpos => ?_⟩⟩
  have hok : PlanOk p := Classical.byContradiction fun h => hpos (by unfold savedO; rw [if_neg h]; omega)
  have hsv : savedO p = (p.length : Int) - (shareO p).length := by unfold savedO; rw [if_pos hok]
  have hcP : shareO p = shareP p (firstO p) := by unfold shareO; rw [if_pos hok]
  refine callV_of (implPlanShare_ok (hp.ext E23)) rfl ?_
  rintro _ w4 ⟨g, n, k, rfl, E4, f4, _⟩
  have hgl : ∀ K, LenV g K = K (.int .i64 (shareO p).length) := fun K => f4.plan.len
  have htl : ∀ K, LenV t K = K (.int .i64 p.length) := fun K => hp.len
  have e4 := e3.trans E4
  simp only [hgl, htl, go_sem]
  refine ⟨fun _ => bin_sub ⟨by omega, by omega⟩ ?_, fun h => absurd hok (by simpa using h)⟩
  have : ((shareO p).length : Int) = (p.length : Int) - savedO p := by omega
  rw [this]
  simp only [go_sem]
  refine ⟨fun _ => ⟨fun _ => ⟨fun _ => hR _ _ ⟨e4, rfl⟩, fun hge => hR _ _ ⟨e4, ?_⟩⟩, fun h => absurd (show savedO p ≥ 0 by omega) h⟩, fun h => absurd trivial h⟩
  have h0 : (shareO p).length = 0 := by omega
  have hp0 : p.length = 0 := by
    refine Classical.byContradiction fun hne => ?_
    have hfi := firstO_is hok
    have := shareTo_lt hfi (show 0 < p.length by omega)
    rw [← hcP] at this; omega
  simp [hp0]
end Go.Proofs.Ytpfabjjeacdikaa
