/-
A shared plan is shared to itself: the law FnShareTwice returns true at every seed, and writes nothing that was there.
No condition.
-/
import Derived.Test.YtokfjjjfecblgaaSharePre
import Derived.Test.YtokfjjjfecblgaaSaved0
import Derived.Test.YtokfjjjfecblgaaCFnShareTwice
namespace Go.Proofs.Ytokfjjjfecblgaa
open Go Go.V

theorem fnShareTwice_ok {w : World} {v : Value} {bs : List Int} (hx : RowIn .u8 w v bs) : Calls Try.prog N.laws_FnShareTwice #[v] w (Ret fun r w' => Ext w w' ∧ r = .bool true) := by
  refine ret_k fun R hR => c_laws_FnShareTwice _ _ _ ?_
  refine share_pre hx (fun w' h => hR _ _ ⟨h, rfl⟩) ?_
  intro t g n w1 p hp hok hq hn e1
  have hg := hq.plan
  have h10 := hok.len
  have hfi := firstO_is hok
  have hlen : ∀ K, LenV t K = K (.int .i64 p.length) := fun K => hp.len
  have hglen : ∀ K, LenV g K = K (.int .i64 (shareP p (firstO p)).length) := fun K => hg.len
  have hnlen : ∀ K, LenV n K = K (.int .i64 p.length) := fun K => by rw [ints_len hn, shareTo_len]
  have hok2 := shareP_ok hok hfi
  have hfi2 := share_firsts hok hfi
  have hf2 : firstO (shareP p (firstO p)) = idL (shareP p (firstO p)).length := firstO_eq hok2 hfi2
  generalize shareP p (firstO p) = q at *
  have h10q := hok2.len
  refine callV_of (implPlanShare_ok hg) rfl ?_
  rintro _ w2 ⟨g2, n2, k2, rfl, E2, f2, i2⟩
  obtain ⟨hall1, hall2⟩ := share_all hok2 (fs := idL q.length) fun i hi => idL_get hi
  have hO : shareO q = q := by unfold shareO; rw [if_pos hok2, hf2, hall1]
  have hN : shareN q = shareTo (idL q.length) q.length := by unfold shareN; rw [if_pos hok2, hf2]
  have hat : ∀ {i : Nat} (hi : i < q.length), (shareTo (idL q.length) q.length)[i]'(by rw [shareTo_len]; exact hi) = (i : Int) := fun {i} hi => by rw [shareTo_at hi, hall2 i hi]
  rw [hO] at f2
  rw [hN] at i2
  have i2 := i2.ints
  have hnl : ∀ K, LenV n2 K = K (.int .i64 q.length) := fun K => by rw [ints_len i2, shareTo_len]
  simp only [go_sem]
  refine loopV (fun s w' => ∃ k : Nat, s = [.int .i64 k] ∧ k ≤ q.length ∧ Ext w2 w') (upTo q.length 0) ⟨0, rfl, by omega, Ext.refl _⟩ ?_
  rintro s z w3 K ⟨k, rfl, hk, E3⟩ hK
  simp only [hnl, go_sem]
  refine ⟨fun h => ?_, fun _ => ⟨fun _ => ?_, fun h => absurd hok2 (by simpa using h)⟩⟩
  · have hk : k < q.length := by omega
    refine Ints.loadI (i2.ext E3) (q := k) (by rw [shareTo_len]; exact hk) ?_
    rw [hat hk]
    simp only [go_sem]
    exact ⟨fun h => absurd rfl h, fun _ => bin_inc (by omega) (hK _ _ ⟨k + 1, rfl, by omega, E3⟩ (by simp [upTo, nthV, iOf]; omega))⟩
  · have hg3 := hg.ext (E2.trans E3)
    refine callV_of (samePlan_ok (f2.ext E3).plan hg3) rfl fun t4 w4 ⟨E4, h4⟩ => ?_
    subst h4
    have e4 := ((e1.trans E2).trans E3).trans E4
    simp only [go_sem]
    refine ⟨fun _ => ?_, fun h => by simp at h⟩
    refine callV_of (implShareSaved_ok (hg3.ext E4)) rfl ?_
    rintro _ w5 ⟨E5, rfl⟩
    have hs : savedO q = 0 := by unfold savedO; rw [if_pos hok2, hO]; omega
    rw [hs]
    simp only [go_sem]
    exact hR _ _ ⟨e4.trans E5, by simp⟩
end Go.Proofs.Ytokfjjjfecblgaa
