/-
A shared plan has the same rows at the numbers told: the law FnShare returns true at every seed, and writes nothing that was there.
No condition.
-/
import Derived.Test.YtmbfkhacejnnhaaSharePre
import Derived.Test.YtmbfkhacejnnhaaValues
import Derived.Test.YtmbfkhacejnnhaaCFnShare
namespace Go.Proofs.Ytmbfkhacejnnhaa
open Go Go.V

theorem fnShare_ok {w : World} {v : Value} {bs : List Int} (hx : RowIn .u8 w v bs) : Calls Try.prog N.laws_FnShare #[v] w (Ret fun r w' => Ext w w' ∧ r = .bool true) := by
  refine ret_k fun R hR => c_laws_FnShare _ _ _ ?_
  refine share_pre hx (fun w' h => hR _ _ ⟨h, rfl⟩) ?_
  intro t g n w1 p hp hok hq hn e1
  have hg := hq.plan
  have h10 := hok.len
  have hfi := firstO_is hok
  have hlen : ∀ K, LenV t K = K (.int .i64 p.length) := fun K => hp.len
  have hglen : ∀ K, LenV g K = K (.int .i64 (shareP p (firstO p)).length) := fun K => hg.len
  have hnlen : ∀ K, LenV n K = K (.int .i64 p.length) := fun K => by rw [ints_len hn, shareTo_len]
  have valAt : ∀ {q : List Nd} {i : Nat} (hi : i < q.length), (vals q)[i]'(by rw [vals_len]; exact hi) = val q i := fun {q i} hi => by unfold val; rw [List.getD_eq_getElem?_getD, List.getElem?_eq_getElem (by rw [vals_len]; exact hi)]; rfl
  have hok2 := shareP_ok hok hfi
  refine callV_of (implValuesOf_ok hp) rfl ?_
  rintro _ w2 ⟨u, rfl, E2, hl⟩
  have hvo : valsO p = vals p := by unfold valsO; rw [if_pos hok]
  rw [hvo] at hl
  simp only [go_sem]
  refine callV_of (implValuesOf_ok (hg.ext E2)) rfl ?_
  rintro _ w3 ⟨u2, rfl, E3, hl2⟩
  have hvo2 : valsO (shareP p (firstO p)) = vals (shareP p (firstO p)) := by unfold valsO; rw [if_pos hok2]
  rw [hvo2] at hl2
  have h10q := hok2.len
  simp only [go_sem]
  refine loopV (fun s w' => ∃ k : Nat, s = [.int .i64 k] ∧ k ≤ p.length ∧ Ext w3 w') (upTo p.length 0) ⟨0, rfl, by omega, Ext.refl _⟩ ?_
  rintro s z w4 K ⟨k, rfl, hk, E4⟩ hK
  simp only [hlen, hnlen, go_sem]
  refine ⟨fun h => ?_, fun _ => ⟨fun _ => ⟨fun _ => hR _ _ ⟨((e1.trans E2).trans E3).trans E4, by simp⟩, fun h => absurd hok2 (by simpa using h)⟩, fun h => absurd hok (by simpa using h)⟩⟩
  have hk : k < p.length := by omega
  have hlt := shareTo_lt hfi hk
  refine draw_none fun w5 hs5 => ?_
  have e5 := E4.trans hs5.ext
  have e35 := E3.trans e5
  have hn5 := hn.ext (E2.trans e35)
  refine Ints.loadS hn5 (q := k) (by rw [shareTo_len]; exact hk) (fun _ => id) ?_
  rw [shareTo_at hk]
  simp only [hglen, go_sem]
  refine ⟨fun h => by omega, fun _ => ?_⟩
  refine Ints.loadS hn5 (q := k) (by rw [shareTo_len]; exact hk) (fun _ => id) ?_
  rw [shareTo_at hk]
  simp only [go_sem]
  refine ⟨fun h => by omega, fun _ => ?_⟩
  refine (hl.ext e35).loadS (i := k) (by rw [vals_len]; exact hk) (fun _ => id) fun x hx => ?_
  refine Ints.loadS hn5 (q := k) (by rw [shareTo_len]; exact hk) (fun _ => id) ?_
  rw [shareTo_at hk]
  refine (hl2.ext e5).loadS (i := rank (rep (firstO p)) (fst (firstO p) k)) (by rw [vals_len]; exact hlt) (fun _ => id) fun y hy => ?_
  rw [valAt hk] at hx
  rw [valAt hlt] at hy
  have hw := (val_row hok hk).1.1
  refine callV_of (sameRow_ok hx hy (by omega)) rfl ?_
  rintro _ w6 ⟨E6, rfl⟩
  refine ⟨E6, ?_⟩
  have hsame : val p k = val (shareP p (firstO p)) (rank (rep (firstO p)) (fst (firstO p) k)) := (shareP_val hok hfi hk).symm
  simp only [go_sem]
  exact ⟨fun h => absurd hsame h, fun _ => bin_inc (by omega) (hK _ _ ⟨k + 1, rfl, by omega, e5.trans E6⟩ (by simp [upTo, nthV, iOf]; omega))⟩
end Go.Proofs.Ytmbfkhacejnnhaa
