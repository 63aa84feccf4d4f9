/-
A cut plan has the same rows at the numbers told: the law FnCut returns true at every seed, and writes nothing that was there.
No condition.
-/
import Derived.Test.YtmbfkhacejnnhaaCutPre
import Derived.Test.YtmbfkhacejnnhaaValues
import Derived.Test.YtmbfkhacejnnhaaCFnCut
namespace Go.Proofs.Ytmbfkhacejnnhaa
open Go Go.V

theorem fnCut_ok {w : World} {v : Value} {bs : List Int} (hx : RowIn .u8 w v bs) : Calls Try.prog N.laws_FnCut #[v] w (Ret fun r w' => Ext w w' ∧ r = .bool true) := by
  refine ret_k fun R hR => c_laws_FnCut _ _ _ ?_
  refine cut_pre hx (fun w' h => hR _ _ ⟨h, rfl⟩) ?_
  intro t l g n w1 p ls hp h10 hl hll hK hg hn e1
  have hok := hK.1
  have hlen : ∀ K, LenV t K = K (.int .i64 p.length) := fun K => hp.len
  have hllen : ∀ K, LenV l K = K (.int .i64 ls.length) := fun K => ints_len hl
  have hglen : ∀ K, LenV g K = K (.int .i64 (subP p (Rch p ls) id).length) := fun K => hg.len
  have valAt : ∀ {q : List Nd} {i : Nat} (hi : i < q.length), (vals q)[i]'(by rw [vals_len]; exact hi) = val q i := fun {q i} hi => by unfold val; rw [List.getD_eq_getElem?_getD, List.getElem?_eq_getElem (by rw [vals_len]; exact hi)]; rfl
  have hsub : SubOk p (Rch p ls) id := by
    refine ⟨fun i _ => Nat.le_refl i, fun i f hi hc hf => ?_⟩
    have := hok.fr_lt hf
    exact .need hc (by rw [show ((id f.toNat : Nat) : Int) = f by simp only [id]; omega]; exact hf)
  have hok2 := subP_ok hok hsub
  have hnlen : ∀ K, LenV n K = K (.int .i64 p.length) := fun K => by rw [ints_len hn, cutTo_len]
  refine callV_of (implValuesOf_ok hp) rfl ?_
  rintro _ w2 ⟨u, rfl, E2, hl1⟩
  have hvo : valsO p = vals p := by unfold valsO; rw [if_pos hok]
  rw [hvo] at hl1
  simp only [go_sem]
  refine callV_of (implValuesOf_ok (hg.ext E2)) rfl ?_
  rintro _ w3 ⟨u2, rfl, E3, hl2⟩
  have hvo2 : valsO (subP p (Rch p ls) id) = vals (subP p (Rch p ls) id) := by unfold valsO; rw [if_pos hok2]
  rw [hvo2] at hl2
  simp only [go_sem]
  refine loopV (fun s w' => ∃ k : Nat, s = [.int .i64 k] ∧ k ≤ p.length ∧ Ext w3 w') (upTo p.length 0) ⟨0, rfl, by omega, Ext.refl _⟩ ?_
  rintro s z w4 K ⟨k, rfl, hk, E4⟩ hK'
  simp only [hlen, hnlen, go_sem]
  refine ⟨fun h => ?_, fun _ => ⟨fun _ => ⟨fun _ => hR _ _ ⟨((e1.trans E2).trans E3).trans E4, by simp⟩, fun h => absurd hok2 (by simpa using h)⟩, fun h => absurd hok (by simpa using h)⟩⟩
  have hk : k < p.length := by omega
  have hcl : k < (cutTo (Rch p ls) p.length).length := by rw [cutTo_len]; exact hk
  have hat : (cutTo (Rch p ls) p.length)[k]'hcl = (cutTo (Rch p ls) p.length).getD k 0 := by rw [List.getD_eq_getElem?_getD, List.getElem?_eq_getElem hcl]; rfl
  refine draw_none fun w5 hs5 => ?_
  have e5 := E4.trans hs5.ext
  have e35 := E3.trans e5
  have hn5 := hn.ext (E2.trans e35)
  refine Ints.loadS hn5 hcl (fun _ => id) ?_
  rw [hat]
  by_cases hc : Rch p ls k
  · rw [cutTo_yes hk hc]
    have hrl := rank_lt (c := Rch p ls) hc hk
    rw [← subP_len p (Rch p ls) id] at hrl
    simp only [go_sem]
    refine ⟨fun _ => ?_, fun h => by omega⟩
    refine (hl1.ext e35).loadS (i := k) (by rw [vals_len]; exact hk) (fun _ => id) fun x hx => ?_
    refine Ints.loadS hn5 hcl (fun _ => id) ?_
    rw [hat, cutTo_yes hk hc]
    refine (hl2.ext e5).loadS (i := rank (Rch p ls) k) (by rw [vals_len]; exact hrl) (fun _ => id) fun y hy => ?_
    rw [valAt hk] at hx
    rw [valAt hrl] at hy
    have hw := (val_row hok hk).1.1
    refine callV_of (sameRow_ok hx hy (by omega)) rfl ?_
    rintro _ w6 ⟨E6, rfl⟩
    refine ⟨E6, ?_⟩
    have hsame : val p k = val (subP p (Rch p ls) id) (rank (Rch p ls) k) := (subP_val hok hsub (fun _ _ => rfl) hk hc).symm
    simp only [go_sem]
    exact ⟨fun h => absurd hsame h, fun _ => bin_inc (by omega) (hK' _ _ ⟨k + 1, rfl, by omega, e5.trans E6⟩ (by simp [upTo, nthV, iOf]; omega))⟩
  · rw [cutTo_no hk hc]
    simp only [go_sem]
    exact ⟨fun h => by omega, fun _ => bin_inc (by omega) (hK' _ _ ⟨k + 1, rfl, by omega, e5⟩ (by simp [upTo, nthV, iOf]; omega))⟩
end Go.Proofs.Ytmbfkhacejnnhaa
