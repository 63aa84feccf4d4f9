/-
The ends of a cut plan are nodes that were asked for: the law FnCutEnds returns true at every seed, and writes nothing that was there.
No condition.
-/
import Derived.Test.YtokfjjjfecblgaaCutPre
import Derived.Test.YtokfjjjfecblgaaEnds
import Derived.Test.YtokfjjjfecblgaaCFnCutEnds
namespace Go.Proofs.Ytokfjjjfecblgaa
open Go Go.V

theorem cut_sub {p : List Nd} (hp : PlanOk p) {l : List Int} : SubOk p (Rch p l) id := by
  refine ⟨fun i _ => Nat.le_refl i, fun i f hi hc hf => ?_⟩
  have := hp.fr_lt hf
  exact .need hc (by rw [show ((id f.toNat : Nat) : Int) = f by simp only [id]; omega]; exact hf)
theorem cut_ends {p : List Nd} (hp : PlanOk p) {l : List Int} (hl : ∀ x ∈ l, 0 ≤ x ∧ x < (p.length : Int)) {x : Int} (h : x ∈ endsL (subP p (Rch p l) id)) : ∃ i : Nat, i < p.length ∧ (i : Int) ∈ l ∧ x = (rank (Rch p l) i : Int) := by
  obtain ⟨a, ha, hnone, rfl⟩ := mem_sel.1 h
  rw [subP_len] at ha
  obtain ⟨i, hi, hci, rfl⟩ := rank_surj ha
  refine ⟨i, hi, ?_, rfl⟩
  rcases Rch.iff.1 hci with h | ⟨j, hj, hf⟩
  · exact h
  · exfalso
    have hjl := hj.lt hp hl
    have hmem : ((rank (Rch p l) i : Nat) : Int) ∈ fr (subP p (Rch p l) id) (rank (Rch p l) j) := by
      have hrl : rank (Rch p l) j < (subP p (Rch p l) id).length := by rw [subP_len]; exact rank_lt hj hjl
      rw [fr_get hrl, ← nd_get hrl, subP_nd hjl hj]
      unfold ren
      rw [fr_get hjl, ← nd_get hjl] at hf
      exact List.mem_map.2 ⟨(i : Int), hf, rfl⟩
    have : ((rank (Rch p l) j : Nat) : Int) ∈ usesL (subP p (Rch p l) id) (rank (Rch p l) i : Nat) := mem_usesL_nat.2 ⟨by rw [subP_len]; exact rank_lt hj hjl, hmem⟩
    rw [hnone] at this; cases this

theorem fnCutEnds_ok {w : World} {v : Value} {bs : List Int} (hx : RowIn .u8 w v bs) : Calls Try.prog N.laws_FnCutEnds #[v] w (Ret fun r w' => Ext w w' ∧ r = .bool true) := by
  refine ret_k fun R hR => c_laws_FnCutEnds _ _ _ ?_
  refine cut_pre hx (fun w' h => hR _ _ ⟨h, rfl⟩) ?_
  intro t l g n w1 p ls hp h10 hl hll hK hg hn e1
  have hok := hK.1
  have hlen : ∀ K, LenV t K = K (.int .i64 p.length) := fun K => hp.len
  have hllen : ∀ K, LenV l K = K (.int .i64 ls.length) := fun K => ints_len hl
  have hglen : ∀ K, LenV g K = K (.int .i64 (subP p (Rch p ls) id).length) := fun K => hg.len
  have hsub : SubOk p (Rch p ls) id := cut_sub hok
  have hok2 := subP_ok hok hsub
  have heo : endsO (subP p (Rch p ls) id) = endsL (subP p (Rch p ls) id) := by unfold endsO; rw [if_pos hok2]
  have hel := endsO_len (subP p (Rch p ls) id)
  have h10' := hok2.len
  refine callV_of (planEnds_ok hg) rfl fun u w2 ⟨E2, f2⟩ => ?_
  rw [heo] at f2 hel
  have hul : ∀ K, LenV u K = K (.int .i64 (endsL (subP p (Rch p ls) id)).length) := fun K => ints_len f2.ints
  refine loopV (fun s w' => ∃ k : Nat, s = [.int .i64 k] ∧ k ≤ (endsL (subP p (Rch p ls) id)).length ∧ Ext w2 w') (upTo (endsL (subP p (Rch p ls) id)).length 0) ⟨0, rfl, by omega, Ext.refl _⟩ ?_
  rintro s z w3 K ⟨k, rfl, hk, E3⟩ hK'
  simp only [hul, go_sem]
  refine ⟨fun h => ?_, fun _ => hR _ _ ⟨(e1.trans E2).trans E3, rfl⟩⟩
  have hk : k < (endsL (subP p (Rch p ls) id)).length := by omega
  obtain ⟨i, hi, hil, hie⟩ := cut_ends hok hK.2 (List.getElem_mem hk)
  have hie : (endsL (subP p (Rch p ls) id))[k] = (rank (Rch p ls) i : Int) := hie
  refine loopV (fun s w' => ∃ (j : Nat) (b : Bool), s = [.bool b, .int .i64 j] ∧ j ≤ ls.length ∧ Ext w3 w' ∧ ((i : Int) ∈ ls.take j → b = true)) (upTo ls.length 1) ⟨0, false, rfl, by omega, Ext.refl _, by simp⟩ ?_
  rintro s z w4 K'' ⟨j, b, rfl, hj, E4, hb⟩ hK''
  have e4 := E3.trans E4
  simp only [hllen, go_sem]
  refine ⟨fun h => ?_, fun h => ?_⟩
  · have hj : j < ls.length := by omega
    refine draw_none fun w5 hs5 => ?_
    have E5 := E4.trans hs5.ext
    have e5 := E2.trans (e4.trans hs5.ext)
    try simp only [go_sem]
    refine ⟨fun _ => bin_inc (by omega) (hK'' _ _ ⟨j + 1, true, rfl, by omega, E5, fun _ => rfl⟩ (by simp [upTo, nthV, iOf]; omega)), fun hf => ?_⟩
    refine Ints.loadS (hl.ext e5) hj (fun _ => id) ?_
    have hx := hK.2 _ (List.getElem_mem hj)
    obtain ⟨m, hm⟩ : ∃ m : Nat, ls[j] = (m : Int) := ⟨(ls[j]).toNat, by omega⟩
    rw [hm] at hx ⊢
    have hml : m < (cutTo (Rch p ls) p.length).length := by rw [cutTo_len]; omega
    refine Ints.loadS (hn.ext e5) hml (fun _ => id) ?_
    refine Ints.loadS (f2.ints.ext (e4.trans hs5.ext)) hk (fun _ => id) ?_
    simp only [go_sem]
    refine bin_inc (by omega) (hK'' _ _ ⟨j + 1, _, rfl, by omega, E5, fun h => ?_⟩ (by simp [upTo, nthV, iOf]; omega))
    rw [take_snoc hj, List.mem_append, List.mem_singleton, hm] at h
    rcases h with h | h
    · rw [hb h] at hf; cases hf
    · have : m = i := by omega
      subst this
      rw [hie, cutTo_at (by omega) (.start hil)]
      simp
  · rw [List.take_of_length_le (by omega)] at hb
    have hb := hb hil
    refine ⟨fun h => (by rw [hb] at h; cases h), fun _ => ?_⟩
    exact bin_inc (by omega) (hK' _ _ ⟨k + 1, rfl, by omega, e4⟩ (by simp [upTo, nthV, iOf]; omega))
end Go.Proofs.Ytokfjjjfecblgaa
