/-
What is needed is kept: the law FnKeep returns true at every seed, and writes nothing that was there.
No condition.
-/
import Derived.Test.YtpfabjjeacdikaaDrawLC
import Derived.Test.YtpfabjjeacdikaaKeep
import Derived.Test.YtpfabjjeacdikaaNeeds
import Derived.Test.YtpfabjjeacdikaaSame
import Derived.Test.YtpfabjjeacdikaaCFnKeep
namespace Go.Proofs.Ytpfabjjeacdikaa
open Go Go.V

theorem fnKeep_ok {w : World} {v : Value} {bs : List Int} (hx : RowIn .u8 w v bs) : Calls Try.prog N.laws_FnKeep #[v] w (Ret fun r w' => Ext w w' ∧ r = .bool true) := by
  obtain ⟨a, c, hv, hc, _⟩ := hx.out
  refine ret_k fun R hR => c_laws_FnKeep _ _ _ ?_
  have e0 : LenV v = LenV (.slice a bs.length c) := by rw [hv]
  rw [e0]
  simp only [go_sem]
  refine ⟨fun _ => hR _ _ ⟨Ext.refl _, rfl⟩, fun hlen => ?_⟩
  refine callV_of (drawCutKeep_ok hx) rfl ?_
  rintro _ w1 ⟨t, u, p, xs, lo, rfl, hd⟩
  have hp := hd.d.pl.plan
  have hl := hd.d.len
  have hxl := hd.len
  have hk := keepO_len p xs
  simp only [go_sem]
  refine callV_of (implCutKeep_ok hp hd.o (by omega)) rfl ?_
  rintro _ w2 ⟨g, rfl, E2, f2⟩
  simp only [go_sem]
  refine callV_of (specCutKeep_ok (hp.ext E2) (hd.o.ext E2) (by omega)) rfl ?_
  rintro _ w3 ⟨s, rfl, E3, f3⟩
  have e3 := (hd.d.ext.trans E2).trans E3
  have hlt : ∀ K, LenV t K = K (.int .i64 p.length) := fun K => hp.len
  simp only [hlt, go_sem]
  refine ⟨fun h => by simp at h, fun _ => ?_⟩
  refine callV_of (sameRow_ok (f2.ext E3).ints f3.ints (by omega)) rfl fun t4 w4 ⟨E4, h4⟩ => ?_
  subst h4
  have e4 := e3.trans E4
  simp only [go_sem]
  refine ⟨fun h => by simp at h, fun _ => ⟨fun _ => ⟨fun _ => ?_, fun h => by simp at h⟩, fun hK => ?_⟩⟩
  · refine callV_of (sameRow_ok ((f2.ext E3).ext E4).ints (f3.ext E4).ints (by omega)) rfl fun t5 w5 ⟨E5, h5⟩ => ?_
    subst h5
    exact hR _ _ ⟨e4.trans E5, by simp⟩
  · have hK : KeepOk p xs := by simpa using hK
    have hok := hK.1
    have hkl : keepO p xs = keepL p xs := by unfold keepO; rw [if_pos hK]
    rw [hkl] at f2 hk
    have hp4 := ((hp.ext E2).ext E3).ext E4
    have hx4 := ((hd.o.ext E2).ext E3).ext E4
    have hg4 := ((f2.ext E3).ext E4).ints
    obtain ⟨ga, gc, rfl, hgc, hgcell⟩ := hg4.out
    obtain ⟨ua, uc, rfl, huc, hucell⟩ := hx4.out
    simp only [go_sem]
    refine loopV (fun s w' => ∃ k : Nat, s = [.int .i64 k] ∧ k ≤ p.length ∧ Ext w4 w') (upTo p.length 0) ⟨0, rfl, by omega, Ext.refl _⟩ ?_
    rintro s z w5 K ⟨k, rfl, hk', E5⟩ hK'
    simp only [go_sem]
    refine ⟨fun h => ?_, fun h => ?_⟩
    · have hkp : k < p.length := by omega
      refine callV_of (hasInt_ok (hx4.ext E5) (by omega) _) rfl ?_
      rintro _ w6 ⟨E6, rfl⟩
      have e6 := E5.trans E6
      refine loopV (fun s w' => ∃ (j : Nat) (b : Bool), s = [.bool b, .int .i64 j] ∧ j ≤ xs.length ∧ Ext w4 w' ∧ (b = true ↔ (k : Int) ∈ xs ∨ ∃ q ∈ xs.take j, (k : Int) ∈ needsO p q)) (upTo xs.length 1) ⟨0, decide ((k : Int) ∈ xs), rfl, by omega, e6, by simp⟩ ?_
      rintro s z w7 K'' ⟨j, b, rfl, hj, E7, hb⟩ hK''
      simp only [go_sem]
      refine ⟨fun h => ?_, fun h => ?_⟩
      · have hj : j < xs.length := by omega
        refine ⟨fun ht => ?_, fun hf => ?_⟩
        · refine bin_inc (by omega) (hK'' _ _ ⟨j + 1, true, rfl, by omega, E7, ?_⟩ (by simp [upTo, nthV, iOf]; omega))
          simp only [true_iff]
          rcases hb.1 ht with h | ⟨q, hq, h⟩
          · exact .inl h
          · exact .inr ⟨q, by rw [take_snoc hj]; exact List.mem_append_left _ hq, h⟩
        · refine idxLoad (hucell.ext E7) rfl hj ?_
          refine callV_of (planNeeds_ok (hp4.ext E7) _) rfl fun g8 w8 ⟨E8, f8⟩ => ?_
          have hnl := needsO_len p xs[j]
          refine callV_of (hasInt_ok f8.ints (by omega) _) rfl ?_
          rintro _ w9 ⟨E9, rfl⟩
          refine bin_inc (by omega) (hK'' _ _ ⟨j + 1, _, rfl, by omega, (E7.trans E8).trans E9, ?_⟩ (by simp [upTo, nthV, iOf]; omega))
          rw [decide_eq_true_eq]
          have hno : ¬ ((k : Int) ∈ xs ∨ ∃ q ∈ xs.take j, (k : Int) ∈ needsO p q) := fun h => by rw [hb.2 h] at hf; cases hf
          constructor
          · intro h; exact .inr ⟨_, by rw [take_snoc hj]; exact List.mem_append_right _ (by simp), h⟩
          · rintro (h | ⟨q, hq, h⟩)
            · exact absurd (.inl h) hno
            · rw [take_snoc hj, List.mem_append, List.mem_singleton] at hq
              rcases hq with hq | hq
              · exact absurd (.inr ⟨q, hq, h⟩) hno
              · rw [← hq]; exact h
      · rw [List.take_of_length_le (by omega)] at hb
        refine callV_of (hasInt_ok (hg4.ext E7) (by omega) _) rfl ?_
        rintro _ w8 ⟨E8, rfl⟩
        have heq : b = decide ((k : Int) ∈ keepL p xs) := by
          have h1 : (k : Int) ∈ keepL p xs ↔ Rch p xs k := by
            unfold keepL; rw [mem_sel_nat]; exact ⟨fun h => h.2, fun h => ⟨hkp, h⟩⟩
          have h2 : (∃ q ∈ xs, (k : Int) ∈ needsO p q) ↔ ∃ q ∈ xs, Needs p q k := by
            have he : ∀ q, needsO p q = needsL p q := fun q => by unfold needsO; rw [if_pos hok]
            simp only [he]
            exact ⟨fun ⟨q, hq, h⟩ => ⟨q, hq, (mem_sel_nat.1 h).2⟩, fun ⟨q, hq, h⟩ => ⟨q, hq, mem_sel_nat.2 ⟨hkp, h⟩⟩⟩
          rw [h2, ← reach_split, ← h1] at hb
          by_cases hm : (k : Int) ∈ keepL p xs
          · rw [decide_eq_true hm]; exact hb.2 hm
          · rw [decide_eq_false hm]
            cases b with
            | false => rfl
            | true => exact absurd (hb.1 rfl) hm
        rw [heq]
        simp only [go_sem]
        refine ⟨fun h => by simp at h, fun _ => ?_⟩
        exact bin_inc (by omega) (hK' _ _ ⟨k + 1, rfl, by omega, E7.trans E8⟩ (by simp [upTo, nthV, iOf]; omega))
    · refine loopV (fun s w' => ∃ k : Nat, s = [.int .i64 k] ∧ 1 ≤ k ∧ k ≤ (keepL p xs).length + 1 ∧ Ext w4 w') (upTo ((keepL p xs).length + 1) 0) ⟨1, rfl, by omega, by omega, E5⟩ ?_
      rintro s z w6 K'' ⟨j, rfl, hj1, hj, E6⟩ hK''
      simp only [go_sem]
      refine ⟨fun h => ?_, fun h => hR _ _ ⟨e4.trans E6, rfl⟩⟩
      have hj : j < (keepL p xs).length := by omega
      refine draw_none fun w7 hs7 => ?_
      refine bin_sub ⟨by omega, by omega⟩ ?_
      rw [show (j : Int) - 1 = ((j - 1 : Nat) : Int) by omega]
      refine idxLoadS (hgcell.ext (E6.trans hs7.ext)) rfl (k := j - 1) (by omega) (fun _ _ _ => id) ?_
      refine idxLoadS (hgcell.ext (E6.trans hs7.ext)) rfl hj (fun _ _ _ => id) ?_
      have hso := List.pairwise_iff_getElem.1 (sel_sorted (n := p.length) (c := Rch p xs)) (j - 1) j (by unfold keepL at hj; omega) (by unfold keepL at hj; omega) (by omega)
      simp only [go_sem]
      refine ⟨fun h => ?_, fun _ => bin_inc (by omega) (hK'' _ _ ⟨j + 1, rfl, by omega, by omega, E6.trans hs7.ext⟩ (by simp [upTo, nthV, iOf]; omega))⟩
      exfalso
      unfold keepL at h
      omega
end Go.Proofs.Ytpfabjjeacdikaa
