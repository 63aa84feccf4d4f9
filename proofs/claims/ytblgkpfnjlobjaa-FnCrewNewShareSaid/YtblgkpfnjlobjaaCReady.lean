/- Counts that are zero. -/
import Derived.Test.YtblgkpfnjlobjaaCnt
namespace Go.Proofs.Ytblgkpfnjlobjaa
open Go Go.V

noncomputable def zerosL (xs : List Int) : List Int := sel xs.length fun i => xs.getD i 1 = 0
theorem getD_atD {xs : List Int} {k : Nat} (h : k < xs.length) (d : Int) : xs.getD k d = xs[k] := by simp [h]

theorem implCountsReady_ok {w : World} {v : Value} {xs : List Int} (hx : Ints w v xs) (hl : xs.length ≤ 1099511627776) : Calls Try.prog N.impl_CountsReady #[v] w (Ret (NewInts w (zerosL xs))) := by
  obtain ⟨a, c, rfl, hc, hx⟩ := hx.out
  refine ret_k fun R hR => c_impl_CountsReady _ _ _ ?_
  simp only [go_sem]
  refine loopV (fun s w' => ∃ (k : Nat) (u : Value), s = [u, .int .i64 k] ∧ k ≤ xs.length ∧ Ext w w' ∧ Own w' w.heap.size T.int 1 u (sel k fun i => xs.getD i 1 = 0).length (ints (sel k fun i => xs.getD i 1 = 0))) (upTo xs.length 1) ⟨0, _, rfl, by omega, Ext.refl _, own_nil⟩ ?_
  rintro s z w' K ⟨k, u, rfl, hk, hE, ho⟩ hK
  have hsl := @sel_len k fun i => xs.getD i 1 = 0
  simp only [go_sem]
  refine ⟨fun h => ?_, fun h => ?_⟩
  · have hk : k < xs.length := by omega
    have hg := getD_atD hk 1
    refine idxLoad (hx.ext hE) rfl hk ?_
    simp only [go_sem]
    refine ⟨fun h0 => ?_, fun h0 => ?_⟩
    · refine app1_int sl_int el_int ho (by omega) hE.size fun v' w3 ho' hc' => ?_
      refine bin_inc (by omega) (hK _ _ ⟨k + 1, v', rfl, by omega, chg_own hE ho hc' (Nat.le_refl _), ?_⟩ (by simp [upTo, nthV, iOf]; omega))
      rw [sel_yes (by rw [hg]; exact h0)]; simpa using ho'
    · refine bin_inc (by omega) (hK _ _ ⟨k + 1, u, rfl, by omega, hE, ?_⟩ (by simp [upTo, nthV, iOf]; omega))
      rw [sel_no (by rw [hg]; exact h0)]; exact ho
  · have hk : k = xs.length := by omega
    subst hk
    exact hR _ _ ⟨hE, (Own.fints ho).mono fun _ _ h => h⟩
theorem specCountsReady_ok {w : World} {v : Value} {xs : List Int} (hx : Ints w v xs) (hl : xs.length ≤ 1099511627776) : Calls Try.prog N.spec_CountsReady #[v] w (Ret (NewInts w (zerosL xs))) := by
  obtain ⟨a, c, rfl, hc, hx⟩ := hx.out
  refine ret_k fun R hR => c_spec_CountsReady _ _ _ ?_
  refine ⟨_, rfl, fun w1 hn => ?_⟩
  simp only [go_sem]
  refine loopV (fun s w' => ∃ (k : Nat) (u : Value), s = [u, .int .i64 k] ∧ k ≤ xs.length ∧ Ext w w' ∧ Own w' w.heap.size T.int 1 u (sel k fun i => xs.getD i 1 = 0).length (ints (sel k fun i => xs.getD i 1 = 0))) (upTo xs.length 1) ⟨0, _, rfl, by omega, hn.ext, Own.empty hn (Nat.le_refl _)⟩ ?_
  rintro s z w' K ⟨k, u, rfl, hk, hE, ho⟩ hK
  have hsl := @sel_len k fun i => xs.getD i 1 = 0
  simp only [go_sem]
  refine ⟨fun h => ?_, fun h => ?_⟩
  · have hk : k < xs.length := by omega
    have hg := getD_atD hk 1
    refine idxLoad (hx.ext hE) rfl hk ?_
    simp only [go_sem]
    refine ⟨fun h0 => ?_, fun h0 => ?_⟩
    · refine app1_int sl_int el_int ho (by omega) hE.size fun v' w3 ho' hc' => ?_
      refine bin_inc (by omega) (hK _ _ ⟨k + 1, v', rfl, by omega, chg_own hE ho hc' (Nat.le_refl _), ?_⟩ (by simp [upTo, nthV, iOf]; omega))
      rw [sel_yes (by rw [hg]; exact h0)]; simpa using ho'
    · refine bin_inc (by omega) (hK _ _ ⟨k + 1, u, rfl, by omega, hE, ?_⟩ (by simp [upTo, nthV, iOf]; omega))
      rw [sel_no (by rw [hg]; exact h0)]; exact ho
  · have hk : k = xs.length := by omega
    subst hk
    exact hR _ _ ⟨hE, (Own.fints ho).mono fun _ _ h => h⟩

/-- A count is zero just where nothing is needed. -/
theorem cnt_zero {p : List Nd} (hok : PlanOk p) {k : Nat} : cnt p k = 0 ↔ fr p k = [] := by
  unfold cnt
  rw [List.length_eq_zero_iff, sel_eq_nil]
  constructor
  · intro h
    cases hf : fr p k with
    | nil => rfl
    | cons x xs =>
      exfalso
      have hm : x ∈ fr p k := by rw [hf]; simp
      have hl := hok.fr_lt hm
      refine h x.toNat (by omega) ?_
      rw [show ((x.toNat : Nat) : Int) = x by omega]; exact hm
  · intro h j _ hj; rw [h] at hj; cases hj
theorem zeros_cnt {p : List Nd} (hok : PlanOk p) : zerosL (cntL p) = readyL p [] := by
  unfold zerosL readyL
  rw [cntL_len]
  refine sel_congr fun k hk => ?_
  rw [getD_atD (by rw [cntL_len]; exact hk), cntL_get]
  constructor
  · intro h
    have h0 : fr p k = [] := (cnt_zero hok).1 (by omega)
    exact ⟨by simp, by rw [h0]; simp⟩
  · rintro ⟨_, h⟩
    have h0 : fr p k = [] := by
      cases hf : fr p k with
      | nil => rfl
      | cons x xs => have := h x (by rw [hf]; simp); cases this
    have := (cnt_zero hok).2 h0
    omega
end Go.Proofs.Ytblgkpfnjlobjaa
