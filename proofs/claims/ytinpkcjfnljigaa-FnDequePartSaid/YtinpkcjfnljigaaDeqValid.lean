/- DequeValid: the program's and the reference's. -/
import Derived.Test.YtinpkcjfnljigaaDeques
namespace Go.Proofs.Ytinpkcjfnljigaa
open Go Go.V

theorem implDequeValid_ok {w : World} {v : Value} {xs : List Int} (hx : Ints w v xs) (hl : xs.length ≤ 1099511627776) :
    Calls Try.prog N.impl_DequeValid #[v] w (Ret fun r w' => Ext w w' ∧ r = .bool (decide (DqOk xs))) := by
  have hx0 := hx
  obtain ⟨a, c, rfl, hc, hx⟩ := hx.out
  refine ret_k fun R hR => c_impl_DequeValid _ _ _ ?_
  simp only [go_sem]
  have no : ∀ w', Ext w w' → ¬ DqOk xs → R (.bool false) w' := fun w' hE hn => hR _ _ ⟨hE, by simp [hn]⟩
  refine ⟨fun h => no _ (Ext.refl _) fun hd => by have := hd.1; omega, fun h => ?_⟩
  refine loopV (fun s w' => ∃ k : Nat, s = [.int .i64 k] ∧ k ≤ xs.length ∧ Ext w w' ∧ ∀ i (h : i < k) (h1 : i < xs.length), 0 ≤ xs[i] ∧ xs[i] < 10) (upTo xs.length 0) ⟨0, rfl, by omega, Ext.refl _, fun i h => by omega⟩ ?_
  rintro s z w1 K ⟨k, rfl, hk, hE, hin⟩ hK
  simp only [go_sem]
  refine ⟨fun h => ?_, fun h => ?_⟩
  · have hk : k < xs.length := by omega
    refine idxLoad (hx.ext hE) rfl hk ?_
    simp only [go_sem]
    refine ⟨fun h => no _ hE fun hd => by have := hd.2.1 _ (List.getElem_mem hk); omega, fun h1 => ⟨fun h => no _ hE fun hd => by have := hd.2.1 _ (List.getElem_mem hk); omega, fun h2 => ?_⟩⟩
    refine bin_inc (by omega) (hK _ _ ⟨k + 1, rfl, by omega, hE, fun i hi h1 => ?_⟩ (by simp [upTo, nthV, iOf]; omega))
    by_cases e : i = k
    · subst e; omega
    · exact hin i (by omega) h1
  · refine callV_of (dequeOf_ok (hx0.ext hE) hl) rfl ?_
    rintro _ w2 ⟨E2, u, rfl, ho⟩
    intro w3 hn3
    refine store_agg1 hn3.here (by obtain ⟨_, _, rfl, _⟩ := Own.cells ho; rfl) fun w4 hp4 => ?_
    have hE4 : Ext w2 w4 := Chg.ext (hn3.ext.then hp4.chg) fun n hn h => by have h' : n = w2.heap.size := h; omega
    refine callV_of (different_ok hp4.here (Own.ints ho |>.ext hE4) hl) rfl ?_
    rintro _ w5 ⟨E5, rfl⟩
    refine hR _ _ ⟨((hE.trans E2).trans hE4).trans E5, ?_⟩
    congr 1
    refine decide_eq_decide.2 ⟨fun hnd => ⟨by omega, fun x hx => ?_, hnd⟩, fun hd => hd.2.2⟩
    obtain ⟨i, hi, rfl⟩ := List.mem_iff_getElem.1 hx
    exact hin i (by omega) hi

theorem specDequeValid_ok {w : World} {v : Value} {xs : List Int} (hx : Ints w v xs) (hl : xs.length ≤ 1099511627776) :
    Calls Try.prog N.spec_DequeValid #[v] w (Ret fun r w' => Ext w w' ∧ r = .bool (decide (DqOk xs))) := by
  obtain ⟨a, c, rfl, hc, hx⟩ := hx.out
  refine ret_k fun R hR => c_spec_DequeValid _ _ _ ?_
  have no : ∀ w', Ext w w' → ¬ DqOk xs → R (.bool false) w' := fun w' hE hn => hR _ _ ⟨hE, by simp [hn]⟩
  refine loopV (fun s w' => ∃ k : Nat, s = [.int .i64 k] ∧ k ≤ xs.length ∧ Ext w w' ∧ (∀ i (h : i < k) (h1 : i < xs.length), 0 ≤ xs[i] ∧ xs[i] < 10) ∧ (xs.take k).Nodup) (upTo xs.length 0) ⟨0, rfl, by omega, Ext.refl _, fun i h => by omega, by simp⟩ ?_
  rintro s z w1 K ⟨k, rfl, hk, hE, hin, hnd⟩ hK
  simp only [go_sem]
  refine ⟨fun h => ?_, fun h => ?_⟩
  · have hk : k < xs.length := by omega
    refine draw_none fun w2 hs => ?_
    have E2 := hE.trans hs.ext
    refine idxLoadS (hx.ext E2) rfl hk (fun _ _ _ => id) ?_
    refine callV_of (l6In_ok _ _ _) rfl ?_
    rintro _ w3 ⟨E3, rfl⟩
    refine ⟨E3, ?_⟩
    simp only [go_sem]
    refine ⟨fun h => no _ (E2.trans E3) fun hd => h (by have := hd.2.1 _ (List.getElem_mem hk); omega), fun h1 => ?_⟩
    refine sliceHi (by omega) ?_
    refine idxLoadS (hx.ext (E2.trans E3)) rfl hk (fun _ _ _ => id) ?_
    have htk : (xs.take k).length = k := by simp; omega
    refine callV_of (l3Has_ok (xs := xs.take k) ?_ htk.symm (by omega) _) rfl ?_
    · intro i u hi
      refine hx.ext (E2.trans E3) i u ?_
      simp only [ints, List.map_take, List.getElem?_take] at hi
      split at hi
      · exact hi
      · cases hi
    rintro _ w4 ⟨E4, rfl⟩
    refine ⟨E4, ?_⟩
    have hE4 := (E2.trans E3).trans E4
    simp only [go_sem]
    have hsucc : xs.take (k + 1) = xs.take k ++ [xs[k]] := List.take_succ_eq_append_getElem hk
    refine ⟨fun h => no _ hE4 fun hd => ?_, fun h => ?_⟩
    · have hnd' : (xs.take (k + 1)).Nodup := hd.2.2.sublist (List.take_sublist _ _)
      rw [hsucc, List.nodup_append] at hnd'
      exact hnd'.2.2 _ h _ (by simp) rfl
    · refine bin_inc (by omega) (hK _ _ ⟨k + 1, rfl, by omega, hE4, fun i hi h2 => ?_, ?_⟩ (by simp [upTo, nthV, iOf]; omega))
      · by_cases e : i = k
        · subst e; omega
        · exact hin i (by omega) h2
      · rw [hsucc, List.nodup_append]
        exact ⟨hnd, by simp, fun a ha b hb e => by simp at hb; subst hb; subst e; exact h ha⟩
  · have hk : k = xs.length := by omega
    subst hk
    rw [List.take_length] at hnd
    refine hR _ _ ⟨hE, ?_⟩
    congr 1
    refine decide_eq_decide.2 ⟨fun h => ⟨by omega, fun x hx => ?_, hnd⟩, fun hd => by have := hd.1; omega⟩
    obtain ⟨i, hi, rfl⟩ := List.mem_iff_getElem.1 hx
    exact hin i hi hi

end Go.Proofs.Ytinpkcjfnljigaa
