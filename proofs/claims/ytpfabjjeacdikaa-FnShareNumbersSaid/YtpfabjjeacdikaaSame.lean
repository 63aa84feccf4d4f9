/- Rows that are compared, marked and held. -/
import Derived.Test.YtpfabjjeacdikaaBasics
namespace Go.Proofs.Ytpfabjjeacdikaa
open Go Go.V

theorem sameRow_ok {w : World} {u v : Value} {xs ys : List Int} (hx : Ints w u xs) (hy : Ints w v ys) (hl : xs.length < 9223372036854775807) :
    Calls Try.prog N.laws_sameRow #[u, v] w (Ret fun r w' => Ext w w' ∧ r = .bool (decide (xs = ys))) := by
  obtain ⟨a, c, rfl, hc, hx⟩ := hx.out
  obtain ⟨b, d, rfl, hd, hy⟩ := hy.out
  refine ret_k fun R hR => c_laws_sameRow _ _ _ _ ?_
  simp only [go_sem]
  refine ⟨fun h => hR _ _ ⟨Ext.refl _, ?_⟩, fun h => ?_⟩
  · have : xs ≠ ys := by rintro rfl; simp at h
    simp [this]
  · have hlen : xs.length = ys.length := by omega
    refine loopV (fun s w' => ∃ k : Nat, s = [.int .i64 k] ∧ k ≤ xs.length ∧ Ext w w' ∧ ∀ i (h : i < k) (h1 : i < xs.length), xs[i] = ys[i]'(by omega)) (upTo xs.length 0) ⟨0, rfl, by omega, Ext.refl _, fun i h => by omega⟩ ?_
    rintro s z w' K ⟨k, rfl, hk, hE, heq⟩ hK
    simp only [go_sem]
    refine ⟨fun h => ?_, fun h => ?_⟩
    · have hk : k < xs.length := by omega
      refine draw_none fun w0 hs => ?_
      have hE0 : Ext w w0 := hE.trans hs.ext
      refine idxLoadS (hx.ext hE0) rfl hk (fun _ _ _ => id) ?_
      refine idxLoadS (hy.ext hE0) rfl (by omega) (fun _ _ _ => id) ?_
      simp only [go_sem]
      refine ⟨fun h => hR _ _ ⟨hE0, ?_⟩, fun h => ?_⟩
      · have : xs ≠ ys := by rintro rfl; exact h rfl
        simp [this]
      · refine bin_inc (by omega) (hK _ _ ⟨k + 1, rfl, by omega, hE0, fun i hi h1 => ?_⟩ (by simp [upTo, nthV, iOf]; omega))
        by_cases e : i = k
        · subst e; simpa using h
        · exact heq i (by omega) h1
    · have : xs = ys := (list_eq_iff hlen).2 fun i hi => heq i (by omega) hi
      exact hR _ _ ⟨hE, by simp [this]⟩

/-- k, k + 1, .. -/
def marks (k : Int) (n : Nat) : List Int := (List.range n).map fun (i : Nat) => k + (i : Int)
theorem marks_length (k : Int) (n : Nat) : (marks k n).length = n := by simp [marks]
theorem marks_get {k : Int} {n i : Nat} (h : i < n) : (marks k n)[i]'(by rw [marks_length]; exact h) = k + i := by simp [marks]

theorem markIntS_ok {w : World} {B : Nat → Prop} {v : Value} {xs : List Int} {k : Nat} (hx : FInts w B v xs) (hk : k + xs.length ≤ 1152921504606846976) :
    Calls Try.prog N.laws_markIntS #[v, .int .i64 k] w (Ret fun r w' => r = .int .i64 (k + xs.length : Nat) ∧ Chg B w w' ∧ w'.heap.size = w.heap.size ∧ FInts w' B v (marks k xs.length)) := by
  obtain ⟨a, c, rfl, hc, hr⟩ := hx.out
  refine ret_k fun R hR => c_laws_markIntS _ _ _ _ ?_
  refine loopV (fun s w' => ∃ j : Nat, s = [.int .i64 (k + j : Nat), .int .i64 j] ∧ j ≤ xs.length ∧ Chg B w w' ∧ w'.heap.size = w.heap.size ∧
      (xs ≠ [] → ∃ b off cur, a = some ⟨b, off, none⟩ ∧ B b ∧ w'.heap[b]? = some (.cells cur T.int (0, 0)) ∧ off + xs.length ≤ cur.size ∧ ∀ i, i < j → cur[off + i]? = some (.int .i64 (k + i)))) (upTo xs.length 1)
    ⟨0, rfl, by omega, Chg.refl _ _, rfl, fun hne => ?_⟩ ?_
  · obtain ⟨b, off, cur, ha, hb, hcur, hsz, _⟩ := hr hne
    exact ⟨b, off, cur, ha, hb, hcur, hsz, fun i hi => by omega⟩
  rintro s z w' K ⟨j, rfl, hj, hC, hS, hr'⟩ hK
  simp only [go_sem]
  refine ⟨fun h => ?_, fun h => ?_⟩
  · have hj : j < xs.length := by omega
    obtain ⟨b, off, cur, rfl, hb, hcur, hsz, hm⟩ := hr' (List.ne_nil_of_length_pos (by omega))
    refine ⟨by omega, by omega, ?_⟩
    simp only [addr_add, Int.toNat_natCast, Nat.mul_one]
    refine store_at hcur rfl rfl (by omega) fun w2 hp => ?_
    refine bin_inc (by omega) (bin_inc (by omega) (hK _ _ ⟨j + 1, rfl, by omega, ?_, hp.size.trans hS, fun _ => ⟨b, off, _, rfl, hb, hp.here, by simpa using hsz, fun i hi => ?_⟩⟩ (by simp [upTo, nthV, iOf]; omega)))
    · exact Chg.trans hC hp.chg (fun _ _ h => h) (fun n _ h => by have h' : n = b := h; subst h'; exact hb)
    · by_cases e : i = j
      · subst e
        rw [Array.getElem?_setIfInBounds_self_of_lt (by omega)]
        simp only [Int.natCast_add]
      · rw [Array.getElem?_setIfInBounds_ne (by omega)]
        exact hm i (by omega)
  · have hj : j = xs.length := by omega
    subst hj
    refine hR _ _ ⟨rfl, hC, hS, ?_⟩
    refine ⟨a, c, by rw [marks_length], by rw [marks_length]; exact hc, fun hne => ?_⟩
    have hne' : xs ≠ [] := by rintro rfl; exact hne (by simp [marks])
    obtain ⟨b, off, cur, ha, hb, hcur, hsz, hm⟩ := hr' hne'
    refine ⟨b, off, cur, ha, hb, hcur, by rw [marks_length]; exact hsz, fun i x hi => ?_⟩
    obtain ⟨hlt, hx⟩ := List.getElem?_eq_some_iff.1 hi
    rw [marks_length] at hlt
    rw [marks_get hlt] at hx
    rw [← hx]; exact hm i hlt

theorem heldIntS_ok {w : World} {v : Value} {n k : Nat} (hx : Ints w v (marks k n)) (hk : k + n ≤ 1152921504606846976) :
    Calls Try.prog N.laws_heldIntS #[v, .int .i64 k] w (Ret fun r w' => r = .int .i64 (k + n : Nat) ∧ Ext w w') := by
  obtain ⟨a, c, rfl, hc, hx⟩ := hx.out
  simp only [marks_length] at hc ⊢
  refine ret_k fun R hR => c_laws_heldIntS _ _ _ _ ?_
  refine loopV (fun s w' => ∃ j : Nat, s = [.int .i64 (k + j : Nat), .int .i64 j] ∧ j ≤ n ∧ Ext w w') (upTo n 1) ⟨0, rfl, by omega, Ext.refl _⟩ ?_
  rintro s z w' K ⟨j, rfl, hj, hE⟩ hK
  simp only [go_sem]
  refine ⟨fun h => ?_, fun h => ?_⟩
  · have hj : j < n := by omega
    refine idxLoad (hx.ext hE) (by rw [marks_length]) (by rw [marks_length]; exact hj) ?_
    rw [marks_get hj]
    simp only [go_sem]
    refine ⟨fun h => absurd (by simp) h, fun _ => ?_⟩
    exact bin_inc (by omega) (bin_inc (by omega) (hK _ _ ⟨j + 1, rfl, by omega, hE⟩ (by simp [upTo, nthV, iOf]; omega)))
  · have hj : j = n := by omega
    subst hj
    exact hR _ _ ⟨rfl, hE⟩

end Go.Proofs.Ytpfabjjeacdikaa
