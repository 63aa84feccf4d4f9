/- What is ready: the program's way. -/
import Derived.Test.YtpfabjjeacdikaaReady0
namespace Go.Proofs.Ytpfabjjeacdikaa
open Go Go.V

theorem implReadyOf_ok {w : World} {v dv : Value} {p : List Nd} {done : List Int} (hp : PlanV w v p) (hd : Ints w dv done) (hl : done.length ≤ 1099511627776) :
    Calls Try.prog N.impl_ReadyOf #[v, dv] w (Ret (NewInts w (if PlanOk p then readyL p done else []))) := by
  refine ret_k fun R hR => c_impl_ReadyOf _ _ _ _ ?_
  have hlen : ∀ K, LenV v K = K (.int .i64 p.length) := fun K => hp.len
  have hsm := hp.small
  refine callV_of (implPlanValid_ok hp) rfl ?_
  rintro _ w1 ⟨E1, rfl⟩
  simp only [hlen, go_sem]
  refine ⟨fun hno => hR _ _ ⟨E1, by rw [if_neg hno]; exact FInts.nil⟩, fun hok => ?_⟩
  rw [if_pos hok] at hR
  have h10 := hok.len
  obtain ⟨da, dc, rfl, hdc, hdc'⟩ := hd.out
  refine Bits.new fun w2 E2 hb2 hs2 => ?_
  have e2 := E1.trans E2
  simp only [go_sem]
  refine loopV (fun s w' => ∃ k : Nat, s = [.int .i64 k] ∧ k ≤ done.length ∧ Ext w w' ∧ w1.heap.size < w'.heap.size ∧ Bits w' w1.heap.size (fun i => i < p.length ∧ (i : Int) ∈ done.take k)) (upTo done.length 0) ⟨0, rfl, by omega, e2, by omega, by simpa using hb2⟩ ?_
  · rintro s z w3 K ⟨k, rfl, hk, E3, hs3, hb3⟩ hK
    simp only [go_sem]
    refine ⟨fun h => ?_, fun h => ?_⟩
    · have hk : k < done.length := by omega
      refine idxLoad (hdc'.ext E3) rfl hk ?_
      refine callV_of (isNode_ok (hp.ext E3) _) rfl ?_
      rintro _ w4 ⟨E4, rfl⟩
      have hb4 := hb3.ext E4
      have e4 := E3.trans E4
      simp only [go_sem]
      refine ⟨fun hn => ?_, fun hn => ?_⟩
      · obtain ⟨i, hi⟩ : ∃ i : Nat, done[k] = (i : Int) := ⟨done[k].toNat, by omega⟩
        rw [hi]
        refine hb4.set (by omega) fun w5 C5 s5 hb5 => ?_
        refine bin_inc (by omega) (hK _ _ ⟨k + 1, rfl, by omega, Chg.ext (e4.then C5) fun j hj e => by have := E1.size; omega, by have := E4.size; omega, ?_⟩ (by simp [upTo, nthV, iOf]; omega))
        have e : (fun j => (j < p.length ∧ (j : Int) ∈ done.take k) ∨ j = i) = fun j => j < p.length ∧ (j : Int) ∈ done.take (k + 1) := by
          funext j
          rw [take_snoc hk, List.mem_append, List.mem_singleton, hi]
          refine propext ⟨fun h => h.elim (fun h => ⟨h.1, .inl h.2⟩) fun h => ⟨by omega, .inr (by omega)⟩, fun h => h.2.elim (fun h' => .inl ⟨h.1, h'⟩) fun h' => .inr (by omega)⟩
        rw [e] at hb5; exact hb5
      · refine bin_inc (by omega) (hK _ _ ⟨k + 1, rfl, by omega, e4, by have := E4.size; omega, ?_⟩ (by simp [upTo, nthV, iOf]; omega))
        have e : (fun j : Nat => j < p.length ∧ (j : Int) ∈ done.take k) = fun j : Nat => j < p.length ∧ (j : Int) ∈ done.take (k + 1) := by
          funext j
          rw [take_snoc hk, List.mem_append, List.mem_singleton]
          refine propext ⟨fun h => ⟨h.1, .inl h.2⟩, fun h => h.2.elim (fun h' => ⟨h.1, h'⟩) fun h' => absurd (by rw [← h']; omega) hn⟩
        rw [e] at hb4; exact hb4
    · rw [List.take_of_length_le (by omega)] at hb3
      refine loopV (fun s w' => ∃ (k : Nat) (u : Value), s = [u, .int .i64 k] ∧ k ≤ p.length ∧ Ext w3 w' ∧ Own w' w3.heap.size T.int 1 u (sel k fun i => (i : Int) ∉ done ∧ ∀ f ∈ fr p i, f ∈ done).length (ints (sel k fun i => (i : Int) ∉ done ∧ ∀ f ∈ fr p i, f ∈ done))) (upTo p.length 1)
        ⟨0, _, rfl, by omega, Ext.refl _, own_nil⟩ ?_
      rintro s z w4 K ⟨k, u, rfl, hk, E4, ho⟩ hK
      have hsl := @sel_len k fun i => (i : Int) ∉ done ∧ ∀ f ∈ fr p i, f ∈ done
      have e4 := E3.trans E4
      simp only [go_sem]
      refine ⟨fun h => ?_, fun h => ?_⟩
      · have hk : k < p.length := by omega
        refine hp.get e4 hk fun fv rv hfv hrv hs => ?_
        refine box_set (hfv.ext e4) (hrv.ext e4) fun w5 E5 hb5 hlt5 => ?_
        have e5 := e4.trans E5
        have E5' := E4.trans E5
        refine (hb3.ext E5').get (by omega) fun m hm => ?_
        have ho5 := Own.ext ho E5
        simp only [go_sem]
        refine ⟨fun hf => ?_, fun hm1 => ?_⟩
        · have hnd : (k : Int) ∉ done := fun hd => by rw [hm.2 ⟨hk, hd⟩] at hf; cases hf
          refine load2 (v := fv) hb5 rfl ?_
          refine callV_of (allIn_ok (hfv.ext e5) (hb3.ext E5') (fun x hx => by rw [← fr_get hk] at hx; have := hok.fr_lt hx; omega) (by have := hs.1; omega)) rfl ?_
          rintro _ w6 ⟨rfl, m2, rfl, hm2⟩
          have hall : m2 = true ↔ ∀ f ∈ fr p k, f ∈ done := by
            rw [hm2, ← fr_get hk]
            refine ⟨fun h f hf => ?_, fun h f hf => ?_⟩
            · have := hok.fr_lt hf
              have h2 := (h f hf).2
              rwa [show (f.toNat : Int) = f by omega] at h2
            · have := hok.fr_lt hf
              exact ⟨by omega, by rw [show (f.toNat : Int) = f by omega]; exact h f hf⟩
          simp only [go_sem]
          refine ⟨fun ht => ?_, fun hf => ?_⟩
          · refine app1_int sl_int el_int ho5 (by omega) E5'.size fun v' w6 ho6 C6 => ?_
            refine bin_inc (by omega) (hK _ _ ⟨k + 1, v', rfl, by omega, chg_own E5' ho5 C6 (Nat.le_refl _), ?_⟩ (by simp [upTo, nthV, iOf]; omega))
            rw [sel_yes ⟨hnd, hall.1 ht⟩]
            simpa using ho6
          · refine bin_inc (by omega) (hK _ _ ⟨k + 1, u, rfl, by omega, E5', ?_⟩ (by simp [upTo, nthV, iOf]; omega))
            rw [sel_no fun hc => by rw [hall.2 hc.2] at hf; cases hf]; exact ho5
        · refine bin_inc (by omega) (hK _ _ ⟨k + 1, u, rfl, by omega, E5', ?_⟩ (by simp [upTo, nthV, iOf]; omega))
          have := hm.1 (by simpa using hm1)
          rw [sel_no fun hc => hc.1 this.2]; exact ho5
      · have hk : k = p.length := by omega
        subst hk
        refine hR _ _ ⟨e4, ?_⟩
        exact (Own.fints ho).mono fun b _ hb => by have := E3.size; unfold Since; exact Nat.le_trans this hb

end Go.Proofs.Ytpfabjjeacdikaa
