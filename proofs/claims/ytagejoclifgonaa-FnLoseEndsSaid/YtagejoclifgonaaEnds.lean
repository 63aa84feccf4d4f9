/- The nodes that nobody needs. -/
import Derived.Test.YtagejoclifgonaaUses
import Derived.Test.YtagejoclifgonaaCN
namespace Go.Proofs.Ytagejoclifgonaa
open Go Go.V

noncomputable def endsO (p : List Nd) : List Int := if PlanOk p then endsL p else []
theorem endsO_len (p : List Nd) : (endsO p).length ≤ p.length := by
  unfold endsO; split
  · exact sel_len
  · simp

theorem planEnds_ok {w : World} {v : Value} {p : List Nd} (hp : PlanV w v p) : Calls Try.prog N.impl_PlanEnds #[v] w (Ret (NewInts w (endsO p))) := by
  refine ret_k fun R hR => c_impl_PlanEnds _ _ _ ?_
  refine callV_of (graphOf_ok hp) rfl ?_
  rintro _ w1 ⟨E1, ⟨hok, gs, sv, sl, rfl, hg⟩ | ⟨hno, rfl⟩⟩
  rotate_left
  · simp only [go_sem]
    refine ⟨fun _ => hR _ _ ⟨E1, by rw [endsO, if_neg hno]; exact FInts.nil⟩, fun h => absurd trivial (by simp at h)⟩
  simp only [go_sem]
  rw [endsO, if_pos hok] at hR
  refine ⟨fun h => by simp at h, fun _ => ?_⟩
  have hsm := hp.small
  have htop := hg.g.slots.own 0 (by omega)
  rw [hg.top] at htop
  rw [Own.lenV htop]
  simp only [List.length_range]
  refine loopV (fun s w' => ∃ (k : Nat) (u : Value), s = [u, .int .i64 k] ∧ k ≤ p.length ∧ Ext w1 w' ∧ Own w' w1.heap.size T.int 1 u (sel k fun i => usesL p i = []).length (ints (sel k fun i => usesL p i = []))) (upTo p.length 1)
    ⟨0, _, rfl, by omega, Ext.refl _, own_nil⟩ ?_
  rintro s z w2 K ⟨k, u, rfl, hk, E2, ho⟩ hK
  have hsl := @sel_len k fun i => usesL p i = []
  simp only [go_sem]
  refine ⟨fun h => ?_, fun h => ?_⟩
  · have hk : k < p.length := by omega
    have hg2 := hg.g.ext E2
    have htop2 := hg2.slots.own 0 (by omega)
    rw [hg.top] at htop2
    refine ptr_at htop2 (k := k) (by simpa using hk) ?_
    rw [List.getElem_range]
    simp only [go_sem, ptr]
    refine hg2.users hk ?_
    rw [Own.lenV (hg2.slots.own (2 * k + 2) (by omega))]
    have hu := hg.users k hk
    have hul : (sl (2 * k + 2)).length = (usesL p k).length := by rw [← hu]; simp
    simp only [go_sem]
    refine ⟨fun h0 => ?_, fun h0 => ?_⟩
    · refine hg2.at_ hk ?_
      refine app1_int sl_int el_int ho (by omega) E2.size fun v' w3 ho3 C3 => ?_
      refine bin_inc (by omega) (hK _ _ ⟨k + 1, v', rfl, by omega, chg_own E2 ho C3 (Nat.le_refl _), ?_⟩ (by simp [upTo, nthV, iOf]; omega))
      rw [sel_yes (List.eq_nil_of_length_eq_zero (by omega))]; simpa using ho3
    · refine bin_inc (by omega) (hK _ _ ⟨k + 1, u, rfl, by omega, E2, ?_⟩ (by simp [upTo, nthV, iOf]; omega))
      rw [sel_no fun hc => by rw [hc] at hul; simp only [List.length_nil] at hul; omega]; exact ho
  · have hk : k = p.length := by omega
    subst hk
    exact hR _ _ ⟨E1.trans E2, (Own.fints ho).mono fun b _ hb => by have := E1.size; unfold Since; exact Nat.le_trans this hb⟩
end Go.Proofs.Ytagejoclifgonaa
