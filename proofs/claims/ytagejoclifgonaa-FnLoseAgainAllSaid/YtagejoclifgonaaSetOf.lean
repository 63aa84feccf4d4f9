/- The set of a list's nodes. -/
import Derived.Test.YtagejoclifgonaaNodeSet
namespace Go.Proofs.Ytagejoclifgonaa
open Go Go.V

theorem setOf_ok {w : World} {v lv : Value} {p : List Nd} {l : List Int} (hp : PlanV w v p) (h10 : p.length ≤ 10) (hl : Ints w lv l) (hll : l.length ≤ 1099511627776) :
    Calls Try.prog N.impl_setOf #[v, lv] w (Ret fun r w' => Ext w w' ∧ NSet r fun i => i < p.length ∧ (i : Int) ∈ l) := by
  obtain ⟨la, lc, rfl, hlc, hlcell⟩ := hl.out
  refine ret_k fun R hR => c_impl_setOf _ _ _ _ ?_
  simp only [go_sem]
  refine loopV (fun s w' => ∃ (k m : Nat), s = [.int .u16 m, .int .i64 k] ∧ k ≤ l.length ∧ Ext w w' ∧ NSet (.int .u16 m) fun i => i < p.length ∧ (i : Int) ∈ l.take k) (upTo l.length 1)
    ⟨0, 0, rfl, by omega, Ext.refl _, NSet.zero.congr fun i _ => by simp⟩ ?_
  rintro s z w1 K ⟨k, m, rfl, hk, E1, hs⟩ hK
  simp only [go_sem]
  refine ⟨fun h => ?_, fun h => ?_⟩
  · have hk : k < l.length := by omega
    refine idxLoad (hlcell.ext E1) rfl hk ?_
    refine callV_of (isNode_ok (hp.ext E1) _) rfl ?_
    rintro _ w2 ⟨E2, rfl⟩
    have hmem : ∀ i : Nat, (i : Int) ∈ l.take (k + 1) ↔ (i : Int) ∈ l.take k ∨ (i : Int) = l[k] := fun i => by rw [take_snoc hk, List.mem_append, List.mem_singleton]
    simp only [go_sem]
    refine ⟨fun hn => ?_, fun hn => ?_⟩
    · obtain ⟨i, hi⟩ : ∃ i : Nat, l[k] = (i : Int) := ⟨l[k].toNat, by omega⟩
      rw [hi]
      refine callV_of (nsWith_ok hs (i := i) (by omega)) rfl ?_
      rintro _ w3 ⟨E3, m', hm', rfl, hs3⟩
      cases hm'
      refine bin_inc (by omega) (hK _ _ ⟨k + 1, _, rfl, by omega, (E1.trans E2).trans E3, hs3.congr fun j _ => ?_⟩ (by simp [upTo, nthV, iOf]; omega))
      rw [hmem, hi]
      constructor
      · rintro (h | h)
        · exact ⟨h.1, .inl h.2⟩
        · subst h; exact ⟨by omega, .inr rfl⟩
      · rintro ⟨h1, h2 | h2⟩
        · exact .inl ⟨h1, h2⟩
        · exact .inr (by omega)
    · refine bin_inc (by omega) (hK _ _ ⟨k + 1, _, rfl, by omega, E1.trans E2, hs.congr fun j _ => ?_⟩ (by simp [upTo, nthV, iOf]; omega))
      rw [hmem]
      constructor
      · exact fun h => ⟨h.1, .inl h.2⟩
      · rintro ⟨h1, h2 | h2⟩
        · exact ⟨h1, h2⟩
        · exact absurd (by omega) hn
  · rw [List.take_of_length_le (by omega)] at hs
    exact hR _ _ ⟨E1, hs⟩
end Go.Proofs.Ytagejoclifgonaa
