/- The nodes of a set, in order. -/
import Derived.Test.YtmbfkhacejnnhaaNodeSet
namespace Go.Proofs.Ytmbfkhacejnnhaa
open Go Go.V

theorem nsList_ok {w : World} {v : Value} {c : Nat → Prop} (h : NSet v c) : Calls Try.prog N.impl_nodeSet_list #[v] w (Ret (NewInts w (sel 10 c))) := by
  refine ret_k fun R hR => c_impl_nodeSet_list _ _ _ ?_
  refine loopV (fun s w' => ∃ (k : Nat) (u : Value), s = [u, .int .i64 k] ∧ k ≤ 10 ∧ Ext w w' ∧ Own w' w.heap.size T.int 1 u (sel k c).length (ints (sel k c))) (upTo 10 1) ⟨0, _, rfl, by omega, Ext.refl _, own_nil⟩ ?_
  rintro s z w1 K ⟨k, u, rfl, hk, E1, ho⟩ hK
  have hsl := @sel_len k c
  simp only [go_sem]
  refine ⟨fun hlt => ?_, fun hge => ?_⟩
  · refine callV_of (nsHas_ok h (by omega)) rfl ?_
    rintro _ w2 ⟨E2, b, rfl, hb⟩
    have ho2 := Own.ext ho E2
    have e2 := E1.trans E2
    simp only [go_sem]
    refine ⟨fun ht => ?_, fun hf => ?_⟩
    · refine app1_int sl_int el_int ho2 (by omega) e2.size fun v' w3 ho3 C3 => ?_
      refine bin_inc (by omega) (hK _ _ ⟨k + 1, v', rfl, by omega, chg_own e2 ho2 C3 (Nat.le_refl _), ?_⟩ (by simp [upTo, nthV, iOf]; omega))
      rw [sel_yes (hb.1 ht)]; simpa using ho3
    · refine bin_inc (by omega) (hK _ _ ⟨k + 1, u, rfl, by omega, e2, ?_⟩ (by simp [upTo, nthV, iOf]; omega))
      rw [sel_no fun hc => by rw [hb.2 hc] at hf; cases hf]; exact ho2
  · have hk : k = 10 := by omega
    subst hk
    exact hR _ _ ⟨E1, (Own.fints ho).mono fun _ _ h => h⟩
end Go.Proofs.Ytmbfkhacejnnhaa
