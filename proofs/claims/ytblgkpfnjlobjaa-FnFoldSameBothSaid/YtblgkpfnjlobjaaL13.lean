/- Lists are compared: the reference's way. -/
import Derived.Test.YtblgkpfnjlobjaaBasics
import Derived.Test.YtblgkpfnjlobjaaCS
namespace Go.Proofs.Ytblgkpfnjlobjaa
open Go Go.V

theorem l13Same_ok {w : World} {u v : Value} {xs ys : List Int} (hx : Ints w u xs) (hy : Ints w v ys) (hl : xs.length < 9223372036854775807) :
    Calls Try.prog N.spec_l13Same #[u, v] w (Ret fun r w' => Ext w w' ∧ r = .bool (decide (xs = ys))) := by
  obtain ⟨a, c, rfl, hc, hx⟩ := hx.out
  obtain ⟨b, d, rfl, hd, hy⟩ := hy.out
  refine ret_k fun R hR => c_spec_l13Same _ _ _ _ ?_
  have no : ∀ w', Ext w w' → xs ≠ ys → R (.bool false) w' := fun w' hE hn => hR _ _ ⟨hE, by rw [decide_eq_false hn]⟩
  simp only [go_sem]
  refine ⟨fun h => no _ (Ext.refl _) fun e => h (by rw [e]), fun h => ?_⟩
  have hlq : xs.length = ys.length := by have := Classical.not_not.1 h; omega
  refine loopV (fun s w' => ∃ k : Nat, s = [.int .i64 k] ∧ k ≤ xs.length ∧ Ext w w' ∧ ∀ i (_ : i < k) (h1 : i < xs.length), xs[i] = ys[i]'(by omega)) (upTo xs.length 0) ⟨0, rfl, by omega, Ext.refl _, fun i hi => by omega⟩ ?_
  rintro s z w1 K ⟨k, rfl, hk, E1, hin⟩ hK
  simp only [go_sem]
  refine ⟨fun h => ?_, fun h => ?_⟩
  · have hk : k < xs.length := by omega
    refine draw_none fun w2 hs2 => ?_
    have e2 := E1.trans hs2.ext
    refine idxLoadS (hx.ext e2) rfl hk (fun _ _ _ => id) ?_
    refine idxLoadS (hy.ext e2) rfl (by omega : k < ys.length) (fun _ _ _ => id) ?_
    simp only [go_sem]
    refine ⟨fun h => no _ e2 fun e => h (by subst e; rfl), fun he => ?_⟩
    refine bin_inc (by omega) (hK _ _ ⟨k + 1, rfl, by omega, e2, fun i hi hil => ?_⟩ (by simp [upTo, nthV, iOf]; omega))
    by_cases e : i = k
    · subst e; exact Classical.not_not.1 he
    · exact hin i (by omega) hil
  · exact hR _ _ ⟨E1, by rw [decide_eq_true]; exact List.ext_getElem hlq fun i h1 h2 => hin i (by omega) h1⟩
end Go.Proofs.Ytblgkpfnjlobjaa
