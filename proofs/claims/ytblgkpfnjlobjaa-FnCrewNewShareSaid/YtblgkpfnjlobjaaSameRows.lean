/- Lists of rows are compared. -/
import Derived.Test.YtblgkpfnjlobjaaRowSpec
import Derived.Test.YtblgkpfnjlobjaaCF
namespace Go.Proofs.Ytblgkpfnjlobjaa
open Go Go.V

theorem sameRows_ok {w : World} {u v : Value} {ls ms : List (List Int)} (hx : Lists w u ls) (hy : Lists w v ms) (hl : ls.length ≤ 1048576) (hs : ∀ l ∈ ls, l.length ≤ 1048576) :
    Calls Try.prog N.laws_sameRows #[u, v] w (Ret fun r w' => Ext w w' ∧ r = .bool (decide (ls = ms))) := by
  refine ret_k fun R hR => c_laws_sameRows _ _ _ _ ?_
  have l1 : ∀ K, LenV u K = K (.int .i64 ls.length) := fun K => hx.len
  have l2 : ∀ K, LenV v K = K (.int .i64 ms.length) := fun K => hy.len
  simp only [l1, l2, go_sem]
  refine ⟨fun h => hR _ _ ⟨Ext.refl _, ?_⟩, fun h => ?_⟩
  · have : ls ≠ ms := by rintro rfl; simp at h
    simp [this]
  · have hlen : ls.length = ms.length := by omega
    refine loopV (fun s w' => ∃ k : Nat, s = [.int .i64 k] ∧ k ≤ ls.length ∧ Ext w w' ∧ ∀ i (h : i < k) (h1 : i < ls.length), ls[i] = ms[i]'(by omega)) (upTo ls.length 0) ⟨0, rfl, by omega, Ext.refl _, fun i h => by omega⟩ ?_
    rintro s z w1 K ⟨k, rfl, hk, E1, heq⟩ hK
    simp only [go_sem]
    refine ⟨fun h => ?_, fun h => ?_⟩
    · have hk : k < ls.length := by omega
      refine draw_none fun w2 hs2 => ?_
      have e2 := E1.trans hs2.ext
      refine (hx.ext e2).loadS (i := k) hk (fun _ => id) fun x hx => ?_
      refine (hy.ext e2).loadS (i := k) (by omega) (fun _ => id) fun y hy => ?_
      have hlk := hs _ (List.getElem_mem hk)
      refine callV_of (sameRow_ok hx hy (by omega)) rfl ?_
      rintro _ w3 ⟨E3, rfl⟩
      refine ⟨E3, ?_⟩
      have e3 := e2.trans E3
      simp only [go_sem]
      refine ⟨fun h => hR _ _ ⟨e3, ?_⟩, fun h => ?_⟩
      · have : ls ≠ ms := by rintro rfl; exact h rfl
        simp [this]
      · refine bin_inc (by omega) (hK _ _ ⟨k + 1, rfl, by omega, e3, fun i hi h1 => ?_⟩ (by simp [upTo, nthV, iOf]; omega))
        by_cases e : i = k
        · subst e; exact h
        · exact heq i (by omega) h1
    · have : ls = ms := List.ext_getElem hlen fun i h1 h2 => heq i (by omega) h1
      exact hR _ _ ⟨E1, by simp [this]⟩
end Go.Proofs.Ytblgkpfnjlobjaa
