/-
Plans have the same rows if all of them are: the law FnFoldSame returns true at every seed, and writes nothing that was there.
No condition.
-/
import Derived.Test.YtblgkpfnjlobjaaFoldPre
import Derived.Test.YtblgkpfnjlobjaaCFnFoldSame
namespace Go.Proofs.Ytblgkpfnjlobjaa
open Go Go.V

theorem sameRows_ok {w : World} {u v : Value} {ls ms : List (List Int)} (hx : Lists w u ls) (hy : Lists w v ms) (hl : ls.length ≤ 1048576) (hs : ∀ l ∈ ls, l.length ≤ 1048576) :
    Calls Try.prog N.laws_sameRows #[u, v] w (Ret fun r w' => Ext w w' ∧ r = .bool (decide (ls = ms))) := by
  refine ret_k fun R hR => c_laws_sameRows _ _ _ _ ?_
  have l1 : ∀ K, LenV u K = K (.int .i64 ls.length) := fun K => hx.len
  have l2 : ∀ K, LenV v K = K (.int .i64 ms.length) := fun K => hy.len
  simp only [l1, l2, go_sem]
  refine ⟨fun h => hR _ _ ⟨Ext.refl _, ?_⟩, fun h => ?_⟩
  · have : ls ≠ ms := by rintro rfl; simp at h
    simp [this]
  · have hlen : ls.length = ms.length := by omega
    refine loopV (fun s w' => ∃ k : Nat, s = [.int .i64 k] ∧ k ≤ ls.length ∧ Ext w w' ∧ ∀ i (h : i < k) (h1 : i < ls.length), ls[i] = ms[i]'(by omega)) (upTo ls.length 0) ⟨0, rfl, by omega, Ext.refl _, fun i h => by omega⟩ ?_
    rintro s z w1 K ⟨k, rfl, hk, E1, heq⟩ hK
    simp only [go_sem]
    refine ⟨fun h => ?_, fun h => ?_⟩
    · have hk : k < ls.length := by omega
      refine draw_none fun w2 hs2 => ?_
      have e2 := E1.trans hs2.ext
      refine (hx.ext e2).loadS (i := k) hk (fun _ => id) fun x hx => ?_
      refine (hy.ext e2).loadS (i := k) (by omega) (fun _ => id) fun y hy => ?_
      have hlk := hs _ (List.getElem_mem hk)
      refine callV_of (sameRow_ok hx hy (by omega)) rfl ?_
      rintro _ w3 ⟨E3, rfl⟩
      refine ⟨E3, ?_⟩
      have e3 := e2.trans E3
      simp only [go_sem]
      refine ⟨fun h => hR _ _ ⟨e3, ?_⟩, fun h => ?_⟩
      · have : ls ≠ ms := by rintro rfl; exact h rfl
        simp [this]
      · refine bin_inc (by omega) (hK _ _ ⟨k + 1, rfl, by omega, e3, fun i hi h1 => ?_⟩ (by simp [upTo, nthV, iOf]; omega))
        by_cases e : i = k
        · subst e; exact h
        · exact heq i (by omega) h1
    · have : ls = ms := List.ext_getElem hlen fun i h1 h2 => heq i (by omega) h1
      exact hR _ _ ⟨E1, by simp [this]⟩

theorem fnFoldSame_ok {w : World} {v : Value} {bs : List Int} (hx : RowIn .u8 w v bs) : Calls Try.prog N.laws_FnFoldSame #[v] w (Ret fun r w' => Ext w w' ∧ r = .bool true) := by
  refine ret_k fun R hR => c_laws_FnFoldSame _ _ _ ?_
  obtain ⟨va, vc, hv, hvc, _⟩ := hx.out
  have e0 : LenV v = LenV (.slice va bs.length vc) := by rw [hv]
  rw [e0]
  simp only [LenV_i, Bin_gtr, Split_d]
  refine ⟨fun _ => hR _ _ ⟨Ext.refl _, rfl⟩, fun _ => ?_⟩
  refine drawFoldSame hx fun t u w1 p q hp hq e1 => ?_
  simp only [Ext_20, Ext_21]
  refine callV_of (implFoldSame_ok hp hq) rfl ?_
  rintro _ w2 ⟨E2, rfl⟩
  refine callV_of (specFoldSame_ok (hp.ext E2) (hq.ext E2)) rfl ?_
  rintro _ w3 ⟨E3, rfl⟩
  have e3 := E2.trans E3
  simp only [go_sem]
  refine ⟨fun h => by simp at h, fun _ => ?_⟩
  refine callV_of (implValuesOf_ok (hp.ext e3)) rfl ?_
  rintro _ w4 ⟨x, rfl, E4, hx4⟩
  have e4 := e3.trans E4
  simp only [go_sem]
  refine callV_of (implValuesOf_ok (hq.ext e4)) rfl ?_
  rintro _ w5 ⟨y, rfl, E5, hy5⟩
  have e5 := e4.trans E5
  have ee := e1.trans e5
  simp only [go_sem]
  refine ⟨fun h1 => ⟨fun h2 => ?_, fun h2 => ?_⟩, fun h1 => ?_⟩
  · have v1 : valsO p = vals p := by unfold valsO; rw [if_pos h1]
    have v2 : valsO q = vals q := by unfold valsO; rw [if_pos h2]
    rw [v1] at hx4
    rw [v2] at hy5
    refine callV_of (sameRows_ok (hx4.ext E5) hy5 (by rw [vals_len]; have := h1.len; omega) fun l hl => by have := vals_small h1 l hl; omega) rfl ?_
    rintro _ w6 ⟨E6, rfl⟩
    simp only [go_sem]
    refine hR _ _ ⟨ee.trans E6, ?_⟩
    have : SameO p q ↔ vals p = vals q := ⟨fun h => h.2.2, fun h => ⟨h1, h2, h⟩⟩
    simp [this]
  · have : ¬ SameO p q := fun h => h2 h.2.1
    exact hR _ _ ⟨ee, by simp [this]⟩
  · have : ¬ SameO p q := fun h => h1 h.1
    exact hR _ _ ⟨ee, by simp [this]⟩
end Go.Proofs.Ytblgkpfnjlobjaa
