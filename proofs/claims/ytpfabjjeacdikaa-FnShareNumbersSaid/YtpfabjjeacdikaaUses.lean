/- Whether a plan is valid; who needs a node. -/
import Derived.Test.YtpfabjjeacdikaaGraphOf
import Derived.Test.YtpfabjjeacdikaaCU
namespace Go.Proofs.Ytpfabjjeacdikaa
open Go Go.V

theorem implPlanValid_ok {w : World} {v : Value} {p : List Nd} (hp : PlanV w v p) : Calls Try.prog N.impl_PlanValid #[v] w (Ret fun r w' => Ext w w' ∧ r = .bool (decide (PlanOk p))) := by
  refine ret_k fun R hR => c_impl_PlanValid _ _ _ ?_
  refine callV_of (graphOf_ok hp) rfl ?_
  rintro _ w1 ⟨E1, ⟨hok, gs, sv, sl, rfl, _⟩ | ⟨hno, rfl⟩⟩
  · simp only [go_sem]; exact hR _ _ ⟨E1, by rw [decide_eq_true hok]⟩
  · simp only [go_sem]; exact hR _ _ ⟨E1, by rw [decide_eq_false hno]⟩

theorem isNode_ok {w : World} {v : Value} {p : List Nd} (hp : PlanV w v p) (a : Int) : Calls Try.prog N.impl_isNode #[v, .int .i64 a] w (Ret fun r w' => Ext w w' ∧ r = .bool (decide (0 ≤ a ∧ a < p.length))) := by
  refine ret_k fun R hR => c_impl_isNode _ _ _ _ ?_
  have hlen : ∀ K, LenV v K = K (.int .i64 p.length) := fun K => hp.len
  simp only [hlen, go_sem]
  refine ⟨fun h => hR _ _ ⟨Ext.refl _, ?_⟩, fun h => hR _ _ ⟨Ext.refl _, ?_⟩⟩
  · congr 1; exact decide_eq_decide.2 ⟨fun h' => ⟨h, h'⟩, fun h' => h'.2⟩
  · rw [decide_eq_false fun h' => h h'.1]

/-- An empty slice, in a world of its own. -/
theorem own_nil {w : World} {lo : Nat} : Own w lo T.int 1 (.slice none 0 0) 0 (ints []) := Own.nil

theorem own_len {w : World} {lo e n : Nat} {v : Value} {xs : List Int} (h : Own w lo e 1 v n (ints xs)) : n = xs.length := by
  have := h.1; simp [ints] at this; omega

theorem take_snoc {α : Type} {l : List α} {k : Nat} (h : k < l.length) : l.take (k + 1) = l.take k ++ [l[k]] := List.take_succ_eq_append_getElem h

theorem planUses_ok {w : World} {v : Value} {p : List Nd} (hp : PlanV w v p) (a : Int) : Calls Try.prog N.impl_PlanUses #[v, .int .i64 a] w (Ret (NewInts w (if PlanOk p then usesL p a else []))) := by
  refine ret_k fun R hR => c_impl_PlanUses _ _ _ _ ?_
  refine callV_of (graphOf_ok hp) rfl ?_
  rintro _ w1 ⟨E1, ⟨hok, gs, sv, sl, rfl, hg⟩ | ⟨hno, rfl⟩⟩
  rotate_left
  · simp only [go_sem]
    refine ⟨fun _ => hR _ _ ⟨E1, by rw [if_neg hno]; exact FInts.nil⟩, fun h => absurd trivial (by simp at h)⟩
  simp only [go_sem]
  rw [if_pos hok] at hR
  refine ⟨fun h => by simp at h, fun _ => ?_⟩
  refine callV_of (isNode_ok (hp.ext E1) a) rfl ?_
  rintro _ w2 ⟨E2, rfl⟩
  simp only [go_sem]
  refine ⟨fun h => hR _ _ ⟨E1.trans E2, by rw [usesL_none hok h]; exact FInts.nil⟩, fun h => ?_⟩
  obtain ⟨i, rfl⟩ : ∃ i : Nat, a = (i : Int) := ⟨a.toNat, by omega⟩
  have hi : i < p.length := by omega
  have hg2 := hg.g.ext E2
  have htop := hg2.slots.own 0 (by omega)
  rw [hg.top] at htop
  refine ptr_at htop (k := i) (by simpa using hi) ?_
  rw [List.getElem_range]
  simp only [go_sem, ptr]
  refine hg2.users hi ?_
  have hus := hg2.slots.own (2 * i + 2) (by omega)
  have hu := hg.users i hi
  have hul := gmap_len hu
  have hsm := hp.small
  rw [Own.lenV hus]
  refine loopV (fun s w' => ∃ (k : Nat) (u : Value), s = [u, .int .i64 k] ∧ k ≤ (sl (2 * i + 2)).length ∧ Ext w2 w' ∧ Own w' w2.heap.size T.int 1 u k (ints ((usesL p i).take k))) (upTo (sl (2 * i + 2)).length 1)
    ⟨0, _, rfl, by omega, Ext.refl _, by simpa using own_nil⟩ ?_
  rintro s z w3 K ⟨k, u, rfl, hk, E3, ho⟩ hK
  simp only [go_sem]
  refine ⟨fun h => ?_, fun h => ?_⟩
  · have hk : k < (sl (2 * i + 2)).length := by omega
    have hg3 := hg2.ext E3
    refine ptr_at (hg3.slots.own (2 * i + 2) (by omega)) hk ?_
    have hlow := hg3.slots.low (2 * i + 2) _ (by omega) (List.getElem_mem hk)
    simp only [go_sem, ptr]
    refine hg3.at_ hlow ?_
    have hln := own_len ho
    rw [hln] at ho
    refine app1_int sl_int el_int ho (by omega) E3.size fun v' w4 ho4 C4 => ?_
    have hkl : k < (usesL p i).length := by rw [← hu]; simpa using hk
    have he : ((sl (2 * i + 2))[k] : Int) = (usesL p i)[k] := by
      have h1 : ((sl (2 * i + 2)).map fun (k : Nat) => (k : Int))[k]? = (usesL p i)[k]? := by rw [hu]
      rw [List.getElem?_map, List.getElem?_eq_getElem hk, List.getElem?_eq_getElem hkl] at h1
      simpa using h1
    refine bin_inc (by omega) (hK _ _ ⟨k + 1, v', rfl, by omega, chg_own E3 ho C4 (Nat.le_refl _), ?_⟩ (by simp [upTo, nthV, iOf]; omega))
    rw [take_snoc hkl, ← he]
    rw [← hln] at ho4; exact ho4
  · have hkl : k = (usesL p i).length := by rw [← hu]; simp; omega
    rw [hkl, List.take_length] at ho
    refine hR _ _ ⟨(E1.trans E2).trans E3, (Own.fints ho).mono fun b _ hb => ?_⟩
    have := (E1.trans E2).size
    unfold Since
    exact Nat.le_trans this hb
end Go.Proofs.Ytpfabjjeacdikaa
