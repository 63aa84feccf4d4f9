/- Copies of lists and nodes. -/
import Derived.Test.YtpfabjjeacdikaaUses
import Derived.Test.YtpfabjjeacdikaaFam
namespace Go.Proofs.Ytpfabjjeacdikaa
open Go Go.V

theorem copyInts_ok {w : World} {v : Value} {xs : List Int} (hx : Ints w v xs) (hl : xs.length ≤ 1099511627776) : Calls Try.prog N.impl_copyInts #[v] w (Ret (NewInts w xs)) := by
  obtain ⟨a, c, rfl, hc, hx⟩ := hx.out
  refine ret_k fun R hR => c_impl_copyInts _ _ _ ?_
  refine appendV_src sl_int el_int (lo := w.heap.size) (own_nil (lo := w.heap.size)) hx (by simp [ints]) ints_one (by omega) (by omega) (Nat.le_refl _) fun v' w' ho hC => ?_
  refine hR _ _ ⟨Chg.ext hC fun k _ h => (by cases h), ?_⟩
  have ho' : Own w' w.heap.size T.int 1 v' (0 + xs.length) (ints xs) := by simpa [ints] using ho
  exact Own.fints ho'

theorem nodup_take {l : List Int} (h : l.Nodup) {k : Nat} (hk : k < l.length) : l[k] ∉ l.take k := by
  intro hm
  obtain ⟨j, hj, e⟩ := List.mem_take_iff_getElem.1 hm
  have h1 := List.pairwise_iff_getElem.1 (List.nodup_iff_pairwise_ne.1 h) j k (by omega) hk (by omega)
  exact h1 e

theorem new_rawI {w w' : World} {k : Int} {fv rv : Value} {xs ys : List Int} {e : Nat} (h2 : Ints w fv xs) (h3 : Ints w rv ys) (hn : New w (.cells (Value.cells (.agg #[.int .i64 k, fv, rv])) e (0, 0)) w') : w'.heap[w.heap.size]? = some (.cells #[.int .i64 k, fv, rv] e (0, 0)) := by
  have := hn.here
  obtain ⟨_, _, rfl, _⟩ := h2.out
  obtain ⟨_, _, rfl, _⟩ := h3.out
  simpa [Value.cells] using this

theorem copyNode_ok {w : World} {v : Value} {x : Nd} (hx : NdV w v x) : Calls Try.prog N.impl_copyNode #[v] w (Ret fun r w' => Ext w w' ∧ NewNd w w' r x) := by
  obtain ⟨fv, rv, rfl, hf, hr, hs⟩ := hx.out
  refine ret_k fun R hR => c_impl_copyNode _ _ _ ?_
  intro w1 hn1
  have hb1 := new_rawI hf hr hn1
  intro w2 hn2
  have z1 := hn1.size
  have z2 := hn2.size
  refine draw_none fun w3 hs3 => ?_
  have E2 := hn1.ext.trans hn2.ext
  have E3 := E2.trans hs3.ext
  have z3 := hs3.size
  have hb3 := hs3.at (hn2.ext.at hb1)
  have hc3 := hs3.at hn2.here
  simp only [go_sem]
  refine loadS2 (v := .int .i64 x.kind) hb3 id rfl ?_
  refine loadS2 (v := fv) hb3 id rfl ?_
  refine loadS2 (v := rv) hb3 id rfl ?_
  refine callV_of (copyInts_ok (hf.ext E3) (by have := hs.1; omega)) rfl fun f w4 ⟨E4, f4⟩ => ⟨E4, ?_⟩
  refine callV_of (copyInts_ok (hr.ext (E3.trans E4)) (by have := hs.2; omega)) rfl fun r w5 ⟨E5, f5⟩ => ⟨E5, ?_⟩
  have f45 := f4.ext E5
  have hfc := (ints_cells f4.ints)
  have hrc := (ints_cells f5.ints)
  have z4 := E4.size
  have z5 := E5.size
  refine ⟨#[.int .i64 x.kind, f, r], ?_, ?_⟩
  · have hi : (Value.int .i64 x.kind).cells = #[.int .i64 x.kind] := rfl
    simp [Instr.fill, hfc.1, hrc.1, hi]
  have hc5 := E5.at (E4.at hc3)
  refine ⟨_, T.impl_Node, rfl, hc5, rfl, by simp [Value.cells], fun u hu => ?_, fun w6 hp6 => ?_⟩
  · simp [Value.cells] at hu
    rcases hu with rfl | rfl | rfl
    · rfl
    · exact hfc.2
    · exact hrc.2
  · refine load_box (by simpa [Value.cells, splice] using hp6.here) ?_
    obtain ⟨b1, g1, k1⟩ := f4.one
    obtain ⟨b2, g2, k2⟩ := f5.one
    have e5 := (E3.trans E4).trans E5
    refine hR _ _ ⟨Chg.ext (e5.then hp6.chg) fun j hj e => by have e : j = w1.heap.size := e; omega, f, r, b1, b2, rfl, ?_, ?_, fun h => by have := (k1 h).1; unfold Since at this; omega, fun h => by have := (k2 h).1; unfold Since at this; omega, fun h h' e => ?_⟩
    · exact (g1.ext E5).keep1 hp6.chg fun h e => by have := (k1 h).1; unfold Since at this; have e : b1 = w1.heap.size := e; omega
    · exact g2.keep1 hp6.chg fun h e => by have := (k2 h).1; unfold Since at this; have e : b2 = w1.heap.size := e; omega
    · have := (k1 h).2; have := (k2 h').1; unfold Since at this; omega
end Go.Proofs.Ytpfabjjeacdikaa
