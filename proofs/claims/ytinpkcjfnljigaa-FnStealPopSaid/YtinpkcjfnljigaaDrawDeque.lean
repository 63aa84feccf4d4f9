/- The draws of a deque and of a node to push. -/
import Derived.Test.YtinpkcjfnljigaaDrawA
namespace Go.Proofs.Ytinpkcjfnljigaa
open Go Go.V

theorem drawn_row {w w1 : World} {v : Value} {w2 : World} (h1 : Ext w w1) (h2 : DrawnInts w1 w.heap.size 0 8 v w2) : Ext w w2 ∧ ∃ xs, SmallInts xs ∧ FInts w2 (Since w) v xs := by
  obtain ⟨hC, _, xs, hs, hf⟩ := h2
  exact ⟨Chg.ext (h1.then hC) fun n hn h => by omega, xs, hs, hf.mono fun b _ hb => by have := h1.size; unfold Since at *; omega⟩

theorem drawDequeValid_ok {w : World} {v : Value} {bs : List Int} (hx : RowIn .u8 w v bs) :
    Calls Try.prog N.spec_DrawDequeValid #[v] w (Ret fun r w' => Ext w w' ∧ ∃ xs, SmallInts xs ∧ FInts w' (Since w) r xs) := by
  refine ret_k fun R hR => c_spec_DrawDequeValid _ _ _ ?_
  refine callV_of (l6Open_ok hx) rfl ?_
  rintro _ w1 ⟨rfl, E1, r1⟩
  exact callV_of (l91Deque_ok r1 (by omega)) rfl fun u w2 h => hR _ _ (drawn_row E1 h)
theorem drawDequeSteal_ok {w : World} {v : Value} {bs : List Int} (hx : RowIn .u8 w v bs) :
    Calls Try.prog N.spec_DrawDequeSteal #[v] w (Ret fun r w' => Ext w w' ∧ ∃ xs, SmallInts xs ∧ FInts w' (Since w) r xs) := by
  refine ret_k fun R hR => c_spec_DrawDequeSteal _ _ _ ?_
  refine callV_of (l6Open_ok hx) rfl ?_
  rintro _ w1 ⟨rfl, E1, r1⟩
  exact callV_of (l91Deque_ok r1 (by omega)) rfl fun u w2 h => hR _ _ (drawn_row E1 h)
theorem drawDequePop_ok {w : World} {v : Value} {bs : List Int} (hx : RowIn .u8 w v bs) :
    Calls Try.prog N.spec_DrawDequePop #[v] w (Ret fun r w' => Ext w w' ∧ ∃ xs, SmallInts xs ∧ FInts w' (Since w) r xs) := by
  refine ret_k fun R hR => c_spec_DrawDequePop _ _ _ ?_
  refine callV_of (l6Open_ok hx) rfl ?_
  rintro _ w1 ⟨rfl, E1, r1⟩
  exact callV_of (l91Deque_ok r1 (by omega)) rfl fun u w2 h => hR _ _ (drawn_row E1 h)
theorem drawDequePush_ok {w : World} {v : Value} {bs : List Int} (hx : RowIn .u8 w v bs) :
    Calls Try.prog N.spec_DrawDequePush #[v] w (Ret fun r w' => Ext w w' ∧ ∃ u xs x, r = .tuple #[u, .int .i64 x] ∧ SmallInts xs ∧ FInts w' (Since w) u xs ∧ -1000 ≤ x ∧ x ≤ 1000) := by
  refine ret_k fun R hR => c_spec_DrawDequePush _ _ _ ?_
  refine callV_of (l6Open_ok hx) rfl ?_
  rintro _ w1 ⟨rfl, E1, r1⟩
  refine callV_of (l91Deque_ok r1 (by omega)) rfl fun u w2 h => ?_
  obtain ⟨C2, ⟨q, hq, r2⟩, xs, hs, f2⟩ := h
  have hlt := r1.lt
  refine pick_use r2 (by omega) (by omega) fun m3 w3 hm3 C3 s3 r3 => ?_
  refine pick_use r3 (by omega) (by omega) fun m4 w4 hm4 C4 s4 r4 => ?_
  refine bin_quo (by omega) (by omega) fun d hd hdm => ?_
  refine bin_sub ⟨by omega, by omega⟩ (hR _ _ ⟨?_, u, xs, _, rfl, hs, ?_, by omega, by omega⟩)
  · exact Chg.ext (E1.then ((C2.andThen C3).andThen C4)) fun n hn h => by omega
  · refine ((f2.keep C3 fun k hk h => ?_).keep C4 fun k hk h => ?_).mono fun b _ hb => ?_
    · unfold Since at *; omega
    · unfold Since at *; omega
    · have := E1.size; unfold Since at *; omega
end Go.Proofs.Ytinpkcjfnljigaa
