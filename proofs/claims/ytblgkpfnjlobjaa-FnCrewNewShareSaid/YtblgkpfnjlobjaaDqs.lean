/- Lists of lists, each of which grows in memory of its own. -/
import Derived.Test.YtblgkpfnjlobjaaCrewM
namespace Go.Proofs.Ytblgkpfnjlobjaa
open Go Go.V

theorem own_cellsV {w : World} {lo e size n : Nat} {v : Value} {cs : List Value} (h : Own w lo e size v n cs) : v.cells = #[v] ∧ v.oneCell' = true := by
  rcases h.2 with ⟨rfl, _⟩ | ⟨g, cap, cur, rfl, _⟩ <;> exact ⟨rfl, rfl⟩
/-- A cell of an owned slice is written. -/
theorem Own.put1 {w : World} {lo e n : Nat} {v : Value} {cs : List Value} (h : Own w lo e 1 v n cs) {j : Nat} (hj : j < n) {x : Value} (hx : x.cells = #[x]) (h1 : x.oneCell' = true) {K : World → Prop}
    (hK : ∀ w', Chg (blkIs v) w w' → w'.heap.size = w.heap.size → Own w' lo e 1 v n (cs.set j x) → K w') : IdxV 1 v (.int .i64 j) fun t => StoreV 1 t x w K := by
  have hl := h.1
  rcases h.2 with ⟨rfl, h0⟩ | ⟨g, cap, cur, rfl, hb, hg, hnc, hcm, hcs, htake⟩
  · omega
  · refine ⟨by omega, by omega, ?_⟩
    simp only [addr_add, Int.toNat_natCast, Nat.mul_one, Nat.zero_add]
    refine store_at hg hx h1 (by omega) fun w' hp => hK w' (hp.chg.mono fun q _ e => by have e : q = g := e; subst e; rfl) hp.size ⟨by simpa using hl, .inr ⟨g, cap, _, rfl, hb, hp.here, hnc, hcm, by simpa using hcs, ?_⟩⟩
    rw [Array.toList_setIfInBounds, List.take_set, htake]
theorem Own.at1 {w : World} {lo e n : Nat} {v : Value} {cs : List Value} (h : Own w lo e 1 v n cs) {j : Nat} (hj : j < cs.length) : ∃ b off, ∀ {K : Value → Prop}, w.cell? ⟨b, off, none⟩ = some cs[j] ∧ blkIs v b ∧ (K (.pointer (some ⟨b, off, none⟩)) → IdxV 1 v (.int .i64 j) K) := by
  have hl := h.1
  rcases h.2 with ⟨rfl, h0⟩ | ⟨g, cap, cur, rfl, hb, hg, hnc, hcm, hcs, htake⟩
  · omega
  · refine ⟨g, j, fun {K} => ⟨?_, rfl, fun hK => ⟨by omega, by omega, by simpa [addr_add] using hK⟩⟩⟩
    rw [cell_of_row w g j cur e (0, 0) hg]
    have got : ∀ (q : Nat) (u : Value), cs[q]? = some u → cur[q]? = some u := fun q u hq => by
      rw [← htake, List.getElem?_take] at hq
      split at hq
      · simpa using hq
      · cases hq
    exact got j _ (List.getElem?_eq_getElem hj)

/-- The lists and the array that they lie in: vs are the lists as values. -/
structure GP (w : World) (e : Nat) (u : Value) (Bu Be : Nat → Prop) (ls : List (List Int)) (vs : List Value) : Prop where
  arr : Own w 0 e 1 u ls.length vs
  len : vs.length = ls.length
  ub : ∀ k, blkIs u k → Bu k
  el : ∀ i (h : i < ls.length) (h' : i < vs.length), Own w 0 T.int 1 vs[i] ls[i].length (ints ls[i])
  eb : ∀ i (h' : i < vs.length) k, blkIs vs[i] k → Be k
  ne : ∀ i j k (hi : i < vs.length) (hj : j < vs.length), i ≠ j → blkIs vs[i] k → ¬ blkIs vs[j] k
theorem GP.lt {w : World} {e : Nat} {u : Value} {Bu Be : Nat → Prop} {ls : List (List Int)} {vs : List Value} (h : GP w e u Bu Be ls vs) {i : Nat} (hi : i < vs.length) {k : Nat} (hk : blkIs vs[i] k) : k < w.heap.size :=
  (Own.lt (h.el i (by rw [← h.len]; exact hi) hi) hk).2
theorem GP.keep {w w' : World} {e : Nat} {u : Value} {Bu Be : Nat → Prop} {ls : List (List Int)} {vs : List Value} (h : GP w e u Bu Be ls vs) {S : Nat → Prop} (hc : Chg S w w') (hs : ∀ k, k < w.heap.size → Bu k ∨ Be k → ¬ S k) : GP w' e u Bu Be ls vs :=
  ⟨Own.keep h.arr hc fun k hk => hs k (Own.lt h.arr hk).2 (.inl (h.ub k hk)), h.len, h.ub, fun i hi hi' => Own.keep (h.el i hi hi') hc fun k hk => hs k (h.lt hi' hk) (.inr (h.eb i hi' k hk)), h.eb, h.ne⟩
theorem GP.ext {w w' : World} {e : Nat} {u : Value} {Bu Be : Nat → Prop} {ls : List (List Int)} {vs : List Value} (h : GP w e u Bu Be ls vs) (hE : Ext w w') : GP w' e u Bu Be ls vs := h.keep hE fun _ _ _ => id
theorem GP.mono {w : World} {e : Nat} {u : Value} {Bu Be Bu' Be' : Nat → Prop} {ls : List (List Int)} {vs : List Value} (h : GP w e u Bu Be ls vs) (hu : ∀ k, k < w.heap.size → Bu k → Bu' k) (he : ∀ k, k < w.heap.size → Be k → Be' k) : GP w e u Bu' Be' ls vs :=
  ⟨h.arr, h.len, fun k hk => hu k (Own.lt h.arr hk).2 (h.ub k hk), h.el, fun i hi k hk => he k (h.lt hi hk) (h.eb i hi k hk), h.ne⟩
theorem GP.lists {w : World} {e : Nat} {u : Value} {Bu Be : Nat → Prop} {ls : List (List Int)} {vs : List Value} (h : GP w e u Bu Be ls vs) : Lists w u ls := by
  obtain ⟨a, c, hv, hc, _, hcell⟩ := Own.cells h.arr
  refine ⟨a, c, hv, hc, fun i hi => ?_⟩
  have hi' : i < vs.length := by rw [h.len]; exact hi
  obtain ⟨b, off, ha, hx⟩ := hcell i vs[i] (List.getElem?_eq_getElem hi')
  exact ⟨b, off, _, ha, hx, Own.ints (h.el i hi hi')⟩
theorem GP.flists {w : World} {u : Value} {Bu Be B : Nat → Prop} {ls : List (List Int)} {vs : List Value} (h : GP w T.sl_int u Bu Be ls vs) (hu : ∀ k, k < w.heap.size → Bu k → B k) (he : ∀ k, k < w.heap.size → Be k → B k) : FLists w B u ls := by
  have bsok : ∀ i (hi' : i < vs.length) k, blkIs vs[i] k → k = ((vs.getD i (.slice none 0 0)).ownBlock).getD 0 := fun i hi' k hk => by
    have e1 : vs.getD i (.slice none 0 0) = vs[i] := by rw [List.getD_eq_getElem?_getD, List.getElem?_eq_getElem hi']; rfl
    rw [e1, show vs[i].ownBlock = some k from hk]; rfl
  have xv : ∀ i (hi' : i < vs.length), vs.getD i (.slice none 0 0) = vs[i] := fun i hi' => by rw [List.getD_eq_getElem?_getD, List.getElem?_eq_getElem hi']; rfl
  have hfi : ∀ i (hi : i < ls.length), FInts w (· = ((vs.getD i (.slice none 0 0)).ownBlock).getD 0) (vs.getD i (.slice none 0 0)) ls[i] := fun i hi => by
    have hi' : i < vs.length := by rw [h.len]; exact hi
    rw [xv i hi']
    refine (Own.fintsAt (h.el i hi hi')).mono fun k _ hk => ?_
    have := bsok i hi' k hk
    rw [xv i hi'] at this
    exact this
  have blk : ∀ i (hi : i < ls.length), ls[i] ≠ [] → ∃ hi' : i < vs.length, blkIs vs[i] (((vs.getD i (.slice none 0 0)).ownBlock).getD 0) := fun i hi hne => by
    have hi' : i < vs.length := by rw [h.len]; exact hi
    refine ⟨hi', ?_⟩
    rw [xv i hi']
    rcases (h.el i hi hi').2 with ⟨_, h0⟩ | ⟨g, cap, cur, hv, _⟩
    · exact absurd (List.eq_nil_of_length_eq_zero h0) hne
    · show vs[i].ownBlock = some ((vs[i].ownBlock).getD 0)
      rw [hv]; rfl
  rcases h.arr.2 with ⟨hu0, h0⟩ | ⟨g, cap, cur, hug, hb, hg, hnc, hcm, hcs, htake⟩
  · refine ⟨none, 0, fun i => ((vs.getD i (.slice none 0 0)).ownBlock).getD 0, fun i => vs.getD i (.slice none 0 0), by rw [hu0, h0], by omega, fun i hi => by omega, fun i j hi => by omega, fun hne => absurd (List.eq_nil_of_length_eq_zero h0) hne⟩
  · refine ⟨some ⟨g, 0, none⟩, cap, fun i => ((vs.getD i (.slice none 0 0)).ownBlock).getD 0, fun i => vs.getD i (.slice none 0 0), hug, hnc, fun i hi => ⟨hfi i hi, fun hne => ?_⟩, fun i j hi hj h1 h2 e => ?_, fun _ => ⟨g, 0, cur, rfl, hu g (lt_of_at hg) (h.ub g (by rw [hug]; rfl)), hg, fun i hi => ?_⟩⟩
    · obtain ⟨hi', hk⟩ := blk i hi hne
      exact he _ (h.lt hi' hk) (h.eb i hi' _ hk)
    · obtain ⟨hi', hk⟩ := blk i hi h1
      obtain ⟨hj', hk'⟩ := blk j hj h2
      refine Classical.byContradiction fun hne => h.ne i j _ hi' hj' hne hk ?_
      have e : ((vs.getD i (.slice none 0 0)).ownBlock).getD 0 = ((vs.getD j (.slice none 0 0)).ownBlock).getD 0 := e
      rw [e]; exact hk'
    · have hi' : i < vs.length := by rw [h.len]; exact hi
      have got : ∀ (q : Nat) (u : Value), vs[q]? = some u → cur[q]? = some u := fun q u hq => by
        rw [← htake, List.getElem?_take] at hq
        split at hq
        · simpa using hq
        · cases hq
      show cur[0 + i]? = some (vs.getD i (.slice none 0 0))
      rw [xv i hi', Nat.zero_add]
      exact got i _ (List.getElem?_eq_getElem hi')

section
variable {w : World} {e : Nat} {u : Value} {Bu Be : Nat → Prop} {ls : List (List Int)} {vs : List Value} (h : GP w e u Bu Be ls vs)
include h
theorem GP.load {j : Nat} (hj : j < vs.length) {K : Value → Prop} (hK : K vs[j]) : IdxV 1 u (.int .i64 j) fun t => LoadV false 1 t w K := by
  obtain ⟨b, off, hh⟩ := Own.at1 h.arr hj
  exact (hh (K := fun t => LoadV false 1 t w K)).2.2 ⟨_, (hh (K := fun _ => True)).1, hK⟩
theorem GP.loadS {j : Nat} (hj : j < vs.length) {S : Nat → Prop} (hS : ∀ k, blkIs u k → ¬ S k) {K : Value → Prop} (hK : K vs[j]) : IdxV 1 u (.int .i64 j) fun t => LoadS S false 1 t w K := by
  obtain ⟨b, off, hh⟩ := Own.at1 h.arr hj
  exact (hh (K := fun t => LoadS S false 1 t w K)).2.2 ⟨hS b (hh (K := fun _ => True)).2.1, _, (hh (K := fun _ => True)).1, hK⟩
theorem GP.loadA {j : Nat} (hj : j < vs.length) {K : Value → Prop} (hK : K (.agg #[vs[j]])) : IdxV 1 u (.int .i64 j) fun t => LoadV true 1 t w K := by
  obtain ⟨b, off, hh⟩ := Own.at1 h.arr hj
  refine (hh (K := fun t => LoadV true 1 t w K)).2.2 ⟨[vs[j]], rfl, fun i v hi => ?_, hK⟩
  match i with
  | 0 => simp at hi; subst hi; rw [add_zero]; exact (hh (K := fun _ => True)).1
  | i + 1 => simp at hi

/-- One list grows by one number; the slice is then to be stored. -/
theorem GP.grow (he : T.int ≠ e) {j : Nat} (hj : j < ls.length) (hj' : j < vs.length) (hlj : ls[j].length ≤ 1000) (hB : ∀ k, w.heap.size ≤ k → Be k) {x : Int} {zc : Value} {S : Nat → Prop} (hS : ∀ k, blkIs vs[j] k → S k) {K : Value → World → Prop}
    (hK : ∀ v' w1, Chg (blkIs vs[j]) w w1 → (∀ {K' : World → Prop}, (∀ w2 vs', Chg (blkIs u) w1 w2 → w2.heap.size = w1.heap.size → GP w2 e u Bu Be (ls.set j (ls[j] ++ [x])) vs' → K' w2) → IdxV 1 u (.int .i64 j) fun t => StoreV 1 t v' w1 K') → K v' w1) :
    BSliceV T.int 1 1 #[zc] [(0, .int .i64 x)] w fun p w1 => Chg S w w1 ∧ AppendV Try.prog T.sl_int vs[j] p w1 fun v' w' => Chg S w1 w' ∧ K v' w' := by
  have hel := h.el j hj hj'
  refine app1At sl_int el_int hel (news := [.int .i64 x]) rfl (fill_int rfl) rfl (by simp [Value.oneCell']) (by omega) (by omega) (Nat.zero_le _) hS fun v' w1 ho hc hlat => hK v' w1 hc fun {K'} hK' => ?_
  have ho' : Own w1 0 T.int 1 v' (ls[j].length + 1) (ints (ls[j] ++ [x])) := by simpa [ints] using ho
  -- the array is as it was
  have harr : Own w1 0 e 1 u ls.length vs := Own.keep h.arr hc fun k hk hk' => by
    obtain ⟨_, h1⟩ := own_tagN h.arr hk
    obtain ⟨_, h2⟩ := own_tagN hel hk'
    rw [h1] at h2
    cases h2
    exact he rfl
  have hvc := own_cellsV ho'
  refine Own.put1 harr hj hvc.1 hvc.2 fun w2 C2 s2 harr2 => hK' w2 (vs.set j v') C2 s2 ⟨by rw [List.length_set]; exact harr2, by simp [h.len], h.ub, fun i hi hi' => ?_, fun i hi' k hk => ?_, fun i i' k hi hi' hne h1 h2 => ?_⟩
  · have hil : i < ls.length := by simpa using hi
    have hiv : i < vs.length := by simpa using hi'
    have notu : ∀ {y : Value} {n : Nat} {cs : List Value}, Own w1 0 T.int 1 y n cs → Own w2 0 T.int 1 y n cs := fun hy => Own.keep hy C2 fun k hk hk' => by
      obtain ⟨_, h1⟩ := own_tagN harr hk'
      obtain ⟨_, h2⟩ := own_tagN hy hk
      rw [h2] at h1
      cases h1
      exact he rfl
    by_cases ej : j = i
    · subst ej
      have e1 : (vs.set j v')[j]'hi' = v' := by simp
      have e2 : (ls.set j (ls[j] ++ [x]))[j]'hi = ls[j] ++ [x] := by simp
      rw [e1, e2]
      exact notu (by rw [List.length_append]; exact ho')
    · have e1 : (vs.set j v')[i]'hi' = vs[i] := List.getElem_set_ne ej _
      have e2 : (ls.set j (ls[j] ++ [x]))[i]'hi = ls[i] := List.getElem_set_ne ej _
      rw [e1, e2]
      exact notu (Own.keep (h.el i hil hiv) hc fun k hk hk' => h.ne j i k hj' hiv ej hk' hk)
  · have hiv : i < vs.length := by simpa using hi'
    by_cases ej : j = i
    · subst ej
      rw [List.getElem_set_self] at hk
      rcases hlat with e | ⟨k', e, hk'⟩
      · exact h.eb j hiv k (by unfold blkIs at hk ⊢; rw [← e]; exact hk)
      · have hk : v'.ownBlock = some k := hk
        rw [e] at hk; cases hk; exact hB k hk'
    · rw [List.getElem_set_ne ej] at hk
      exact h.eb i hiv k hk
  · have hiv : i < vs.length := by simpa using hi
    have hiv' : i' < vs.length := by simpa using hi'
    have new : ∀ {q : Nat} (hq : q < vs.length), j ≠ q → blkIs v' k → ¬ blkIs vs[q] k := fun {q} hq hjq hv' hvq => by
      rcases hlat with e | ⟨k', e, hk'⟩
      · exact h.ne j q k hj' hq hjq (by unfold blkIs at hv' ⊢; rw [← e]; exact hv') hvq
      · have hv' : v'.ownBlock = some k := hv'
        rw [e] at hv'; cases hv'
        have := h.lt hq hvq; omega
    by_cases ej : j = i
    · subst ej
      rw [List.getElem_set_self] at h1
      rw [List.getElem_set_ne hne] at h2
      exact new hiv' hne h1 h2
    · rw [List.getElem_set_ne ej] at h1
      by_cases ej' : j = i'
      · subst ej'
        rw [List.getElem_set_self] at h2
        exact new hiv ej h2 h1
      · rw [List.getElem_set_ne ej'] at h2
        exact h.ne i i' k hiv hiv' hne h1 h2

/-- One list more, which is empty. -/
theorem GP.push {t : Nat} (ht : Try.prog.underlying t = some (.slice e)) (hel : ElemT Try.prog e 1 24 (.slice none 0 0)) (he : T.int ≠ e) {y : Value} (hy : Own w 0 T.int 1 y 0 (ints [])) (hyb : ∀ k, blkIs y k → Be k ∧ ∀ i (h' : i < vs.length), ¬ blkIs vs[i] k) (hn : ls.length ≤ 1000) (hB : ∀ k, w.heap.size ≤ k → Bu k) {zc : Value} {K : Value → World → Prop}
    (hK : ∀ v' w', GP w' e v' Bu Be (ls ++ [[]]) (vs ++ [y]) → Chg (blkIs u) w w' → K v' w') : BSliceV e 1 1 #[zc] [(0, y)] w fun p w1 => AppendV Try.prog t u p w1 K := by
  have hyc := own_cellsV hy
  refine plainly (S := fun _ => True) (app1At ht hel h.arr (news := [y]) (by rw [hyc.1]) (fill_one hyc.1) (by rw [hyc.1]; rfl) (by simpa using hyc.2) (by omega) (by omega) (Nat.zero_le _) (fun _ _ => trivial) fun v' w' ho' hc hlat => hK v' w' ⟨by rw [List.length_append]; exact ho', by simp [h.len], fun k hk => ?_, fun i hi hi' => ?_, fun i hi' k hk => ?_, fun i j k hi hj hne h1 h2 => ?_⟩ hc)
  · rcases hlat with e1 | ⟨k', e1, hk'⟩
    · exact h.ub k (by unfold blkIs at hk ⊢; rw [← e1]; exact hk)
    · have hk : v'.ownBlock = some k := hk
      rw [e1] at hk; cases hk; exact hB k hk'
  · have notu : ∀ {z : Value} {n : Nat} {cs : List Value}, Own w 0 T.int 1 z n cs → Own w' 0 T.int 1 z n cs := fun hz => Own.keep hz hc fun k hk hk' => by
      obtain ⟨_, h1⟩ := own_tagN h.arr hk'
      obtain ⟨_, h2⟩ := own_tagN hz hk
      rw [h2] at h1
      cases h1
      exact he rfl
    by_cases ei : i < ls.length
    · have eiv : i < vs.length := by rw [h.len]; exact ei
      rw [List.getElem_append_left eiv, List.getElem_append_left ei]
      exact notu (h.el i ei eiv)
    · have e1 : i = ls.length := by simp at hi; omega
      subst e1
      have e1 : (vs ++ [y])[ls.length]'hi' = y := by simp [← h.len]
      have e2 : (ls ++ [([] : List Int)])[ls.length]'hi = [] := by simp
      rw [e1, e2]
      exact notu hy
  · by_cases ei : i < vs.length
    · rw [List.getElem_append_left ei] at hk
      exact h.eb i ei k hk
    · have e1 : i = vs.length := by simp at hi'; omega
      subst e1
      rw [List.getElem_append_right (Nat.le_refl _)] at hk
      exact (hyb k (by simpa using hk)).1
  · have key : ∀ {q : Nat} (hq : q < (vs ++ [y]).length), (∃ hq' : q < vs.length, (vs ++ [y])[q] = vs[q]) ∨ (q = vs.length ∧ (vs ++ [y])[q] = y) := fun {q} hq => by
      by_cases ei : q < vs.length
      · exact .inl ⟨ei, List.getElem_append_left ei⟩
      · have e1 : q = vs.length := by simp at hq; omega
        subst e1
        exact .inr ⟨rfl, by simp⟩
    rcases key hi with ⟨hi1, e1⟩ | ⟨q1, e1⟩ <;> rcases key hj with ⟨hj1, e2⟩ | ⟨q2, e2⟩ <;> rw [e1] at h1 <;> rw [e2] at h2
    · exact h.ne i j k hi1 hj1 hne h1 h2
    · exact (hyb k h2).2 i hi1 h1
    · exact (hyb k h1).2 j hj1 h2
    · omega
end
end Go.Proofs.Ytblgkpfnjlobjaa
