/- Workers in memory of their own, marked and held. -/
import Derived.Test.YtblgkpfnjlobjaaCrew0
namespace Go.Proofs.Ytblgkpfnjlobjaa
open Go Go.V

theorem FInts.reC {w : World} {B : Nat → Prop} {b : Nat} {v : Value} {xs : List Int} (h : FInts w (· = b) v xs) (hB : xs ≠ [] → B b) : FInts w B v xs := by
  obtain ⟨a, c, hv, hc, hr⟩ := h.out
  refine ⟨a, c, hv, hc, fun hne => ?_⟩
  obtain ⟨b', off, cur, ha, rfl, r⟩ := hr hne
  exact ⟨b', off, cur, ha, hB hne, r⟩
/-- A list of lists in unshared memory that meets B. -/
structure FLists (w : World) (B : Nat → Prop) (v : Value) (ls : List (List Int)) : Prop where
  out : ∃ (a : Option Addr) (c : Nat) (bs : Nat → Nat) (xv : Nat → Value), v = .slice a ls.length c ∧ ls.length ≤ c ∧ (∀ i (h : i < ls.length), FInts w (· = bs i) (xv i) ls[i] ∧ (ls[i] ≠ [] → B (bs i))) ∧
    (∀ i j (hi : i < ls.length) (hj : j < ls.length), ls[i] ≠ [] → ls[j] ≠ [] → bs i = bs j → i = j) ∧
    (ls ≠ [] → ∃ b off cur, a = some ⟨b, off, none⟩ ∧ B b ∧ w.heap[b]? = some (.cells cur T.sl_int (0, 0)) ∧ ∀ i, i < ls.length → cur[off + i]? = some (xv i))
theorem FLists.lists {w : World} {B : Nat → Prop} {v : Value} {ls : List (List Int)} (h : FLists w B v ls) : Lists w v ls := by
  obtain ⟨a, c, bs, xv, hv, hc, hh, hi, hr⟩ := h.out
  refine ⟨a, c, hv, hc, fun i hil => ?_⟩
  obtain ⟨b, off, cur, ha, _, hb, hx⟩ := hr (List.ne_nil_of_length_pos (by omega))
  exact ⟨b, off, xv i, ha, by rw [cell_of_row w b _ cur _ (0, 0) hb]; exact hx i hil, (hh i hil).1.ints⟩
theorem FLists.keep {w w' : World} {B : Nat → Prop} {v : Value} {ls : List (List Int)} (h : FLists w B v ls) {S : Nat → Prop} (hc : Chg S w w') (hs : ∀ k, k < w.heap.size → B k → ¬ S k) : FLists w' B v ls := by
  obtain ⟨a, c, bs, xv, hv, hcp, hh, hi, hr⟩ := h.out
  refine ⟨a, c, bs, xv, hv, hcp, fun i hil => ⟨(hh i hil).1.keep1 hc fun hne => hs _ ((hh i hil).1.lt hne).1 ((hh i hil).2 hne), (hh i hil).2⟩, hi, fun hne => ?_⟩
  obtain ⟨b, off, cur, ha, hB, hb, hx⟩ := hr hne
  exact ⟨b, off, cur, ha, hB, hc.at hb (hs b (lt_of_at hb) hB), hx⟩
theorem FLists.ext {w w' : World} {B : Nat → Prop} {v : Value} {ls : List (List Int)} (h : FLists w B v ls) (hE : Ext w w') : FLists w' B v ls := h.keep hE fun _ _ _ => id
theorem FLists.mono {w : World} {B B' : Nat → Prop} {v : Value} {ls : List (List Int)} (h : FLists w B v ls) (hb : ∀ k, k < w.heap.size → B k → B' k) : FLists w B' v ls := by
  obtain ⟨a, c, bs, xv, hv, hcp, hh, hi, hr⟩ := h.out
  refine ⟨a, c, bs, xv, hv, hcp, fun i hil => ⟨(hh i hil).1, fun hne => hb _ ((hh i hil).1.lt hne).1 ((hh i hil).2 hne)⟩, hi, fun hne => ?_⟩
  obtain ⟨b, off, cur, ha, hB, hbk, hx⟩ := hr hne
  exact ⟨b, off, cur, ha, hb b (lt_of_at hbk) hB, hbk, hx⟩

/-! ### Marks -/
def offL (ls : List (List Int)) : Nat → Nat
  | 0 => 0
  | j + 1 => offL ls j + (ls.getD j []).length
def mkLTo (ls : List (List Int)) (k i : Nat) : List (List Int) := (List.range ls.length).map fun j => if j < i then marks ((k + offL ls j : Nat) : Int) (ls.getD j []).length else ls.getD j []
def mkLs (ls : List (List Int)) (k : Nat) : List (List Int) := mkLTo ls k ls.length
theorem getD_l {ls : List (List Int)} {j : Nat} (h : j < ls.length) : ls.getD j [] = ls[j] := by rw [List.getD_eq_getElem?_getD, List.getElem?_eq_getElem h]; rfl
theorem mkLTo_len (ls : List (List Int)) (k i : Nat) : (mkLTo ls k i).length = ls.length := by simp [mkLTo]
theorem mkLTo_get {ls : List (List Int)} {k i j : Nat} (h : j < (mkLTo ls k i).length) : (mkLTo ls k i)[j] = if j < i then marks ((k + offL ls j : Nat) : Int) (ls.getD j []).length else ls.getD j [] := by simp [mkLTo]
theorem mkLTo_zero (ls : List (List Int)) (k : Nat) : mkLTo ls k 0 = ls := by
  refine List.ext_getElem (mkLTo_len _ _ _) fun j h1 h2 => ?_
  rw [mkLTo_get h1, if_neg (by omega), getD_l h2]
theorem mkLTo_next {ls : List (List Int)} {k j : Nat} (_h : j < ls.length) : (mkLTo ls k j).set j (marks ((k + offL ls j : Nat) : Int) (ls.getD j []).length) = mkLTo ls k (j + 1) := by
  refine List.ext_getElem (by rw [List.length_set, mkLTo_len, mkLTo_len]) fun i h1 h2 => ?_
  rw [mkLTo_get h2, List.getElem_set]
  by_cases e : j = i
  · subst e; rw [if_pos rfl, if_pos (by omega)]
  · rw [if_neg e, mkLTo_get]
    by_cases h' : i < j
    · rw [if_pos h', if_pos (by omega)]
    · rw [if_neg h', if_neg (by omega)]
theorem mkLTo_lens {ls : List (List Int)} {k i j : Nat} (h : j < (mkLTo ls k i).length) (h' : j < ls.length) : ((mkLTo ls k i)[j]).length = (ls[j]).length := by
  rw [mkLTo_get h, getD_l h']
  split
  · rw [marks_length]
  · rfl
theorem offL_le {ls : List (List Int)} (hs : ∀ l ∈ ls, l.length ≤ 1000) (j : Nat) : offL ls j ≤ 1000 * j := by
  induction j with
  | zero => simp [offL]
  | succ j ih =>
    unfold offL
    have : (ls.getD j []).length ≤ 1000 := by
      by_cases h : j < ls.length
      · rw [getD_l h]; exact hs _ (List.getElem_mem h)
      · rw [List.getD_eq_getElem?_getD, List.getElem?_eq_none (by omega)]; simp
    omega
theorem empty_iff {xs ys : List Int} (h : xs.length = ys.length) : xs = [] ↔ ys = [] :=
  ⟨fun e => List.eq_nil_of_length_eq_zero (by rw [← h, e]; rfl), fun e => List.eq_nil_of_length_eq_zero (by rw [h, e]; rfl)⟩

theorem markIntSS_ok {w : World} {B : Nat → Prop} {v : Value} {ls : List (List Int)} {k : Nat} (h : FLists w B v ls) (hl : ls.length ≤ 1000) (hs : ∀ l ∈ ls, l.length ≤ 1000) (hk : k ≤ 2199023255552) :
    Calls Try.prog N.laws_markIntSS #[v, .int .i64 k] w (Ret fun r w' => r = .int .i64 (k + offL ls ls.length : Nat) ∧ Chg B w w' ∧ w'.heap.size = w.heap.size ∧ FLists w' B v (mkLs ls k)) := by
  refine ret_k fun R hR => c_laws_markIntSS _ _ _ _ ?_
  refine loopV (fun s w' => ∃ j : Nat, s = [.int .i64 (k + offL ls j : Nat), .int .i64 j] ∧ j ≤ ls.length ∧ Chg B w w' ∧ w'.heap.size = w.heap.size ∧ FLists w' B v (mkLTo ls k j)) (upTo ls.length 1)
    ⟨0, rfl, by omega, Chg.refl _ _, rfl, by rw [mkLTo_zero]; exact h⟩ ?_
  rintro s z w1 K ⟨j, rfl, hj, C1, s1, h1⟩ hK
  have hlen : ∀ K, LenV v K = K (.int .i64 ls.length) := fun K => by rw [h1.lists.len, mkLTo_len]
  simp only [hlen, go_sem]
  refine ⟨fun hlt => ?_, fun hge => ?_⟩
  · have hj : j < ls.length := by omega
    have hjm : j < (mkLTo ls k j).length := by rw [mkLTo_len]; exact hj
    have hof := offL_le hs j
    have hlj := hs _ (List.getElem_mem hj)
    obtain ⟨a, c, bs, xv, rfl, hcp, hh, hi, hr⟩ := h1.out
    obtain ⟨b, off, cur, rfl, hB, hb, hx⟩ := hr (List.ne_nil_of_length_pos (by omega))
    rw [mkLTo_len] at hcp
    refine ⟨by omega, by rw [mkLTo_len]; omega, ?_⟩
    simp only [addr_add, Int.toNat_natCast, Nat.mul_one]
    refine load2 hb (hx j hjm) ?_
    obtain ⟨f1, f2⟩ := hh j hjm
    have hat : (mkLTo ls k j)[j]'hjm = ls[j] := by rw [mkLTo_get, if_neg (by omega), getD_l hj]
    have f1' : FInts w1 (fun q => (mkLTo ls k j)[j]'hjm ≠ [] ∧ q = bs j) (xv j) ((mkLTo ls k j)[j]'hjm) := FInts.reC f1 fun hne => ⟨hne, rfl⟩
    rw [hat] at f1'
    refine callV_of (markIntS_ok (k := k + offL ls j) f1' (by omega)) rfl ?_
    rintro _ w2 ⟨rfl, C2, s2, f3⟩
    have hcb : Chg B w1 w2 := C2.mono fun q _ hq => by
      have hq' := hq
      obtain ⟨q1, q2⟩ := hq'
      rw [q2]; exact f2 (by rw [hat]; exact q1)
    have hmk : (ls.getD j []).length = ls[j].length := by rw [getD_l hj]
    refine bin_inc (by omega) (hK _ _ ⟨j + 1, ?_, by omega, C1.andThen hcb, s2.trans s1, ?_⟩ (by simp [upTo, nthV, iOf]; omega))
    · have : k + offL ls j + ls[j].length = k + offL ls (j + 1) := by simp only [offL, hmk]; omega
      rw [this]
    · rw [← mkLTo_next hj, hmk]
      have hmlen : (mkLTo ls k j).length = ls.length := mkLTo_len _ _ _
      have hset : ∀ i (hi : i < ((mkLTo ls k j).set j (marks ((k + offL ls j : Nat) : Int) ls[j].length)).length), ((mkLTo ls k j).set j (marks ((k + offL ls j : Nat) : Int) ls[j].length))[i].length = ((mkLTo ls k j)[i]'(by simpa using hi)).length := fun i hi => by
        rw [List.getElem_set]
        by_cases e : j = i
        · subst e; rw [if_pos rfl, marks_length, hat]
        · rw [if_neg e]
      have hse : ∀ i (hi : i < ((mkLTo ls k j).set j (marks ((k + offL ls j : Nat) : Int) ls[j].length)).length), ((mkLTo ls k j).set j (marks ((k + offL ls j : Nat) : Int) ls[j].length))[i] ≠ [] → (mkLTo ls k j)[i]'(by simpa using hi) ≠ [] := fun i hi hne e => hne ((empty_iff (hset i hi)).2 e)
      refine ⟨_, c, bs, xv, by rw [List.length_set], by rw [List.length_set, mkLTo_len]; exact hcp, fun i hil => ?_, fun i i' hil hil' h1 h2 e => hi i i' (by simpa using hil) (by simpa using hil') (hse i hil h1) (hse i' hil' h2) e, fun _ => ⟨b, off, cur, rfl, hB, C2.at hb fun hq => ?_, fun i hil => hx i (by simpa using hil)⟩⟩
      · have hil' : i < (mkLTo ls k j).length := by simpa using hil
        refine ⟨?_, fun hne => (hh i hil').2 (hse i hil hne)⟩
        rw [List.getElem_set]
        by_cases e : j = i
        · subst e
          rw [if_pos rfl]
          exact f3.mono fun _ _ hq => hq.2
        · rw [if_neg e]
          refine (hh i hil').1.keep1 C2 fun hne hq => ?_
          have hq1 : (mkLTo ls k j)[j]'hjm ≠ [] := by rw [hat]; exact hq.1
          exact e (hi j i hjm hil' hq1 hne hq.2.symm)
      · obtain ⟨q1, q2⟩ := hq
        obtain ⟨_, cur', hb'⟩ := f1.lt (by rw [hat]; exact q1)
        rw [← q2, hb] at hb'
        cases hb'
  · have hj : j = ls.length := by omega
    subst hj
    exact hR _ _ ⟨rfl, C1, s1, h1⟩

theorem heldIntSS_ok {w : World} {v : Value} {ls : List (List Int)} {k : Nat} (h : Lists w v (mkLs ls k)) (hl : ls.length ≤ 1000) (hs : ∀ l ∈ ls, l.length ≤ 1000) (hk : k ≤ 2199023255552) :
    Calls Try.prog N.laws_heldIntSS #[v, .int .i64 k] w (Ret fun r w' => r = .int .i64 (k + offL ls ls.length : Nat) ∧ Ext w w') := by
  refine ret_k fun R hR => c_laws_heldIntSS _ _ _ _ ?_
  have hml : (mkLs ls k).length = ls.length := mkLTo_len _ _ _
  have hlen : ∀ K, LenV v K = K (.int .i64 ls.length) := fun K => by rw [h.len, hml]
  refine loopV (fun s w' => ∃ j : Nat, s = [.int .i64 (k + offL ls j : Nat), .int .i64 j] ∧ j ≤ ls.length ∧ Ext w w') (upTo ls.length 1) ⟨0, rfl, by omega, Ext.refl _⟩ ?_
  rintro s z w1 K ⟨j, rfl, hj, E1⟩ hK
  simp only [hlen, go_sem]
  refine ⟨fun hlt => ?_, fun hge => ?_⟩
  · have hj : j < ls.length := by omega
    have hof := offL_le hs j
    have hlj := hs _ (List.getElem_mem hj)
    refine (h.ext E1).load (i := j) (by rw [hml]; exact hj) fun x hx => ?_
    have hat : (mkLs ls k)[j]'(by rw [hml]; exact hj) = marks ((k + offL ls j : Nat) : Int) ls[j].length := by
      unfold mkLs; rw [mkLTo_get, if_pos hj, getD_l hj]
    rw [hat] at hx
    refine callV_of (heldIntS_ok (k := k + offL ls j) hx (by omega)) rfl ?_
    rintro _ w2 ⟨rfl, E2⟩
    simp only [go_sem]
    refine ⟨fun h => absurd h (by omega), fun _ => ?_⟩
    refine bin_inc (by omega) (hK _ _ ⟨j + 1, ?_, by omega, E1.trans E2⟩ (by simp [upTo, nthV, iOf]; omega))
    have : k + offL ls j + ls[j].length = k + offL ls (j + 1) := by simp only [offL, getD_l hj]; omega
    rw [this]
  · have hj : j = ls.length := by omega
    subst hj
    exact hR _ _ ⟨rfl, E1⟩

/-! ### Workers -/
/-- Workers in unshared memory that meets B; nothing is done, so there are no rows. -/
structure FCrew (w : World) (B : Nat → Prop) (v : Value) (c : Cr) : Prop where
  out : ∃ (a b d e : Value) (B1 B2 B3 : Nat → Prop), v = .agg #[a, b, d, e] ∧ FLists w B1 a c.deq ∧ FInts w B2 b c.cnt ∧ (∃ x y, d = .slice x 0 y) ∧ FLists w B3 e c.rows ∧
    (∀ k, (B1 k → B k ∧ ¬ B2 k ∧ ¬ B3 k) ∧ (B2 k → B k ∧ ¬ B3 k) ∧ (B3 k → B k)) ∧ c.done = [] ∧ (∀ l ∈ c.rows, l = []) ∧ CrSml c
theorem FCrew.crew {w : World} {B : Nat → Prop} {v : Value} {c : Cr} (h : FCrew w B v c) : CrewV w v c := by
  obtain ⟨a, b, d, e, B1, B2, B3, hv, h1, h2, ⟨x, y, rfl⟩, h4, _, h6, _, h8⟩ := h.out
  exact ⟨a, b, _, e, hv, h1.lists, h2.ints, by rw [h6]; exact Ints.empty, h4.lists, h8⟩
theorem FCrew.keep {w w' : World} {B : Nat → Prop} {v : Value} {c : Cr} (h : FCrew w B v c) {S : Nat → Prop} (hc : Chg S w w') (hs : ∀ k, k < w.heap.size → B k → ¬ S k) : FCrew w' B v c := by
  obtain ⟨a, b, d, e, B1, B2, B3, hv, h1, h2, h3, h4, h5, h6, h7, h8⟩ := h.out
  have h2' : FInts w' B2 b c.cnt := by
    obtain ⟨bb, g1, g2⟩ := h2.one
    exact FInts.reC (g1.keep1 hc fun hne => hs _ (g2 hne).2 ((h5 _).2.1 (g2 hne).1).1) fun hne => (g2 hne).1
  exact ⟨a, b, d, e, B1, B2, B3, hv, h1.keep hc fun k hk hb => hs k hk ((h5 k).1 hb).1, h2', h3, h4.keep hc fun k hk hb => hs k hk ((h5 k).2.2 hb), h5, h6, h7, h8⟩
theorem FCrew.ext {w w' : World} {B : Nat → Prop} {v : Value} {c : Cr} (h : FCrew w B v c) (hE : Ext w w') : FCrew w' B v c := h.keep hE fun _ _ _ => id
theorem FCrew.mono {w : World} {B B' : Nat → Prop} {v : Value} {c : Cr} (h : FCrew w B v c) (hb : ∀ k, k < w.heap.size → B k → B' k) : FCrew w B' v c := by
  obtain ⟨a, b, d, e, B1, B2, B3, hv, h1, h2, h3, h4, h5, h6, h7, h8⟩ := h.out
  refine ⟨a, b, d, e, fun k => B1 k ∧ k < w.heap.size, fun k => B2 k ∧ k < w.heap.size, fun k => B3 k ∧ k < w.heap.size, hv, h1.mono fun k hk hb => ⟨hb, hk⟩, h2.mono fun k hk hb => ⟨hb, hk⟩, h3, h4.mono fun k hk hb => ⟨hb, hk⟩, fun k => ⟨fun g => ⟨hb k g.2 ((h5 k).1 g.1).1, fun g' => ((h5 k).1 g.1).2.1 g'.1, fun g' => ((h5 k).1 g.1).2.2 g'.1⟩, fun g => ⟨hb k g.2 ((h5 k).2.1 g.1).1, fun g' => ((h5 k).2.1 g.1).2 g'.1⟩, fun g => hb k g.2 ((h5 k).2.2 g.1)⟩, h6, h7, h8⟩

def offC (c : Cr) : Nat := offL c.deq c.deq.length + c.cnt.length + c.done.length + offL c.rows c.rows.length
def markC (c : Cr) (k : Nat) : Cr := ⟨mkLs c.deq k, marks ((k + offL c.deq c.deq.length : Nat) : Int) c.cnt.length, marks ((k + offL c.deq c.deq.length + c.cnt.length : Nat) : Int) c.done.length, mkLs c.rows (k + offL c.deq c.deq.length + c.cnt.length + c.done.length)⟩
theorem marks_zero (k : Int) : marks k 0 = [] := by simp [marks]
theorem mkLs_empty {ls : List (List Int)} (h : ∀ l ∈ ls, l = []) (k : Nat) : mkLs ls k = ls := by
  refine List.ext_getElem (mkLTo_len _ _ _) fun j h1 h2 => ?_
  exact (mkLTo_get (ls := ls) (k := k) (i := ls.length) h1).trans (by rw [if_pos h2, getD_l h2, h _ (List.getElem_mem h2), List.length_nil, marks_zero])
theorem mkLs_mem {ls : List (List Int)} {k : Nat} (hs : ∀ l ∈ ls, l.length ≤ 1000) : ∀ l ∈ mkLs ls k, l.length ≤ 1000 := by
  intro l hl
  obtain ⟨j, hj, rfl⟩ := List.mem_iff_getElem.1 hl
  have hj' : j < ls.length := by unfold mkLs at hj; rw [mkLTo_len] at hj; exact hj
  have := mkLTo_lens (ls := ls) (k := k) (i := ls.length) hj hj'
  show ((mkLTo ls k ls.length)[j]).length ≤ _
  rw [this]; exact hs _ (List.getElem_mem hj')
theorem markC_sml {c : Cr} (h : CrSml c) (k : Nat) : CrSml (markC c k) :=
  ⟨⟨by show (mkLTo _ _ _).length ≤ _; rw [mkLTo_len]; exact h.deq.1, mkLs_mem h.deq.2⟩, by show (marks _ _).length ≤ _; rw [marks_length]; exact h.cnt, by show (marks _ _).length ≤ _; rw [marks_length]; exact h.done, ⟨by show (mkLTo _ _ _).length ≤ _; rw [mkLTo_len]; exact h.rows.1, mkLs_mem h.rows.2⟩⟩

theorem markCrew_ok {w : World} {B : Nat → Prop} {v : Value} {c : Cr} {k : Nat} (h : FCrew w B v c) (hk : k ≤ 1099511627776) :
    Calls Try.prog N.laws_markCrew #[v, .int .i64 k] w (Ret fun r w' => r = .int .i64 (k + offC c : Nat) ∧ Chg B w w' ∧ w.heap.size ≤ w'.heap.size ∧ FCrew w' B v (markC c k)) := by
  obtain ⟨a, b, d, e, B1, B2, B3, hv, h1, h2, h3, h4, h5, h6, h7, h8⟩ := h.out
  obtain ⟨x, y, rfl⟩ := h3
  refine ret_k fun R hR => c_laws_markCrew _ _ _ _ ?_
  -- what meets B lies below the new variable
  have h1 := h1.mono (B' := fun q => B1 q ∧ q < w.heap.size) fun q hq hb => ⟨hb, hq⟩
  have h2 := h2.mono (B' := fun q => B2 q ∧ q < w.heap.size) fun q hq hb => ⟨hb, hq⟩
  have h4 := h4.mono (B' := fun q => B3 q ∧ q < w.heap.size) fun q hq hb => ⟨hb, hq⟩
  refine box_crew hv fun w1 E1 hb1 => ?_
  have z1 := E1.size
  have o1 := offL_le h8.deq.2 c.deq.length
  have o4 := offL_le h8.rows.2 c.rows.length
  have q1 := h8.deq.1
  have q2 := h8.cnt
  have q3 := h8.done
  have q4 := h8.rows.1
  simp only [go_sem]
  refine load2 (v := a) hb1 rfl ?_
  refine callV_of (markIntSS_ok (k := k) (h1.ext E1) q1 h8.deq.2 (by omega)) rfl ?_
  rintro _ w2 ⟨rfl, C2, s2, g1⟩
  have hb2 := C2.at hb1 fun hq => by have := hq.2; omega
  refine load2 (v := b) hb2 rfl ?_
  have g2 := (h2.ext E1).keep C2 fun q hq hq' => ((h5 q).1 hq'.1).2.1 hq.1
  refine callV_of (markIntS_ok (k := k + offL c.deq c.deq.length) g2 (by omega)) rfl ?_
  rintro _ w3 ⟨rfl, C3, s3, g2⟩
  have hb3 := C3.at hb2 fun hq => by have := hq.2; omega
  refine load2 (v := .slice x 0 y) hb3 rfl ?_
  have hd0 : FInts w3 (fun _ => False) (.slice x 0 y) c.done := by rw [h6]; exact FInts.nil
  refine callV_of (markIntS_ok (k := k + offL c.deq c.deq.length + c.cnt.length) hd0 (by omega)) rfl ?_
  rintro _ w4 ⟨rfl, C4, s4, _⟩
  have E4 : Ext w3 w4 := Chg.ext C4 fun _ _ h => h
  have hb4 := E4.at hb3
  refine load2 (v := e) hb4 rfl ?_
  have g4 := (((h4.ext E1).keep C2 fun q _ hq hq' => ((h5 q).1 hq'.1).2.2 hq.1).keep C3 fun q _ hq hq' => ((h5 q).2.1 hq'.1).2 hq.1).ext E4
  refine callV_of (markIntSS_ok (k := k + offL c.deq c.deq.length + c.cnt.length + c.done.length) g4 q4 h8.rows.2 (by omega)) rfl ?_
  rintro _ w5 ⟨rfl, C5, s5, g5⟩
  have g1' := ((g1.keep C3 fun q _ hq hq' => ((h5 q).1 hq.1).2.1 hq'.1).ext E4).keep C5 fun q _ hq hq' => ((h5 q).1 hq.1).2.2 hq'.1
  have g2' := (g2.ext E4).keep C5 fun q hq hq' => ((h5 q).2.1 hq.1).2 hq'.1
  refine hR _ _ ⟨?_, ?_, by omega, ⟨a, b, _, e, _, _, _, hv, g1', g2', ⟨x, y, rfl⟩, g5, fun q => ⟨fun g => ⟨((h5 q).1 g.1).1, fun g' => ((h5 q).1 g.1).2.1 g'.1, fun g' => ((h5 q).1 g.1).2.2 g'.1⟩, fun g => ⟨((h5 q).2.1 g.1).1, fun g' => ((h5 q).2.1 g.1).2 g'.1⟩, fun g => (h5 q).2.2 g.1⟩, ?_, ?_, markC_sml h8 k⟩⟩
  · have : k + offL c.deq c.deq.length + c.cnt.length + c.done.length + offL c.rows c.rows.length = k + offC c := by unfold offC; omega
    rw [this]
  · have c1 : Chg B w w2 := E1.then (C2.mono fun q _ hq => ((h5 q).1 hq.1).1)
    have c2 : Chg B w w3 := Chg.trans c1 C3 (fun _ _ h => h) fun q _ hq => ((h5 q).2.1 hq.1).1
    have c3 : Chg B w w4 := Chg.trans c2 C4 (fun _ _ h => h) fun q _ hq => hq.elim
    exact Chg.trans c3 C5 (fun _ _ h => h) fun q _ hq => (h5 q).2.2 hq.1
  · show marks _ c.done.length = []
    rw [h6]; exact marks_zero _
  · intro l hl
    have hl' : l ∈ mkLs c.rows (k + offL c.deq c.deq.length + c.cnt.length + c.done.length) := hl
    rw [mkLs_empty h7] at hl'
    exact h7 l hl'

theorem heldCrew_ok {w : World} {v : Value} {c : Cr} {k : Nat} (h : CrewV w v (markC c k)) (hs : CrSml c) (hk : k ≤ 1099511627776) :
    Calls Try.prog N.laws_heldCrew #[v, .int .i64 k] w (Ret fun r w' => r = .int .i64 (k + offC c : Nat) ∧ Ext w w') := by
  obtain ⟨a, b, d, e, hv, h1, h2, h3, h4, _⟩ := h.out
  refine ret_k fun R hR => c_laws_heldCrew _ _ _ _ ?_
  have o1 := offL_le hs.deq.2 c.deq.length
  have o4 := offL_le hs.rows.2 c.rows.length
  have q1 := hs.deq.1
  have q2 := hs.cnt
  have q3 := hs.done
  have q4 := hs.rows.1
  refine box_crew hv fun w1 E1 hb1 => ?_
  simp only [go_sem]
  refine load2 (v := a) hb1 rfl ?_
  refine callV_of (heldIntSS_ok (k := k) (h1.ext E1) q1 hs.deq.2 (by omega)) rfl ?_
  rintro _ w2 ⟨rfl, E2⟩
  have e2 := E1.trans E2
  simp only [go_sem]
  refine ⟨fun h => absurd h (by omega), fun _ => ?_⟩
  refine load2 (v := b) (E2.at hb1) rfl ?_
  refine callV_of (heldIntS_ok (k := k + offL c.deq c.deq.length) (h2.ext e2) (by omega)) rfl ?_
  rintro _ w3 ⟨rfl, E3⟩
  have e3 := e2.trans E3
  simp only [go_sem]
  refine ⟨fun h => absurd h (by omega), fun _ => ?_⟩
  refine load2 (v := d) ((E2.trans E3).at hb1) rfl ?_
  refine callV_of (heldIntS_ok (k := k + offL c.deq c.deq.length + c.cnt.length) (h3.ext e3) (by omega)) rfl ?_
  rintro _ w4 ⟨rfl, E4⟩
  have e4 := e3.trans E4
  simp only [go_sem]
  refine ⟨fun h => absurd h (by omega), fun _ => ?_⟩
  refine load2 (v := e) (((E2.trans E3).trans E4).at hb1) rfl ?_
  refine callV_of (heldIntSS_ok (k := k + offL c.deq c.deq.length + c.cnt.length + c.done.length) (h4.ext e4) q4 hs.rows.2 (by omega)) rfl ?_
  rintro _ w5 ⟨rfl, E5⟩
  simp only [go_sem]
  refine ⟨fun h => absurd h (by omega), fun _ => hR _ _ ⟨?_, e4.trans E5⟩⟩
  have : k + offL c.deq c.deq.length + c.cnt.length + c.done.length + offL c.rows c.rows.length = k + offC c := by unfold offC; omega
  rw [this]
end Go.Proofs.Ytblgkpfnjlobjaa
