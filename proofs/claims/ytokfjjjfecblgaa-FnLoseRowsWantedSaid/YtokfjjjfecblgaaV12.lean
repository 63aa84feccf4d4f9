/- Rounds, what is kept, what is lost: in plain Lean. -/
import Derived.Test.YtokfjjjfecblgaaV11
namespace Go.V

/-! ### Rounds -/
noncomputable def stepW (p : List Nd) (w : Nat) (done : List Int) : List Int := done ++ (readyL p done).take w
noncomputable def afterW (p : List Nd) (w : Nat) : Nat → List Int
  | 0 => []
  | r + 1 => stepW p w (afterW p w r)
def IsRounds (p : List Nd) (w r : Nat) : Prop := (afterW p w r).length = p.length ∧ ∀ j, j < r → (afterW p w j).length < p.length

theorem IsRounds.uniq {p : List Nd} {w r s : Nat} (h : IsRounds p w r) (k : IsRounds p w s) : r = s := by
  rcases Nat.lt_trichotomy r s with hl | rfl | hl
  · have := k.2 r hl; have := h.1; omega
  · rfl
  · have := h.2 s hl; have := k.1; omega

theorem readyL_mem {p : List Nd} {done : List Int} {x : Int} (h : x ∈ readyL p done) : (0 ≤ x ∧ x < p.length) ∧ x ∉ done := by
  obtain ⟨k, hk, hc, rfl⟩ := mem_sel.1 h
  exact ⟨⟨by omega, by omega⟩, hc.1⟩
theorem afterW_ok {p : List Nd} (w : Nat) (r : Nat) : (afterW p w r).Nodup ∧ ∀ x ∈ afterW p w r, 0 ≤ x ∧ x < (p.length : Int) := by
  induction r with
  | zero => simp [afterW]
  | succ r ih =>
    simp only [afterW, stepW]
    refine ⟨List.nodup_append.2 ⟨ih.1, sel_nodup.sublist (List.take_sublist _ _), fun a ha b hb e => ?_⟩, fun x hx => ?_⟩
    · subst e
      exact (readyL_mem (List.mem_of_mem_take hb)).2 ha
    · rcases List.mem_append.1 hx with hx | hx
      · exact ih.2 x hx
      · exact (readyL_mem (List.mem_of_mem_take hx)).1
theorem afterW_le {p : List Nd} (w r : Nat) : (afterW p w r).length ≤ p.length := nodup_len (afterW_ok w r).1 (afterW_ok w r).2
theorem lt_missing {l : List Int} {n : Nat} (h : l.length < n) : ∃ k : Nat, k < n ∧ (k : Int) ∉ l := by
  refine Classical.byContradiction fun hn => ?_
  have h1 : ∀ k : Nat, k < n → (k : Int) ∈ l := fun k hk => Classical.byContradiction fun h => hn ⟨k, hk, h⟩
  have h2 := (sel_nodup (n := n) (c := fun _ => True)).length_le_of_subset (l₂ := l) fun x hx => by
    obtain ⟨k, hk, _, rfl⟩ := mem_sel.1 hx
    exact h1 k hk
  rw [sel_all fun _ _ => trivial] at h2
  omega
theorem afterW_grow {p : List Nd} (hp : PlanOk p) {w : Nat} (hw : 1 ≤ w) {r : Nat} (h : (afterW p w r).length < p.length) :
    (afterW p w r).length < (afterW p w (r + 1)).length ∧ (w = 1 → (afterW p w (r + 1)).length = (afterW p w r).length + 1) := by
  obtain ⟨k, hk, hn⟩ := lt_missing h
  have := ready_some hp hk hn
  have h1 : 1 ≤ (readyL p (afterW p w r)).length := List.length_pos_iff.2 this
  simp only [afterW, stepW, List.length_append, List.length_take]
  constructor
  · omega
  · intro h; omega
theorem afterW_min {p : List Nd} (hp : PlanOk p) {w : Nat} (hw : 1 ≤ w) (r : Nat) (h : ∀ j, j < r → (afterW p w j).length < p.length) : r ≤ (afterW p w r).length ∧ (w = 1 → (afterW p w r).length = r) := by
  induction r with
  | zero => simp [afterW]
  | succ r ih =>
    have h1 := ih fun j hj => h j (by omega)
    have h2 := afterW_grow hp hw (h r (by omega))
    exact ⟨by omega, fun e => by have := h2.2 e; have := h1.2 e; omega⟩
theorem IsRounds.le {p : List Nd} (hp : PlanOk p) {w r : Nat} (hw : 1 ≤ w) (h : IsRounds p w r) : r ≤ p.length := by
  have := (afterW_min hp hw r h.2).1
  have := h.1; omega
theorem IsRounds.one {p : List Nd} (hp : PlanOk p) {r : Nat} (h : IsRounds p 1 r) : r = p.length := by
  have := (afterW_min hp (Nat.le_refl 1) r h.2).2 rfl
  have := h.1; omega

/-! ### What is kept -/
/-- Some nodes and all that they need. -/
inductive Rch (p : List Nd) (l : List Int) : Nat → Prop
  | start {i : Nat} : (i : Int) ∈ l → Rch p l i
  | need {i j : Nat} : Rch p l j → (i : Int) ∈ fr p j → Rch p l i
noncomputable def keepL (p : List Nd) (l : List Int) : List Int := sel p.length (Rch p l)
/-- What a node needs, directly or not. -/
def Needs (p : List Nd) (a : Int) (i : Nat) : Prop := ∃ j, Rch p [a] j ∧ (i : Int) ∈ fr p j
noncomputable def needsL (p : List Nd) (a : Int) : List Int := sel p.length (Needs p a)
/-- The nodes that nobody needs. -/
noncomputable def endsL (p : List Nd) : List Int := sel p.length fun k => usesL p k = []

theorem Rch.iff {p : List Nd} {l : List Int} {i : Nat} : Rch p l i ↔ (i : Int) ∈ l ∨ ∃ j, Rch p l j ∧ (i : Int) ∈ fr p j := by
  constructor
  · intro h
    cases h with
    | start h => exact .inl h
    | need h k => exact .inr ⟨_, h, k⟩
  · rintro (h | ⟨j, h, k⟩)
    · exact .start h
    · exact .need h k
theorem Rch.mono {p : List Nd} {l m : List Int} (h : ∀ k : Nat, (k : Int) ∈ l → Rch p m k) {i : Nat} (hi : Rch p l i) : Rch p m i := by
  induction hi with
  | start h' => exact h _ h'
  | need _ k ih => exact .need ih k
theorem Rch.lt {p : List Nd} (hp : PlanOk p) {l : List Int} (hl : ∀ x ∈ l, 0 ≤ x ∧ x < (p.length : Int)) {i : Nat} (h : Rch p l i) : i < p.length := by
  cases h with
  | start h => have := hl _ h; omega
  | need h k => have := hp.fr_lt k; omega
theorem keep_twice {p : List Nd} (hp : PlanOk p) {l : List Int} (hl : ∀ x ∈ l, 0 ≤ x ∧ x < (p.length : Int)) : keepL p (keepL p l) = keepL p l :=
  sel_congr fun _ _ => ⟨fun h => h.mono fun _ hj => (mem_sel_nat.1 hj).2, fun h => .start (mem_sel_nat.2 ⟨h.lt hp hl, h⟩)⟩
theorem keep_ends {p : List Nd} (hp : PlanOk p) {k : Nat} (hk : k < p.length) : Rch p (endsL p) k := by
  have h : ∀ m k, p.length - k ≤ m → k < p.length → Rch p (endsL p) k := by
    intro m
    induction m with
    | zero => intro k h1 h2; omega
    | succ m ih =>
      intro k h1 h2
      by_cases he : usesL p k = []
      · exact .start (mem_sel_nat.2 ⟨h2, he⟩)
      · obtain ⟨x, hx⟩ := List.exists_mem_of_ne_nil _ he
        obtain ⟨u, hu, hm, rfl⟩ := mem_usesL.1 hx
        have := hp.fr_lt hm
        exact .need (ih u (by omega) hu) hm
  exact h _ k (Nat.le_refl _) hk
theorem keep_ends_len {p : List Nd} (hp : PlanOk p) : (keepL p (endsL p)).length = p.length := sel_all fun _ hk => keep_ends hp hk
theorem reach_split {p : List Nd} {l : List Int} {i : Nat} : Rch p l i ↔ (i : Int) ∈ l ∨ ∃ a ∈ l, Needs p a i := by
  constructor
  · intro h
    have key : ∀ j, Rch p l j → ∃ a ∈ l, Rch p [a] j := by
      intro j hj
      induction hj with
      | @start i h => exact ⟨_, h, .start (by simp)⟩
      | need _ k ih => obtain ⟨a, ha, hr⟩ := ih; exact ⟨a, ha, .need hr k⟩
    rcases Rch.iff.1 h with h | ⟨j, hj, hk⟩
    · exact .inl h
    · obtain ⟨a, ha, hr⟩ := key j hj
      exact .inr ⟨a, ha, j, hr, hk⟩
  · rintro (h | ⟨a, ha, j, hr, hk⟩)
    · exact .start h
    · exact .need (hr.mono fun k hk => by simp at hk; subst hk; exact .start ha) hk

/-! ### What is lost -/
/-- Nodes that have to be done again. -/
inductive Again (p : List Nd) (done lost : List Int) : Nat → Prop
  | ends {i : Nat} : (i : Int) ∈ done → (i : Int) ∈ lost → usesL p i = [] → Again p done lost i
  | undone {i : Nat} {u : Int} : (i : Int) ∈ done → (i : Int) ∈ lost → u ∈ usesL p i → u ∉ done → Again p done lost i
  | again {i u : Nat} : (i : Int) ∈ done → (i : Int) ∈ lost → (u : Int) ∈ usesL p i → Again p done lost u → Again p done lost i
noncomputable def againL (p : List Nd) (done lost : List Int) : List Int := sel p.length (Again p done lost)

theorem Again.mem {p : List Nd} {done lost : List Int} {i : Nat} (h : Again p done lost i) : (i : Int) ∈ done ∧ (i : Int) ∈ lost := by
  cases h <;> exact ⟨by assumption, by assumption⟩
theorem mem_usesL_nat {p : List Nd} {a : Int} {u : Nat} : (u : Int) ∈ usesL p a ↔ u < p.length ∧ a ∈ fr p u := mem_sel_nat
theorem Again.iff {p : List Nd} {done lost : List Int} {i : Nat} : Again p done lost i ↔
    (i : Int) ∈ done ∧ (i : Int) ∈ lost ∧ (usesL p i = [] ∨ ∃ u ∈ usesL p i, u ∉ done ∨ u ∈ againL p done lost) := by
  constructor
  · intro h
    refine ⟨h.mem.1, h.mem.2, ?_⟩
    cases h with
    | ends _ _ h => exact .inl h
    | undone _ _ h k => exact .inr ⟨_, h, .inl k⟩
    | again _ _ h k => exact .inr ⟨_, h, .inr (mem_sel_nat.2 ⟨(mem_usesL_nat.1 h).1, k⟩)⟩
  · rintro ⟨h1, h2, h | ⟨u, h, k | k⟩⟩
    · exact .ends h1 h2 h
    · exact .undone h1 h2 h k
    · obtain ⟨v, hv, hc, rfl⟩ := mem_sel.1 k
      exact .again h1 h2 h hc
theorem mem_againL {p : List Nd} {done lost : List Int} {x : Int} : x ∈ againL p done lost ↔ ∃ k : Nat, k < p.length ∧ Again p done lost k ∧ x = k := mem_sel
theorem againL_mem {p : List Nd} {done lost : List Int} {x : Int} (h : x ∈ againL p done lost) : x ∈ done ∧ x ∈ lost := by
  obtain ⟨k, _, hk, rfl⟩ := mem_againL.1 h
  exact hk.mem
theorem Again.more {p : List Nd} {done lost lost' : List Int} (h : ∀ x ∈ lost, x ∈ lost' ∨ x ∉ done) {i : Nat} (hi : Again p done lost i) : Again p done lost' i := by
  induction hi with
  | ends h1 h2 h3 => exact .ends h1 ((h _ h2).resolve_right fun k => k h1) h3
  | undone h1 h2 h3 h4 => exact .undone h1 ((h _ h2).resolve_right fun k => k h1) h3 h4
  | again h1 h2 h3 _ ih => exact .again h1 ((h _ h2).resolve_right fun k => k h1) h3 ih
theorem again_nothing {p : List Nd} {done : List Int} : againL p done [] = [] := sel_nil fun _ _ h => by have := h.mem.2; cases this
theorem again_undone {p : List Nd} {lost : List Int} : againL p [] lost = [] := sel_nil fun _ _ h => by have := h.mem.1; cases this

/-- What is done and stays. -/
noncomputable def stays (p : List Nd) (done lost : List Int) : List Int := done.filter fun x => decide (x ∉ againL p done lost)
theorem mem_stays {p : List Nd} {done lost : List Int} {x : Int} : x ∈ stays p done lost ↔ x ∈ done ∧ x ∉ againL p done lost := by simp [stays]
theorem filter_split (l : List Int) (q : Int → Bool) : (l.filter q).length + (l.filter fun x => !q x).length = l.length := by
  induction l with
  | nil => rfl
  | cons x l ih => by_cases h : q x <;> simp [h] <;> omega
theorem stays_len {p : List Nd} {done lost : List Int} (hd : done.Nodup) : (stays p done lost).length + (againL p done lost).length = done.length := by
  have h1 := filter_split done fun x => decide (x ∉ againL p done lost)
  have h2 : (done.filter fun x => !decide (x ∉ againL p done lost)).length = (againL p done lost).length := by
    refine Nat.le_antisymm ?_ ?_
    · exact List.Nodup.length_le_of_subset (hd.filter _) fun x hx => by simpa using (List.mem_filter.1 hx).2
    · exact List.Nodup.length_le_of_subset (show (againL p done lost).Nodup from sel_nodup) fun x hx => List.mem_filter.2 ⟨(againL_mem hx).1, by simpa using hx⟩
  unfold stays
  omega
end Go.V
