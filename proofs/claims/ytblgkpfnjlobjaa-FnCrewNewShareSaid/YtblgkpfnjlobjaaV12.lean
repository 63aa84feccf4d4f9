/- Plans in plain Lean: what is computed of them. No program in sight. -/
namespace Go.V

/-- A node of a plan. -/
structure Nd where
  kind : Int
  frm : List Int
  row : List Int
deriving DecidableEq

def RowOk (r : List Int) : Prop := r.length ≤ 6 ∧ ∀ x ∈ r, 0 ≤ x ∧ x < 1009
instance (r : List Int) : Decidable (RowOk r) := by unfold RowOk; infer_instance
def kneeds (k : Int) : Int := if 0 ≤ k ∧ k ≤ 5 then if k = 0 then 0 else if k = 1 ∨ k = 2 then 2 else 1 else -1
def NdFits (x : Nd) (at_ : Int) : Prop := (x.frm.length : Int) = kneeds x.kind ∧ (∀ f ∈ x.frm, 0 ≤ f ∧ f < at_) ∧ (if x.kind = 0 then RowOk x.row else x.row = [])
instance (x : Nd) (a : Int) : Decidable (NdFits x a) := by unfold NdFits; infer_instance
/-- The width of the first row that is given. -/
def wide : List Nd → Nat
  | [] => 0
  | x :: p => if x.kind = 0 then x.row.length else wide p
def PlanOk (p : List Nd) : Prop := p.length ≤ 10 ∧ ∀ i (h : i < p.length), NdFits p[i] i ∧ (p[i].kind = 0 → p[i].row.length = wide p)
noncomputable instance (p : List Nd) : Decidable (PlanOk p) := Classical.propDecidable _

theorem kneeds_range (k : Int) : -1 ≤ kneeds k ∧ kneeds k ≤ 2 := by
  unfold kneeds; split
  · split
    · omega
    · split <;> omega
  · omega

/-- What node i needs itself. -/
def fr (p : List Nd) (i : Nat) : List Int := match p[i]? with | some x => x.frm | none => []
theorem fr_get {p : List Nd} {i : Nat} (h : i < p.length) : fr p i = p[i].frm := by simp [fr, h]
theorem fr_none {p : List Nd} {i : Nat} (h : p.length ≤ i) : fr p i = [] := by simp [fr, h]

theorem PlanOk.len {p : List Nd} (h : PlanOk p) : p.length ≤ 10 := h.1
theorem PlanOk.fr_lt {p : List Nd} (h : PlanOk p) {i : Nat} {f : Int} (hf : f ∈ fr p i) : 0 ≤ f ∧ f < i ∧ i < p.length := by
  by_cases hi : i < p.length
  · rw [fr_get hi] at hf
    have := (h.2 i hi).1.2.1 f hf
    exact ⟨this.1, this.2, hi⟩
  · rw [fr_none (by omega)] at hf; cases hf
theorem PlanOk.fr_len {p : List Nd} (h : PlanOk p) (i : Nat) : (fr p i).length ≤ 2 := by
  by_cases hi : i < p.length
  · rw [fr_get hi]
    have h1 := (h.2 i hi).1.1
    have h2 := (kneeds_range p[i].kind).2
    omega
  · rw [fr_none (by omega)]; simp
theorem PlanOk.kind {p : List Nd} (h : PlanOk p) {i : Nat} (hi : i < p.length) : 0 ≤ p[i].kind ∧ p[i].kind ≤ 5 := by
  have h1 := (h.2 i hi).1.1
  unfold kneeds at h1
  split at h1
  · assumption
  · omega
theorem PlanOk.kind0 {p : List Nd} (h : PlanOk p) (h0 : 0 < p.length) : p[0].kind = 0 := by
  have h1 := (h.2 0 h0).1.1
  have hk := h.kind h0
  cases hf : p[0].frm with
  | nil =>
    rw [hf] at h1
    unfold kneeds at h1
    rw [if_pos hk] at h1
    split at h1
    · assumption
    · split at h1 <;> simp at h1
  | cons f fs =>
    have := (h.2 0 h0).1.2.1 f (by rw [hf]; simp)
    omega
theorem PlanOk.wide0 {p : List Nd} (h : PlanOk p) (h0 : 0 < p.length) : wide p = p[0].row.length := ((h.2 0 h0).2 (h.kind0 h0)).symm

/-! ### Numbers below n, in order -/
open Classical in
/-- The numbers below n that c holds of, in order. -/
noncomputable def sel : Nat → (Nat → Prop) → List Int
  | 0, _ => []
  | n + 1, c => if c n then sel n c ++ [(n : Int)] else sel n c

theorem sel_yes {n : Nat} {c : Nat → Prop} (h : c n) : sel (n + 1) c = sel n c ++ [(n : Int)] := by simp [sel, h]
theorem sel_no {n : Nat} {c : Nat → Prop} (h : ¬ c n) : sel (n + 1) c = sel n c := by simp [sel, h]
theorem sel_congr {n : Nat} {c d : Nat → Prop} (h : ∀ k, k < n → (c k ↔ d k)) : sel n c = sel n d := by
  induction n with
  | zero => rfl
  | succ n ih =>
    have h1 := ih fun k hk => h k (by omega)
    by_cases hc : c n
    · rw [sel_yes hc, sel_yes ((h n (by omega)).1 hc), h1]
    · rw [sel_no hc, sel_no (fun hd => hc ((h n (by omega)).2 hd)), h1]
theorem mem_sel {n : Nat} {c : Nat → Prop} {x : Int} : x ∈ sel n c ↔ ∃ k : Nat, k < n ∧ c k ∧ x = k := by
  induction n with
  | zero => simp [sel]
  | succ n ih =>
    by_cases hc : c n
    · rw [sel_yes hc, List.mem_append, ih, List.mem_singleton]
      constructor
      · rintro (⟨k, h1, h2, h3⟩ | h)
        · exact ⟨k, by omega, h2, h3⟩
        · exact ⟨n, by omega, hc, h⟩
      · rintro ⟨k, h1, h2, h3⟩
        by_cases e : k = n
        · subst e; exact .inr h3
        · exact .inl ⟨k, by omega, h2, h3⟩
    · rw [sel_no hc, ih]
      constructor
      · rintro ⟨k, h1, h2, h3⟩; exact ⟨k, by omega, h2, h3⟩
      · rintro ⟨k, h1, h2, h3⟩
        have : k ≠ n := by rintro rfl; exact hc h2
        exact ⟨k, by omega, h2, h3⟩
theorem mem_sel_nat {n : Nat} {c : Nat → Prop} {k : Nat} : (k : Int) ∈ sel n c ↔ k < n ∧ c k := by
  rw [mem_sel]
  constructor
  · rintro ⟨j, h1, h2, h3⟩
    have : k = j := by omega
    subst this; exact ⟨h1, h2⟩
  · rintro ⟨h1, h2⟩; exact ⟨k, h1, h2, rfl⟩
theorem sel_len {n : Nat} {c : Nat → Prop} : (sel n c).length ≤ n := by
  induction n with
  | zero => simp [sel]
  | succ n ih =>
    by_cases hc : c n
    · rw [sel_yes hc]; simp; omega
    · rw [sel_no hc]; omega
theorem sel_nil {n : Nat} {c : Nat → Prop} (h : ∀ k, k < n → ¬ c k) : sel n c = [] := by
  induction n with
  | zero => rfl
  | succ n ih => rw [sel_no (h n (by omega)), ih fun k hk => h k (by omega)]
theorem sel_eq_nil {n : Nat} {c : Nat → Prop} : sel n c = [] ↔ ∀ k, k < n → ¬ c k := by
  constructor
  · intro h k hk hc
    have : (k : Int) ∈ sel n c := mem_sel_nat.2 ⟨hk, hc⟩
    rw [h] at this; cases this
  · exact sel_nil
/-- Each is greater than the one ahead of it. -/
theorem sel_sorted {n : Nat} {c : Nat → Prop} : (sel n c).Pairwise (· < ·) := by
  induction n with
  | zero => simp [sel]
  | succ n ih =>
    by_cases hc : c n
    · rw [sel_yes hc, List.pairwise_append]
      refine ⟨ih, by simp, fun a ha b hb => ?_⟩
      obtain ⟨k, h1, _, rfl⟩ := mem_sel.1 ha
      simp at hb; subst hb; omega
    · rw [sel_no hc]; exact ih
theorem sel_nodup {n : Nat} {c : Nat → Prop} : (sel n c).Nodup := sel_sorted.imp fun h => by omega
theorem sel_all {n : Nat} {c : Nat → Prop} (h : ∀ k, k < n → c k) : (sel n c).length = n := by
  induction n with
  | zero => rfl
  | succ n ih => rw [sel_yes (h n (by omega))]; simp [ih fun k hk => h k (by omega)]
theorem sel_len_lt {n : Nat} {c : Nat → Prop} {k : Nat} (hk : k < n) (h : ¬ c k) : (sel n c).length < n := by
  induction n with
  | zero => omega
  | succ n ih =>
    by_cases e : k = n
    · subst e; rw [sel_no h]; have := @sel_len k c; omega
    · have := ih (by omega)
      by_cases hc : c n
      · rw [sel_yes hc]; simp; omega
      · rw [sel_no hc]; omega

/-- The nodes that need a node themselves. -/
noncomputable def usesL (p : List Nd) (a : Int) : List Int := sel p.length fun k => a ∈ fr p k
theorem usesL_none {p : List Nd} (h : PlanOk p) {a : Int} (ha : ¬ (0 ≤ a ∧ a < p.length)) : usesL p a = [] :=
  sel_nil fun k _ hm => ha (by have := h.fr_lt hm; omega)
theorem mem_usesL {p : List Nd} {a x : Int} : x ∈ usesL p a ↔ ∃ k : Nat, k < p.length ∧ a ∈ fr p k ∧ x = k := mem_sel

/-- What can be done when some are done. -/
noncomputable def readyL (p : List Nd) (done : List Int) : List Int := sel p.length fun k => (k : Int) ∉ done ∧ ∀ f ∈ fr p k, f ∈ done

/-- How many different nodes a node needs. -/
noncomputable def cnt (p : List Nd) (k : Nat) : Nat := (sel p.length fun j => (j : Int) ∈ fr p k).length
noncomputable def cntL (p : List Nd) : List Int := (List.range p.length).map fun k => (cnt p k : Int)
theorem cntL_len (p : List Nd) : (cntL p).length = p.length := by simp [cntL]
theorem cntL_get {p : List Nd} {k : Nat} (h : k < (cntL p).length) : (cntL p)[k] = (cnt p k : Int) := by simp [cntL]

/-- How many elements of a list stand there for the first time. -/
def firsts1 : List Int → List Int → Nat
  | _, [] => 0
  | pre, x :: xs => (if x ∈ pre then 0 else 1) + firsts1 (pre ++ [x]) xs

theorem sel_add {n : Nat} {c : Nat → Prop} {j : Nat} (hj : j < n) (h : ¬ c j) : (sel n fun k => c k ∨ k = j).length = (sel n c).length + 1 := by
  induction n with
  | zero => omega
  | succ n ih =>
    by_cases e : j = n
    · subst e
      rw [sel_yes (.inr rfl), sel_no h]
      rw [sel_congr (d := c) fun k hk => ⟨fun h => h.elim id fun e => by omega, .inl⟩]
      simp
    · have := ih (by omega)
      by_cases hc : c n
      · rw [sel_yes (.inl hc), sel_yes hc]; simp; omega
      · rw [sel_no (c := c) hc, sel_no (fun h => h.elim hc fun e => by omega)]; exact this

theorem firsts_sel {n : Nat} : ∀ (xs pre : List Int), (∀ x ∈ xs, 0 ≤ x ∧ x < (n : Int)) →
    (sel n fun j => (j : Int) ∈ pre ++ xs).length = (sel n fun j => (j : Int) ∈ pre).length + firsts1 pre xs
  | [], pre, _ => by simp [firsts1]
  | x :: xs, pre, h => by
    have h0 := h x (by simp)
    have ih := firsts_sel xs (pre ++ [x]) fun y hy => h y (by simp [hy])
    rw [List.append_assoc] at ih
    simp only [List.singleton_append] at ih
    rw [ih, firsts1]
    by_cases hx : x ∈ pre
    · rw [if_pos hx, sel_congr (d := fun j => (j : Int) ∈ pre) fun k _ => ?_]
      · omega
      · simp only [List.mem_append, List.mem_singleton]
        exact ⟨fun h => h.elim id fun e => by rw [e]; exact hx, .inl⟩
    · rw [if_neg hx]
      obtain ⟨j, rfl⟩ : ∃ j : Nat, x = j := ⟨x.toNat, by omega⟩
      have := sel_add (n := n) (c := fun k => (k : Int) ∈ pre) (j := j) (by omega) hx
      rw [sel_congr (d := fun k => (k : Int) ∈ pre ∨ k = j) fun k _ => ?_]
      · omega
      · simp only [List.mem_append, List.mem_singleton]
        exact ⟨fun h => h.elim .inl fun e => .inr (by omega), fun h => h.elim .inl fun e => .inr (by rw [e])⟩

theorem cnt_firsts {p : List Nd} (h : PlanOk p) (k : Nat) : cnt p k = firsts1 [] (fr p k) := by
  have := firsts_sel (n := p.length) (fr p k) [] fun x hx => by have := h.fr_lt hx; omega
  simp only [List.nil_append] at this
  unfold cnt
  rw [this, sel_nil (fun _ _ h => by cases h)]
  simp
theorem firsts1_snoc (xs pre : List Int) (x : Int) : firsts1 pre (xs ++ [x]) = firsts1 pre xs + if x ∈ pre ++ xs then 0 else 1 := by
  induction xs generalizing pre with
  | nil => simp [firsts1]
  | cons y ys ih =>
    simp only [List.cons_append, firsts1, ih]
    rw [List.append_assoc, List.singleton_append]
    omega

/-- Nodes in an order in which they can be done. -/
def OrdOk (p : List Nd) (l : List Int) : Prop := ∀ i (h : i < l.length), (0 ≤ l[i] ∧ l[i] < p.length) ∧ l[i] ∉ l.take i ∧ ∀ f ∈ fr p l[i].toNat, f ∈ l.take i
noncomputable instance (p : List Nd) (l : List Int) : Decidable (OrdOk p l) := Classical.propDecidable _

theorem OrdOk.mem {p : List Nd} {l : List Int} (h : OrdOk p l) {x : Int} (hx : x ∈ l) : 0 ≤ x ∧ x < p.length := by
  obtain ⟨i, hi, rfl⟩ := List.mem_iff_getElem.1 hx
  exact (h i hi).1
theorem OrdOk.take {p : List Nd} {l : List Int} (h : OrdOk p l) (k : Nat) : OrdOk p (l.take k) := by
  intro i hi
  have hi' : i < l.length := by rw [List.length_take] at hi; omega
  have hik : i < k := by rw [List.length_take] at hi; omega
  rw [List.getElem_take, List.take_take, Nat.min_eq_left (by omega)]
  exact h i hi'
theorem OrdOk.nodup {p : List Nd} {l : List Int} (h : OrdOk p l) : l.Nodup := by
  rw [List.nodup_iff_pairwise_ne, List.pairwise_iff_getElem]
  intro i j hi hj hij e
  refine (h j hj).2.1 ?_
  rw [← e]
  exact List.mem_take_iff_getElem.2 ⟨i, by omega, rfl⟩
/-- What is done has all that it needs done. -/
theorem OrdOk.closed {p : List Nd} {l : List Int} (h : OrdOk p l) {k : Nat} (hk : (k : Int) ∈ l) {f : Int} (hf : f ∈ fr p k) : f ∈ l := by
  obtain ⟨i, hi, e⟩ := List.mem_iff_getElem.1 hk
  have := (h i hi).2.2 f (by rw [e]; simpa using hf)
  exact List.mem_of_mem_take this

theorem nodup_len {l : List Int} {n : Nat} (hd : l.Nodup) (h : ∀ x ∈ l, 0 ≤ x ∧ x < (n : Int)) : l.length ≤ n := by
  induction n generalizing l with
  | zero =>
    cases l with
    | nil => simp
    | cons x xs => have := h x (by simp); omega
  | succ n ih =>
    by_cases hn : (n : Int) ∈ l
    · have h1 := ih (hd.erase (n : Int)) fun x hx => by
        have h2 := (hd.mem_erase_iff).1 hx
        have := h x h2.2; omega
      rw [List.length_erase_of_mem hn] at h1
      omega
    · have := ih hd fun x hx => by
        have h2 := h x hx
        have : x ≠ (n : Int) := by rintro rfl; exact hn hx
        omega
      omega
/-- As many different numbers below n as there are: all. -/
theorem nodup_all {l : List Int} {n : Nat} (hd : l.Nodup) (h : ∀ x ∈ l, 0 ≤ x ∧ x < (n : Int)) (hl : n ≤ l.length) {k : Nat} (hk : k < n) : (k : Int) ∈ l := by
  refine Classical.byContradiction fun hn => ?_
  have := nodup_len (l := (k : Int) :: l) (n := n) (List.nodup_cons.2 ⟨hn, hd⟩) fun x hx => by
    rcases List.mem_cons.1 hx with rfl | hx
    · omega
    · exact h x hx
  simp at this; omega

/-- Something is ready as long as not all is done. -/
theorem ready_some {p : List Nd} (h : PlanOk p) {done : List Int} {k : Nat} (hk : k < p.length) (hn : (k : Int) ∉ done) : readyL p done ≠ [] := by
  induction k using Nat.strongRecOn with
  | _ k ih =>
    by_cases ha : ∀ f ∈ fr p k, f ∈ done
    · intro e
      have : (k : Int) ∈ readyL p done := mem_sel_nat.2 ⟨hk, hn, ha⟩
      rw [e] at this; cases this
    · obtain ⟨f, hf⟩ := Classical.not_forall.1 ha
      obtain ⟨hf, hfd⟩ := Classical.not_imp.1 hf
      have := h.fr_lt hf
      obtain ⟨j, rfl⟩ : ∃ j : Nat, f = j := ⟨f.toNat, by omega⟩
      exact ih j (by omega) (by omega) hfd
theorem ready_none {p : List Nd} {done : List Int} (h : ∀ k, k < p.length → (k : Int) ∈ done) : readyL p done = [] := sel_nil fun k hk hc => hc.1 (h k hk)
end Go.V

/- Rounds, what is kept, what is lost: in plain Lean. -/
namespace Go.V

/-! ### Rounds -/
noncomputable def stepW (p : List Nd) (w : Nat) (done : List Int) : List Int := done ++ (readyL p done).take w
noncomputable def afterW (p : List Nd) (w : Nat) : Nat → List Int
  | 0 => []
  | r + 1 => stepW p w (afterW p w r)
def IsRounds (p : List Nd) (w r : Nat) : Prop := (afterW p w r).length = p.length ∧ ∀ j, j < r → (afterW p w j).length < p.length

theorem IsRounds.uniq {p : List Nd} {w r s : Nat} (h : IsRounds p w r) (k : IsRounds p w s) : r = s := by
  rcases Nat.lt_trichotomy r s with hl | rfl | hl
  · have := k.2 r hl; have := h.1; omega
  · rfl
  · have := h.2 s hl; have := k.1; omega

theorem readyL_mem {p : List Nd} {done : List Int} {x : Int} (h : x ∈ readyL p done) : (0 ≤ x ∧ x < p.length) ∧ x ∉ done := by
  obtain ⟨k, hk, hc, rfl⟩ := mem_sel.1 h
  exact ⟨⟨by omega, by omega⟩, hc.1⟩
theorem afterW_ok {p : List Nd} (w : Nat) (r : Nat) : (afterW p w r).Nodup ∧ ∀ x ∈ afterW p w r, 0 ≤ x ∧ x < (p.length : Int) := by
  induction r with
  | zero => simp [afterW]
  | succ r ih =>
    simp only [afterW, stepW]
    refine ⟨List.nodup_append.2 ⟨ih.1, sel_nodup.sublist (List.take_sublist _ _), fun a ha b hb e => ?_⟩, fun x hx => ?_⟩
    · subst e
      exact (readyL_mem (List.mem_of_mem_take hb)).2 ha
    · rcases List.mem_append.1 hx with hx | hx
      · exact ih.2 x hx
      · exact (readyL_mem (List.mem_of_mem_take hx)).1
theorem afterW_le {p : List Nd} (w r : Nat) : (afterW p w r).length ≤ p.length := nodup_len (afterW_ok w r).1 (afterW_ok w r).2
theorem lt_missing {l : List Int} {n : Nat} (h : l.length < n) : ∃ k : Nat, k < n ∧ (k : Int) ∉ l := by
  refine Classical.byContradiction fun hn => ?_
  have h1 : ∀ k : Nat, k < n → (k : Int) ∈ l := fun k hk => Classical.byContradiction fun h => hn ⟨k, hk, h⟩
  have h2 := (sel_nodup (n := n) (c := fun _ => True)).length_le_of_subset (l₂ := l) fun x hx => by
    obtain ⟨k, hk, _, rfl⟩ := mem_sel.1 hx
    exact h1 k hk
  rw [sel_all fun _ _ => trivial] at h2
  omega
theorem afterW_grow {p : List Nd} (hp : PlanOk p) {w : Nat} (hw : 1 ≤ w) {r : Nat} (h : (afterW p w r).length < p.length) :
    (afterW p w r).length < (afterW p w (r + 1)).length ∧ (w = 1 → (afterW p w (r + 1)).length = (afterW p w r).length + 1) := by
  obtain ⟨k, hk, hn⟩ := lt_missing h
  have := ready_some hp hk hn
  have h1 : 1 ≤ (readyL p (afterW p w r)).length := List.length_pos_iff.2 this
  simp only [afterW, stepW, List.length_append, List.length_take]
  constructor
  · omega
  · intro h; omega
theorem afterW_min {p : List Nd} (hp : PlanOk p) {w : Nat} (hw : 1 ≤ w) (r : Nat) (h : ∀ j, j < r → (afterW p w j).length < p.length) : r ≤ (afterW p w r).length ∧ (w = 1 → (afterW p w r).length = r) := by
  induction r with
  | zero => simp [afterW]
  | succ r ih =>
    have h1 := ih fun j hj => h j (by omega)
    have h2 := afterW_grow hp hw (h r (by omega))
    exact ⟨by omega, fun e => by have := h2.2 e; have := h1.2 e; omega⟩
theorem IsRounds.le {p : List Nd} (hp : PlanOk p) {w r : Nat} (hw : 1 ≤ w) (h : IsRounds p w r) : r ≤ p.length := by
  have := (afterW_min hp hw r h.2).1
  have := h.1; omega
theorem IsRounds.one {p : List Nd} (hp : PlanOk p) {r : Nat} (h : IsRounds p 1 r) : r = p.length := by
  have := (afterW_min hp (Nat.le_refl 1) r h.2).2 rfl
  have := h.1; omega

/-! ### What is kept -/
/-- Some nodes and all that they need. -/
inductive Rch (p : List Nd) (l : List Int) : Nat → Prop
  | start {i : Nat} : (i : Int) ∈ l → Rch p l i
  | need {i j : Nat} : Rch p l j → (i : Int) ∈ fr p j → Rch p l i
noncomputable def keepL (p : List Nd) (l : List Int) : List Int := sel p.length (Rch p l)
/-- What a node needs, directly or not. -/
def Needs (p : List Nd) (a : Int) (i : Nat) : Prop := ∃ j, Rch p [a] j ∧ (i : Int) ∈ fr p j
noncomputable def needsL (p : List Nd) (a : Int) : List Int := sel p.length (Needs p a)
/-- The nodes that nobody needs. -/
noncomputable def endsL (p : List Nd) : List Int := sel p.length fun k => usesL p k = []

theorem Rch.iff {p : List Nd} {l : List Int} {i : Nat} : Rch p l i ↔ (i : Int) ∈ l ∨ ∃ j, Rch p l j ∧ (i : Int) ∈ fr p j := by
  constructor
  · intro h
    cases h with
    | start h => exact .inl h
    | need h k => exact .inr ⟨_, h, k⟩
  · rintro (h | ⟨j, h, k⟩)
    · exact .start h
    · exact .need h k
theorem Rch.mono {p : List Nd} {l m : List Int} (h : ∀ k : Nat, (k : Int) ∈ l → Rch p m k) {i : Nat} (hi : Rch p l i) : Rch p m i := by
  induction hi with
  | start h' => exact h _ h'
  | need _ k ih => exact .need ih k
theorem Rch.lt {p : List Nd} (hp : PlanOk p) {l : List Int} (hl : ∀ x ∈ l, 0 ≤ x ∧ x < (p.length : Int)) {i : Nat} (h : Rch p l i) : i < p.length := by
  cases h with
  | start h => have := hl _ h; omega
  | need h k => have := hp.fr_lt k; omega
theorem keep_twice {p : List Nd} (hp : PlanOk p) {l : List Int} (hl : ∀ x ∈ l, 0 ≤ x ∧ x < (p.length : Int)) : keepL p (keepL p l) = keepL p l :=
  sel_congr fun _ _ => ⟨fun h => h.mono fun _ hj => (mem_sel_nat.1 hj).2, fun h => .start (mem_sel_nat.2 ⟨h.lt hp hl, h⟩)⟩
theorem keep_ends {p : List Nd} (hp : PlanOk p) {k : Nat} (hk : k < p.length) : Rch p (endsL p) k := by
  have h : ∀ m k, p.length - k ≤ m → k < p.length → Rch p (endsL p) k := by
    intro m
    induction m with
    | zero => intro k h1 h2; omega
    | succ m ih =>
      intro k h1 h2
      by_cases he : usesL p k = []
      · exact .start (mem_sel_nat.2 ⟨h2, he⟩)
      · obtain ⟨x, hx⟩ := List.exists_mem_of_ne_nil _ he
        obtain ⟨u, hu, hm, rfl⟩ := mem_usesL.1 hx
        have := hp.fr_lt hm
        exact .need (ih u (by omega) hu) hm
  exact h _ k (Nat.le_refl _) hk
theorem keep_ends_len {p : List Nd} (hp : PlanOk p) : (keepL p (endsL p)).length = p.length := sel_all fun _ hk => keep_ends hp hk
theorem reach_split {p : List Nd} {l : List Int} {i : Nat} : Rch p l i ↔ (i : Int) ∈ l ∨ ∃ a ∈ l, Needs p a i := by
  constructor
  · intro h
    have key : ∀ j, Rch p l j → ∃ a ∈ l, Rch p [a] j := by
      intro j hj
      induction hj with
      | @start i h => exact ⟨_, h, .start (by simp)⟩
      | need _ k ih => obtain ⟨a, ha, hr⟩ := ih; exact ⟨a, ha, .need hr k⟩
    rcases Rch.iff.1 h with h | ⟨j, hj, hk⟩
    · exact .inl h
    · obtain ⟨a, ha, hr⟩ := key j hj
      exact .inr ⟨a, ha, j, hr, hk⟩
  · rintro (h | ⟨a, ha, j, hr, hk⟩)
    · exact .start h
    · exact .need (hr.mono fun k hk => by simp at hk; subst hk; exact .start ha) hk

/-! ### What is lost -/
/-- Nodes that have to be done again. -/
inductive Again (p : List Nd) (done lost : List Int) : Nat → Prop
  | ends {i : Nat} : (i : Int) ∈ done → (i : Int) ∈ lost → usesL p i = [] → Again p done lost i
  | undone {i : Nat} {u : Int} : (i : Int) ∈ done → (i : Int) ∈ lost → u ∈ usesL p i → u ∉ done → Again p done lost i
  | again {i u : Nat} : (i : Int) ∈ done → (i : Int) ∈ lost → (u : Int) ∈ usesL p i → Again p done lost u → Again p done lost i
noncomputable def againL (p : List Nd) (done lost : List Int) : List Int := sel p.length (Again p done lost)

theorem Again.mem {p : List Nd} {done lost : List Int} {i : Nat} (h : Again p done lost i) : (i : Int) ∈ done ∧ (i : Int) ∈ lost := by
  cases h <;> exact ⟨by assumption, by assumption⟩
theorem mem_usesL_nat {p : List Nd} {a : Int} {u : Nat} : (u : Int) ∈ usesL p a ↔ u < p.length ∧ a ∈ fr p u := mem_sel_nat
theorem Again.iff {p : List Nd} {done lost : List Int} {i : Nat} : Again p done lost i ↔
    (i : Int) ∈ done ∧ (i : Int) ∈ lost ∧ (usesL p i = [] ∨ ∃ u ∈ usesL p i, u ∉ done ∨ u ∈ againL p done lost) := by
  constructor
  · intro h
    refine ⟨h.mem.1, h.mem.2, ?_⟩
    cases h with
    | ends _ _ h => exact .inl h
    | undone _ _ h k => exact .inr ⟨_, h, .inl k⟩
    | again _ _ h k => exact .inr ⟨_, h, .inr (mem_sel_nat.2 ⟨(mem_usesL_nat.1 h).1, k⟩)⟩
  · rintro ⟨h1, h2, h | ⟨u, h, k | k⟩⟩
    · exact .ends h1 h2 h
    · exact .undone h1 h2 h k
    · obtain ⟨v, hv, hc, rfl⟩ := mem_sel.1 k
      exact .again h1 h2 h hc
theorem mem_againL {p : List Nd} {done lost : List Int} {x : Int} : x ∈ againL p done lost ↔ ∃ k : Nat, k < p.length ∧ Again p done lost k ∧ x = k := mem_sel
theorem againL_mem {p : List Nd} {done lost : List Int} {x : Int} (h : x ∈ againL p done lost) : x ∈ done ∧ x ∈ lost := by
  obtain ⟨k, _, hk, rfl⟩ := mem_againL.1 h
  exact hk.mem
theorem Again.more {p : List Nd} {done lost lost' : List Int} (h : ∀ x ∈ lost, x ∈ lost' ∨ x ∉ done) {i : Nat} (hi : Again p done lost i) : Again p done lost' i := by
  induction hi with
  | ends h1 h2 h3 => exact .ends h1 ((h _ h2).resolve_right fun k => k h1) h3
  | undone h1 h2 h3 h4 => exact .undone h1 ((h _ h2).resolve_right fun k => k h1) h3 h4
  | again h1 h2 h3 _ ih => exact .again h1 ((h _ h2).resolve_right fun k => k h1) h3 ih
theorem again_nothing {p : List Nd} {done : List Int} : againL p done [] = [] := sel_nil fun _ _ h => by have := h.mem.2; cases this
theorem again_undone {p : List Nd} {lost : List Int} : againL p [] lost = [] := sel_nil fun _ _ h => by have := h.mem.1; cases this

/-- What is done and stays. -/
noncomputable def stays (p : List Nd) (done lost : List Int) : List Int := done.filter fun x => decide (x ∉ againL p done lost)
theorem mem_stays {p : List Nd} {done lost : List Int} {x : Int} : x ∈ stays p done lost ↔ x ∈ done ∧ x ∉ againL p done lost := by simp [stays]
theorem filter_split (l : List Int) (q : Int → Bool) : (l.filter q).length + (l.filter fun x => !q x).length = l.length := by
  induction l with
  | nil => rfl
  | cons x l ih => by_cases h : q x <;> simp [h] <;> omega
theorem stays_len {p : List Nd} {done lost : List Int} (hd : done.Nodup) : (stays p done lost).length + (againL p done lost).length = done.length := by
  have h1 := filter_split done fun x => decide (x ∉ againL p done lost)
  have h2 : (done.filter fun x => !decide (x ∉ againL p done lost)).length = (againL p done lost).length := by
    refine Nat.le_antisymm ?_ ?_
    · exact List.Nodup.length_le_of_subset (hd.filter _) fun x hx => by simpa using (List.mem_filter.1 hx).2
    · exact List.Nodup.length_le_of_subset (show (againL p done lost).Nodup from sel_nodup) fun x hx => List.mem_filter.2 ⟨(againL_mem hx).1, by simpa using hx⟩
  unfold stays
  omega
end Go.V
