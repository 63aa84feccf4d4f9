/- Values, folding, parts of plans: in plain Lean. -/
import Derived.Test.YtblgkpfnjlobjaaV12
namespace Go.V

def nd (p : List Nd) (i : Nat) : Nd := match p[i]? with | some x => x | none => ⟨0, [], []⟩
theorem nd_get {p : List Nd} {i : Nat} (h : i < p.length) : nd p i = p[i] := by simp [nd, h]
theorem nd_frm (p : List Nd) (i : Nat) : (nd p i).frm = fr p i := by
  unfold nd fr; cases p[i]? <;> rfl
theorem ext_nd {p q : List Nd} (hl : p.length = q.length) (h : ∀ i, i < p.length → nd p i = nd q i) : p = q :=
  List.ext_getElem hl fun i h1 h2 => by rw [← nd_get h1, ← nd_get h2]; exact h i h1

/-- A plan is valid, said node by node. -/
theorem planOk_of {p : List Nd} {wd : Nat} (hl : p.length ≤ 10) (h : ∀ i, i < p.length → NdFits (nd p i) i ∧ ((nd p i).kind = 0 → (nd p i).row.length = wd)) : PlanOk p := by
  refine ⟨hl, fun i hi => ?_⟩
  have hi' := h i hi
  rw [nd_get hi] at hi'
  refine ⟨hi'.1, fun hk => ?_⟩
  rw [hi'.2 hk]
  -- the first fixed node tells the width
  have key : ∀ (q : List Nd) , (∀ x ∈ q, x.kind = 0 → x.row.length = wd) → (∃ x ∈ q, x.kind = 0) → wide q = wd := by
    intro q
    induction q with
    | nil => rintro _ ⟨x, hx, _⟩; cases hx
    | cons y q ih =>
      rintro h ⟨x, hx, hk⟩
      unfold wide
      split
      · rename_i hy; exact h y (by simp) hy
      · rename_i hy
        refine ih (fun z hz => h z (by simp [hz])) ⟨x, ?_, hk⟩
        rcases List.mem_cons.1 hx with rfl | hx
        · exact absurd hk hy
        · exact hx
  refine (key p (fun x hx hk => ?_) ⟨p[i], List.getElem_mem hi, hk⟩).symm
  obtain ⟨j, hj, rfl⟩ := List.mem_iff_getElem.1 hx
  have := (h j hj).2
  rw [nd_get hj] at this
  exact this hk
theorem PlanOk.fits {p : List Nd} (h : PlanOk p) {i : Nat} (hi : i < p.length) : NdFits (nd p i) i ∧ ((nd p i).kind = 0 → (nd p i).row.length = wide p) := by
  rw [nd_get hi]; exact h.2 i hi

/-! ### What a kind does -/
def sumsGo : Int → List Int → List Int
  | _, [] => []
  | a, x :: xs => (a + x) % 1009 :: sumsGo ((a + x) % 1009) xs
def insS (x : Int) : List Int → List Int
  | [] => [x]
  | y :: ys => if x < y then x :: y :: ys else y :: insS x ys
/-- The values in order: each is put where it belongs. -/
def sortS (xs : List Int) : List Int := xs.foldl (fun a x => insS x a) []
def addR (a b : List Int) : List Int := List.zipWith (fun x y => (x + y) % 1009) a b
def mulR (a b : List Int) : List Int := List.zipWith (fun x y => (x * y) % 1009) a b
def kOp (k : Int) (rs : List (List Int)) : List Int :=
  if k = 1 then addR (rs.getD 0 []) (rs.getD 1 []) else
  if k = 2 then mulR (rs.getD 0 []) (rs.getD 1 []) else
  if k = 3 then sumsGo 0 (rs.getD 0 []) else
  if k = 4 then sortS (rs.getD 0 []) else (rs.getD 0 []).reverse
def opV (x : Nd) (v : Nat → List Int) : List Int := if x.kind = 0 then x.row else kOp x.kind (x.frm.map fun f => v f.toNat)

theorem opV_fixed {x : Nd} {v : Nat → List Int} (h : x.kind = 0) : opV x v = x.row := by unfold opV; rw [if_pos h]
theorem opV_op {x : Nd} {v : Nat → List Int} (h : x.kind ≠ 0) : opV x v = kOp x.kind (x.frm.map fun f => v f.toNat) := by unfold opV; rw [if_neg h]

theorem insS_perm (x : Int) (l : List Int) : (insS x l).Perm (x :: l) := by
  induction l with
  | nil => exact .refl _
  | cons y ys ih =>
    unfold insS
    split
    · exact .refl _
    · exact (List.Perm.cons y ih).trans (.swap _ _ _)
theorem insS_sorted {x : Int} {l : List Int} (h : l.Pairwise (· ≤ ·)) : (insS x l).Pairwise (· ≤ ·) := by
  induction l with
  | nil => simp [insS]
  | cons y ys ih =>
    have h' := List.pairwise_cons.1 h
    unfold insS
    split
    · rename_i hxy
      refine List.pairwise_cons.2 ⟨fun z hz => ?_, h⟩
      rcases List.mem_cons.1 hz with rfl | hz
      · omega
      · have := h'.1 z hz; omega
    · rename_i hxy
      refine List.pairwise_cons.2 ⟨fun z hz => ?_, ih h'.2⟩
      rcases List.mem_cons.1 ((insS_perm x ys).mem_iff.1 hz) with rfl | hz
      · omega
      · exact h'.1 z hz
theorem sortS_snoc (xs : List Int) (x : Int) : sortS (xs ++ [x]) = insS x (sortS xs) := by simp [sortS]
theorem sortS_spec (xs : List Int) : (sortS xs).Perm xs ∧ (sortS xs).Pairwise (· ≤ ·) := by
  have h : ∀ ys : List Int, (sortS ys.reverse).Perm ys.reverse ∧ (sortS ys.reverse).Pairwise (· ≤ ·) := by
    intro ys
    induction ys with
    | nil => simp [sortS]
    | cons y ys ih =>
      rw [List.reverse_cons, sortS_snoc]
      refine ⟨(insS_perm _ _).trans ((List.Perm.cons y ih.1).trans ?_), insS_sorted ih.2⟩
      exact (List.perm_append_comm (l₁ := [y]) (l₂ := ys.reverse))
  have := h xs.reverse
  rwa [List.reverse_reverse] at this
/-- Two lists in order with the same elements are equal. -/
theorem sorted_uniq {l m : List Int} (hp : l.Perm m) (hl : l.Pairwise (· ≤ ·)) (hm : m.Pairwise (· ≤ ·)) : l = m :=
  hp.eq_of_pairwise (fun _ _ _ _ h1 h2 => by omega) hl hm
theorem sortS_uniq {xs l : List Int} (hp : l.Perm xs) (hl : l.Pairwise (· ≤ ·)) : l = sortS xs :=
  sorted_uniq (hp.trans (sortS_spec xs).1.symm) hl (sortS_spec xs).2
theorem sumsGo_len (a : Int) (xs : List Int) : (sumsGo a xs).length = xs.length := by
  induction xs generalizing a with
  | nil => rfl
  | cons x xs ih => simp [sumsGo, ih]
theorem sumsGo_in (a : Int) (xs : List Int) : ∀ x ∈ sumsGo a xs, 0 ≤ x ∧ x < 1009 := by
  induction xs generalizing a with
  | nil => intro x hx; cases hx
  | cons y xs ih =>
    intro x hx
    rcases List.mem_cons.1 hx with rfl | hx
    · omega
    · exact ih _ x hx
theorem zip_in (g : Int → Int → Int) (a b : List Int) : ∀ x ∈ List.zipWith (fun x y => g x y % 1009) a b, 0 ≤ x ∧ x < 1009 := by
  intro x hx
  obtain ⟨i, hi, rfl⟩ := List.mem_iff_getElem.1 hx
  rw [List.getElem_zipWith]; omega
theorem addR_comm (a b : List Int) : addR a b = addR b a := by
  unfold addR
  rw [List.zipWith_comm]
  congr; funext x y; rw [Int.add_comm]
theorem mulR_comm (a b : List Int) : mulR a b = mulR b a := by
  unfold mulR
  rw [List.zipWith_comm]
  congr; funext x y; rw [Int.mul_comm]

/-- Rows of one width. -/
def RowW (wd : Nat) (r : List Int) : Prop := RowOk r ∧ r.length = wd
theorem kOp_row {k : Int} (hk : 1 ≤ k ∧ k ≤ 5) {rs : List (List Int)} {wd : Nat} (hr : ∀ r ∈ rs, RowW wd r) (hn : (rs.length : Int) = kneeds k) : RowW wd (kOp k rs) := by
  have hn1 : 1 ≤ rs.length := by
    unfold kneeds at hn
    rw [if_pos (by omega), if_neg (by omega)] at hn
    split at hn <;> omega
  have h0 : RowW wd (rs.getD 0 []) := by
    rw [List.getD_eq_getElem?_getD, List.getElem?_eq_getElem (by omega)]; exact hr _ (List.getElem_mem _)
  have two : k = 1 ∨ k = 2 → RowW wd (rs.getD 1 []) := fun e => by
    have : rs.length = 2 := by
      unfold kneeds at hn
      rw [if_pos (by omega), if_neg (by omega), if_pos e] at hn
      omega
    rw [List.getD_eq_getElem?_getD, List.getElem?_eq_getElem (by omega)]; exact hr _ (List.getElem_mem _)
  have mk : ∀ {l : List Int}, l.length = wd → (∀ x ∈ l, 0 ≤ x ∧ x < 1009) → RowW wd l := fun h1 h2 => ⟨⟨by rw [h1, ← h0.2]; exact h0.1.1, h2⟩, h1⟩
  unfold kOp
  split
  · rename_i e
    exact mk (by unfold addR; rw [List.length_zipWith, h0.2, (two (.inl e)).2, Nat.min_self]) (zip_in _ _ _)
  · split
    · rename_i e
      exact mk (by unfold mulR; rw [List.length_zipWith, h0.2, (two (.inr e)).2, Nat.min_self]) (zip_in _ _ _)
    · split
      · exact mk (by rw [sumsGo_len, h0.2]) (sumsGo_in _ _)
      · split
        · exact mk (by rw [(sortS_spec _).1.length_eq, h0.2]) fun x hx => h0.1.2 x ((sortS_spec _).1.mem_iff.1 hx)
        · exact mk (by simp only [List.length_reverse]; exact h0.2) fun x hx => h0.1.2 x (List.mem_reverse.1 hx)

/-! ### Values -/
def valGo (p : List Nd) : Nat → List (List Int)
  | 0 => []
  | k + 1 => valGo p k ++ [opV (nd p k) fun j => (valGo p k).getD j []]
def vals (p : List Nd) : List (List Int) := valGo p p.length
def val (p : List Nd) (i : Nat) : List Int := (vals p).getD i []
theorem valGo_len (p : List Nd) (k : Nat) : (valGo p k).length = k := by
  induction k with
  | zero => rfl
  | succ k ih => simp [valGo, ih]
theorem vals_len (p : List Nd) : (vals p).length = p.length := valGo_len _ _
theorem valGo_le (p : List Nd) {j k : Nat} (h : j ≤ k) {i : Nat} (hi : i < j) : (valGo p k).getD i [] = (valGo p j).getD i [] := by
  induction k with
  | zero => have : j = 0 := by omega
            subst this; rfl
  | succ k ih =>
    by_cases e : j = k + 1
    · subst e; rfl
    · rw [← ih (by omega), valGo]
      rw [List.getD_eq_getElem?_getD, List.getElem?_append_left (by rw [valGo_len]; omega), List.getD_eq_getElem?_getD]
theorem opV_congr {x : Nd} {u v : Nat → List Int} (h : ∀ f ∈ x.frm, u f.toNat = v f.toNat) : opV x u = opV x v := by
  unfold opV
  rw [List.map_congr_left h]
theorem valGo_last (p : List Nd) (k : Nat) : (valGo p (k + 1)).getD k [] = opV (nd p k) fun j => (valGo p k).getD j [] := by
  rw [valGo, List.getD_eq_getElem?_getD, List.getElem?_append_right (by rw [valGo_len]; omega)]
  simp [valGo_len]
/-- A node's row comes of the rows that it needs. -/
theorem val_eq {p : List Nd} (hp : PlanOk p) {i : Nat} (hi : i < p.length) : val p i = opV (nd p i) (val p) := by
  unfold val vals
  rw [valGo_le p (j := i + 1) (by omega) (by omega), valGo_last]
  refine opV_congr fun f hf => ?_
  have := hp.fr_lt (i := i) (f := f) (by rw [← nd_frm]; exact hf)
  exact (valGo_le p (by omega) (by omega)).symm
theorem valGo_val {p : List Nd} {k i : Nat} (h : k ≤ p.length) (hi : i < k) : (valGo p k).getD i [] = val p i := (valGo_le p h hi).symm
theorem val_uniq {p : List Nd} (hp : PlanOk p) {v : Nat → List Int} (h : ∀ i, i < p.length → v i = opV (nd p i) v) {i : Nat} (hi : i < p.length) : v i = val p i := by
  induction i using Nat.strongRecOn with
  | _ i ih =>
    rw [h i hi, val_eq hp hi]
    refine opV_congr fun f hf => ?_
    have := hp.fr_lt (i := i) (f := f) (by rw [← nd_frm]; exact hf)
    exact ih _ (by omega) (by omega)
theorem kind_needs {p : List Nd} (hp : PlanOk p) {i : Nat} (hi : i < p.length) : 0 ≤ (nd p i).kind ∧ (nd p i).kind ≤ 5 := by rw [nd_get hi]; exact hp.kind hi
theorem val_row {p : List Nd} (hp : PlanOk p) {i : Nat} (hi : i < p.length) : RowW (wide p) (val p i) := by
  induction i using Nat.strongRecOn with
  | _ i ih =>
    rw [val_eq hp hi]
    have hf := hp.fits hi
    have hk := kind_needs hp hi
    unfold opV
    split
    · rename_i e
      have := hf.1.2.2
      rw [if_pos e] at this
      exact ⟨this, hf.2 e⟩
    · rename_i e
      refine kOp_row (by omega) (fun r hr => ?_) (by simpa using hf.1.1)
      obtain ⟨f, hf', rfl⟩ := List.mem_map.1 hr
      have := hp.fr_lt (i := i) (f := f) (by rw [← nd_frm]; exact hf')
      exact ih _ (by omega) (by omega)

/-! ### Folding -/
open Classical in
noncomputable def foldP (p : List Nd) (c : Nat → Prop) : List Nd := (List.range p.length).map fun i => if c i then ⟨0, [], val p i⟩ else nd p i
theorem foldP_len (p : List Nd) (c : Nat → Prop) : (foldP p c).length = p.length := by simp [foldP]
theorem foldP_yes {p : List Nd} {c : Nat → Prop} {i : Nat} (hi : i < p.length) (h : c i) : nd (foldP p c) i = ⟨0, [], val p i⟩ := by
  rw [nd_get (by rw [foldP_len]; exact hi)]; simp [foldP, h]
theorem foldP_no {p : List Nd} {c : Nat → Prop} {i : Nat} (hi : i < p.length) (h : ¬ c i) : nd (foldP p c) i = nd p i := by
  rw [nd_get (by rw [foldP_len]; exact hi)]; simp [foldP, h]
theorem foldP_congr {p : List Nd} {c d : Nat → Prop} (h : ∀ i, i < p.length → (c i ↔ d i)) : foldP p c = foldP p d := by
  refine ext_nd (by rw [foldP_len, foldP_len]) fun i hi => ?_
  rw [foldP_len] at hi
  by_cases hc : c i
  · rw [foldP_yes hi hc, foldP_yes hi ((h i hi).1 hc)]
  · rw [foldP_no hi hc, foldP_no hi fun hd => hc ((h i hi).2 hd)]
theorem foldP_none (p : List Nd) {c : Nat → Prop} (h : ∀ i, ¬ c i) : foldP p c = p :=
  ext_nd (foldP_len _ _) fun i hi => foldP_no (by rw [foldP_len] at hi; exact hi) (h i)
theorem foldP_ok {p : List Nd} (hp : PlanOk p) (c : Nat → Prop) : PlanOk (foldP p c) := by
  refine planOk_of (wd := wide p) (by rw [foldP_len]; exact hp.len) fun i hi => ?_
  rw [foldP_len] at hi
  by_cases hc : c i
  · rw [foldP_yes hi hc]
    have := val_row hp hi
    exact ⟨⟨by simp [kneeds], by simp, by simpa using this.1⟩, fun _ => this.2⟩
  · rw [foldP_no hi hc]; exact hp.fits hi
theorem foldP_val {p : List Nd} (hp : PlanOk p) (c : Nat → Prop) {i : Nat} (hi : i < p.length) : val (foldP p c) i = val p i := by
  refine (val_uniq (foldP_ok hp c) (v := val p) (fun j hj => ?_) (by rw [foldP_len]; exact hi)).symm
  rw [foldP_len] at hj
  by_cases hc : c j
  · rw [foldP_yes hj hc]; simp [opV]
  · rw [foldP_no hj hc]; exact val_eq hp hj
theorem vals_ext {p q : List Nd} (hl : p.length = q.length) (h : ∀ i, i < p.length → val p i = val q i) : vals p = vals q := by
  refine List.ext_getElem (by rw [vals_len, vals_len, hl]) fun i h1 h2 => ?_
  have := h i (by rw [vals_len] at h1; exact h1)
  unfold val at this
  rw [List.getD_eq_getElem?_getD, List.getD_eq_getElem?_getD, List.getElem?_eq_getElem h1, List.getElem?_eq_getElem h2] at this
  simpa using this
theorem foldP_vals {p : List Nd} (hp : PlanOk p) (c : Nat → Prop) : vals (foldP p c) = vals p :=
  vals_ext (foldP_len _ _) fun i hi => foldP_val hp c (by rw [foldP_len] at hi; exact hi)
theorem foldP_fold {p : List Nd} (hp : PlanOk p) (c d : Nat → Prop) : foldP (foldP p c) d = foldP p fun i => c i ∨ d i := by
  refine ext_nd (by simp [foldP_len]) fun i hi => ?_
  rw [foldP_len, foldP_len] at hi
  have hi' : i < (foldP p c).length := by rw [foldP_len]; exact hi
  by_cases hd : d i
  · rw [foldP_yes hi' hd, foldP_yes hi (.inr hd), foldP_val hp c hi]
  · rw [foldP_no hi' hd]
    by_cases hc : c i
    · rw [foldP_yes hi hc, foldP_yes hi (.inl hc)]
    · rw [foldP_no hi hc, foldP_no hi fun h => h.elim hc hd]

/-! ### A part of a plan: the nodes that c holds of, with new numbers -/
noncomputable def rank (c : Nat → Prop) (j : Nat) : Nat := (sel j c).length
theorem rank_yes {c : Nat → Prop} {j : Nat} (h : c j) : rank c (j + 1) = rank c j + 1 := by simp [rank, sel_yes h]
theorem rank_no {c : Nat → Prop} {j : Nat} (h : ¬ c j) : rank c (j + 1) = rank c j := by simp [rank, sel_no h]
theorem rank_mono {c : Nat → Prop} {i j : Nat} (h : i ≤ j) : rank c i ≤ rank c j := by
  induction j with
  | zero => have : i = 0 := by omega
            subst this; exact Nat.le_refl _
  | succ j ih =>
    by_cases e : i = j + 1
    · subst e; exact Nat.le_refl _
    · have := ih (by omega)
      by_cases hc : c j
      · rw [rank_yes hc]; omega
      · rw [rank_no hc]; omega
theorem rank_lt {c : Nat → Prop} {i j : Nat} (hc : c i) (h : i < j) : rank c i < rank c j := by
  have := rank_mono (c := c) (show i + 1 ≤ j from h)
  rw [rank_yes hc] at this; omega
theorem rank_le {c : Nat → Prop} (i : Nat) : rank c i ≤ i := sel_len
theorem rank_inj {c : Nat → Prop} {i j : Nat} (hi : c i) (hj : c j) (h : rank c i = rank c j) : i = j := by
  rcases Nat.lt_trichotomy i j with hl | rfl | hl
  · have := rank_lt hi hl; omega
  · rfl
  · have := rank_lt hj hl; omega
theorem sel_rank {n : Nat} {c : Nat → Prop} {i : Nat} (hi : i < n) (hc : c i) : (sel n c)[rank c i]? = some (i : Int) := by
  induction n with
  | zero => omega
  | succ n ih =>
    by_cases e : i = n
    · subst e
      rw [sel_yes hc, List.getElem?_append_right (by simp [rank])]
      simp [rank]
    · have := ih (by omega)
      by_cases hn : c n
      · rw [sel_yes hn, List.getElem?_append_left (by exact rank_lt hc (by omega : i < n))]; exact this
      · rw [sel_no hn]; exact this
theorem rank_surj {n : Nat} {c : Nat → Prop} {a : Nat} (ha : a < rank c n) : ∃ i, i < n ∧ c i ∧ rank c i = a := by
  induction n with
  | zero => simp [rank, sel] at ha
  | succ n ih =>
    by_cases hn : c n
    · rw [rank_yes hn] at ha
      by_cases e : a = rank c n
      · exact ⟨n, by omega, hn, e.symm⟩
      · obtain ⟨i, h1, h2, h3⟩ := ih (by omega)
        exact ⟨i, by omega, h2, h3⟩
    · rw [rank_no hn] at ha
      obtain ⟨i, h1, h2, h3⟩ := ih ha
      exact ⟨i, by omega, h2, h3⟩

/-- Node i with the numbers that those which it needs have then. -/
noncomputable def ren (p : List Nd) (c : Nat → Prop) (g : Nat → Nat) (i : Nat) : Nd := ⟨(nd p i).kind, (nd p i).frm.map fun f => (rank c (g f.toNat) : Int), (nd p i).row⟩
open Classical in
noncomputable def subGo (p : List Nd) (c : Nat → Prop) (g : Nat → Nat) : Nat → List Nd
  | 0 => []
  | k + 1 => if c k then subGo p c g k ++ [ren p c g k] else subGo p c g k
noncomputable def subP (p : List Nd) (c : Nat → Prop) (g : Nat → Nat) : List Nd := subGo p c g p.length
theorem subGo_yes {p : List Nd} {c : Nat → Prop} {g : Nat → Nat} {k : Nat} (h : c k) : subGo p c g (k + 1) = subGo p c g k ++ [ren p c g k] := by simp [subGo, h]
theorem subGo_no {p : List Nd} {c : Nat → Prop} {g : Nat → Nat} {k : Nat} (h : ¬ c k) : subGo p c g (k + 1) = subGo p c g k := by simp [subGo, h]
theorem subGo_len (p : List Nd) (c : Nat → Prop) (g : Nat → Nat) (k : Nat) : (subGo p c g k).length = rank c k := by
  induction k with
  | zero => rfl
  | succ k ih =>
    by_cases hc : c k
    · rw [subGo_yes hc, rank_yes hc]; simp [ih]
    · rw [subGo_no hc, rank_no hc, ih]
theorem subP_len (p : List Nd) (c : Nat → Prop) (g : Nat → Nat) : (subP p c g).length = rank c p.length := subGo_len _ _ _ _
theorem subGo_nd {p : List Nd} {c : Nat → Prop} {g : Nat → Nat} {k i : Nat} (hi : i < k) (hc : c i) : nd (subGo p c g k) (rank c i) = ren p c g i := by
  induction k with
  | zero => omega
  | succ k ih =>
    by_cases e : i = k
    · subst e
      unfold nd
      rw [subGo_yes hc, List.getElem?_append_right (by rw [subGo_len]; exact Nat.le_refl _)]
      simp [subGo_len]
    · have := ih (by omega)
      by_cases hn : c k
      · unfold nd at this ⊢
        rw [subGo_yes hn, List.getElem?_append_left (by rw [subGo_len]; exact rank_lt hc (by omega : i < k))]; exact this
      · rw [subGo_no hn]; exact this
theorem subP_nd {p : List Nd} {c : Nat → Prop} {g : Nat → Nat} {i : Nat} (hi : i < p.length) (hc : c i) : nd (subP p c g) (rank c i) = ren p c g i := subGo_nd hi hc

/-- What a part has to keep. -/
structure SubOk (p : List Nd) (c : Nat → Prop) (g : Nat → Nat) : Prop where
  le : ∀ i, i < p.length → g i ≤ i
  keeps : ∀ i f, i < p.length → c i → f ∈ fr p i → c (g f.toNat)
theorem subP_ok {p : List Nd} (hp : PlanOk p) {c : Nat → Prop} {g : Nat → Nat} (h : SubOk p c g) : PlanOk (subP p c g) := by
  refine planOk_of (wd := wide p) (by rw [subP_len]; have := @rank_le c p.length; have := hp.len; omega) fun a ha => ?_
  rw [subP_len] at ha
  obtain ⟨i, hi, hc, rfl⟩ := rank_surj ha
  rw [subP_nd hi hc]
  have hf := hp.fits hi
  refine ⟨⟨by simpa [ren] using hf.1.1, fun x hx => ?_, hf.1.2.2⟩, hf.2⟩
  simp only [ren, List.mem_map] at hx
  obtain ⟨f, hf', rfl⟩ := hx
  rw [nd_frm] at hf'
  have := hp.fr_lt hf'
  have h1 := h.keeps i f hi hc hf'
  have h2 := h.le f.toNat (by omega)
  have := rank_lt h1 (show g f.toNat < i by omega)
  omega
theorem subP_val {p : List Nd} (hp : PlanOk p) {c : Nat → Prop} {g : Nat → Nat} (h : SubOk p c g) (hg : ∀ i, i < p.length → val p (g i) = val p i) {i : Nat} (hi : i < p.length) (hc : c i) : val (subP p c g) (rank c i) = val p i := by
  induction i using Nat.strongRecOn with
  | _ i ih =>
    have hlt : rank c i < (subP p c g).length := by rw [subP_len]; exact rank_lt hc hi
    rw [val_eq (subP_ok hp h) hlt, val_eq hp hi, subP_nd hi hc]
    by_cases h0 : (nd p i).kind = 0
    · rw [opV_fixed (x := ren p c g i) h0, opV_fixed h0]; rfl
    · rw [opV_op (x := ren p c g i) h0, opV_op h0]
      show kOp (nd p i).kind _ = _
      congr 1
      simp only [ren]
      rw [List.map_map]
      refine List.map_congr_left fun f hf => ?_
      rw [nd_frm] at hf
      have := hp.fr_lt hf
      have h2 := h.le f.toNat (by omega)
      simp only [Function.comp, Int.toNat_natCast]
      rw [ih (g f.toNat) (by omega) (by omega) (h.keeps i f hi hc hf), hg _ (by omega)]
end Go.V

/- Nodes that do the same: in plain Lean. -/
namespace Go.V

/-- The first ones of what a node needs, the lesser one first where they may be exchanged. -/
def norm2 (k : Int) : List Int → List Int
  | [a, b] => if kneeds k = 2 ∧ b < a then [b, a] else [a, b]
  | l => l
def normF (x : Nd) (fs : List Int) : List Int := norm2 x.kind (x.frm.map fun f => fs.getD f.toNat 0)
/-- Two nodes do the same. -/
def sameK (p : List Nd) (fs : List Int) (i k : Nat) : Prop := (nd p i).kind = (nd p k).kind ∧ (nd p i).row = (nd p k).row ∧ normF (nd p i) fs = normF (nd p k) fs
theorem sameK.symm {p : List Nd} {fs : List Int} {i k : Nat} (h : sameK p fs i k) : sameK p fs k i := ⟨h.1.symm, h.2.1.symm, h.2.2.symm⟩
theorem sameK.trans {p : List Nd} {fs : List Int} {i j k : Nat} (h : sameK p fs i j) (h' : sameK p fs j k) : sameK p fs i k := ⟨h.1.trans h'.1, h.2.1.trans h'.2.1, h.2.2.trans h'.2.2⟩
/-- r is the first one that does the same as i. -/
def FirstAt (p : List Nd) (fs : List Int) (i r : Nat) : Prop := r ≤ i ∧ sameK p fs i r ∧ ∀ k, k < r → ¬ sameK p fs i k
structure IsFirsts (p : List Nd) (n : Nat) (fs : List Int) : Prop where
  len : fs.length = n
  at_ : ∀ i, i < n → ∃ r : Nat, fs.getD i 0 = r ∧ FirstAt p fs i r

theorem FirstAt.uniq {p : List Nd} {fs : List Int} {i r s : Nat} (h : FirstAt p fs i r) (k : FirstAt p fs i s) : r = s := by
  rcases Nat.lt_trichotomy r s with hl | rfl | hl
  · exact absurd h.2.1 (k.2.2 r hl)
  · rfl
  · exact absurd k.2.1 (h.2.2 s hl)
theorem normF_congr {x : Nd} {fs gs : List Int} (h : ∀ f ∈ x.frm, fs.getD f.toNat 0 = gs.getD f.toNat 0) : normF x fs = normF x gs := by
  unfold normF; rw [List.map_congr_left h]
theorem getD_left {α : Type} {l m : List α} {d : α} {i : Nat} (h : i < l.length) : (l ++ m).getD i d = l.getD i d := by
  rw [List.getD_eq_getElem?_getD, List.getD_eq_getElem?_getD, List.getElem?_append_left h]
theorem getD_last {α : Type} {l : List α} {x d : α} : (l ++ [x]).getD l.length d = x := by
  rw [List.getD_eq_getElem?_getD, List.getElem?_append_right (Nat.le_refl _)]; simp
/-- For node i only what stands ahead of i counts. -/
theorem sameK_congr {p : List Nd} (hp : PlanOk p) {fs gs : List Int} {i k : Nat} (hk : k ≤ i) (h : ∀ j, j < i → fs.getD j 0 = gs.getD j 0) : sameK p fs i k ↔ sameK p gs i k := by
  have key : ∀ m, m ≤ i → normF (nd p m) fs = normF (nd p m) gs := fun m hm => normF_congr fun f hf => by
    rw [nd_frm] at hf
    have := hp.fr_lt hf
    exact h _ (by omega)
  unfold sameK
  rw [key i (Nat.le_refl _), key k hk]
theorem FirstAt.congr {p : List Nd} (hp : PlanOk p) {fs gs : List Int} {i r : Nat} (h : ∀ j, j < i → fs.getD j 0 = gs.getD j 0) (hf : FirstAt p fs i r) : FirstAt p gs i r :=
  ⟨hf.1, (sameK_congr hp hf.1 h).1 hf.2.1, fun k hk hs => hf.2.2 k hk ((sameK_congr hp (by have := hf.1; omega) h).2 hs)⟩
theorem IsFirsts.nil (p : List Nd) : IsFirsts p 0 [] := ⟨rfl, fun i hi => by omega⟩
theorem IsFirsts.snoc {p : List Nd} (hp : PlanOk p) {n r : Nat} {fs : List Int} (h : IsFirsts p n fs) (hr : FirstAt p fs n r) : IsFirsts p (n + 1) (fs ++ [(r : Int)]) := by
  refine ⟨by simp [h.len], fun i hi => ?_⟩
  have hc : ∀ j, j < n → fs.getD j 0 = (fs ++ [(r : Int)]).getD j 0 := fun j hj => (getD_left (by rw [h.len]; exact hj)).symm
  by_cases e : i = n
  · subst e
    refine ⟨r, ?_, hr.congr hp hc⟩
    have := @getD_last _ fs (r : Int) 0
    rwa [h.len] at this
  · obtain ⟨s, hs, hf⟩ := h.at_ i (by omega)
    refine ⟨s, by rw [← hc i (by omega)]; exact hs, hf.congr hp fun j hj => hc j (by omega)⟩
theorem IsFirsts.uniq {p : List Nd} (hp : PlanOk p) {n : Nat} {fs gs : List Int} (h : IsFirsts p n fs) (k : IsFirsts p n gs) : fs = gs := by
  have key : ∀ i, i < n → fs.getD i 0 = gs.getD i 0 := by
    intro i
    induction i using Nat.strongRecOn with
    | _ i ih =>
      intro hi
      obtain ⟨r, hr, hf⟩ := h.at_ i hi
      obtain ⟨s, hs, hg⟩ := k.at_ i hi
      have := (hf.congr hp fun j hj => ih j hj (by omega)).uniq hg
      rw [hr, hs, this]
  refine List.ext_getElem (by rw [h.len, k.len]) fun i h1 h2 => ?_
  have := key i (by rw [← h.len]; exact h1)
  rw [List.getD_eq_getElem?_getD, List.getD_eq_getElem?_getD, List.getElem?_eq_getElem h1, List.getElem?_eq_getElem h2] at this
  simpa using this

section
variable {p : List Nd} {fs : List Int} (h : IsFirsts p p.length fs)
include h
/-- The first one of i, as a number. -/
theorem IsFirsts.first {i : Nat} (hi : i < p.length) : fs.getD i 0 = ((fs.getD i 0).toNat : Int) ∧ FirstAt p fs i (fs.getD i 0).toNat := by
  obtain ⟨r, hr, hf⟩ := h.at_ i hi
  rw [hr]
  exact ⟨by simp, by simpa using hf⟩
theorem IsFirsts.same_iff {i k : Nat} (hi : i < p.length) (hk : k < p.length) : fs.getD i 0 = fs.getD k 0 ↔ sameK p fs i k := by
  obtain ⟨r, hr, hf⟩ := h.at_ i hi
  obtain ⟨s, hs, hg⟩ := h.at_ k hk
  constructor
  · intro e
    have : r = s := by omega
    subst this
    exact hf.2.1.trans hg.2.1.symm
  · intro e
    have hrs : r = s := by
      rcases Nat.lt_trichotomy r s with hl | rfl | hl
      · exact absurd (e.symm.trans hf.2.1) (hg.2.2 r hl)
      · rfl
      · exact absurd (e.trans hg.2.1) (hf.2.2 s hl)
    rw [hr, hs, hrs]
theorem IsFirsts.idem {i : Nat} (hi : i < p.length) : fs.getD (fs.getD i 0).toNat 0 = fs.getD i 0 := by
  obtain ⟨r, hr, hf⟩ := h.at_ i hi
  have h1 := hf.1
  rw [hr, Int.toNat_natCast, ← hr]
  exact (h.same_iff (by omega) hi).2 hf.2.1.symm
theorem IsFirsts.le {i : Nat} (hi : i < p.length) : 0 ≤ fs.getD i 0 ∧ fs.getD i 0 ≤ i := by
  obtain ⟨r, hr, hf⟩ := h.at_ i hi
  have := hf.1; omega
end

theorem fr_fixed {p : List Nd} (hp : PlanOk p) {i : Nat} (hi : i < p.length) (h0 : (nd p i).kind = 0) : (nd p i).frm = [] := by
  have := (hp.fits hi).1.1
  rw [h0] at this
  simp [kneeds] at this
  exact this
theorem row_unfixed {p : List Nd} (hp : PlanOk p) {i : Nat} (hi : i < p.length) (h0 : (nd p i).kind ≠ 0) : (nd p i).row = [] := by
  have := (hp.fits hi).1.2.2
  rwa [if_neg h0] at this
theorem same_fixed {p : List Nd} (hp : PlanOk p) {fs : List Int} {i k : Nat} (hi : i < p.length) (hk : k < p.length) (hi0 : (nd p i).kind = 0) (hk0 : (nd p k).kind = 0) : sameK p fs i k ↔ (nd p i).row = (nd p k).row := by
  unfold sameK normF
  rw [fr_fixed hp hi hi0, fr_fixed hp hk hk0, hi0, hk0]
  simp [norm2]
theorem one_frm {x : Nd} (h : x.frm.length = 1) : ∃ f, x.frm = [f] := List.length_eq_one_iff.1 h
theorem two_frm {x : Nd} (h : x.frm.length = 2) : ∃ f g, x.frm = [f, g] := by
  match hx : x.frm with
  | [f, g] => exact ⟨f, g, rfl⟩
  | [] => rw [hx] at h; simp at h
  | [_] => rw [hx] at h; simp at h
  | _ :: _ :: _ :: l => rw [hx] at h; simp at h
theorem normF_one {x : Nd} {fs : List Int} {f : Int} (h : x.frm = [f]) : normF x fs = [fs.getD f.toNat 0] := by simp [normF, norm2, h]
theorem same_one {p : List Nd} (hp : PlanOk p) {fs : List Int} {i k : Nat} (hi : i < p.length) (hk : k < p.length) {f g : Int} (hf : (nd p i).frm = [f]) (hg : (nd p k).frm = [g]) (hkk : (nd p i).kind = (nd p k).kind) :
    sameK p fs i k ↔ fs.getD f.toNat 0 = fs.getD g.toNat 0 := by
  have h0 : (nd p i).kind ≠ 0 := fun e => by have := fr_fixed hp hi e; rw [hf] at this; cases this
  have h1 : (nd p k).kind ≠ 0 := by rw [← hkk]; exact h0
  unfold sameK
  rw [normF_one hf, normF_one hg, row_unfixed hp hi h0, row_unfixed hp hk h1]
  simp [hkk]

/-- Nodes that do the same have the same rows. -/
theorem kOp_swap {k : Int} (h : kneeds k = 2) (a b : List Int) : kOp k [a, b] = kOp k [b, a] := by
  have : k = 1 ∨ k = 2 := by
    unfold kneeds at h
    split at h
    · split at h
      · omega
      · split at h
        · assumption
        · omega
    · omega
  rcases this with rfl | rfl
  · simp [kOp, addR_comm a b]
  · simp [kOp, mulR_comm a b]
theorem same_val {p : List Nd} (hp : PlanOk p) {fs : List Int} (h : IsFirsts p p.length fs) {i : Nat} (hi : i < p.length) : val p (fs.getD i 0).toNat = val p i := by
  induction i using Nat.strongRecOn with
  | _ i ih =>
    obtain ⟨r, hr, hf⟩ := h.at_ i hi
    rw [hr, Int.toNat_natCast]
    have hri := hf.1
    rw [val_eq hp hi, val_eq hp (show r < p.length by omega)]
    obtain ⟨hk, hrow, hn⟩ := hf.2.1
    by_cases h0 : (nd p i).kind = 0
    · unfold opV; rw [← hk, if_pos h0, if_pos h0, hrow]
    · have hv : ∀ j, j ≤ i → ∀ f ∈ (nd p j).frm, val p f.toNat = val p (fs.getD f.toNat 0).toNat := fun j hj f hf => by
        rw [nd_frm] at hf
        have := hp.fr_lt hf
        exact (ih _ (by omega) (by omega)).symm
      have hfi := (hp.fits hi).1.1
      have hfr := (hp.fits (show r < p.length by omega)).1.1
      unfold opV
      rw [← hk, if_neg h0, if_neg h0]
      rw [← hk, ← hfi] at hfr
      have hle := hp.fr_len i
      rw [← nd_frm] at hle
      match hl : (nd p i).frm.length with
      | 0 =>
        have e1 := List.eq_nil_of_length_eq_zero hl
        have e2 : (nd p r).frm = [] := List.eq_nil_of_length_eq_zero (by omega)
        rw [e1, e2]
      | 1 =>
        obtain ⟨f, e1⟩ := one_frm hl
        obtain ⟨g, e2⟩ := one_frm (x := nd p r) (by omega)
        rw [normF_one e1, normF_one e2] at hn
        have v1 := hv i (Nat.le_refl _) f (by simp [e1])
        have v2 := hv r hri g (by simp [e2])
        rw [e1, e2]
        simp only [List.map_cons, List.map_nil, v1, v2]
        rw [show fs.getD f.toNat 0 = fs.getD g.toNat 0 from by simpa using hn]
      | 2 =>
        obtain ⟨f, f', e1⟩ := two_frm hl
        obtain ⟨g, g', e2⟩ := two_frm (x := nd p r) (by omega)
        have hk2 : kneeds (nd p i).kind = 2 := by omega
        have hk2' : kneeds (nd p r).kind = 2 := by rw [← hk]; exact hk2
        have v1 := hv i (Nat.le_refl _) f (by simp [e1])
        have v1' := hv i (Nat.le_refl _) f' (by simp [e1])
        have v2 := hv r hri g (by simp [e2])
        have v2' := hv r hri g' (by simp [e2])
        unfold normF at hn
        rw [e1, e2] at hn
        simp only [List.map_cons, List.map_nil, norm2, hk2, hk2', true_and] at hn
        rw [e1, e2]
        simp only [List.map_cons, List.map_nil, v1, v1', v2, v2']
        generalize fs.getD f.toNat 0 = a at *
        generalize fs.getD f'.toNat 0 = b at *
        generalize fs.getD g.toNat 0 = c at *
        generalize fs.getD g'.toNat 0 = d at *
        split at hn <;> split at hn <;> simp only [List.cons.injEq, and_true] at hn
        · rw [hn.1, hn.2]
        · rw [hn.1, hn.2]; exact kOp_swap hk2 _ _
        · rw [hn.1, hn.2]; exact kOp_swap hk2 _ _
        · rw [hn.1, hn.2]
      | n + 3 => omega

/-! ### Sharing -/
/-- A node that is the first one that does what it does. -/
def rep (fs : List Int) (i : Nat) : Prop := fs.getD i 0 = i
def fst (fs : List Int) (i : Nat) : Nat := (fs.getD i 0).toNat
theorem share_sub {p : List Nd} (hp : PlanOk p) {fs : List Int} (h : IsFirsts p p.length fs) : SubOk p (rep fs) (fst fs) :=
  ⟨fun i hi => by have := h.le hi; unfold fst; omega, fun i f _ _ hf => by
    have := hp.fr_lt hf
    unfold rep fst
    rw [h.idem (by omega), ← (h.first (by omega : f.toNat < p.length)).1]⟩
noncomputable def shareP (p : List Nd) (fs : List Int) : List Nd := subP p (rep fs) (fst fs)
/-- The number that each node has then. -/
noncomputable def shareTo (fs : List Int) (n : Nat) : List Int := (List.range n).map fun i => (rank (rep fs) (fst fs i) : Int)
theorem shareTo_len (fs : List Int) (n : Nat) : (shareTo fs n).length = n := by simp [shareTo]
theorem shareTo_get {fs : List Int} {n i : Nat} (h : i < n) : (shareTo fs n).getD i 0 = (rank (rep fs) (fst fs i) : Int) := by simp [shareTo, h]
theorem fst_rep {p : List Nd} {fs : List Int} (h : IsFirsts p p.length fs) {i : Nat} (hi : i < p.length) : rep fs (fst fs i) := by
  unfold rep fst
  rw [h.idem hi, ← (h.first hi).1]
theorem fst_lt {p : List Nd} {fs : List Int} (h : IsFirsts p p.length fs) {i : Nat} (hi : i < p.length) : fst fs i ≤ i := by
  have := h.le hi; unfold fst; omega
theorem fst_of_rep {fs : List Int} {i : Nat} (h : rep fs i) : fst fs i = i := by unfold rep at h; unfold fst; omega
theorem shareTo_lt {p : List Nd} {fs : List Int} (h : IsFirsts p p.length fs) {i : Nat} (hi : i < p.length) : rank (rep fs) (fst fs i) < (shareP p fs).length := by
  unfold shareP
  rw [subP_len]
  exact rank_lt (fst_rep h hi) (by have := fst_lt h hi; omega)
theorem shareP_ok {p : List Nd} (hp : PlanOk p) {fs : List Int} (h : IsFirsts p p.length fs) : PlanOk (shareP p fs) := subP_ok hp (share_sub hp h)
theorem shareP_val {p : List Nd} (hp : PlanOk p) {fs : List Int} (h : IsFirsts p p.length fs) {i : Nat} (hi : i < p.length) : val (shareP p fs) (rank (rep fs) (fst fs i)) = val p i := by
  have hl := fst_lt h hi
  have := subP_val hp (share_sub hp h) (fun j hj => same_val hp h hj) (show fst fs i < p.length by omega) (fst_rep h hi)
  exact this.trans (same_val hp h hi)
theorem shareTo_iff {p : List Nd} {fs : List Int} (h : IsFirsts p p.length fs) {i k : Nat} (hi : i < p.length) (hk : k < p.length) :
    rank (rep fs) (fst fs i) = rank (rep fs) (fst fs k) ↔ fs.getD i 0 = fs.getD k 0 := by
  constructor
  · intro e
    have := rank_inj (fst_rep h hi) (fst_rep h hk) e
    rw [(h.first hi).1, (h.first hk).1]
    unfold fst at this
    rw [this]
  · intro e
    unfold fst; rw [e]

/-- The numbers that first ones have then are in the old order. -/
theorem rank_le_iff {c : Nat → Prop} {i j : Nat} (hi : c i) (_hj : c j) : rank c i < rank c j ↔ i < j := by
  constructor
  · intro h
    refine Classical.byContradiction fun hn => ?_
    have := rank_mono (c := c) (show j ≤ i by omega)
    omega
  · exact rank_lt hi
/-- 0, 1, .. -/
def idL (n : Nat) : List Int := (List.range n).map fun (i : Nat) => (i : Int)
theorem idL_len (n : Nat) : (idL n).length = n := by simp [idL]
theorem idL_get {n i : Nat} (h : i < n) : (idL n).getD i 0 = i := by simp [idL, h]
/-- Behind sharing, each node is the first one that does what it does. -/
theorem share_firsts {p : List Nd} (hp : PlanOk p) {fs : List Int} (h : IsFirsts p p.length fs) : IsFirsts (shareP p fs) (shareP p fs).length (idL (shareP p fs).length) := by
  refine ⟨idL_len _, fun a ha => ⟨a, idL_get ha, Nat.le_refl _, ⟨rfl, rfl, rfl⟩, fun b hb hs => ?_⟩⟩
  have ha' := ha
  unfold shareP at ha'
  rw [subP_len] at ha'
  obtain ⟨i, hi, hc, rfl⟩ := rank_surj ha'
  obtain ⟨k, hk, hd, rfl⟩ := rank_surj (show b < rank (rep fs) p.length by omega)
  -- the keys of i and k in p are equal
  have hrep : ∀ j, j < p.length → ∀ f ∈ (nd p j).frm, rep fs (fst fs f.toNat) ∧ fst fs f.toNat < p.length ∧ 0 ≤ f ∧ f.toNat < p.length := fun j _ f hf => by
    rw [nd_frm] at hf
    have := hp.fr_lt hf
    have h1 := fst_lt h (show f.toNat < p.length by omega)
    exact ⟨fst_rep h (by omega), by omega, by omega, by omega⟩
  have hne : ¬ sameK p fs i k := by
    intro hs'
    have e := (h.same_iff hi hk).2 hs'
    unfold rep at hc hd
    have : i = k := by omega
    subst this; omega
  have hnorm : ∀ j, j < p.length → normF (ren p (rep fs) (fst fs) j) (idL (shareP p fs).length) = (normF (nd p j) fs).map fun x => (rank (rep fs) x.toNat : Int) := by
    intro j hjl
    have hr := hrep j hjl
    have e1 : (ren p (rep fs) (fst fs) j).frm.map (fun f => (idL (shareP p fs).length).getD f.toNat 0) = (nd p j).frm.map fun f => (rank (rep fs) (fst fs f.toNat) : Int) := by
      simp only [ren, List.map_map]
      refine List.map_congr_left fun f hf => ?_
      simp only [Function.comp, Int.toNat_natCast]
      exact idL_get (shareTo_lt h (hr f hf).2.2.2)
    have e2 : (nd p j).frm.map (fun f => fs.getD f.toNat 0) = (nd p j).frm.map fun f => (fst fs f.toNat : Int) := List.map_congr_left fun f hf => (h.first (hr f hf).2.2.2).1
    unfold normF
    rw [e1, e2]
    show norm2 (nd p j).kind _ = _
    have hle := hp.fr_len j
    rw [← nd_frm] at hle
    match hl : (nd p j).frm with
    | [] => rfl
    | [f] => simp [norm2]
    | [f, g] =>
      have hf := hr f (by simp [hl])
      have hg := hr g (by simp [hl])
      have := rank_le_iff hg.1 hf.1
      simp only [List.map_cons, List.map_nil, norm2]
      by_cases hkn : kneeds (nd p j).kind = 2 ∧ (fst fs g.toNat : Int) < fst fs f.toNat
      · rw [if_pos hkn, if_pos ⟨hkn.1, by have := this.2 (by omega); omega⟩]; simp
      · rw [if_neg hkn, if_neg fun h => hkn ⟨h.1, by have := this.1 (by omega); omega⟩]; simp
    | f :: g :: g' :: l => rw [hl] at hle; simp at hle
  refine hne ?_
  obtain ⟨s1, s2, s3⟩ := hs
  unfold shareP at s1 s2 s3
  rw [subP_nd hi hc, subP_nd hk hd] at s1 s2 s3
  refine ⟨s1, s2, ?_⟩
  have e1 := hnorm i hi
  have e2 := hnorm k hk
  unfold shareP at e1 e2
  rw [e1, e2] at s3
  -- ranks are different for different first ones
  have inj : ∀ x ∈ normF (nd p i) fs, ∀ y ∈ normF (nd p k) fs, rank (rep fs) x.toNat = rank (rep fs) y.toNat → x = y := by
    have mem : ∀ j, j < p.length → ∀ x ∈ normF (nd p j) fs, rep fs x.toNat ∧ 0 ≤ x := by
      intro j hjl x hx
      have hr := hrep j hjl
      have : x ∈ (nd p j).frm.map fun f => fs.getD f.toNat 0 := by
        unfold normF norm2 at hx
        split at hx
        · rename_i a b e
          rw [e]
          split at hx
          · simp only [List.mem_cons, List.not_mem_nil, or_false] at hx ⊢; exact hx.symm
          · exact hx
        · exact hx
      obtain ⟨f, hf, rfl⟩ := List.mem_map.1 this
      have := hr f hf
      have h2 := h.le this.2.2.2
      exact ⟨this.1, h2.1⟩
    intro x hx y hy e
    have hx' := mem i hi x hx
    have hy' := mem k hk y hy
    have := rank_inj hx'.1 hy'.1 e
    omega
  have key : ∀ (l m : List Int), (∀ x ∈ l, ∀ y ∈ m, rank (rep fs) x.toNat = rank (rep fs) y.toNat → x = y) → l.map (fun x => (rank (rep fs) x.toNat : Int)) = m.map (fun x => (rank (rep fs) x.toNat : Int)) → l = m := by
    intro l
    induction l with
    | nil => intro m _ e; cases m with
      | nil => rfl
      | cons => simp at e
    | cons x l ih => intro m hm e; cases m with
      | nil => simp at e
      | cons y m =>
        simp only [List.map_cons, List.cons.injEq] at e
        rw [hm x (by simp) y (by simp) (by have := e.1; omega), ih m (fun a ha b hb => hm a (by simp [ha]) b (by simp [hb])) e.2]
  exact key _ _ inj s3

/-- Where all nodes are first ones, sharing changes nothing. -/
theorem share_all {p : List Nd} (hp : PlanOk p) {fs : List Int} (hall : ∀ i, i < p.length → fs.getD i 0 = i) : shareP p fs = p ∧ ∀ i, i < p.length → rank (rep fs) (fst fs i) = i := by
  have hr : ∀ i, i ≤ p.length → rank (rep fs) i = i := fun i hi => sel_all fun k hk => hall k (by omega)
  have hf : ∀ i, i < p.length → fst fs i = i := fun i hi => fst_of_rep (hall i hi)
  refine ⟨ext_nd (by unfold shareP; rw [subP_len, hr _ (Nat.le_refl _)]) fun i hi => ?_, fun i hi => by rw [hf i hi, hr i (by omega)]⟩
  have hi' : i < p.length := by unfold shareP at hi; rw [subP_len, hr _ (Nat.le_refl _)] at hi; exact hi
  have := subP_nd (g := fst fs) hi' (show rep fs i from hall i hi')
  rw [hr i (by omega)] at this
  unfold shareP
  rw [this]
  unfold ren
  have e : (nd p i).frm.map (fun f => (rank (rep fs) (fst fs f.toNat) : Int)) = (nd p i).frm := by
    conv => rhs; rw [← List.map_id (nd p i).frm]
    refine List.map_congr_left fun f hf' => ?_
    rw [nd_frm] at hf'
    have := hp.fr_lt hf'
    rw [hf _ (by omega), hr _ (by omega)]
    simp; omega
  rw [e]

/-! ### Plans with a list of their nodes -/
def KeepOk (p : List Nd) (l : List Int) : Prop := PlanOk p ∧ ∀ x ∈ l, 0 ≤ x ∧ x < (p.length : Int)
noncomputable instance (p : List Nd) (l : List Int) : Decidable (KeepOk p l) := Classical.propDecidable _
/-- The nodes of a list are folded. -/
noncomputable def foldO (p : List Nd) (l : List Int) : List Nd := if KeepOk p l then foldP p (fun i => (i : Int) ∈ l) else []
theorem foldO_len (p : List Nd) (l : List Int) : (foldO p l).length ≤ p.length := by
  unfold foldO; split
  · rw [foldP_len]; exact Nat.le_refl _
  · simp
theorem nd_in {p : List Nd} {x : Nd} (h : x ∈ p) : ∃ i, i < p.length ∧ nd p i = x := by
  obtain ⟨i, hi, rfl⟩ := List.mem_iff_getElem.1 h
  exact ⟨i, hi, nd_get hi⟩
end Go.V
