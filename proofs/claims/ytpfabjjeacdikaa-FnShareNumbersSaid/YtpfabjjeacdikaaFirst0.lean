/- The first ones that do the same: plainly. -/
import Derived.Test.YtpfabjjeacdikaaShareKey
namespace Go.Proofs.Ytpfabjjeacdikaa
open Go Go.V

theorem first_ex {p : List Nd} {fs : List Int} (n : Nat) : ∃ r, FirstAt p fs n r := by
  have key : ∀ m, m ≤ n + 1 → (∃ r, r < m ∧ FirstAt p fs n r) ∨ ∀ k, k < m → ¬ sameK p fs n k := by
    intro m
    induction m with
    | zero => exact fun _ => .inr fun k hk => by omega
    | succ m ih =>
      intro hm
      rcases ih (by omega) with ⟨r, hr, h⟩ | h
      · exact .inl ⟨r, by omega, h⟩
      · by_cases hs : sameK p fs n m
        · exact .inl ⟨m, by omega, by omega, hs, h⟩
        · refine .inr fun k hk => ?_
          by_cases e : k = m
          · subst e; exact hs
          · exact h k (by omega)
  rcases key (n + 1) (Nat.le_refl _) with ⟨r, _, h⟩ | h
  · exact ⟨r, h⟩
  · exact absurd ⟨rfl, rfl, rfl⟩ (h n (by omega))
theorem firsts_ex {p : List Nd} (hp : PlanOk p) (n : Nat) : ∃ fs, IsFirsts p n fs := by
  induction n with
  | zero => exact ⟨[], IsFirsts.nil p⟩
  | succ n ih =>
    obtain ⟨fs, h⟩ := ih
    obtain ⟨r, hr⟩ := first_ex (p := p) (fs := fs) n
    exact ⟨_, h.snoc hp hr⟩
/-- For each node of a plan the first one that does the same. -/
noncomputable def firstO (p : List Nd) : List Int := if h : PlanOk p then Classical.choose (firsts_ex h p.length) else []
theorem firstO_is {p : List Nd} (h : PlanOk p) : IsFirsts p p.length (firstO p) := by
  unfold firstO; rw [dif_pos h]; exact Classical.choose_spec (firsts_ex h p.length)
theorem firstO_no {p : List Nd} (h : ¬ PlanOk p) : firstO p = [] := by unfold firstO; rw [dif_neg h]
theorem firstO_eq {p : List Nd} (h : PlanOk p) {fs : List Int} (hf : IsFirsts p p.length fs) : firstO p = fs := (firstO_is h).uniq h hf
theorem firstO_len (p : List Nd) : (firstO p).length ≤ p.length := by
  by_cases h : PlanOk p
  · rw [(firstO_is h).len]; exact Nat.le_refl _
  · rw [firstO_no h]; simp

theorem two_det {l m : List Int} (hl : l.length ≤ 2) (hm : m.length ≤ 2) (h0 : ∀ x ∈ l, 0 ≤ x) (h1 : ∀ x ∈ m, 0 ≤ x) (e0 : l.getD 0 (-1) = m.getD 0 (-1)) (e1 : l.getD 1 (-1) = m.getD 1 (-1)) : l = m := by
  match l, m with
  | [], [] => rfl
  | [], b :: _ => simp at e0; have := h1 b (by simp); omega
  | a :: _, [] => simp at e0; have := h0 a (by simp); omega
  | [a], [b] => simp at e0; rw [e0]
  | [a], b :: c :: _ => simp at e1; have := h1 c (by simp); omega
  | a :: c :: _, [b] => simp at e1; have := h0 c (by simp); omega
  | [a, c], [b, d] => simp at e0 e1; rw [e0, e1]
  | _ :: _ :: _ :: _, _ => simp at hl
  | _, _ :: _ :: _ :: _ => simp at hm
theorem norm2_len {k : Int} {l : List Int} : (norm2 k l).length = l.length := by
  match l with
  | [a, b] => simp only [norm2]; split <;> rfl
  | [] => rfl
  | [_] => rfl
  | _ :: _ :: _ :: _ => rfl
theorem norm2_mem {k : Int} {l : List Int} {x : Int} : x ∈ norm2 k l ↔ x ∈ l := by
  match l with
  | [a, b] =>
    simp only [norm2]; split
    · simp [or_comm]
    · rfl
  | [] => rfl
  | [_] => rfl
  | _ :: _ :: _ :: _ => rfl
theorem normF_len {x : Nd} {fs : List Int} : (normF x fs).length = x.frm.length := by unfold normF; rw [norm2_len, List.length_map]
theorem normF_mem {x : Nd} {fs : List Int} {y : Int} (h : y ∈ normF x fs) : ∃ f ∈ x.frm, y = fs.getD f.toNat 0 := by
  unfold normF at h
  rw [norm2_mem] at h
  obtain ⟨f, hf, rfl⟩ := List.mem_map.1 h
  exact ⟨f, hf, rfl⟩

theorem keyL_iff {p : List Nd} {fs : List Int} (hp : PlanOk p) (h0 : ∀ j, 0 ≤ fs.getD j 0) {i k : Nat} (hi : i < p.length) (hk : k < p.length) : keyL (nd p i) fs = keyL (nd p k) fs ↔ sameK p fs i k := by
  have hlen : ∀ {j}, j < p.length → (normF (nd p j) fs).length ≤ 2 := fun {j} hj => by rw [normF_len, nd_frm]; exact hp.fr_len j
  have hpos : ∀ {j}, ∀ y ∈ normF (nd p j) fs, 0 ≤ y := fun {j} y hy => by obtain ⟨f, _, rfl⟩ := normF_mem hy; exact h0 _
  constructor
  · intro h
    unfold keyL kl at h
    simp only [List.cons.injEq] at h
    obtain ⟨h1, h2, h3, h4, h5⟩ := h
    exact ⟨h1, (List.append_inj h5 (by omega)).1, two_det (hlen hi) (hlen hk) hpos hpos h2 h3⟩
  · rintro ⟨h1, h2, h3⟩
    unfold keyL
    rw [h1, h2, h3]
theorem keyL_congr {x : Nd} {fs gs : List Int} (h : ∀ f ∈ x.frm, fs.getD f.toNat 0 = gs.getD f.toNat 0) : keyL x fs = keyL x gs := by unfold keyL; rw [normF_congr h]
theorem wf64 {x : Int} (h1 : -1 ≤ x) (h2 : x ≤ 1000000) : (Lit.int .i64 x).wf = true := by
  have h3 : IntKind.i64.min = -9223372036854775808 := rfl
  have h4 : IntKind.i64.max = 9223372036854775807 := rfl
  simp only [Lit.wf, h3, h4, Bool.and_eq_true, decide_eq_true_eq]
  omega
theorem keyL_ok {p : List Nd} {fs : List Int} (hp : PlanOk p) (h0 : ∀ j, 0 ≤ fs.getD j 0 ∧ fs.getD j 0 ≤ 1000) {i : Nat} (hi : i < p.length) : KeyOk (keyL (nd p i) fs) := by
  have hfit := hp.fits hi
  have hrow : (nd p i).row.length ≤ 6 ∧ ∀ x ∈ (nd p i).row, 0 ≤ x ∧ x < 1009 := by
    have := hfit.1.2.2
    split at this
    · exact this
    · rw [this]; simp
  have hk : 0 ≤ (nd p i).kind ∧ (nd p i).kind ≤ 5 := by rw [nd_get hi]; exact hp.kind hi
  have hn : ∀ j, -1 ≤ (normF (nd p i) fs).getD j (-1) ∧ (normF (nd p i) fs).getD j (-1) ≤ 1000 := fun j => by
    rw [List.getD_eq_getElem?_getD]
    cases hc : (normF (nd p i) fs)[j]? with
    | none => simp
    | some y =>
      obtain ⟨f, _, he⟩ := normF_mem (List.mem_of_getElem? hc)
      have := h0 f.toNat
      simp; omega
  refine ⟨kl_len hrow.1, fun x hx => ?_⟩
  unfold keyL kl at hx
  simp only [List.mem_cons, List.mem_append, List.mem_replicate] at hx
  rcases hx with rfl | rfl | rfl | rfl | h | ⟨_, rfl⟩
  · exact wf64 (by omega) (by omega)
  · exact wf64 (hn 0).1 (by have := (hn 0).2; omega)
  · exact wf64 (hn 1).1 (by have := (hn 1).2; omega)
  · exact wf64 (by omega) (by have := hrow.1; omega)
  · have := hrow.2 x h; exact wf64 (by omega) (by omega)
  · exact wf64 (by omega) (by omega)
theorem IsFirsts.small {p : List Nd} {n : Nat} {fs : List Int} (h : IsFirsts p n fs) (hn : n ≤ 1000) (j : Nat) : 0 ≤ fs.getD j 0 ∧ fs.getD j 0 ≤ 1000 := by
  by_cases hj : j < n
  · obtain ⟨r, hr, hf⟩ := h.at_ j hj
    have := hf.1
    rw [hr]; omega
  · rw [List.getD_eq_getElem?_getD, List.getElem?_eq_none (by rw [h.len]; omega)]; simp
end Go.Proofs.Ytpfabjjeacdikaa
