/- Plans: what they are, and how they lie in memory. -/
import Derived.Test.YtpfabjjeacdikaaBasics
import Derived.Test.YtpfabjjeacdikaaV14
namespace Go.Proofs.Ytpfabjjeacdikaa
open Go Go.V

/-- Rows that are short enough to be counted. -/
def Sml (x : Nd) : Prop := x.frm.length ≤ 1048576 ∧ x.row.length ≤ 1048576

/-- A node as a value. -/
structure NdV (w : World) (v : Value) (x : Nd) : Prop where
  out : ∃ fv rv, v = .agg #[.int .i64 x.kind, fv, rv] ∧ Ints w fv x.frm ∧ Ints w rv x.row ∧ Sml x
/-- A plan as a value. -/
structure PlanV (w : World) (v : Value) (p : List Nd) : Prop where
  out : ∃ a c, v = .slice a p.length c ∧ p.length ≤ c ∧ p.length ≤ 1048576 ∧ ∀ i x, p[i]? = some x → ∃ b off fv rv, a = some ⟨b, off, none⟩ ∧
    w.cell? ⟨b, off + 3 * i, none⟩ = some (.int .i64 x.kind) ∧ w.cell? ⟨b, off + 3 * i + 1, none⟩ = some fv ∧ w.cell? ⟨b, off + 3 * i + 2, none⟩ = some rv ∧ Ints w fv x.frm ∧ Ints w rv x.row ∧ Sml x

theorem NdV.ext {w w' : World} {v : Value} {x : Nd} (h : NdV w v x) (hE : Ext w w') : NdV w' v x := by
  obtain ⟨fv, rv, h1, h2, h3, h4⟩ := h.out
  exact ⟨fv, rv, h1, h2.ext hE, h3.ext hE, h4⟩
theorem PlanV.ext {w w' : World} {v : Value} {p : List Nd} (h : PlanV w v p) (hE : Ext w w') : PlanV w' v p := by
  obtain ⟨a, c, h1, h2, h2', h3⟩ := h.out
  refine ⟨a, c, h1, h2, h2', fun i x hi => ?_⟩
  obtain ⟨b, off, fv, rv, k0, k1, k2, k3, k4, k5, k6⟩ := h3 i x hi
  exact ⟨b, off, fv, rv, k0, cell_keep hE k1 id, cell_keep hE k2 id, cell_keep hE k3 id, k4.ext hE, k5.ext hE, k6⟩

theorem PlanV.len {w : World} {v : Value} {p : List Nd} (h : PlanV w v p) {K : Value → Prop} : LenV v K = K (.int .i64 p.length) := by
  obtain ⟨a, c, rfl, _, _⟩ := h.out
  rfl
theorem ints_len {w : World} {v : Value} {xs : List Int} (h : Ints w v xs) {K : Value → Prop} : LenV v K = K (.int .i64 xs.length) := by
  obtain ⟨a, c, rfl, _, _⟩ := h.out
  rfl

/-- The place of a node of a plan. -/
theorem PlanV.idx {w : World} {v : Value} {p : List Nd} (h : PlanV w v p) {i : Nat} (hi : i < p.length) {K : Value → Prop}
    (hK : ∀ b o fv rv, w.cell? ⟨b, o, none⟩ = some (.int .i64 p[i].kind) → w.cell? ⟨b, o + 1, none⟩ = some fv → w.cell? ⟨b, o + 2, none⟩ = some rv → Ints w fv p[i].frm → Ints w rv p[i].row → Sml p[i] → K (.pointer (some ⟨b, o, none⟩))) :
    IdxV 3 v (.int .i64 i) K := by
  obtain ⟨a, c, rfl, _, _, h3⟩ := h.out
  obtain ⟨b, off, fv, rv, rfl, k1, k2, k3, k4, k5, k6⟩ := h3 i p[i] (by simp [hi])
  refine ⟨by omega, by omega, ?_⟩
  rw [addr_add]
  have e : off + (i : Int).toNat * 3 = off + 3 * i := by rw [Int.toNat_natCast]; omega
  rw [e]
  exact hK _ _ fv rv k1 k2 k3 k4 k5 k6

theorem load_cell {w : World} {b o : Nat} {v : Value} {K : Value → Prop} (h : w.cell? ⟨b, o, none⟩ = some v) (hK : K v) : LoadV false 1 (.pointer (some ⟨b, o, none⟩)) w K := ⟨v, h, hK⟩
theorem loadS_cell {S : Nat → Prop} {w : World} {b o : Nat} {v : Value} {K : Value → Prop} (h : w.cell? ⟨b, o, none⟩ = some v) (hS : ¬ S b) (hK : K v) : LoadS S false 1 (.pointer (some ⟨b, o, none⟩)) w K := ⟨hS, v, h, hK⟩
theorem load_node {w : World} {b o : Nat} {x y z : Value} {K : Value → Prop} (h0 : w.cell? ⟨b, o, none⟩ = some x) (h1 : w.cell? ⟨b, o + 1, none⟩ = some y) (h2 : w.cell? ⟨b, o + 2, none⟩ = some z) (hK : K (.agg #[x, y, z])) :
    LoadV true 3 (.pointer (some ⟨b, o, none⟩)) w K := by
  refine ⟨[x, y, z], rfl, fun j v hj => ?_, hK⟩
  rw [addr_add]
  match j with
  | 0 => simp at hj; subst hj; exact h0
  | 1 => simp at hj; subst hj; exact h1
  | 2 => simp at hj; subst hj; exact h2
  | j + 3 => simp at hj
theorem loadS_node {S : Nat → Prop} {w : World} {b o : Nat} {x y z : Value} {K : Value → Prop} (h0 : w.cell? ⟨b, o, none⟩ = some x) (h1 : w.cell? ⟨b, o + 1, none⟩ = some y) (h2 : w.cell? ⟨b, o + 2, none⟩ = some z) (hS : ¬ S b) (hK : K (.agg #[x, y, z])) :
    LoadS S true 3 (.pointer (some ⟨b, o, none⟩)) w K := ⟨hS, load_node h0 h1 h2 hK⟩

/-- A whole node is read. -/
theorem PlanV.load {w : World} {v : Value} {p : List Nd} (h : PlanV w v p) {i : Nat} (hi : i < p.length) {K : Value → Prop} (hK : ∀ x, NdV w x p[i] → K x) : IdxV 3 v (.int .i64 i) fun t => LoadV true 3 t w K :=
  h.idx hi fun _ _ fv rv h0 h1 h2 h3 h4 h5 => load_node h0 h1 h2 (hK _ ⟨fv, rv, rfl, h3, h4, h5⟩)
theorem PlanV.loadS {w : World} {v : Value} {p : List Nd} (h : PlanV w v p) {i : Nat} (hi : i < p.length) {S : Nat → Prop} (hS : ∀ b, b < w.heap.size → ¬ S b) {K : Value → Prop} (hK : ∀ x, NdV w x p[i] → K x) : IdxV 3 v (.int .i64 i) fun t => LoadS S true 3 t w K :=
  h.idx hi fun _ _ fv rv h0 h1 h2 h3 h4 h5 => loadS_node h0 h1 h2 (hS _ (World.block_lt_of_cell? w _ h0)) (hK _ ⟨fv, rv, rfl, h3, h4, h5⟩)

theorem PlanV.small {w : World} {v : Value} {p : List Nd} (h : PlanV w v p) : p.length ≤ 1048576 := by
  obtain ⟨_, _, _, _, h1, _⟩ := h.out; exact h1
theorem PlanV.sml {w : World} {v : Value} {p : List Nd} (h : PlanV w v p) {i : Nat} (hi : i < p.length) : Sml p[i] := by
  obtain ⟨_, _, _, _, _, h1⟩ := h.out
  obtain ⟨_, _, _, _, _, _, _, _, _, _, h2⟩ := h1 i p[i] (by simp [hi]); exact h2

/-- A node in a variable. -/
structure NdBox (w : World) (b : Nat) (x : Nd) : Prop where
  out : ∃ fv rv e, w.heap[b]? = some (.cells #[.int .i64 x.kind, fv, rv] e (0, 0)) ∧ Ints w fv x.frm ∧ Ints w rv x.row ∧ Sml x
theorem NdBox.ext {w w' : World} {b : Nat} {x : Nd} (h : NdBox w b x) (hE : Ext w w') : NdBox w' b x := by
  obtain ⟨fv, rv, e, h1, h2, h3, h4⟩ := h.out
  exact ⟨fv, rv, e, hE.at h1, h2.ext hE, h3.ext hE, h4⟩
theorem NdBox.sml {w : World} {b : Nat} {x : Nd} (h : NdBox w b x) : Sml x := by
  obtain ⟨_, _, _, _, _, _, h4⟩ := h.out; exact h4
theorem NdBox.kind {w : World} {b : Nat} {x : Nd} (h : NdBox w b x) {K : Value → Prop} (hK : K (.int .i64 x.kind)) : LoadV false 1 (.pointer (some ⟨b, 0 + 0, none⟩)) w K := by
  obtain ⟨fv, rv, e, h1, _⟩ := h.out
  exact ⟨_, by rw [cell_of_row w b _ _ e (0, 0) h1]; rfl, hK⟩
theorem NdBox.frm {w : World} {b : Nat} {x : Nd} (h : NdBox w b x) {K : Value → Prop} (hK : ∀ v, Ints w v x.frm → K v) : LoadV false 1 (.pointer (some ⟨b, 0 + 1, none⟩)) w K := by
  obtain ⟨fv, rv, e, h1, h2, _⟩ := h.out
  exact ⟨_, by rw [cell_of_row w b _ _ e (0, 0) h1]; rfl, hK _ h2⟩
theorem NdBox.row {w : World} {b : Nat} {x : Nd} (h : NdBox w b x) {K : Value → Prop} (hK : ∀ v, Ints w v x.row → K v) : LoadV false 1 (.pointer (some ⟨b, 0 + 2, none⟩)) w K := by
  obtain ⟨fv, rv, e, h1, _, h3, _⟩ := h.out
  exact ⟨_, by rw [cell_of_row w b _ _ e (0, 0) h1]; rfl, hK _ h3⟩
theorem NdBox.kindS {S : Nat → Prop} {w : World} {b : Nat} {x : Nd} (h : NdBox w b x) (hS : ¬ S b) {K : Value → Prop} (hK : K (.int .i64 x.kind)) : LoadS S false 1 (.pointer (some ⟨b, 0 + 0, none⟩)) w K := ⟨hS, h.kind hK⟩
theorem NdBox.frmS {S : Nat → Prop} {w : World} {b : Nat} {x : Nd} (h : NdBox w b x) (hS : ¬ S b) {K : Value → Prop} (hK : ∀ v, Ints w v x.frm → K v) : LoadS S false 1 (.pointer (some ⟨b, 0 + 1, none⟩)) w K := ⟨hS, h.frm hK⟩
theorem NdBox.rowS {S : Nat → Prop} {w : World} {b : Nat} {x : Nd} (h : NdBox w b x) (hS : ¬ S b) {K : Value → Prop} (hK : ∀ v, Ints w v x.row → K v) : LoadS S false 1 (.pointer (some ⟨b, 0 + 2, none⟩)) w K := ⟨hS, h.row hK⟩

/-- A variable is made for a node. -/
theorem box_node {w : World} {v : Value} {x : Nd} (h : NdV w v x) {K : Value → World → Prop} (hK : ∀ w', Ext w w' → NdBox w' w.heap.size x → w.heap.size < w'.heap.size → K (.pointer (some ⟨w.heap.size, 0, none⟩)) w') : BoxV T.impl_Node v w K := by
  obtain ⟨fv, rv, rfl, h2, h3, h4⟩ := h.out
  intro w' hn
  refine hK w' hn.ext ⟨fv, rv, T.impl_Node, ?_, h2.ext hn.ext, h3.ext hn.ext, h4⟩ (by have := hn.size; omega)
  have := hn.here
  obtain ⟨_, _, rfl, _⟩ := h2.out
  obtain ⟨_, _, rfl, _⟩ := h3.out
  simpa [Value.cells] using this
end Go.Proofs.Ytpfabjjeacdikaa
