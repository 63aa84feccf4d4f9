/- What the exact laws do with plans: sizes, copies, comparison, marks. -/
import Derived.Test.YtmbfkhacejnnhaaFam
import Derived.Test.YtmbfkhacejnnhaaCE
namespace Go.Proofs.Ytmbfkhacejnnhaa
open Go Go.V

/-- A node and a plan that came in: of their sizes nothing is known yet. -/
structure NdRaw (w : World) (v : Value) (x : Nd) : Prop where
  out : ∃ fv rv, v = .agg #[.int .i64 x.kind, fv, rv] ∧ Ints w fv x.frm ∧ Ints w rv x.row ∧ x.frm.length ≤ 9223372036854775807 ∧ x.row.length ≤ 9223372036854775807
structure PlanRaw (w : World) (v : Value) (p : List Nd) : Prop where
  out : ∃ a c, v = .slice a p.length c ∧ p.length ≤ c ∧ p.length ≤ 9223372036854775807 ∧ ∀ i x, p[i]? = some x → ∃ b off fv rv, a = some ⟨b, off, none⟩ ∧
    w.cell? ⟨b, off + 3 * i, none⟩ = some (.int .i64 x.kind) ∧ w.cell? ⟨b, off + 3 * i + 1, none⟩ = some fv ∧ w.cell? ⟨b, off + 3 * i + 2, none⟩ = some rv ∧ Ints w fv x.frm ∧ Ints w rv x.row ∧
    x.frm.length ≤ 9223372036854775807 ∧ x.row.length ≤ 9223372036854775807
theorem PlanRaw.ext {w w' : World} {v : Value} {p : List Nd} (h : PlanRaw w v p) (hE : Ext w w') : PlanRaw w' v p := by
  obtain ⟨a, c, h1, h2, h2', h3⟩ := h.out
  refine ⟨a, c, h1, h2, h2', fun i x hi => ?_⟩
  obtain ⟨b, off, fv, rv, k0, k1, k2, k3, k4, k5, k6⟩ := h3 i x hi
  exact ⟨b, off, fv, rv, k0, cell_keep hE k1 id, cell_keep hE k2 id, cell_keep hE k3 id, k4.ext hE, k5.ext hE, k6⟩
theorem PlanRaw.len {w : World} {v : Value} {p : List Nd} (h : PlanRaw w v p) (K : Value → Prop) : LenV v K = K (.int .i64 p.length) := by
  obtain ⟨a, c, rfl, _, _⟩ := h.out; rfl
theorem PlanRaw.small {w : World} {v : Value} {p : List Nd} (h : PlanRaw w v p) : p.length ≤ 9223372036854775807 := by
  obtain ⟨_, _, _, _, h1, _⟩ := h.out; exact h1
theorem PlanRaw.plan {w : World} {v : Value} {p : List Nd} (h : PlanRaw w v p) (hl : p.length ≤ 1048576) (hs : ∀ x ∈ p, Sml x) : PlanV w v p := by
  obtain ⟨a, c, h1, h2, _, h3⟩ := h.out
  refine ⟨a, c, h1, h2, hl, fun i x hi => ?_⟩
  obtain ⟨b, off, fv, rv, k0, k1, k2, k3, k4, k5, _⟩ := h3 i x hi
  exact ⟨b, off, fv, rv, k0, k1, k2, k3, k4, k5, hs x (List.mem_of_getElem? hi)⟩
theorem PlanRaw.load {w : World} {v : Value} {p : List Nd} (h : PlanRaw w v p) {i : Nat} (hi : i < p.length) {K : Value → Prop} (hK : ∀ x, NdRaw w x p[i] → K x) : IdxV 3 v (.int .i64 i) fun t => LoadV true 3 t w K := by
  obtain ⟨a, c, rfl, _, _, h3⟩ := h.out
  obtain ⟨b, off, fv, rv, rfl, k1, k2, k3, k4, k5, k6⟩ := h3 i p[i] (by simp [hi])
  refine ⟨by omega, by omega, ?_⟩
  rw [addr_add]
  have e : off + (i : Int).toNat * 3 = off + 3 * i := by rw [Int.toNat_natCast]; omega
  rw [e]
  exact load_node k1 k2 k3 (hK _ ⟨fv, rv, rfl, k4, k5, k6⟩)

theorem new_raw {w w' : World} {k : Int} {fv rv : Value} {xs ys : List Int} {e : Nat} (h2 : Ints w fv xs) (h3 : Ints w rv ys) (hn : New w (.cells (Value.cells (.agg #[.int .i64 k, fv, rv])) e (0, 0)) w') : w'.heap[w.heap.size]? = some (.cells #[.int .i64 k, fv, rv] e (0, 0)) := by
  have := hn.here
  obtain ⟨_, _, rfl, _⟩ := h2.out
  obtain ⟨_, _, rfl, _⟩ := h3.out
  simpa [Value.cells] using this

/-! ### Marks -/
theorem offP_le {p : List Nd} {j : Nat} (h : ∀ i, i < j → Sml (nd p i)) : offP p j ≤ j * 2097153 := by
  induction j with
  | zero => simp [offP]
  | succ j ih =>
    have h1 := ih fun i hi => h i (by omega)
    have h2 := h j (by omega)
    unfold Sml at h2
    simp only [offP, ndSize]; omega
/-- The first i nodes are marked. -/
def mkTo (p : List Nd) (k i : Nat) : List Nd := (List.range p.length).map fun j => if j < i then mkN p k j else nd p j
theorem mkTo_len (p : List Nd) (k i : Nat) : (mkTo p k i).length = p.length := by simp [mkTo]
theorem mkTo_nd {p : List Nd} {k i j : Nat} (h : j < p.length) : nd (mkTo p k i) j = if j < i then mkN p k j else nd p j := by rw [nd_get (by rw [mkTo_len]; exact h)]; simp [mkTo]
theorem mkTo_zero (p : List Nd) (k : Nat) : mkTo p k 0 = p := ext_nd (mkTo_len _ _ _) fun i hi => by rw [mkTo_len] at hi; rw [mkTo_nd hi, if_neg (by omega)]
theorem mkTo_all (p : List Nd) (k : Nat) : mkTo p k p.length = markP p k := ext_nd (by rw [mkTo_len, markP_len]) fun i hi => by rw [mkTo_len] at hi; rw [mkTo_nd hi, if_pos hi, markP_nd hi]
theorem mkTo_next {p : List Nd} {k i : Nat} (h : i < p.length) : (mkTo p k i).set i (mkN p k i) = mkTo p k (i + 1) := by
  refine ext_nd (by simp [mkTo_len]) fun j hj => ?_
  rw [List.length_set, mkTo_len] at hj
  rw [nd_set (by rw [mkTo_len]; exact h), mkTo_nd hj, mkTo_nd hj]
  by_cases e : j = i
  · subst e; rw [if_pos rfl, if_pos (by omega)]
  · rw [if_neg e]
    by_cases h' : j < i
    · rw [if_pos h', if_pos (by omega)]
    · rw [if_neg h', if_neg (by omega)]

theorem FPlan.sml {w : World} {B : Nat → Prop} {v : Value} {p : List Nd} (h : FPlan w B v p) {i : Nat} (hi : i < p.length) : Sml (nd p i) := by
  obtain ⟨_, _, _, _, _, _, _, _, hin, _⟩ := h.out
  exact (hin.ints i hi).2.2

/-- The kind of a node is written. -/
theorem FPlan.storeKind {w : World} {B : Nat → Prop} {v : Value} {p : List Nd} (h : FPlan w B v p) {i : Nat} (hi : i < p.length) {k : Int} {K : World → Prop} (hK : ∀ w', Chg B w w' → w'.heap.size = w.heap.size → FPlan w' B v (p.set i ⟨k, (nd p i).frm, (nd p i).row⟩) → K w') :
    IdxV 3 v (.int .i64 i) fun t => FAddrV 0 t fun t => StoreV 1 t (.int .i64 k) w K := by
  obtain ⟨a, c, bs, fv, rv, rfl, hcp, hl, hin, hr⟩ := h.out
  obtain ⟨b, off, cur, rfl, hB, hb, hsz, hcell⟩ := hr (List.ne_nil_of_length_pos (by omega))
  refine ⟨by omega, by omega, ?_⟩
  simp only [addr_add, Int.toNat_natCast, FAddrV, Nat.add_zero]
  refine store_at hb rfl rfl (by omega) fun w' hp => hK w' (hp.chg.mono fun j _ e => by have e : j = b := e; subst e; exact hB) hp.size ?_
  rw [show off + i * 3 = off + 3 * i by omega] at hp
  exact FPlan.setKind hi rfl hcp hl hin hB hb hsz hcell hp
end Go.Proofs.Ytmbfkhacejnnhaa
