/- Plans: what they are, and how they lie in memory. -/
import Derived.Test.YtblgkpfnjlobjaaBasics
import Derived.Test.YtblgkpfnjlobjaaV14
import Derived.Test.YtblgkpfnjlobjaaCA
namespace Go.Proofs.Ytblgkpfnjlobjaa
open Go Go.V

/-- Rows that are short enough to be counted. -/
def Sml (x : Nd) : Prop := x.frm.length ≤ 1048576 ∧ x.row.length ≤ 1048576

/-- A node as a value. -/
structure NdV (w : World) (v : Value) (x : Nd) : Prop where
  out : ∃ fv rv, v = .agg #[.int .i64 x.kind, fv, rv] ∧ Ints w fv x.frm ∧ Ints w rv x.row ∧ Sml x
/-- A plan as a value. -/
structure PlanV (w : World) (v : Value) (p : List Nd) : Prop where
  out : ∃ a c, v = .slice a p.length c ∧ p.length ≤ c ∧ p.length ≤ 1048576 ∧ ∀ i x, p[i]? = some x → ∃ b off fv rv, a = some ⟨b, off, none⟩ ∧
    w.cell? ⟨b, off + 3 * i, none⟩ = some (.int .i64 x.kind) ∧ w.cell? ⟨b, off + 3 * i + 1, none⟩ = some fv ∧ w.cell? ⟨b, off + 3 * i + 2, none⟩ = some rv ∧ Ints w fv x.frm ∧ Ints w rv x.row ∧ Sml x

theorem NdV.ext {w w' : World} {v : Value} {x : Nd} (h : NdV w v x) (hE : Ext w w') : NdV w' v x := by
  obtain ⟨fv, rv, h1, h2, h3, h4⟩ := h.out
  exact ⟨fv, rv, h1, h2.ext hE, h3.ext hE, h4⟩
theorem PlanV.ext {w w' : World} {v : Value} {p : List Nd} (h : PlanV w v p) (hE : Ext w w') : PlanV w' v p := by
  obtain ⟨a, c, h1, h2, h2', h3⟩ := h.out
  refine ⟨a, c, h1, h2, h2', fun i x hi => ?_⟩
  obtain ⟨b, off, fv, rv, k0, k1, k2, k3, k4, k5, k6⟩ := h3 i x hi
  exact ⟨b, off, fv, rv, k0, cell_keep hE k1 id, cell_keep hE k2 id, cell_keep hE k3 id, k4.ext hE, k5.ext hE, k6⟩

theorem PlanV.len {w : World} {v : Value} {p : List Nd} (h : PlanV w v p) {K : Value → Prop} : LenV v K = K (.int .i64 p.length) := by
  obtain ⟨a, c, rfl, _, _⟩ := h.out
  rfl
theorem ints_len {w : World} {v : Value} {xs : List Int} (h : Ints w v xs) {K : Value → Prop} : LenV v K = K (.int .i64 xs.length) := by
  obtain ⟨a, c, rfl, _, _⟩ := h.out
  rfl

/-- The place of a node of a plan. -/
theorem PlanV.idx {w : World} {v : Value} {p : List Nd} (h : PlanV w v p) {i : Nat} (hi : i < p.length) {K : Value → Prop}
    (hK : ∀ b o fv rv, w.cell? ⟨b, o, none⟩ = some (.int .i64 p[i].kind) → w.cell? ⟨b, o + 1, none⟩ = some fv → w.cell? ⟨b, o + 2, none⟩ = some rv → Ints w fv p[i].frm → Ints w rv p[i].row → Sml p[i] → K (.pointer (some ⟨b, o, none⟩))) :
    IdxV 3 v (.int .i64 i) K := by
  obtain ⟨a, c, rfl, _, _, h3⟩ := h.out
  obtain ⟨b, off, fv, rv, rfl, k1, k2, k3, k4, k5, k6⟩ := h3 i p[i] (by simp [hi])
  refine ⟨by omega, by omega, ?_⟩
  rw [addr_add]
  have e : off + (i : Int).toNat * 3 = off + 3 * i := by rw [Int.toNat_natCast]; omega
  rw [e]
  exact hK _ _ fv rv k1 k2 k3 k4 k5 k6

theorem load_cell {w : World} {b o : Nat} {v : Value} {K : Value → Prop} (h : w.cell? ⟨b, o, none⟩ = some v) (hK : K v) : LoadV false 1 (.pointer (some ⟨b, o, none⟩)) w K := ⟨v, h, hK⟩
theorem loadS_cell {S : Nat → Prop} {w : World} {b o : Nat} {v : Value} {K : Value → Prop} (h : w.cell? ⟨b, o, none⟩ = some v) (hS : ¬ S b) (hK : K v) : LoadS S false 1 (.pointer (some ⟨b, o, none⟩)) w K := ⟨hS, v, h, hK⟩
theorem load_node {w : World} {b o : Nat} {x y z : Value} {K : Value → Prop} (h0 : w.cell? ⟨b, o, none⟩ = some x) (h1 : w.cell? ⟨b, o + 1, none⟩ = some y) (h2 : w.cell? ⟨b, o + 2, none⟩ = some z) (hK : K (.agg #[x, y, z])) :
    LoadV true 3 (.pointer (some ⟨b, o, none⟩)) w K := by
  refine ⟨[x, y, z], rfl, fun j v hj => ?_, hK⟩
  rw [addr_add]
  match j with
  | 0 => simp at hj; subst hj; exact h0
  | 1 => simp at hj; subst hj; exact h1
  | 2 => simp at hj; subst hj; exact h2
  | j + 3 => simp at hj
theorem loadS_node {S : Nat → Prop} {w : World} {b o : Nat} {x y z : Value} {K : Value → Prop} (h0 : w.cell? ⟨b, o, none⟩ = some x) (h1 : w.cell? ⟨b, o + 1, none⟩ = some y) (h2 : w.cell? ⟨b, o + 2, none⟩ = some z) (hS : ¬ S b) (hK : K (.agg #[x, y, z])) :
    LoadS S true 3 (.pointer (some ⟨b, o, none⟩)) w K := ⟨hS, load_node h0 h1 h2 hK⟩

/-- A whole node is read. -/
theorem PlanV.load {w : World} {v : Value} {p : List Nd} (h : PlanV w v p) {i : Nat} (hi : i < p.length) {K : Value → Prop} (hK : ∀ x, NdV w x p[i] → K x) : IdxV 3 v (.int .i64 i) fun t => LoadV true 3 t w K :=
  h.idx hi fun _ _ fv rv h0 h1 h2 h3 h4 h5 => load_node h0 h1 h2 (hK _ ⟨fv, rv, rfl, h3, h4, h5⟩)
theorem PlanV.loadS {w : World} {v : Value} {p : List Nd} (h : PlanV w v p) {i : Nat} (hi : i < p.length) {S : Nat → Prop} (hS : ∀ b, b < w.heap.size → ¬ S b) {K : Value → Prop} (hK : ∀ x, NdV w x p[i] → K x) : IdxV 3 v (.int .i64 i) fun t => LoadS S true 3 t w K :=
  h.idx hi fun _ _ fv rv h0 h1 h2 h3 h4 h5 => loadS_node h0 h1 h2 (hS _ (World.block_lt_of_cell? w _ h0)) (hK _ ⟨fv, rv, rfl, h3, h4, h5⟩)

theorem PlanV.small {w : World} {v : Value} {p : List Nd} (h : PlanV w v p) : p.length ≤ 1048576 := by
  obtain ⟨_, _, _, _, h1, _⟩ := h.out; exact h1
theorem PlanV.sml {w : World} {v : Value} {p : List Nd} (h : PlanV w v p) {i : Nat} (hi : i < p.length) : Sml p[i] := by
  obtain ⟨_, _, _, _, _, h1⟩ := h.out
  obtain ⟨_, _, _, _, _, _, _, _, _, _, h2⟩ := h1 i p[i] (by simp [hi]); exact h2

/-- A node in a variable. -/
structure NdBox (w : World) (b : Nat) (x : Nd) : Prop where
  out : ∃ fv rv e, w.heap[b]? = some (.cells #[.int .i64 x.kind, fv, rv] e (0, 0)) ∧ Ints w fv x.frm ∧ Ints w rv x.row ∧ Sml x
theorem NdBox.ext {w w' : World} {b : Nat} {x : Nd} (h : NdBox w b x) (hE : Ext w w') : NdBox w' b x := by
  obtain ⟨fv, rv, e, h1, h2, h3, h4⟩ := h.out
  exact ⟨fv, rv, e, hE.at h1, h2.ext hE, h3.ext hE, h4⟩
theorem NdBox.sml {w : World} {b : Nat} {x : Nd} (h : NdBox w b x) : Sml x := by
  obtain ⟨_, _, _, _, _, _, h4⟩ := h.out; exact h4
theorem NdBox.kind {w : World} {b : Nat} {x : Nd} (h : NdBox w b x) {K : Value → Prop} (hK : K (.int .i64 x.kind)) : LoadV false 1 (.pointer (some ⟨b, 0 + 0, none⟩)) w K := by
  obtain ⟨fv, rv, e, h1, _⟩ := h.out
  exact ⟨_, by rw [cell_of_row w b _ _ e (0, 0) h1]; rfl, hK⟩
theorem NdBox.frm {w : World} {b : Nat} {x : Nd} (h : NdBox w b x) {K : Value → Prop} (hK : ∀ v, Ints w v x.frm → K v) : LoadV false 1 (.pointer (some ⟨b, 0 + 1, none⟩)) w K := by
  obtain ⟨fv, rv, e, h1, h2, _⟩ := h.out
  exact ⟨_, by rw [cell_of_row w b _ _ e (0, 0) h1]; rfl, hK _ h2⟩
theorem NdBox.row {w : World} {b : Nat} {x : Nd} (h : NdBox w b x) {K : Value → Prop} (hK : ∀ v, Ints w v x.row → K v) : LoadV false 1 (.pointer (some ⟨b, 0 + 2, none⟩)) w K := by
  obtain ⟨fv, rv, e, h1, _, h3, _⟩ := h.out
  exact ⟨_, by rw [cell_of_row w b _ _ e (0, 0) h1]; rfl, hK _ h3⟩
theorem NdBox.kindS {S : Nat → Prop} {w : World} {b : Nat} {x : Nd} (h : NdBox w b x) (hS : ¬ S b) {K : Value → Prop} (hK : K (.int .i64 x.kind)) : LoadS S false 1 (.pointer (some ⟨b, 0 + 0, none⟩)) w K := ⟨hS, h.kind hK⟩
theorem NdBox.frmS {S : Nat → Prop} {w : World} {b : Nat} {x : Nd} (h : NdBox w b x) (hS : ¬ S b) {K : Value → Prop} (hK : ∀ v, Ints w v x.frm → K v) : LoadS S false 1 (.pointer (some ⟨b, 0 + 1, none⟩)) w K := ⟨hS, h.frm hK⟩
theorem NdBox.rowS {S : Nat → Prop} {w : World} {b : Nat} {x : Nd} (h : NdBox w b x) (hS : ¬ S b) {K : Value → Prop} (hK : ∀ v, Ints w v x.row → K v) : LoadS S false 1 (.pointer (some ⟨b, 0 + 2, none⟩)) w K := ⟨hS, h.row hK⟩

/-- A variable is made for a node. -/
theorem box_node {w : World} {v : Value} {x : Nd} (h : NdV w v x) {K : Value → World → Prop} (hK : ∀ w', Ext w w' → NdBox w' w.heap.size x → w.heap.size < w'.heap.size → K (.pointer (some ⟨w.heap.size, 0, none⟩)) w') : BoxV T.impl_Node v w K := by
  obtain ⟨fv, rv, rfl, h2, h3, h4⟩ := h.out
  intro w' hn
  refine hK w' hn.ext ⟨fv, rv, T.impl_Node, ?_, h2.ext hn.ext, h3.ext hn.ext, h4⟩ (by have := hn.size; omega)
  have := hn.here
  obtain ⟨_, _, rfl, _⟩ := h2.out
  obtain ⟨_, _, rfl, _⟩ := h3.out
  simpa [Value.cells] using this
end Go.Proofs.Ytblgkpfnjlobjaa

namespace Go.Proofs.Ytblgkpfnjlobjaa
open Go Go.V

/-- What a kind does, as a value. -/
def workV (k : Int) : Value :=
  if k = 0 then .iface T.impl_givenWork (.agg #[]) else
  if k = 1 then .iface T.impl_pairWork (.agg #[.func (.func N.impl_RowAdd) #[] #[]]) else
  if k = 2 then .iface T.impl_pairWork (.agg #[.func (.func N.impl_RowTimes) #[] #[]]) else
  if k = 3 then .iface T.impl_loneWork (.agg #[.func (.func N.impl_RowSums) #[] #[]]) else
  if k = 4 then .iface T.impl_loneWork (.agg #[.func (.func N.impl_RowSort) #[] #[]]) else
  if k = 5 then .iface T.impl_loneWork (.agg #[.func (.func N.impl_RowTurn) #[] #[]]) else .nilIface

theorem fill0 : Instr.fill (fun i => ([] : List (Nat × Nat))[i]?) #[] [] = some #[] := rfl
theorem fill1f {g : Nat} : Instr.fill (fun i => ([(0, 1)] : List (Nat × Nat))[i]?) #[.nilFunc] [(0, .func (.func g) #[] #[])] = some #[.func (.func g) #[] #[]] := rfl

theorem workOf_ok {w : World} (k : Int) : Calls Try.prog N.impl_workOf #[.int .i64 k] w (Ret fun r w' => Ext w w' ∧ r = workV k) := by
  refine ret_k fun R hR => c_impl_workOf _ _ _ ?_
  simp only [go_sem]
  refine ⟨fun h => ⟨_, fill0, hR _ _ ⟨Ext.refl _, by simp [workV, h]⟩⟩, fun h0 => ⟨fun h => ⟨_, fill1f, hR _ _ ⟨Ext.refl _, by simp [workV, h]⟩⟩, fun h1 => ⟨fun h => ⟨_, fill1f, hR _ _ ⟨Ext.refl _, by simp [workV, h]⟩⟩, fun h2 =>
    ⟨fun h => ⟨_, fill1f, hR _ _ ⟨Ext.refl _, by simp [workV, h]⟩⟩, fun h3 => ⟨fun h => ⟨_, fill1f, hR _ _ ⟨Ext.refl _, by simp [workV, h]⟩⟩, fun h4 => ⟨fun h => ⟨_, fill1f, hR _ _ ⟨Ext.refl _, by simp [workV, h]⟩⟩, fun h5 => hR _ _ ⟨Ext.refl _, by simp [workV, *]⟩⟩⟩⟩⟩⟩⟩

theorem kind_cases {k : Int} {p : Prop} (h0 : k = 0 → p) (h1 : k = 1 → p) (h2 : k = 2 → p) (h3 : k = 3 → p) (h4 : k = 4 → p) (h5 : k = 5 → p) (h : (k < 0 ∨ 5 < k) → p) : p := by
  by_cases e0 : k = 0; · exact h0 e0
  by_cases e1 : k = 1; · exact h1 e1
  by_cases e2 : k = 2; · exact h2 e2
  by_cases e3 : k = 3; · exact h3 e3
  by_cases e4 : k = 4; · exact h4 e4
  by_cases e5 : k = 5; · exact h5 e5
  exact h (by omega)
theorem workV_none {k : Int} (h : k < 0 ∨ 5 < k) : workV k = .nilIface := by
  unfold workV
  rw [if_neg (by omega), if_neg (by omega), if_neg (by omega), if_neg (by omega), if_neg (by omega), if_neg (by omega)]
theorem kneeds_none {k : Int} (h : k < 0 ∨ 5 < k) : kneeds k = -1 := by
  unfold kneeds; rw [if_neg (by omega)]

theorem implKindValid_ok {w : World} (k : Int) : Calls Try.prog N.impl_KindValid #[.int .i64 k] w (Ret fun r w' => Ext w w' ∧ r = .bool (decide (0 ≤ k ∧ k ≤ 5))) := by
  refine ret_k fun R hR => c_impl_KindValid _ _ _ ?_
  refine callV_of (workOf_ok k) rfl ?_
  rintro _ w1 ⟨E, rfl⟩
  refine ⟨rfl, ?_⟩
  have yes : 0 ≤ k ∧ k ≤ 5 → R (.bool true) w1 := fun h => hR _ _ ⟨E, by simp [h]⟩
  refine kind_cases (k := k) (fun h => ?_) (fun h => ?_) (fun h => ?_) (fun h => ?_) (fun h => ?_) (fun h => ?_) (fun h => ?_)
  any_goals (subst h; exact yes (by omega))
  rw [workV_none h]
  exact hR _ _ ⟨E, by rw [decide_eq_false (by omega)]⟩

theorem givenNeeds_ok {w : World} : Calls Try.prog N.impl_givenWork_needs #[.agg #[]] w (Ret fun r w' => Ext w w' ∧ r = .int .i64 0) :=
  ret_k fun _ hR => c_impl_givenWork_needs _ _ _ fun _ hn => hR _ _ ⟨hn.ext, rfl⟩
theorem pairNeeds_ok {w : World} {v : Value} : Calls Try.prog N.impl_pairWork_needs #[v] w (Ret fun r w' => Ext w w' ∧ r = .int .i64 2) :=
  ret_k fun _ hR => c_impl_pairWork_needs _ _ _ fun _ hn => hR _ _ ⟨hn.ext, rfl⟩
theorem loneNeeds_ok {w : World} {v : Value} : Calls Try.prog N.impl_loneWork_needs #[v] w (Ret fun r w' => Ext w w' ∧ r = .int .i64 1) :=
  ret_k fun _ hR => c_impl_loneWork_needs _ _ _ fun _ hn => hR _ _ ⟨hn.ext, rfl⟩

theorem invGiven {w : World} {K : Value → World → Prop} (hK : ∀ w', Ext w w' → K (.int .i64 0) w') : InvokeV Try.prog (okFn Try.prog) (.iface T.impl_givenWork (.agg #[])) "loop.example/workplans/impl.needs" [] w K :=
  ⟨_, _, N.impl_givenWork_needs, .agg #[], rfl, fun w => by kernel_rfl, by kernel_rfl, callV_of givenNeeds_ok rfl (by rintro _ w1 ⟨E, rfl⟩; exact hK _ E)⟩
theorem invPair {w : World} {v : Value} {K : Value → World → Prop} (hK : ∀ w', Ext w w' → K (.int .i64 2) w') : InvokeV Try.prog (okFn Try.prog) (.iface T.impl_pairWork v) "loop.example/workplans/impl.needs" [] w K :=
  ⟨_, _, N.impl_pairWork_needs, v, rfl, fun w => by kernel_rfl, by kernel_rfl, callV_of pairNeeds_ok rfl (by rintro _ w1 ⟨E, rfl⟩; exact hK _ E)⟩
theorem invLone {w : World} {v : Value} {K : Value → World → Prop} (hK : ∀ w', Ext w w' → K (.int .i64 1) w') : InvokeV Try.prog (okFn Try.prog) (.iface T.impl_loneWork v) "loop.example/workplans/impl.needs" [] w K :=
  ⟨_, _, N.impl_loneWork_needs, v, rfl, fun w => by kernel_rfl, by kernel_rfl, callV_of loneNeeds_ok rfl (by rintro _ w1 ⟨E, rfl⟩; exact hK _ E)⟩

theorem implKindNeeds_ok {w : World} (k : Int) : Calls Try.prog N.impl_KindNeeds #[.int .i64 k] w (Ret fun r w' => Ext w w' ∧ r = .int .i64 (kneeds k)) := by
  refine ret_k fun R hR => c_impl_KindNeeds _ _ _ ?_
  refine callV_of (workOf_ok k) rfl ?_
  rintro _ w1 ⟨E, rfl⟩
  refine ⟨rfl, ?_⟩
  refine kind_cases (k := k) (fun h => ?_) (fun h => ?_) (fun h => ?_) (fun h => ?_) (fun h => ?_) (fun h => ?_) (fun h => ?_)
  · subst h; exact invGiven fun w2 E2 => hR _ _ ⟨E.trans E2, rfl⟩
  · subst h; exact invPair fun w2 E2 => hR _ _ ⟨E.trans E2, rfl⟩
  · subst h; exact invPair fun w2 E2 => hR _ _ ⟨E.trans E2, rfl⟩
  · subst h; exact invLone fun w2 E2 => hR _ _ ⟨E.trans E2, rfl⟩
  · subst h; exact invLone fun w2 E2 => hR _ _ ⟨E.trans E2, rfl⟩
  · subst h; exact invLone fun w2 E2 => hR _ _ ⟨E.trans E2, rfl⟩
  · rw [workV_none h]
    exact hR _ _ ⟨E, by rw [kneeds_none h]⟩

theorem specKindValid_ok {w : World} (k : Int) : Calls Try.prog N.spec_KindValid #[.int .i64 k] w (Ret fun r w' => Ext w w' ∧ r = .bool (decide (0 ≤ k ∧ k ≤ 5))) := by
  refine ret_k fun R hR => c_spec_KindValid _ _ _ ?_
  exact callV_of (l6In_ok _ _ _) rfl fun _ w1 h => hR _ _ h
theorem specKindNeeds_ok {w : World} (k : Int) : Calls Try.prog N.spec_KindNeeds #[.int .i64 k] w (Ret fun r w' => Ext w w' ∧ r = .int .i64 (kneeds k)) := by
  refine ret_k fun R hR => c_spec_KindNeeds _ _ _ ?_
  refine callV_of (specKindValid_ok k) rfl ?_
  rintro _ w1 ⟨E, rfl⟩
  simp only [go_sem]
  refine ⟨fun h => hR _ _ ⟨E, by rw [kneeds_none (by omega)]⟩, fun h => ?_⟩
  have e : kneeds k = if k = 0 then 0 else if k = 1 ∨ k = 2 then 2 else 1 := by unfold kneeds; rw [if_pos h]
  rw [e] at hR
  refine ⟨fun h0 => hR _ _ ⟨E, by rw [if_pos h0]⟩, fun h0 => ⟨fun h1 => hR _ _ ⟨E, by rw [if_neg h0, if_pos (.inl h1)]⟩, fun h1 => ⟨fun h2 => hR _ _ ⟨E, by rw [if_neg h0, if_pos (.inr h2)]⟩, fun h2 => hR _ _ ⟨E, by rw [if_neg h0, if_neg (by omega)]⟩⟩⟩⟩

theorem rowsValid_ok {w : World} {v : Value} {xs : List Int} (hx : Ints w v xs) (hl : xs.length ≤ 1099511627776) :
    Calls Try.prog N.impl_rowValues_valid #[v] w (Ret fun r w' => Ext w w' ∧ r = .bool (decide (RowOk xs))) := by
  obtain ⟨a, c, rfl, hc, hx⟩ := hx.out
  refine ret_k fun R hR => c_impl_rowValues_valid _ _ _ ?_
  simp only [go_sem]
  have no : ¬ RowOk xs → R (.bool false) w := fun hn => hR _ _ ⟨Ext.refl _, by simp [hn]⟩
  refine ⟨fun h => no fun hd => by have := hd.1; omega, fun h => ?_⟩
  refine loopV (fun s w' => ∃ k : Nat, s = [.int .i64 k] ∧ k ≤ xs.length ∧ w' = w ∧ ∀ i (h : i < k) (h1 : i < xs.length), 0 ≤ xs[i] ∧ xs[i] < 1009) (upTo xs.length 0) ⟨0, rfl, by omega, rfl, fun i h => by omega⟩ ?_
  rintro s z _ K ⟨k, rfl, hk, rfl, hin⟩ hK
  simp only [go_sem]
  refine ⟨fun h => ?_, fun h => ?_⟩
  · have hk : k < xs.length := by omega
    refine idxLoad hx rfl hk ?_
    simp only [go_sem]
    refine ⟨fun h => no fun hd => by have := hd.2 _ (List.getElem_mem hk); omega, fun h1 => ⟨fun h => no fun hd => by have := hd.2 _ (List.getElem_mem hk); omega, fun h2 => ?_⟩⟩
    refine bin_inc (by omega) (hK _ _ ⟨k + 1, rfl, by omega, rfl, fun i hi h1 => ?_⟩ (by simp [upTo, nthV, iOf]; omega))
    by_cases e : i = k
    · subst e; omega
    · exact hin i (by omega) h1
  · refine hR _ _ ⟨Ext.refl _, ?_⟩
    have : RowOk xs := ⟨by omega, fun x hx => by obtain ⟨i, hi, rfl⟩ := List.mem_iff_getElem.1 hx; exact hin i (by omega) hi⟩
    simp [this]
theorem implRowValid_ok {w : World} {v : Value} {xs : List Int} (hx : Ints w v xs) (hl : xs.length ≤ 1099511627776) :
    Calls Try.prog N.impl_RowValid #[v] w (Ret fun r w' => Ext w w' ∧ r = .bool (decide (RowOk xs))) := by
  refine ret_k fun R hR => c_impl_RowValid _ _ _ ?_
  exact callV_of (rowsValid_ok hx hl) rfl fun _ w1 h => hR _ _ h
theorem specRowValid_ok {w : World} {v : Value} {xs : List Int} (hx : Ints w v xs) (hl : xs.length ≤ 1099511627776) :
    Calls Try.prog N.spec_RowValid #[v] w (Ret fun r w' => Ext w w' ∧ r = .bool (decide (RowOk xs))) := by
  obtain ⟨a, c, rfl, hc, hx⟩ := hx.out
  refine ret_k fun R hR => c_spec_RowValid _ _ _ ?_
  refine loopV (fun s w' => ∃ k : Nat, s = [.int .i64 k] ∧ k ≤ xs.length ∧ Ext w w' ∧ ∀ i (h : i < k) (h1 : i < xs.length), 0 ≤ xs[i] ∧ xs[i] < 1009) (upTo xs.length 0) ⟨0, rfl, by omega, Ext.refl _, fun i h => by omega⟩ ?_
  rintro s z w1 K ⟨k, rfl, hk, E, hin⟩ hK
  simp only [go_sem]
  refine ⟨fun h => ?_, fun h => ?_⟩
  · have hk : k < xs.length := by omega
    refine idxLoad (hx.ext E) rfl hk ?_
    refine callV_of (l6In_ok _ _ _) rfl ?_
    rintro _ w2 ⟨E2, rfl⟩
    simp only [go_sem]
    refine ⟨fun h => hR _ _ ⟨E.trans E2, ?_⟩, fun h => ?_⟩
    · have : ¬ RowOk xs := fun hd => h (by have := hd.2 _ (List.getElem_mem hk); omega)
      simp [this]
    · refine bin_inc (by omega) (hK _ _ ⟨k + 1, rfl, by omega, E.trans E2, fun i hi h1 => ?_⟩ (by simp [upTo, nthV, iOf]; omega))
      by_cases e : i = k
      · subst e; omega
      · exact hin i (by omega) h1
  · have hk : k = xs.length := by omega
    subst hk
    refine hR _ _ ⟨E, ?_⟩
    congr 1
    exact decide_eq_decide.2 ⟨fun h => ⟨by omega, fun x hx => by obtain ⟨i, hi, rfl⟩ := List.mem_iff_getElem.1 hx; exact hin i (by omega) hi⟩, fun h => by have := h.1; omega⟩
end Go.Proofs.Ytblgkpfnjlobjaa

namespace Go.Proofs.Ytblgkpfnjlobjaa
open Go Go.V

theorem l3Wide_ok {w : World} {v : Value} {p : List Nd} (hp : PlanV w v p) : Calls Try.prog N.spec_l3Wide #[v] w (Ret fun r w' => Ext w w' ∧ r = .int .i64 (wide p)) := by
  have hsm := hp.small
  refine ret_k fun R hR => c_spec_l3Wide _ _ _ ?_
  refine loopV (fun s w' => ∃ k : Nat, s = [.int .i64 k] ∧ k ≤ p.length ∧ w' = w ∧ wide p = wide (p.drop k)) (upTo p.length 0) ⟨0, rfl, by omega, rfl, by simp⟩ ?_
  rintro s z _ K ⟨k, rfl, hk, rfl, hw⟩ hK
  rw [hp.len]
  simp only [go_sem]
  refine ⟨fun h => ?_, fun h => ?_⟩
  · have hk : k < p.length := by omega
    have hd := List.drop_eq_getElem_cons hk
    refine hp.idx hk fun b o fv rv h0 h1 h2 hf hr hs => ?_
    simp only [go_sem]
    refine load_cell h0 ?_
    simp only [go_sem]
    refine ⟨fun e => ?_, fun e => ?_⟩
    · refine hp.idx hk fun b o fv rv h0 h1 h2 hf hr hs => ?_
      simp only [go_sem]
      refine load_cell h2 ?_
      rw [ints_len hr]
      refine hR _ _ ⟨Ext.refl _, ?_⟩
      rw [hw, hd, wide, if_pos e]
    · refine bin_inc (by omega) (hK _ _ ⟨k + 1, rfl, by omega, rfl, ?_⟩ (by simp [upTo, nthV, iOf]; omega))
      rw [hw, hd, wide, if_neg e]
  · refine hR _ _ ⟨Ext.refl _, ?_⟩
    rw [hw, List.drop_of_length_le (by omega)]; rfl

theorem l3Node_ok {w : World} {v : Value} {x : Nd} {i wd : Nat} (hx : NdV w v x) (hi : i ≤ 1048576) :
    Calls Try.prog N.spec_l3Node #[v, .int .i64 i, .int .i64 wd] w (Ret fun r w' => Ext w w' ∧ r = .bool (decide (NdFits x i ∧ (x.kind = 0 → x.row.length = wd)))) := by
  refine ret_k fun R hR => c_spec_l3Node _ _ _ _ _ ?_
  refine box_node hx fun w1 E1 hb hlt => ?_
  have hsm := hb.sml
  have no : ∀ w', Ext w w' → ¬ (NdFits x i ∧ (x.kind = 0 → x.row.length = wd)) → R (.bool false) w' := fun w' hE hn => hR _ _ ⟨hE, by rw [decide_eq_false hn]⟩
  refine draw_none fun w2 hs => ?_
  have E2 := E1.trans hs.ext
  have hb2 := hb.ext hs.ext
  simp only [go_sem]
  refine hb2.kindS id (hb2.frmS id fun fv hf => ?_)
  rw [ints_len hf]
  refine callV_of (specKindNeeds_ok _) rfl ?_
  rintro _ w3 ⟨E3, rfl⟩
  refine ⟨E3, ?_⟩
  have hb3 := hb2.ext E3
  have e3 := E2.trans E3
  simp only [go_sem]
  refine ⟨fun h => no _ e3 fun hd => h (by rw [hd.1.1]), fun hn => ?_⟩
  refine hb3.rowS id fun rv hr => ?_
  refine callV_of (specRowValid_ok hr (by have := hsm.2; omega)) rfl ?_
  rintro _ w4 ⟨E4, rfl⟩
  refine ⟨E4, ?_⟩
  have hb4 := hb3.ext E4
  have e4 := e3.trans E4
  have hok : NdFits x i → RowOk x.row := fun hd => by
    have := hd.2.2
    split at this
    · exact this
    · rw [this]; exact ⟨by simp, by simp⟩
  simp only [go_sem]
  refine ⟨fun h => no _ e4 fun hd => h (hok hd.1), fun hrow => ?_⟩
  refine loopV (fun s w' => ∃ k : Nat, s = [.int .i64 k] ∧ k ≤ x.frm.length ∧ Ext w4 w' ∧ ∀ j (h : j < k) (h1 : j < x.frm.length), 0 ≤ x.frm[j] ∧ x.frm[j] < i) (upTo x.frm.length 0) ⟨0, rfl, by omega, Ext.refl _, fun j h => by omega⟩ ?_
  rintro s z w5 K ⟨k, rfl, hk, E5, hin⟩ hK
  have hb5 := hb4.ext E5
  simp only [go_sem]
  refine hb5.frm fun fv5 hf5 => ?_
  rw [ints_len hf5]
  have hl := hsm.1
  simp only [go_sem]
  refine ⟨fun h => ?_, fun h => ?_⟩
  · have hk : k < x.frm.length := by omega
    refine hb5.frm fun fv5 hf5 => ?_
    obtain ⟨a, c, rfl, _, hf5⟩ := hf5.out
    refine idxLoad hf5 rfl hk (bin_sub ⟨by omega, by omega⟩ ?_)
    refine callV_of (l6In_ok _ _ _) rfl ?_
    rintro _ w6 ⟨E6, rfl⟩
    simp only [go_sem]
    refine ⟨fun h => no _ ((e4.trans E5).trans E6) fun hd => h (by have := hd.1.2.1 _ (List.getElem_mem hk); omega), fun h1 => ?_⟩
    refine bin_inc (by omega) (hK _ _ ⟨k + 1, rfl, by omega, E5.trans E6, fun j hj h2 => ?_⟩ (by simp [upTo, nthV, iOf]; omega))
    by_cases e : j = k
    · subst e; omega
    · exact hin j (by omega) h2
  · have hall : ∀ f ∈ x.frm, 0 ≤ f ∧ f < (i : Int) := fun f hf => by obtain ⟨j, hj, rfl⟩ := List.mem_iff_getElem.1 hf; exact hin j (by omega) hj
    refine hb5.kind ?_
    simp only [go_sem]
    refine ⟨fun h0 => ?_, fun h0 => ?_⟩
    · refine hb5.row fun rv5 hr5 => ?_
      rw [ints_len hr5]
      simp only [go_sem]
      refine hR _ _ ⟨e4.trans E5, ?_⟩
      congr 1
      refine decide_eq_decide.2 ⟨fun h => ⟨⟨by omega, hall, by rw [if_pos h0]; exact hrow⟩, fun _ => by omega⟩, fun hd => by have := hd.2 h0; omega⟩
    · refine hb5.row fun rv5 hr5 => ?_
      rw [ints_len hr5]
      simp only [go_sem]
      refine hR _ _ ⟨e4.trans E5, ?_⟩
      congr 1
      refine decide_eq_decide.2 ⟨fun h => ⟨⟨by omega, hall, by rw [if_neg h0]; exact List.eq_nil_of_length_eq_zero (by omega)⟩, fun h => absurd h h0⟩, fun hd => by have := hd.1.2.2; rw [if_neg h0] at this; simp [this]⟩

theorem specPlanValid_ok {w : World} {v : Value} {p : List Nd} (hp : PlanV w v p) : Calls Try.prog N.spec_PlanValid #[v] w (Ret fun r w' => Ext w w' ∧ r = .bool (decide (PlanOk p))) := by
  have hsm := hp.small
  refine ret_k fun R hR => c_spec_PlanValid _ _ _ ?_
  refine loopV (fun s w' => ∃ k : Nat, s = [.int .i64 k] ∧ k ≤ p.length ∧ Ext w w' ∧ ∀ i (h : i < k) (h1 : i < p.length), NdFits p[i] i ∧ (p[i].kind = 0 → p[i].row.length = wide p)) (upTo p.length 0) ⟨0, rfl, by omega, Ext.refl _, fun i h => by omega⟩ ?_
  rintro s z w1 K ⟨k, rfl, hk, E, hin⟩ hK
  have hp1 := hp.ext E
  rw [hp1.len]
  simp only [go_sem]
  refine ⟨fun h => ?_, fun h => ?_⟩
  · have hk : k < p.length := by omega
    refine draw_none fun w2 hs => ?_
    have hp2 := hp1.ext hs.ext
    refine hp2.loadS hk (fun _ _ => id) fun xv hxv => ?_
    refine callV_of (l3Wide_ok hp2) rfl ?_
    rintro _ w3 ⟨E3, rfl⟩
    refine ⟨E3, ?_⟩
    refine callV_of (l3Node_ok (hxv.ext E3) (by omega)) rfl ?_
    rintro _ w4 ⟨E4, rfl⟩
    refine ⟨E4, ?_⟩
    have e4 := ((E.trans hs.ext).trans E3).trans E4
    simp only [go_sem]
    refine ⟨fun h => hR _ _ ⟨e4, ?_⟩, fun h => ?_⟩
    · have : ¬ PlanOk p := fun hd => h (hd.2 k hk)
      rw [decide_eq_false this]
    · refine bin_inc (by omega) (hK _ _ ⟨k + 1, rfl, by omega, e4, fun i hi h1 => ?_⟩ (by simp [upTo, nthV, iOf]; omega))
      by_cases e : i = k
      · subst e; exact h
      · exact hin i (by omega) h1
  · have hk : k = p.length := by omega
    subst hk
    rw [hp1.len]
    simp only [go_sem]
    refine hR _ _ ⟨E, ?_⟩
    congr 1
    exact decide_eq_decide.2 ⟨fun h => ⟨by omega, fun i hi => hin i hi hi⟩, fun h => by have := h.1; omega⟩

theorem nodeFits_ok {w : World} {v : Value} {x : Nd} {i : Nat} (hx : NdV w v x) :
    Calls Try.prog N.impl_nodeFits #[v, .int .i64 i] w (Ret fun r w' => Ext w w' ∧ r = .bool (decide (NdFits x i))) := by
  refine ret_k fun R hR => c_impl_nodeFits _ _ _ _ ?_
  refine box_node hx fun w1 E1 hb hlt => ?_
  have hsm := hb.sml
  have no : ∀ w', Ext w w' → ¬ NdFits x i → R (.bool false) w' := fun w' hE hn => hR _ _ ⟨hE, by rw [decide_eq_false hn]⟩
  refine draw_none fun w2 hs => ?_
  have E2 := E1.trans hs.ext
  have hb2 := hb.ext hs.ext
  simp only [go_sem]
  refine hb2.kindS id ?_
  refine callV_of (implKindValid_ok _) rfl ?_
  rintro _ w3 ⟨E3, rfl⟩
  refine ⟨E3, ?_⟩
  have hb3 := hb2.ext E3
  have e3 := E2.trans E3
  simp only [go_sem]
  refine ⟨fun h => no _ e3 fun hd => ?_, fun hkv => ?_⟩
  · have := hd.1
    rw [kneeds_none (by omega)] at this
    omega
  refine hb3.frmS id fun fv hf => ?_
  rw [ints_len hf]
  refine hb3.kindS id ?_
  refine callV_of (implKindNeeds_ok _) rfl ?_
  rintro _ w4 ⟨E4, rfl⟩
  refine ⟨E4, ?_⟩
  have hb4 := hb3.ext E4
  have e4 := e3.trans E4
  simp only [go_sem]
  refine ⟨fun h => no _ e4 fun hd => h hd.1, fun hn => ?_⟩
  refine hb4.frm fun fv4 hf4 => ?_
  obtain ⟨a, c, rfl, _, hf4⟩ := hf4.out
  simp only [go_sem]
  refine loopV (fun s w' => ∃ k : Nat, s = [.int .i64 k] ∧ k ≤ x.frm.length ∧ w' = w4 ∧ ∀ j (h : j < k) (h1 : j < x.frm.length), 0 ≤ x.frm[j] ∧ x.frm[j] < i) (upTo x.frm.length 0) ⟨0, rfl, by omega, rfl, fun j h => by omega⟩ ?_
  rintro s z w5 K ⟨k, rfl, hk, rfl, hin⟩ hK
  have hl := hsm.1
  simp only [go_sem]
  refine ⟨fun h => ?_, fun h => ?_⟩
  · have hk : k < x.frm.length := by omega
    refine idxLoad hf4 rfl hk ?_
    simp only [go_sem]
    refine ⟨fun h => no _ e4 fun hd => by have := hd.2.1 _ (List.getElem_mem hk); omega, fun h1 => ⟨fun h => no _ e4 fun hd => by have := hd.2.1 _ (List.getElem_mem hk); omega, fun h2 => ?_⟩⟩
    refine bin_inc (by omega) (hK _ _ ⟨k + 1, rfl, by omega, rfl, fun j hj h2 => ?_⟩ (by simp [upTo, nthV, iOf]; omega))
    by_cases e : j = k
    · subst e; omega
    · exact hin j (by omega) h2
  · have hall : ∀ f ∈ x.frm, 0 ≤ f ∧ f < (i : Int) := fun f hf => by obtain ⟨j, hj, rfl⟩ := List.mem_iff_getElem.1 hf; exact hin j (by omega) hj
    refine hb4.kind ?_
    simp only [go_sem]
    refine ⟨fun h0 => ?_, fun h0 => ?_⟩
    · refine hb4.row fun rv5 hr5 => ?_
      refine callV_of (implRowValid_ok hr5 (by have := hsm.2; omega)) rfl ?_
      rintro _ w6 ⟨E6, rfl⟩
      refine hR _ _ ⟨e4.trans E6, ?_⟩
      congr 1
      exact decide_eq_decide.2 ⟨fun h => ⟨by omega, hall, by rw [if_pos h0]; exact h⟩, fun hd => by have := hd.2.2; rw [if_pos h0] at this; exact this⟩
    · refine hb4.row fun rv5 hr5 => ?_
      rw [ints_len hr5]
      simp only [go_sem]
      refine hR _ _ ⟨e4, ?_⟩
      congr 1
      refine decide_eq_decide.2 ⟨fun h => ⟨by omega, hall, by rw [if_neg h0]; exact List.eq_nil_of_length_eq_zero (by omega)⟩, fun hd => by have := hd.2.2; rw [if_neg h0] at this; simp [this]⟩
end Go.Proofs.Ytblgkpfnjlobjaa
