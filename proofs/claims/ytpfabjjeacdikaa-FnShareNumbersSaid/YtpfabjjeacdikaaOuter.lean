/- Plans that grow by append. -/
import Derived.Test.YtpfabjjeacdikaaFam
namespace Go.Proofs.Ytpfabjjeacdikaa
open Go Go.V

theorem sl_node : Try.prog.underlying T.sl_impl_Node = some (.slice T.impl_Node) := by kernel_rfl
theorem el_node : ElemT Try.prog T.impl_Node 3 56 (.agg #[.int .i64 0, .slice none 0 0, .slice none 0 0]) := ⟨by kernel_rfl, rfl, by decide⟩

/-- The cells of a plan's array, one behind the other. -/
def flatN (p : List Nd) (fv rv : Nat → Value) : Nat → List Value
  | 0 => []
  | n + 1 => flatN p fv rv n ++ [.int .i64 (nd p n).kind, fv n, rv n]
def flat (p : List Nd) (fv rv : Nat → Value) : List Value := flatN p fv rv p.length
theorem flatN_len (p : List Nd) (fv rv : Nat → Value) (n : Nat) : (flatN p fv rv n).length = 3 * n := by
  induction n with
  | zero => rfl
  | succ n ih => simp [flatN, ih]; omega
theorem flatN_congr {p q : List Nd} {fv rv fv' rv' : Nat → Value} {n : Nat} (h : ∀ i, i < n → (nd p i).kind = (nd q i).kind ∧ fv i = fv' i ∧ rv i = rv' i) : flatN p fv rv n = flatN q fv' rv' n := by
  induction n with
  | zero => rfl
  | succ n ih =>
    obtain ⟨h1, h2, h3⟩ := h n (by omega)
    rw [flatN, flatN, ih fun i hi => h i (by omega), h1, h2, h3]
theorem flatN_get {p : List Nd} {fv rv : Nat → Value} {n i : Nat} (h : i < n) : (flatN p fv rv n)[3 * i]? = some (.int .i64 (nd p i).kind) ∧ (flatN p fv rv n)[3 * i + 1]? = some (fv i) ∧ (flatN p fv rv n)[3 * i + 2]? = some (rv i) := by
  induction n with
  | zero => omega
  | succ n ih =>
    by_cases e : i = n
    · subst e
      rw [flatN]
      have hl := flatN_len p fv rv i
      refine ⟨?_, ?_, ?_⟩
      · rw [List.getElem?_append_right (by omega), hl]; simp
      · rw [List.getElem?_append_right (by omega), hl, show 3 * i + 1 - 3 * i = 1 by omega]; rfl
      · rw [List.getElem?_append_right (by omega), hl, show 3 * i + 2 - 3 * i = 2 by omega]; rfl
    · have := ih (by omega)
      have hl := flatN_len p fv rv n
      rw [flatN, List.getElem?_append_left (by omega), List.getElem?_append_left (by omega), List.getElem?_append_left (by omega)]
      exact this
theorem flat_snoc {p : List Nd} {fv rv : Nat → Value} {x : Nd} {f r : Value} : flat (p ++ [x]) (setF fv p.length f) (setF rv p.length r) = flat p fv rv ++ [.int .i64 x.kind, f, r] := by
  unfold flat
  rw [List.length_append, List.length_singleton, flatN, nd_snoc, setF_same, setF_same]
  rw [flatN_congr (q := p) (fv' := fv) (rv' := rv) fun i hi => ⟨by rw [nd_snoc_lt hi], setF_ne _ _ (by omega), setF_ne _ _ (by omega)⟩]

/-- An owned slice of nodes, as cells. -/
theorem Own.nodes {w : World} {lo n : Nat} {v : Value} {p : List Nd} {fv rv : Nat → Value} (h : Own w lo T.impl_Node 3 v n (flat p fv rv)) (hn : n = p.length) :
    ∃ a c, v = .slice a p.length c ∧ p.length ≤ c ∧ (p ≠ [] → ∃ b cur, a = some ⟨b, 0, none⟩ ∧ lo ≤ b ∧ w.heap[b]? = some (.cells cur T.impl_Node (0, 0)) ∧ 0 + 3 * p.length ≤ cur.size ∧ FCells cur 0 p fv rv p.length) := by
  subst hn
  rcases h.2 with ⟨rfl, h0⟩ | ⟨g, cap, cur, rfl, hb, hg, hnc, hcm, hcs, htake⟩
  · refine ⟨none, 0, by rw [h0], by omega, fun hne => absurd (List.eq_nil_of_length_eq_zero h0) hne⟩
  · refine ⟨_, cap, rfl, hnc, fun _ => ⟨g, cur, rfl, hb, hg, by omega, fun i hi => ?_⟩⟩
    have hgot : ∀ (j : Nat) (u : Value), (flat p fv rv)[j]? = some u → cur[j]? = some u := by
      intro j u hj
      rw [← htake, List.getElem?_take] at hj
      split at hj
      · simpa using hj
      · cases hj
    obtain ⟨h1, h2, h3⟩ := flatN_get (p := p) (fv := fv) (rv := rv) hi
    simp only [Nat.zero_add]
    exact ⟨hgot _ _ h1, hgot _ _ h2, hgot _ _ h3⟩
theorem Own.lenN {w : World} {lo e size n : Nat} {v : Value} {cs : List Value} (h : Own w lo e size v n cs) (K : Value → Prop) : LenV v K = K (.int .i64 n) := by
  rcases h.2 with ⟨rfl, rfl⟩ | ⟨g, cap, cur, rfl, _⟩ <;> rfl

/-- One node is appended. -/
theorem app_node {w : World} {lo : Nat} {v : Value} {p : List Nd} {fv rv : Nat → Value} (ho : Own w lo T.impl_Node 3 v p.length (flat p fv rv)) {x : Nd} {f r : Value} {k : Int} (hk : k = x.kind) (hf : f.cells = #[f] ∧ f.oneCell' = true) (hr : r.cells = #[r] ∧ r.oneCell' = true)
    (hn : p.length ≤ 1048576) (hlo : lo ≤ w.heap.size) {K : Value → World → Prop}
    (hK : ∀ v' w', Own w' lo T.impl_Node 3 v' (p ++ [x]).length (flat (p ++ [x]) (setF fv p.length f) (setF rv p.length r)) → Chg (blkIs v) w w' → K v' w') :
    BSliceV T.impl_Node 3 1 #[.int .i64 0, .slice none 0 0, .slice none 0 0] [(0, .agg #[.int .i64 k, f, r])] w fun t w1 => AppendV Try.prog T.sl_impl_Node v t w1 K := by
  subst hk
  refine app1 sl_node el_node ho (news := [.int .i64 x.kind, f, r]) rfl ?_ rfl ?_ (by omega) (by omega) hlo fun v' w' ho' hc => hK v' w' ?_ hc
  · simp [Instr.fill, rowOf, Value.cells]
    refine Array.ext (by simp) fun i hi _ => ?_
    simp at hi
    match i, hi with
    | 0, _ => simp
    | 1, _ => simp
    | 2, _ => simp
  · intro u hu
    simp at hu
    rcases hu with rfl | rfl | rfl
    · rfl
    · exact hf.2
    · exact hr.2
  · rw [flat_snoc]; simpa using ho'

theorem FInts.cellsV {w : World} {B : Nat → Prop} {v : Value} {xs : List Int} (h : FInts w B v xs) : v.cells = #[v] ∧ v.oneCell' = true := ints_cells h.ints

/-- A plan in memory of its own; of its lists nothing is said but that they lie in such memory. -/
structure DPlan (w : World) (lo : Nat) (v : Value) (p : List Nd) : Prop where
  out : ∃ fv rv, Own w lo T.impl_Node 3 v p.length (flat p fv rv) ∧ p.length ≤ 1048576 ∧ ∀ i, i < p.length → FInts w (lo ≤ ·) (fv i) (nd p i).frm ∧ FInts w (lo ≤ ·) (rv i) (nd p i).row ∧ Sml (nd p i)
theorem DPlan.plan {w : World} {lo : Nat} {v : Value} {p : List Nd} (h : DPlan w lo v p) : PlanV w v p := by
  obtain ⟨fv, rv, ho, hl, hin⟩ := h.out
  obtain ⟨a, c, hv, hc, hr⟩ := Own.nodes ho rfl
  refine ⟨a, c, hv, hc, hl, fun i x hi => ?_⟩
  obtain ⟨hlt, rfl⟩ := List.getElem?_eq_some_iff.1 hi
  obtain ⟨b, cur, ha, _, hb, _, hcell⟩ := hr (List.ne_nil_of_length_pos (by omega))
  obtain ⟨c1, c2, c3⟩ := hcell i hlt
  obtain ⟨h1, h2, h3⟩ := hin i hlt
  rw [nd_get hlt] at c1 h1 h2 h3
  exact ⟨b, 0, fv i, rv i, ha, by rw [cell_of_row w b _ _ _ (0, 0) hb]; exact c1, by rw [cell_of_row w b _ _ _ (0, 0) hb]; exact c2, by rw [cell_of_row w b _ _ _ (0, 0) hb]; exact c3, h1.ints, h2.ints, h3⟩
theorem DPlan.keep {w w' : World} {lo : Nat} {v : Value} {p : List Nd} (h : DPlan w lo v p) {S : Nat → Prop} (hc : Chg S w w') (hs : ∀ k, lo ≤ k → ¬ S k) : DPlan w' lo v p := by
  obtain ⟨fv, rv, ho, hl, hin⟩ := h.out
  exact ⟨fv, rv, Own.keep ho hc fun k hk => hs k (Own.lt ho hk).1, hl, fun i hi => ⟨(hin i hi).1.keep hc fun k hk => hs k hk, (hin i hi).2.1.keep hc fun k hk => hs k hk, (hin i hi).2.2⟩⟩
theorem DPlan.ext {w w' : World} {lo : Nat} {v : Value} {p : List Nd} (h : DPlan w lo v p) (hc : Ext w w') : DPlan w' lo v p := h.keep hc fun _ _ => id
theorem DPlan.nil {w w' : World} {lo : Nat} {z : Array Value} (hn : New w (.cells (rowOf z (0 * 3)) T.impl_Node (0, 0)) w') (hl : lo ≤ w.heap.size) : DPlan w' lo (.slice (some ⟨w.heap.size, 0, none⟩) 0 0) [] :=
  ⟨fun _ => .slice none 0 0, fun _ => .slice none 0 0, Own.empty hn hl, by simp, fun i hi => by simp at hi⟩
theorem DPlan.nil0 {w : World} {lo : Nat} : DPlan w lo (.slice none 0 0) [] :=
  ⟨fun _ => .slice none 0 0, fun _ => .slice none 0 0, Own.nil, by simp, fun i hi => by simp at hi⟩
theorem DPlan.blk {w : World} {lo k : Nat} {v : Value} {p : List Nd} (h : DPlan w lo v p) (hk : v.ownBlock = some k) : lo ≤ k ∧ k < w.heap.size := by
  obtain ⟨_, _, ho, _⟩ := h.out
  exact Own.lt ho hk

theorem own_tagN {w : World} {lo n k size : Nat} {v : Value} {cs : List Value} {e : Nat} (h : Own w lo e size v n cs) (hk : v.ownBlock = some k) : ∃ cur, w.heap[k]? = some (.cells cur e (0, 0)) := by
  rcases h.2 with ⟨rfl, _⟩ | ⟨g, cap, cur, rfl, _, hg, _⟩
  · cases hk
  · cases hk; exact ⟨cur, hg⟩
/-- Lists of numbers stay as they were when a slice of nodes grows. -/
theorem FInts.beside {w w' : World} {lo n : Nat} {B : Nat → Prop} {v u : Value} {xs : List Int} {cs : List Value} (h : FInts w B u xs) (ho : Own w lo T.impl_Node 3 v n cs) (hc : Chg (blkIs v) w w') : FInts w' B u xs := by
  obtain ⟨a, c, hv, hc', hr⟩ := h.out
  refine ⟨a, c, hv, hc', fun hne => ?_⟩
  obtain ⟨b, off, cur, ha, h1, hb, r⟩ := hr hne
  refine ⟨b, off, cur, ha, h1, hc.at hb fun hk => ?_, r⟩
  obtain ⟨cur', hb'⟩ := own_tagN ho hk
  rw [hb] at hb'; cases hb'
theorem Inner.beside {w w' : World} {lo n : Nat} {B : Nat → Prop} {v : Value} {p : List Nd} {bs : Nat → Nat} {fv rv : Nat → Value} {cs : List Value} (h : Inner w B p bs fv rv) (ho : Own w lo T.impl_Node 3 v n cs) (hc : Chg (blkIs v) w w') : Inner w' B p bs fv rv :=
  ⟨fun i hi => ⟨(h.ints i hi).1.beside ho hc, (h.ints i hi).2.1.beside ho hc, (h.ints i hi).2.2⟩, h.inB, h.inj⟩

/-- A node with lists in memory of its own is appended to such a plan. -/
theorem DPlan.push {w : World} {lo : Nat} {v : Value} {p : List Nd} (h : DPlan w lo v p) {x : Nd} {f r : Value} {k : Int} (hk : k = x.kind) (hf : FInts w (lo ≤ ·) f x.frm) (hr : FInts w (lo ≤ ·) r x.row) (hs : Sml x)
    (hn : p.length < 1048576) (hlo : lo ≤ w.heap.size) {K : Value → World → Prop} (hK : ∀ v' w', DPlan w' lo v' (p ++ [x]) → Chg (blkIs v) w w' → K v' w') :
    BSliceV T.impl_Node 3 1 #[.int .i64 0, .slice none 0 0, .slice none 0 0] [(0, .agg #[.int .i64 k, f, r])] w fun t w1 => AppendV Try.prog T.sl_impl_Node v t w1 K := by
  obtain ⟨fv, rv, ho, hl, hin⟩ := h.out
  refine app_node (x := x) ho hk hf.cellsV hr.cellsV (by omega) hlo fun v' w' ho' hc => hK v' w' ⟨_, _, ho', by simp; omega, fun i hi => ?_⟩ hc
  by_cases e : i = p.length
  · subst e
    rw [setF_same, setF_same, nd_snoc]
    exact ⟨hf.beside ho hc, hr.beside ho hc, hs⟩
  · have hi' : i < p.length := by simp at hi; omega
    rw [setF_ne _ _ e, setF_ne _ _ e, nd_snoc_lt hi']
    exact ⟨(hin i hi').1.beside ho hc, (hin i hi').2.1.beside ho hc, (hin i hi').2.2⟩

/-- A plan whose lists lie in blocks of their own, out of a slice that has grown. -/
theorem FPlan.of_own {w : World} {lo : Nat} {B : Nat → Prop} {v : Value} {p : List Nd} {bs : Nat → Nat} {fv rv : Nat → Value} (ho : Own w lo T.impl_Node 3 v p.length (flat p fv rv)) (hin : Inner w B p bs fv rv) (hl : p.length ≤ 1048576) (hB : ∀ b, lo ≤ b → B b) : FPlan w B v p := by
  obtain ⟨a, c, hv, hc, hr⟩ := Own.nodes ho rfl
  refine ⟨a, c, bs, fv, rv, hv, hc, hl, hin, fun hne => ?_⟩
  obtain ⟨b, cur, ha, hlo, hb, hsz, hcell⟩ := hr hne
  exact ⟨b, 0, cur, ha, hB b hlo, hb, hsz, hcell⟩
end Go.Proofs.Ytpfabjjeacdikaa
