/- The pointer graph of a plan. -/
import Derived.Test.YtpfabjjeacdikaaNodes
import Derived.Test.YtpfabjjeacdikaaReader
import Derived.Test.YtpfabjjeacdikaaV10
namespace Go.Proofs.Ytpfabjjeacdikaa
open Go Go.V

theorem sl_pn : Try.prog.underlying T.sl_p_impl_planNode = some (.slice T.p_impl_planNode) := by kernel_rfl
theorem el_pn : ElemT Try.prog T.p_impl_planNode 1 8 (.pointer none) := ⟨by kernel_rfl, rfl, by decide⟩

def ptr (b : Nat) : Value := .pointer (some ⟨b, 0, none⟩)
/-- The pointers to the nodes with these numbers. -/
def ptrs (gs : Nat → Nat) (is : List Nat) : List Value := is.map fun i => ptr (gs i)
def setF {α : Type} (f : Nat → α) (i : Nat) (x : α) : Nat → α := fun j => if j = i then x else f j
theorem setF_same {α : Type} (f : Nat → α) (i : Nat) (x : α) : setF f i x i = x := by simp [setF]
theorem setF_ne {α : Type} (f : Nat → α) {i j : Nat} (x : α) (h : j ≠ i) : setF f i x j = f j := by simp [setF, h]

/-- A family of slices of pointers, each in a block of its own. -/
structure Slots (w : World) (lo n M : Nat) (gs : Nat → Nat) (sv : Nat → Value) (sl : Nat → List Nat) : Prop where
  own : ∀ s, s < n → Own w lo T.p_impl_planNode 1 (sv s) (sl s).length (ptrs gs (sl s))
  dis : ∀ s t k, s < n → t < n → (sv s).ownBlock = some k → (sv t).ownBlock = some k → s = t
  low : ∀ s j, s < n → j ∈ sl s → j < M

theorem Slots.keep {w w' : World} {lo n M : Nat} {gs : Nat → Nat} {sv : Nat → Value} {sl : Nat → List Nat} (h : Slots w lo n M gs sv sl) {S : Nat → Prop} (hc : Chg S w w')
    (hs : ∀ s k, s < n → (sv s).ownBlock = some k → ¬ S k) : Slots w' lo n M gs sv sl :=
  ⟨fun s hn => Own.keep (h.own s hn) hc fun k hk => hs s k hn hk, h.dis, h.low⟩
theorem Slots.app {w w' : World} {lo n M : Nat} {gs : Nat → Nat} {sv : Nat → Value} {sl : Nat → List Nat} (h : Slots w lo n M gs sv sl) {s e : Nat} (hs : s < n) (he : e < M) {v' : Value}
    (ho : Own w' lo T.p_impl_planNode 1 v' (sl s ++ [e]).length (ptrs gs (sl s ++ [e]))) (hc : Chg (blkIs (sv s)) w w') (hm : Moved w (sv s) v') :
    Slots w' lo n M gs (setF sv s v') (setF sl s (sl s ++ [e])) := by
  have old : ∀ t k, t < n → t ≠ s → (sv t).ownBlock = some k → v'.ownBlock ≠ some k := by
    intro t k ht hne hk he
    rcases hm k he with h1 | h1
    · exact hne (h.dis _ _ k ht hs hk h1)
    · have := (Own.lt (h.own t ht) hk).2; omega
  refine ⟨fun t ht => ?_, fun a b k ha hb h1 h2 => ?_, fun t j ht hj => ?_⟩
  · by_cases e : t = s
    · subst e; rw [setF_same, setF_same]; exact ho
    · rw [setF_ne _ _ e, setF_ne _ _ e]
      exact Own.keep (h.own t ht) hc fun k hk hb => e (h.dis _ _ k ht hs hk hb)
  · by_cases ea : a = s
    · by_cases eb : b = s
      · omega
      · subst ea
        rw [setF_same] at h1; rw [setF_ne _ _ eb] at h2
        exact absurd h1 (old b k hb eb h2)
    · by_cases eb : b = s
      · subst eb
        rw [setF_same] at h2; rw [setF_ne _ _ ea] at h1
        exact absurd h2 (old a k ha ea h1)
      · rw [setF_ne _ _ ea] at h1; rw [setF_ne _ _ eb] at h2
        exact h.dis _ _ k ha hb h1 h2
  · by_cases e : t = s
    · subst e
      rw [setF_same] at hj
      rcases List.mem_append.1 hj with hj | hj
      · exact h.low _ _ ht hj
      · simp at hj; subst hj; exact he
    · rw [setF_ne _ _ e] at hj; exact h.low _ _ ht hj

/-- The block of an owned slice of pointers holds pointers. -/
theorem own_tag {w : World} {lo n k : Nat} {v : Value} {cs : List Value} {e : Nat} (h : Own w lo e 1 v n cs) (hk : v.ownBlock = some k) : ∃ cur, w.heap[k]? = some (.cells cur e (0, 0)) := by
  rcases h.2 with ⟨rfl, _⟩ | ⟨g, cap, cur, rfl, _, hg, _⟩
  · cases hk
  · cases hk; exact ⟨cur, hg⟩
theorem tag_ne {w : World} {lo n k b : Nat} {v : Value} {cs : List Value} {e e' : Nat} {cur : Array Value} (h : Own w lo e 1 v n cs) (hk : v.ownBlock = some k) (hb : w.heap[b]? = some (.cells cur e' (0, 0))) (hne : e ≠ e') : k ≠ b := by
  rintro rfl
  obtain ⟨cur', h1⟩ := own_tag h hk
  rw [h1] at hb; cases hb; exact hne rfl

/-- M nodes of a graph: node i lies in block gs i; slot 0 is the list of the nodes, 2i + 1 what node i needs, 2i + 2 who needs it. -/
structure Graph (w : World) (lo M : Nat) (gs : Nat → Nat) (sv : Nat → Value) (sl : Nat → List Nat) : Prop where
  slots : Slots w lo (2 * M + 1) M gs sv sl
  node : ∀ i, i < M → lo ≤ gs i ∧ w.heap[gs i]? = some (.cells #[.int .i64 i, sv (2 * i + 1), sv (2 * i + 2)] T.impl_planNode (0, 0))
  inj : ∀ i j, i < M → j < M → gs i = gs j → i = j

theorem tags : T.p_impl_planNode ≠ T.impl_planNode := by decide

theorem Graph.keep {w w' : World} {lo M : Nat} {gs : Nat → Nat} {sv : Nat → Value} {sl : Nat → List Nat} (h : Graph w lo M gs sv sl) {S : Nat → Prop} (hc : Chg S w w') (hs : ∀ k, k < w.heap.size → lo ≤ k → ¬ S k) : Graph w' lo M gs sv sl :=
  ⟨h.slots.keep hc fun s k hn hk => by have := Own.lt (h.slots.own s hn) hk; exact hs k this.2 this.1, fun i hi => ⟨(h.node i hi).1, hc.at (h.node i hi).2 (hs _ (lt_of_at (h.node i hi).2) (h.node i hi).1)⟩, h.inj⟩
theorem Graph.ext {w w' : World} {lo M : Nat} {gs : Nat → Nat} {sv : Nat → Value} {sl : Nat → List Nat} (h : Graph w lo M gs sv sl) (hc : Ext w w') : Graph w' lo M gs sv sl := h.keep hc fun _ _ _ => id

/-- What stands at a slot of a node is replaced. -/
theorem Graph.app {w w1 w2 : World} {lo M : Nat} {gs : Nat → Nat} {sv : Nat → Value} {sl : Nat → List Nat} (h : Graph w lo M gs sv sl) {a o e : Nat} (ha : a < M) (ho2 : o < 2) (he : e < M) {v' : Value}
    (ho : Own w1 lo T.p_impl_planNode 1 v' (sl (2 * a + 1 + o) ++ [e]).length (ptrs gs (sl (2 * a + 1 + o) ++ [e]))) (hc : Chg (blkIs (sv (2 * a + 1 + o))) w w1) (hm : Moved w (sv (2 * a + 1 + o)) v')
    (hp : Put w1 (gs a) (.cells (#[.int .i64 a, sv (2 * a + 1), sv (2 * a + 2)].setIfInBounds (1 + o) v') T.impl_planNode (0, 0)) w2) :
    Graph w2 lo M gs (setF sv (2 * a + 1 + o) v') (setF sl (2 * a + 1 + o) (sl (2 * a + 1 + o) ++ [e])) := by
  have hs : 2 * a + 1 + o < 2 * M + 1 := by omega
  have h1 := h.slots.app hs he ho hc hm
  have hnode : ∀ i, i < M → w1.heap[gs i]? = some (.cells #[.int .i64 i, sv (2 * i + 1), sv (2 * i + 2)] T.impl_planNode (0, 0)) := fun i hi =>
    hc.at (h.node i hi).2 fun hb => tag_ne (h.slots.own _ hs) hb (h.node i hi).2 tags rfl
  refine ⟨h1.keep hp.chg fun s k hn hk e => ?_, fun i hi => ⟨(h.node i hi).1, ?_⟩, h.inj⟩
  · exact tag_ne (h1.own s hn) hk (hnode a ha) tags e
  · by_cases ei : i = a
    · subst ei
      rw [hp.here]
      match o, ho2 with
      | 0, _ => rw [Nat.add_zero, setF_same, setF_ne _ _ (by omega)]; rfl
      | 1, _ => rw [show 2 * i + 1 + 1 = 2 * i + 2 by omega, setF_same, setF_ne _ _ (by omega)]; rfl
    · rw [setF_ne _ _ (by omega), setF_ne _ _ (by omega)]
      exact hp.chg.at (hnode i hi) fun e => ei (h.inj _ _ hi ha e)

theorem ptrs_congr {gs gs' : Nat → Nat} {is : List Nat} (h : ∀ i ∈ is, gs i = gs' i) : ptrs gs is = ptrs gs' is := List.map_congr_left fun i hi => by rw [h i hi]

/-- A node more. -/
theorem Graph.new {w w' : World} {lo M : Nat} {gs : Nat → Nat} {sv : Nat → Value} {sl : Nat → List Nat} (h : Graph w lo M gs sv sl) (hlo : lo ≤ w.heap.size)
    (hn : New w (.cells #[.int .i64 M, .slice none 0 0, .slice none 0 0] T.impl_planNode (0, 0)) w') :
    Graph w' lo (M + 1) (setF gs M w.heap.size) (setF (setF sv (2 * M + 1) (.slice none 0 0)) (2 * M + 2) (.slice none 0 0)) (setF (setF sl (2 * M + 1) []) (2 * M + 2) []) := by
  have h' := h.ext hn.ext
  refine ⟨⟨fun s hs => ?_, fun s t k hs ht h1 h2 => ?_, fun s j hs hj => ?_⟩, fun i hi => ?_, fun i j hi hj e => ?_⟩
  · by_cases e2 : s = 2 * M + 2
    · subst e2; rw [setF_same, setF_same]; exact Own.nil
    · by_cases e1 : s = 2 * M + 1
      · subst e1; rw [setF_ne _ _ (by omega), setF_same, setF_ne _ _ (by omega), setF_same]; exact Own.nil
      · rw [setF_ne _ _ e2, setF_ne _ _ e1, setF_ne _ _ e2, setF_ne _ _ e1]
        rw [← ptrs_congr (gs := gs) fun i hi => by rw [setF_ne]; have := h.slots.low s i (by omega) hi; omega]
        exact h'.slots.own s (by omega)
  · have key : ∀ s, s < 2 * (M + 1) + 1 → (setF (setF sv (2 * M + 1) (.slice none 0 0)) (2 * M + 2) (.slice none 0 0) s).ownBlock = some k → s < 2 * M + 1 ∧ (sv s).ownBlock = some k := by
      intro s hs hk
      by_cases e2 : s = 2 * M + 2
      · subst e2; rw [setF_same] at hk; cases hk
      · by_cases e1 : s = 2 * M + 1
        · subst e1; rw [setF_ne _ _ (by omega), setF_same] at hk; cases hk
        · rw [setF_ne _ _ e2, setF_ne _ _ e1] at hk; exact ⟨by omega, hk⟩
    obtain ⟨a1, a2⟩ := key s hs h1
    obtain ⟨b1, b2⟩ := key t ht h2
    exact h.slots.dis _ _ k a1 b1 a2 b2
  · by_cases e2 : s = 2 * M + 2
    · subst e2; rw [setF_same] at hj; cases hj
    · by_cases e1 : s = 2 * M + 1
      · subst e1; rw [setF_ne _ _ (by omega), setF_same] at hj; cases hj
      · rw [setF_ne _ _ e2, setF_ne _ _ e1] at hj
        have := h.slots.low s j (by omega) hj; omega
  · by_cases e : i = M
    · subst e
      rw [setF_same, setF_ne _ _ (by omega), setF_same, setF_same]
      exact ⟨hlo, hn.here⟩
    · rw [setF_ne _ _ e, setF_ne _ _ (by omega), setF_ne _ _ (by omega), setF_ne _ _ (by omega), setF_ne _ _ (by omega)]
      exact h'.node i (by omega)
  · have hb : ∀ i, i < M → gs i ≠ w.heap.size := fun i hi => by have := lt_of_at (h.node i hi).2; omega
    by_cases ei : i = M
    · by_cases ej : j = M
      · omega
      · subst ei; rw [setF_same, setF_ne _ _ ej] at e; exact absurd e.symm (hb j (by omega))
    · by_cases ej : j = M
      · subst ej; rw [setF_same, setF_ne _ _ ei] at e; exact absurd e (hb i (by omega))
      · rw [setF_ne _ _ ei, setF_ne _ _ ej] at e; exact h.inj i j (by omega) (by omega) e

/-- An element of an owned slice of pointers. -/
theorem ptr_at {w : World} {lo e : Nat} {v : Value} {gs : Nat → Nat} {is : List Nat} (h : Own w lo e 1 v is.length (ptrs gs is)) {k : Nat} (hk : k < is.length) {K : Value → Prop} (hK : K (ptr (gs is[k]))) :
    IdxV 1 v (.int .i64 k) fun t => LoadV false 1 t w K := by
  obtain ⟨a, c, rfl, _, hl, hc⟩ := Own.cells h
  refine idx_i hc hl hk fun b off ha hcell => load_cell (hcell.trans ?_) hK
  simp [ptrs, hk]
theorem Own.lenV {w : World} {lo e n : Nat} {v : Value} {cs : List Value} (h : Own w lo e 1 v n cs) (K : Value → Prop) : LenV v K = K (.int .i64 n) := by
  obtain ⟨a, c, rfl, _⟩ := Own.cells h; rfl

section
variable {w : World} {lo M : Nat} {gs : Nat → Nat} {sv : Nat → Value} {sl : Nat → List Nat} (hg : Graph w lo M gs sv sl)
include hg
/-- The fields of a node. -/
theorem Graph.at_ {i : Nat} (hi : i < M) {K : Value → Prop} (hK : K (.int .i64 i)) : LoadV false 1 (.pointer (some ⟨gs i, 0 + 0, none⟩)) w K := load2 (v := .int .i64 i) (hg.node i hi).2 rfl hK
theorem Graph.needs {i : Nat} (hi : i < M) {K : Value → Prop} (hK : K (sv (2 * i + 1))) : LoadV false 1 (.pointer (some ⟨gs i, 0 + 1, none⟩)) w K := load2 (v := sv (2 * i + 1)) (hg.node i hi).2 rfl hK
theorem Graph.users {i : Nat} (hi : i < M) {K : Value → Prop} (hK : K (sv (2 * i + 2))) : LoadV false 1 (.pointer (some ⟨gs i, 0 + 2, none⟩)) w K := load2 (v := sv (2 * i + 2)) (hg.node i hi).2 rfl hK

theorem needsAlready_ok {a e : Nat} (ha : a < M) (he : e < M) (hN : (sl (2 * a + 1)).length ≤ 1048576) :
    Calls Try.prog N.impl_planNode_needsAlready #[ptr (gs a), ptr (gs e)] w (Ret fun r w' => w' = w ∧ r = .bool (decide (e ∈ sl (2 * a + 1)))) := by
  refine ret_k fun R hR => c_impl_planNode_needsAlready _ _ _ _ ?_
  simp only [go_sem, ptr]
  refine hg.needs ha ?_
  have hnv := hg.slots.own (2 * a + 1) (by omega)
  rw [Own.lenV hnv]
  refine loopV (fun s w' => ∃ k : Nat, s = [.int .i64 k] ∧ k ≤ (sl (2 * a + 1)).length ∧ w' = w ∧ ∀ j (h : j < k) (h1 : j < (sl (2 * a + 1)).length), (sl (2 * a + 1))[j] ≠ e) (upTo (sl (2 * a + 1)).length 0) ⟨0, rfl, by omega, rfl, fun j h => by omega⟩ ?_
  rintro s z _ K ⟨k, rfl, hk, rfl, hin⟩ hK
  simp only [go_sem]
  refine ⟨fun h => ?_, fun h => ?_⟩
  · have hk : k < (sl (2 * a + 1)).length := by omega
    refine ptr_at hnv hk ?_
    have hlow := hg.slots.low (2 * a + 1) _ (by omega) (List.getElem_mem hk)
    refine ⟨_, _, _, _, (hg.node _ hlow).2, (hg.node e he).2, ?_⟩
    have hdec : (decide ((⟨gs (sl (2 * a + 1))[k], 0, none⟩ : Addr) = ⟨gs e, 0, none⟩) != false) = decide ((sl (2 * a + 1))[k] = e) := by
      have hb : ∀ b : Bool, (b != false) = b := by decide
      rw [hb]
      refine decide_eq_decide.2 ⟨fun h => hg.inj _ _ hlow he (by simpa using h), fun h => by rw [h]⟩
    rw [hdec]
    simp only [go_sem]
    refine ⟨fun h => hR _ _ ⟨rfl, ?_⟩, fun h => ?_⟩
    · rw [decide_eq_true (h ▸ List.getElem_mem hk)]
    · refine bin_inc (by omega) (hK _ _ ⟨k + 1, rfl, by omega, rfl, fun j hj h2 => ?_⟩ (by simp [upTo, nthV, iOf]; omega))
      by_cases e : j = k
      · subst e; exact h
      · exact hin j (by omega) h2
  · refine hR _ _ ⟨rfl, ?_⟩
    rw [decide_eq_false]
    intro hm
    obtain ⟨j, hj, hje⟩ := List.mem_iff_getElem.1 hm
    exact hin j (by omega) hj hje
end

/-- One pointer is appended. -/
theorem app_ptr {w : World} {lo : Nat} {v : Value} {gs : Nat → Nat} {is : List Nat} {i : Nat} (h : Own w lo T.p_impl_planNode 1 v is.length (ptrs gs is)) (hl : is.length ≤ 1048576) (hlo : lo ≤ w.heap.size) {K : Value → World → Prop}
    (hK : ∀ v' w', Own w' lo T.p_impl_planNode 1 v' (is ++ [i]).length (ptrs gs (is ++ [i])) → Chg (blkIs v) w w' → Moved w v v' → K v' w') :
    BSliceV T.p_impl_planNode 1 1 #[.pointer none] [(0, ptr (gs i))] w fun t w1 => AppendV Try.prog T.sl_p_impl_planNode v t w1 K := by
  refine ⟨_, fill_int rfl, fun w1 hn => ?_⟩
  have h1 := Own.ext h hn.ext
  have hs := hn.ext.size
  refine appendV_own2 sl_pn el_pn h1 [ptr (gs i)] rfl (fun j u hj => ?_) (by simp [ptr, Value.oneCell']) (by omega) (by omega) (by omega) fun v' w' ho hc hm => hK v' w' ?_ (hn.ext.then hc) fun k hk => ?_
  · rw [addr_add, Nat.zero_add, cell_of_row w1 _ j _ _ (0, 0) hn.here]
    match j with
    | 0 => simpa [ptr, Value.cells] using hj
    | j + 1 => simp at hj
  · simpa [ptrs] using ho
  · rcases hm k hk with h | h
    · exact .inl h
    · right; omega

theorem own_slice {w : World} {lo e n : Nat} {v : Value} {cs : List Value} (h : Own w lo e 1 v n cs) : v.cells = #[v] ∧ v.oneCell' = true := by
  obtain ⟨a, c, rfl, _⟩ := Own.cells h
  exact ⟨rfl, rfl⟩

/-- What a link does to the lists. -/
def linkL (sl : Nat → List Nat) (a e : Nat) : Nat → List Nat := if e ∈ sl (2 * a + 1) then sl else setF (setF sl (2 * a + 1) (sl (2 * a + 1) ++ [e])) (2 * e + 2) (sl (2 * e + 2) ++ [a])

theorem link_ok {w : World} {lo M : Nat} {gs : Nat → Nat} {sv : Nat → Value} {sl : Nat → List Nat} (hg : Graph w lo M gs sv sl) {a e : Nat} (ha : a < M) (he : e < M) (hN : (sl (2 * a + 1)).length ≤ 1048576) (hU : (sl (2 * e + 2)).length ≤ 1048576) (hlo : lo ≤ w.heap.size) :
    Calls Try.prog N.impl_planNode_link #[ptr (gs a), ptr (gs e)] w (Ret fun _ w' => Chg (lo ≤ ·) w w' ∧ ∃ sv', sv' 0 = sv 0 ∧ Graph w' lo M gs sv' (linkL sl a e)) := by
  refine ret_k fun R hR => c_impl_planNode_link _ _ _ _ ?_
  refine callV_of (needsAlready_ok hg ha he hN) rfl ?_
  rintro _ w0 ⟨e0, rfl⟩
  have e0 := e0.symm
  subst e0
  simp only [go_sem]
  refine ⟨fun h => hR _ _ ⟨Chg.refl _ _, sv, rfl, by rw [linkL, if_pos h]; exact hg⟩, fun h => ?_⟩
  simp only [go_sem, ptr]
  refine hg.needs ha ?_
  refine app_ptr (i := e) (hg.slots.own (2 * a + 1) (by omega)) hN hlo fun v1 w1 ho1 hc1 hm1 => ?_
  have hslot := hg.slots.own (2 * a + 1) (by omega)
  have hna : w1.heap[gs a]? = some (.cells #[.int .i64 a, sv (2 * a + 1), sv (2 * a + 2)] T.impl_planNode (0, 0)) := hc1.at (hg.node a ha).2 fun hb => tag_ne hslot hb (hg.node a ha).2 tags rfl
  refine store_at hna (own_slice ho1).1 (own_slice ho1).2 (by simp) fun w2 hp2 => ?_
  have g2 := hg.app (o := 0) ha (by omega) he ho1 hc1 hm1 hp2
  simp only [Nat.add_zero] at g2
  refine g2.users he ?_
  have hl2 : (setF sl (2 * a + 1) (sl (2 * a + 1) ++ [e])) (2 * e + 2) = sl (2 * e + 2) := setF_ne _ _ (by omega)
  have hs2 := g2.slots.own (2 * e + 2) (by omega)
  have c2 : Chg (lo ≤ ·) w w2 := Chg.trans hc1 hp2.chg (fun k _ hk => (Own.lt hslot hk).1) (fun k _ hk => by have h' : k = gs a := hk; subst h'; exact (hg.node a ha).1)
  refine app_ptr (gs := gs) (i := a) hs2 (by rw [hl2]; exact hU) (Nat.le_trans hlo c2.size) fun v3 w3 ho3 hc3 hm3 => ?_
  have hne : w3.heap[gs e]? = some (.cells #[.int .i64 e, (setF sv (2 * a + 1) v1) (2 * e + 1), (setF sv (2 * a + 1) v1) (2 * e + 2)] T.impl_planNode (0, 0)) := hc3.at (g2.node e he).2 fun hb => tag_ne hs2 hb (g2.node e he).2 tags rfl
  refine store_at hne (own_slice ho3).1 (own_slice ho3).2 (by simp) fun w4 hp4 => ?_
  have g4 := g2.app (o := 1) (a := e) he (by omega) ha ho3 hc3 hm3 hp4
  refine hR _ _ ⟨?_, _, ?_, by rw [linkL, if_neg h, ← hl2]; exact g4⟩
  · exact (c2.andThen (hc3.mono fun k _ hk => (Own.lt hs2 hk).1)).andThen (hp4.chg.mono fun k _ hk => by have h' : k = gs e := hk; subst h'; exact (hg.node e he).1)
  · rw [setF_ne _ _ (by omega), setF_ne _ _ (by omega)]
end Go.Proofs.Ytpfabjjeacdikaa
