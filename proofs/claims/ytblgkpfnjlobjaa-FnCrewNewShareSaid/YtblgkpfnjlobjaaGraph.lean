/- The pointer graph of a plan. -/
import Derived.Test.YtblgkpfnjlobjaaPlan0
import Derived.Test.YtblgkpfnjlobjaaBasics
import Derived.Test.YtblgkpfnjlobjaaV10
import Derived.Test.YtblgkpfnjlobjaaCA
namespace Go.Proofs.Ytblgkpfnjlobjaa
open Go Go.V

theorem sl_pn : Try.prog.underlying T.sl_p_impl_planNode = some (.slice T.p_impl_planNode) := by kernel_rfl
theorem el_pn : ElemT Try.prog T.p_impl_planNode 1 8 (.pointer none) := ⟨by kernel_rfl, rfl, by decide⟩

def ptr (b : Nat) : Value := .pointer (some ⟨b, 0, none⟩)
/-- The pointers to the nodes with these numbers. -/
def ptrs (gs : Nat → Nat) (is : List Nat) : List Value := is.map fun i => ptr (gs i)
def setF {α : Type} (f : Nat → α) (i : Nat) (x : α) : Nat → α := fun j => if j = i then x else f j
theorem setF_same {α : Type} (f : Nat → α) (i : Nat) (x : α) : setF f i x i = x := by simp [setF]
theorem setF_ne {α : Type} (f : Nat → α) {i j : Nat} (x : α) (h : j ≠ i) : setF f i x j = f j := by simp [setF, h]

/-- A family of slices of pointers, each in a block of its own. -/
structure Slots (w : World) (lo n M : Nat) (gs : Nat → Nat) (sv : Nat → Value) (sl : Nat → List Nat) : Prop where
  own : ∀ s, s < n → Own w lo T.p_impl_planNode 1 (sv s) (sl s).length (ptrs gs (sl s))
  dis : ∀ s t k, s < n → t < n → (sv s).ownBlock = some k → (sv t).ownBlock = some k → s = t
  low : ∀ s j, s < n → j ∈ sl s → j < M

theorem Slots.keep {w w' : World} {lo n M : Nat} {gs : Nat → Nat} {sv : Nat → Value} {sl : Nat → List Nat} (h : Slots w lo n M gs sv sl) {S : Nat → Prop} (hc : Chg S w w')
    (hs : ∀ s k, s < n → (sv s).ownBlock = some k → ¬ S k) : Slots w' lo n M gs sv sl :=
  ⟨fun s hn => Own.keep (h.own s hn) hc fun k hk => hs s k hn hk, h.dis, h.low⟩
theorem Slots.app {w w' : World} {lo n M : Nat} {gs : Nat → Nat} {sv : Nat → Value} {sl : Nat → List Nat} (h : Slots w lo n M gs sv sl) {s e : Nat} (hs : s < n) (he : e < M) {v' : Value}
    (ho : Own w' lo T.p_impl_planNode 1 v' (sl s ++ [e]).length (ptrs gs (sl s ++ [e]))) (hc : Chg (blkIs (sv s)) w w') (hm : Moved w (sv s) v') :
    Slots w' lo n M gs (setF sv s v') (setF sl s (sl s ++ [e])) := by
  have old : ∀ t k, t < n → t ≠ s → (sv t).ownBlock = some k → v'.ownBlock ≠ some k := by
    intro t k ht hne hk he
    rcases hm k he with h1 | h1
    · exact hne (h.dis _ _ k ht hs hk h1)
    · have := (Own.lt (h.own t ht) hk).2; omega
  refine ⟨fun t ht => ?_, fun a b k ha hb h1 h2 => ?_, fun t j ht hj => ?_⟩
  · by_cases e : t = s
    · subst e; rw [setF_same, setF_same]; exact ho
    · rw [setF_ne _ _ e, setF_ne _ _ e]
      exact Own.keep (h.own t ht) hc fun k hk hb => e (h.dis _ _ k ht hs hk hb)
  · by_cases ea : a = s
    · by_cases eb : b = s
      · omega
      · subst ea
        rw [setF_same] at h1; rw [setF_ne _ _ eb] at h2
        exact absurd h1 (old b k hb eb h2)
    · by_cases eb : b = s
      · subst eb
        rw [setF_same] at h2; rw [setF_ne _ _ ea] at h1
        exact absurd h2 (old a k ha ea h1)
      · rw [setF_ne _ _ ea] at h1; rw [setF_ne _ _ eb] at h2
        exact h.dis _ _ k ha hb h1 h2
  · by_cases e : t = s
    · subst e
      rw [setF_same] at hj
      rcases List.mem_append.1 hj with hj | hj
      · exact h.low _ _ ht hj
      · simp at hj; subst hj; exact he
    · rw [setF_ne _ _ e] at hj; exact h.low _ _ ht hj

/-- The block of an owned slice of pointers holds pointers. -/
theorem own_tag {w : World} {lo n k : Nat} {v : Value} {cs : List Value} {e : Nat} (h : Own w lo e 1 v n cs) (hk : v.ownBlock = some k) : ∃ cur, w.heap[k]? = some (.cells cur e (0, 0)) := by
  rcases h.2 with ⟨rfl, _⟩ | ⟨g, cap, cur, rfl, _, hg, _⟩
  · cases hk
  · cases hk; exact ⟨cur, hg⟩
theorem tag_ne {w : World} {lo n k b : Nat} {v : Value} {cs : List Value} {e e' : Nat} {cur : Array Value} (h : Own w lo e 1 v n cs) (hk : v.ownBlock = some k) (hb : w.heap[b]? = some (.cells cur e' (0, 0))) (hne : e ≠ e') : k ≠ b := by
  rintro rfl
  obtain ⟨cur', h1⟩ := own_tag h hk
  rw [h1] at hb; cases hb; exact hne rfl

/-- M nodes of a graph: node i lies in block gs i; slot 0 is the list of the nodes, 2i + 1 what node i needs, 2i + 2 who needs it. -/
structure Graph (w : World) (lo M : Nat) (gs : Nat → Nat) (sv : Nat → Value) (sl : Nat → List Nat) : Prop where
  slots : Slots w lo (2 * M + 1) M gs sv sl
  node : ∀ i, i < M → lo ≤ gs i ∧ w.heap[gs i]? = some (.cells #[.int .i64 i, sv (2 * i + 1), sv (2 * i + 2)] T.impl_planNode (0, 0))
  inj : ∀ i j, i < M → j < M → gs i = gs j → i = j

theorem tags : T.p_impl_planNode ≠ T.impl_planNode := by decide

theorem Graph.keep {w w' : World} {lo M : Nat} {gs : Nat → Nat} {sv : Nat → Value} {sl : Nat → List Nat} (h : Graph w lo M gs sv sl) {S : Nat → Prop} (hc : Chg S w w') (hs : ∀ k, k < w.heap.size → lo ≤ k → ¬ S k) : Graph w' lo M gs sv sl :=
  ⟨h.slots.keep hc fun s k hn hk => by have := Own.lt (h.slots.own s hn) hk; exact hs k this.2 this.1, fun i hi => ⟨(h.node i hi).1, hc.at (h.node i hi).2 (hs _ (lt_of_at (h.node i hi).2) (h.node i hi).1)⟩, h.inj⟩
theorem Graph.ext {w w' : World} {lo M : Nat} {gs : Nat → Nat} {sv : Nat → Value} {sl : Nat → List Nat} (h : Graph w lo M gs sv sl) (hc : Ext w w') : Graph w' lo M gs sv sl := h.keep hc fun _ _ _ => id

/-- What stands at a slot of a node is replaced. -/
theorem Graph.app {w w1 w2 : World} {lo M : Nat} {gs : Nat → Nat} {sv : Nat → Value} {sl : Nat → List Nat} (h : Graph w lo M gs sv sl) {a o e : Nat} (ha : a < M) (ho2 : o < 2) (he : e < M) {v' : Value}
    (ho : Own w1 lo T.p_impl_planNode 1 v' (sl (2 * a + 1 + o) ++ [e]).length (ptrs gs (sl (2 * a + 1 + o) ++ [e]))) (hc : Chg (blkIs (sv (2 * a + 1 + o))) w w1) (hm : Moved w (sv (2 * a + 1 + o)) v')
    (hp : Put w1 (gs a) (.cells (#[.int .i64 a, sv (2 * a + 1), sv (2 * a + 2)].setIfInBounds (1 + o) v') T.impl_planNode (0, 0)) w2) :
    Graph w2 lo M gs (setF sv (2 * a + 1 + o) v') (setF sl (2 * a + 1 + o) (sl (2 * a + 1 + o) ++ [e])) := by
  have hs : 2 * a + 1 + o < 2 * M + 1 := by omega
  have h1 := h.slots.app hs he ho hc hm
  have hnode : ∀ i, i < M → w1.heap[gs i]? = some (.cells #[.int .i64 i, sv (2 * i + 1), sv (2 * i + 2)] T.impl_planNode (0, 0)) := fun i hi =>
    hc.at (h.node i hi).2 fun hb => tag_ne (h.slots.own _ hs) hb (h.node i hi).2 tags rfl
  refine ⟨h1.keep hp.chg fun s k hn hk e => ?_, fun i hi => ⟨(h.node i hi).1, ?_⟩, h.inj⟩
  · exact tag_ne (h1.own s hn) hk (hnode a ha) tags e
  · by_cases ei : i = a
    · subst ei
      rw [hp.here]
      match o, ho2 with
      | 0, _ => rw [Nat.add_zero, setF_same, setF_ne _ _ (by omega)]; rfl
      | 1, _ => rw [show 2 * i + 1 + 1 = 2 * i + 2 by omega, setF_same, setF_ne _ _ (by omega)]; rfl
    · rw [setF_ne _ _ (by omega), setF_ne _ _ (by omega)]
      exact hp.chg.at (hnode i hi) fun e => ei (h.inj _ _ hi ha e)

theorem ptrs_congr {gs gs' : Nat → Nat} {is : List Nat} (h : ∀ i ∈ is, gs i = gs' i) : ptrs gs is = ptrs gs' is := List.map_congr_left fun i hi => by rw [h i hi]

/-- A node more. -/
theorem Graph.new {w w' : World} {lo M : Nat} {gs : Nat → Nat} {sv : Nat → Value} {sl : Nat → List Nat} (h : Graph w lo M gs sv sl) (hlo : lo ≤ w.heap.size)
    (hn : New w (.cells #[.int .i64 M, .slice none 0 0, .slice none 0 0] T.impl_planNode (0, 0)) w') :
    Graph w' lo (M + 1) (setF gs M w.heap.size) (setF (setF sv (2 * M + 1) (.slice none 0 0)) (2 * M + 2) (.slice none 0 0)) (setF (setF sl (2 * M + 1) []) (2 * M + 2) []) := by
  have h' := h.ext hn.ext
  refine ⟨⟨fun s hs => ?_, fun s t k hs ht h1 h2 => ?_, fun s j hs hj => ?_⟩, fun i hi => ?_, fun i j hi hj e => ?_⟩
  · by_cases e2 : s = 2 * M + 2
    · subst e2; rw [setF_same, setF_same]; exact Own.nil
    · by_cases e1 : s = 2 * M + 1
      · subst e1; rw [setF_ne _ _ (by omega), setF_same, setF_ne _ _ (by omega), setF_same]; exact Own.nil
      · rw [setF_ne _ _ e2, setF_ne _ _ e1, setF_ne _ _ e2, setF_ne _ _ e1]
        rw [← ptrs_congr (gs := gs) fun i hi => by rw [setF_ne]; have := h.slots.low s i (by omega) hi; omega]
        exact h'.slots.own s (by omega)
  · have key : ∀ s, s < 2 * (M + 1) + 1 → (setF (setF sv (2 * M + 1) (.slice none 0 0)) (2 * M + 2) (.slice none 0 0) s).ownBlock = some k → s < 2 * M + 1 ∧ (sv s).ownBlock = some k := by
      intro s hs hk
      by_cases e2 : s = 2 * M + 2
      · subst e2; rw [setF_same] at hk; cases hk
      · by_cases e1 : s = 2 * M + 1
        · subst e1; rw [setF_ne _ _ (by omega), setF_same] at hk; cases hk
        · rw [setF_ne _ _ e2, setF_ne _ _ e1] at hk; exact ⟨by omega, hk⟩
    obtain ⟨a1, a2⟩ := key s hs h1
    obtain ⟨b1, b2⟩ := key t ht h2
    exact h.slots.dis _ _ k a1 b1 a2 b2
  · by_cases e2 : s = 2 * M + 2
    · subst e2; rw [setF_same] at hj; cases hj
    · by_cases e1 : s = 2 * M + 1
      · subst e1; rw [setF_ne _ _ (by omega), setF_same] at hj; cases hj
      · rw [setF_ne _ _ e2, setF_ne _ _ e1] at hj
        have := h.slots.low s j (by omega) hj; omega
  · by_cases e : i = M
    · subst e
      rw [setF_same, setF_ne _ _ (by omega), setF_same, setF_same]
      exact ⟨hlo, hn.here⟩
    · rw [setF_ne _ _ e, setF_ne _ _ (by omega), setF_ne _ _ (by omega), setF_ne _ _ (by omega), setF_ne _ _ (by omega)]
      exact h'.node i (by omega)
  · have hb : ∀ i, i < M → gs i ≠ w.heap.size := fun i hi => by have := lt_of_at (h.node i hi).2; omega
    by_cases ei : i = M
    · by_cases ej : j = M
      · omega
      · subst ei; rw [setF_same, setF_ne _ _ ej] at e; exact absurd e.symm (hb j (by omega))
    · by_cases ej : j = M
      · subst ej; rw [setF_same, setF_ne _ _ ei] at e; exact absurd e (hb i (by omega))
      · rw [setF_ne _ _ ei, setF_ne _ _ ej] at e; exact h.inj i j (by omega) (by omega) e

/-- An element of an owned slice of pointers. -/
theorem ptr_at {w : World} {lo e : Nat} {v : Value} {gs : Nat → Nat} {is : List Nat} (h : Own w lo e 1 v is.length (ptrs gs is)) {k : Nat} (hk : k < is.length) {K : Value → Prop} (hK : K (ptr (gs is[k]))) :
    IdxV 1 v (.int .i64 k) fun t => LoadV false 1 t w K := by
  obtain ⟨a, c, rfl, _, hl, hc⟩ := Own.cells h
  refine idx_i hc hl hk fun b off ha hcell => load_cell (hcell.trans ?_) hK
  simp [ptrs, hk]
theorem Own.lenV {w : World} {lo e n : Nat} {v : Value} {cs : List Value} (h : Own w lo e 1 v n cs) (K : Value → Prop) : LenV v K = K (.int .i64 n) := by
  obtain ⟨a, c, rfl, _⟩ := Own.cells h; rfl

section
variable {w : World} {lo M : Nat} {gs : Nat → Nat} {sv : Nat → Value} {sl : Nat → List Nat} (hg : Graph w lo M gs sv sl)
include hg
/-- The fields of a node. -/
theorem Graph.at_ {i : Nat} (hi : i < M) {K : Value → Prop} (hK : K (.int .i64 i)) : LoadV false 1 (.pointer (some ⟨gs i, 0 + 0, none⟩)) w K := load2 (v := .int .i64 i) (hg.node i hi).2 rfl hK
theorem Graph.needs {i : Nat} (hi : i < M) {K : Value → Prop} (hK : K (sv (2 * i + 1))) : LoadV false 1 (.pointer (some ⟨gs i, 0 + 1, none⟩)) w K := load2 (v := sv (2 * i + 1)) (hg.node i hi).2 rfl hK
theorem Graph.users {i : Nat} (hi : i < M) {K : Value → Prop} (hK : K (sv (2 * i + 2))) : LoadV false 1 (.pointer (some ⟨gs i, 0 + 2, none⟩)) w K := load2 (v := sv (2 * i + 2)) (hg.node i hi).2 rfl hK

theorem needsAlready_ok {a e : Nat} (ha : a < M) (he : e < M) (hN : (sl (2 * a + 1)).length ≤ 1048576) :
    Calls Try.prog N.impl_planNode_needsAlready #[ptr (gs a), ptr (gs e)] w (Ret fun r w' => w' = w ∧ r = .bool (decide (e ∈ sl (2 * a + 1)))) := by
  refine ret_k fun R hR => c_impl_planNode_needsAlready _ _ _ _ ?_
  simp only [go_sem, ptr]
  refine hg.needs ha ?_
  have hnv := hg.slots.own (2 * a + 1) (by omega)
  rw [Own.lenV hnv]
  refine loopV (fun s w' => ∃ k : Nat, s = [.int .i64 k] ∧ k ≤ (sl (2 * a + 1)).length ∧ w' = w ∧ ∀ j (h : j < k) (h1 : j < (sl (2 * a + 1)).length), (sl (2 * a + 1))[j] ≠ e) (upTo (sl (2 * a + 1)).length 0) ⟨0, rfl, by omega, rfl, fun j h => by omega⟩ ?_
  rintro s z _ K ⟨k, rfl, hk, rfl, hin⟩ hK
  simp only [go_sem]
  refine ⟨fun h => ?_, fun h => ?_⟩
  · have hk : k < (sl (2 * a + 1)).length := by omega
    refine ptr_at hnv hk ?_
    have hlow := hg.slots.low (2 * a + 1) _ (by omega) (List.getElem_mem hk)
    refine ⟨_, _, _, _, (hg.node _ hlow).2, (hg.node e he).2, ?_⟩
    have hdec : (decide ((⟨gs (sl (2 * a + 1))[k], 0, none⟩ : Addr) = ⟨gs e, 0, none⟩) != false) = decide ((sl (2 * a + 1))[k] = e) := by
      have hb : ∀ b : Bool, (b != false) = b := by decide
      rw [hb]
      refine decide_eq_decide.2 ⟨fun h => hg.inj _ _ hlow he (by simpa using h), fun h => by rw [h]⟩
    rw [hdec]
    simp only [go_sem]
    refine ⟨fun h => hR _ _ ⟨rfl, ?_⟩, fun h => ?_⟩
    · rw [decide_eq_true (h ▸ List.getElem_mem hk)]
    · refine bin_inc (by omega) (hK _ _ ⟨k + 1, rfl, by omega, rfl, fun j hj h2 => ?_⟩ (by simp [upTo, nthV, iOf]; omega))
      by_cases e : j = k
      · subst e; exact h
      · exact hin j (by omega) h2
  · refine hR _ _ ⟨rfl, ?_⟩
    rw [decide_eq_false]
    intro hm
    obtain ⟨j, hj, hje⟩ := List.mem_iff_getElem.1 hm
    exact hin j (by omega) hj hje
end

/-- One pointer is appended. -/
theorem app_ptr {w : World} {lo : Nat} {v : Value} {gs : Nat → Nat} {is : List Nat} {i : Nat} (h : Own w lo T.p_impl_planNode 1 v is.length (ptrs gs is)) (hl : is.length ≤ 1048576) (hlo : lo ≤ w.heap.size) {K : Value → World → Prop}
    (hK : ∀ v' w', Own w' lo T.p_impl_planNode 1 v' (is ++ [i]).length (ptrs gs (is ++ [i])) → Chg (blkIs v) w w' → Moved w v v' → K v' w') :
    BSliceV T.p_impl_planNode 1 1 #[.pointer none] [(0, ptr (gs i))] w fun t w1 => AppendV Try.prog T.sl_p_impl_planNode v t w1 K := by
  refine ⟨_, fill_int rfl, fun w1 hn => ?_⟩
  have h1 := Own.ext h hn.ext
  have hs := hn.ext.size
  refine appendV_own2 sl_pn el_pn h1 [ptr (gs i)] rfl (fun j u hj => ?_) (by simp [ptr, Value.oneCell']) (by omega) (by omega) (by omega) fun v' w' ho hc hm => hK v' w' ?_ (hn.ext.then hc) fun k hk => ?_
  · rw [addr_add, Nat.zero_add, cell_of_row w1 _ j _ _ (0, 0) hn.here]
    match j with
    | 0 => simpa [ptr, Value.cells] using hj
    | j + 1 => simp at hj
  · simpa [ptrs] using ho
  · rcases hm k hk with h | h
    · exact .inl h
    · right; omega

theorem own_slice {w : World} {lo e n : Nat} {v : Value} {cs : List Value} (h : Own w lo e 1 v n cs) : v.cells = #[v] ∧ v.oneCell' = true := by
  obtain ⟨a, c, rfl, _⟩ := Own.cells h
  exact ⟨rfl, rfl⟩

/-- What a link does to the lists. -/
def linkL (sl : Nat → List Nat) (a e : Nat) : Nat → List Nat := if e ∈ sl (2 * a + 1) then sl else setF (setF sl (2 * a + 1) (sl (2 * a + 1) ++ [e])) (2 * e + 2) (sl (2 * e + 2) ++ [a])

theorem link_ok {w : World} {lo M : Nat} {gs : Nat → Nat} {sv : Nat → Value} {sl : Nat → List Nat} (hg : Graph w lo M gs sv sl) {a e : Nat} (ha : a < M) (he : e < M) (hN : (sl (2 * a + 1)).length ≤ 1048576) (hU : (sl (2 * e + 2)).length ≤ 1048576) (hlo : lo ≤ w.heap.size) :
    Calls Try.prog N.impl_planNode_link #[ptr (gs a), ptr (gs e)] w (Ret fun _ w' => Chg (lo ≤ ·) w w' ∧ ∃ sv', sv' 0 = sv 0 ∧ Graph w' lo M gs sv' (linkL sl a e)) := by
  refine ret_k fun R hR => c_impl_planNode_link _ _ _ _ ?_
  refine callV_of (needsAlready_ok hg ha he hN) rfl ?_
  rintro _ w0 ⟨e0, rfl⟩
  have e0 := e0.symm
  subst e0
  simp only [go_sem]
  refine ⟨fun h => hR _ _ ⟨Chg.refl _ _, sv, rfl, by rw [linkL, if_pos h]; exact hg⟩, fun h => ?_⟩
  simp only [go_sem, ptr]
  refine hg.needs ha ?_
  refine app_ptr (i := e) (hg.slots.own (2 * a + 1) (by omega)) hN hlo fun v1 w1 ho1 hc1 hm1 => ?_
  have hslot := hg.slots.own (2 * a + 1) (by omega)
  have hna : w1.heap[gs a]? = some (.cells #[.int .i64 a, sv (2 * a + 1), sv (2 * a + 2)] T.impl_planNode (0, 0)) := hc1.at (hg.node a ha).2 fun hb => tag_ne hslot hb (hg.node a ha).2 tags rfl
  refine store_at hna (own_slice ho1).1 (own_slice ho1).2 (by simp) fun w2 hp2 => ?_
  have g2 := hg.app (o := 0) ha (by omega) he ho1 hc1 hm1 hp2
  simp only [Nat.add_zero] at g2
  refine g2.users he ?_
  have hl2 : (setF sl (2 * a + 1) (sl (2 * a + 1) ++ [e])) (2 * e + 2) = sl (2 * e + 2) := setF_ne _ _ (by omega)
  have hs2 := g2.slots.own (2 * e + 2) (by omega)
  have c2 : Chg (lo ≤ ·) w w2 := Chg.trans hc1 hp2.chg (fun k _ hk => (Own.lt hslot hk).1) (fun k _ hk => by have h' : k = gs a := hk; subst h'; exact (hg.node a ha).1)
  refine app_ptr (gs := gs) (i := a) hs2 (by rw [hl2]; exact hU) (Nat.le_trans hlo c2.size) fun v3 w3 ho3 hc3 hm3 => ?_
  have hne : w3.heap[gs e]? = some (.cells #[.int .i64 e, (setF sv (2 * a + 1) v1) (2 * e + 1), (setF sv (2 * a + 1) v1) (2 * e + 2)] T.impl_planNode (0, 0)) := hc3.at (g2.node e he).2 fun hb => tag_ne hs2 hb (g2.node e he).2 tags rfl
  refine store_at hne (own_slice ho3).1 (own_slice ho3).2 (by simp) fun w4 hp4 => ?_
  have g4 := g2.app (o := 1) (a := e) he (by omega) ha ho3 hc3 hm3 hp4
  refine hR _ _ ⟨?_, _, ?_, by rw [linkL, if_neg h, ← hl2]; exact g4⟩
  · exact (c2.andThen (hc3.mono fun k _ hk => (Own.lt hs2 hk).1)).andThen (hp4.chg.mono fun k _ hk => by have h' : k = gs e := hk; subst h'; exact (hg.node e he).1)
  · rw [setF_ne _ _ (by omega), setF_ne _ _ (by omega)]
end Go.Proofs.Ytblgkpfnjlobjaa

namespace Go.Proofs.Ytblgkpfnjlobjaa
open Go Go.V

theorem NdBox.load {w : World} {b : Nat} {x : Nd} (h : NdBox w b x) {K : Value → Prop} (hK : ∀ v, NdV w v x → K v) : LoadV true 3 (.pointer (some ⟨b, 0, none⟩)) w K := by
  obtain ⟨fv, rv, e, h1, h2, h3, h4⟩ := h.out
  refine load_node (x := .int .i64 x.kind) (y := fv) (z := rv) ?_ ?_ ?_ (hK _ ⟨fv, rv, rfl, h2, h3, h4⟩) <;> (rw [cell_of_row w b _ _ e (0, 0) h1]; rfl)

theorem ints_cells {w : World} {v : Value} {xs : List Int} (h : Ints w v xs) : v.cells = #[v] ∧ v.oneCell' = true := by
  obtain ⟨a, c, rfl, _⟩ := h.out; exact ⟨rfl, rfl⟩

/-- A variable for a node is made and set. -/
theorem box_set {w : World} {k : Int} {fv rv : Value} {xs ys : List Int} (h2 : Ints w fv xs) (h3 : Ints w rv ys) {K : Value → World → Prop}
    (hK : ∀ w', Ext w w' → w'.heap[w.heap.size]? = some (.cells #[.int .i64 k, fv, rv] T.impl_Node (0, 0)) → w.heap.size < w'.heap.size → K (.pointer (some ⟨w.heap.size, 0, none⟩)) w') :
    BoxV T.impl_Node (.agg #[.int .i64 0, .slice none 0 0, .slice none 0 0]) w fun t w1 => StoreV 3 t (.agg #[.int .i64 k, fv, rv]) w1 fun w2 => K t w2 := by
  intro w1 hn
  refine ⟨_, _, rfl, hn.here, rfl, by simp [Value.cells], fun u hu => ?_, fun w2 hp => ?_⟩
  · simp [Value.cells] at hu
    rcases hu with rfl | rfl | rfl
    · rfl
    · exact (ints_cells h2).2
    · exact (ints_cells h3).2
  · have hE : Ext w w2 := Chg.ext (hn.ext.then hp.chg) fun k hk e => by have e' : k = w.heap.size := e; omega
    exact hK _ hE (by simpa [Value.cells, splice] using hp.here) (by have := hn.size; have := hp.size; omega)
theorem load_box {w : World} {b : Nat} {x y z : Value} {e : Nat} (h : w.heap[b]? = some (.cells #[x, y, z] e (0, 0))) {K : Value → Prop} (hK : K (.agg #[x, y, z])) : LoadV true 3 (.pointer (some ⟨b, 0, none⟩)) w K := by
  refine load_node (x := x) (y := y) (z := z) ?_ ?_ ?_ hK <;> (rw [cell_of_row w b _ _ e (0, 0) h]; rfl)
/-- A node is read in a later world. -/
theorem PlanV.get {w w' : World} {v : Value} {p : List Nd} (h : PlanV w v p) (hE : Ext w w') {i : Nat} (hi : i < p.length) {K : Value → Prop}
    (hK : ∀ fv rv, Ints w fv p[i].frm → Ints w rv p[i].row → Sml p[i] → K (.agg #[.int .i64 p[i].kind, fv, rv])) : IdxV 3 v (.int .i64 i) fun t => LoadV true 3 t w' K :=
  h.idx hi fun _ _ fv rv h0 h1 h2 h3 h4 h5 => load_node (cell_keep hE h0 id) (cell_keep hE h1 id) (cell_keep hE h2 id) (hK fv rv h3 h4 h5)
/-- What lay in an old world is there as long as old blocks are kept. -/
theorem Ints.old {w w' w'' : World} {v : Value} {xs : List Int} (h : Ints w v xs) {S : Nat → Prop} (hE : Ext w w') (hc : Chg S w' w'') (hs : ∀ k, k < w.heap.size → ¬ S k) : Ints w'' v xs := by
  obtain ⟨a, c, hv, hc', hh⟩ := h.out
  refine ⟨a, c, hv, hc', fun i u hi => ?_⟩
  obtain ⟨b, off, ha, hcell⟩ := hh i u hi
  exact ⟨b, off, ha, cell_keep hc (cell_keep hE hcell id) (hs b (World.block_lt_of_cell? w _ hcell))⟩

theorem Own.cap0 {w w' : World} {lo e : Nat} {z : Array Value} {c : Nat} (hn : New w (.cells (rowOf z (c * 1)) e (0, 0)) w') (hl : lo ≤ w.heap.size) (hc : c ≤ 1048576) : Own w' lo e 1 (.slice (some ⟨w.heap.size, 0, none⟩) 0 c) 0 [] :=
  ⟨rfl, .inr ⟨_, c, _, rfl, hl, hn.here, Nat.zero_le _, by unfold maxLen; omega, by simp [rowOf], rfl⟩⟩

/-- The graph of a plan. -/
structure GraphV (w : World) (lo : Nat) (p : List Nd) (gs : Nat → Nat) (sv : Nat → Value) (sl : Nat → List Nat) : Prop where
  g : Graph w lo p.length gs sv sl
  top : sl 0 = List.range p.length
  needs : ∀ i, i < p.length → (∀ x : Nat, x ∈ sl (2 * i + 1) ↔ (x : Int) ∈ fr p i) ∧ (sl (2 * i + 1)).length ≤ 2
  users : ∀ i, i < p.length → (sl (2 * i + 2)).map (fun (k : Nat) => (k : Int)) = usesL p i

theorem wide_first {p : List Nd} : ∀ {m : Nat} (hm : m < p.length), (∀ i (_ : i < m) (h : i < p.length), p[i].kind ≠ 0) → p[m].kind = 0 → wide p = p[m].row.length := by
  induction p with
  | nil => intro m hm; simp at hm
  | cons x p ih =>
    intro m hm hb h0
    cases m with
    | zero => unfold wide; rw [if_pos (by simpa using h0)]; rfl
    | succ m =>
      have := hb 0 (by omega) (by simp)
      unfold wide
      rw [if_neg (by simpa using this)]
      exact ih (by simpa using hm) (fun i hi h => by have := hb (i + 1) (by omega) (by simpa using h); simpa using this) (by simpa using h0)

/-- What the lists of a graph of m nodes say. -/
structure GInv (p : List Nd) (m : Nat) (sl : Nat → List Nat) : Prop where
  needs : ∀ i, i < m → (∀ x : Nat, x ∈ sl (2 * i + 1) ↔ (x : Int) ∈ fr p i) ∧ (sl (2 * i + 1)).length ≤ 2
  users : ∀ i, i < m → (sl (2 * i + 2)).map (fun (k : Nat) => (k : Int)) = sel m fun k => (i : Int) ∈ fr p k
/-- The same while node m is under way: its list's first j are linked. -/
structure GMid (p : List Nd) (m j : Nat) (sl : Nat → List Nat) : Prop where
  needs : ∀ i, i < m → (∀ x : Nat, x ∈ sl (2 * i + 1) ↔ (x : Int) ∈ fr p i) ∧ (sl (2 * i + 1)).length ≤ 2
  users : ∀ i, i < m → (sl (2 * i + 2)).map (fun (k : Nat) => (k : Int)) = (sel m fun k => (i : Int) ∈ fr p k) ++ if (i : Int) ∈ (fr p m).take j then [(m : Int)] else []
  mine : (∀ x : Nat, x ∈ sl (2 * m + 1) ↔ (x : Int) ∈ (fr p m).take j) ∧ (sl (2 * m + 1)).length ≤ j
  none : sl (2 * m + 2) = []
  top : sl 0 = List.range m

theorem GMid.link {p : List Nd} {m j e : Nat} {sl : Nat → List Nat} (h : GMid p m j sl) (hj : j < (fr p m).length) (he : (fr p m)[j] = (e : Int)) (hem : e < m) : GMid p m (j + 1) (linkL sl m e) := by
  have ht : (fr p m).take (j + 1) = (fr p m).take j ++ [(e : Int)] := by rw [List.take_succ_eq_append_getElem hj, he]
  have hmem : ∀ x : Int, x ∈ (fr p m).take (j + 1) ↔ x ∈ (fr p m).take j ∨ x = e := fun x => by rw [ht]; simp
  unfold linkL
  by_cases hin : e ∈ sl (2 * m + 1)
  · rw [if_pos hin]
    have hin' := (h.mine.1 e).1 hin
    have hmem' : ∀ x : Int, x ∈ (fr p m).take (j + 1) ↔ x ∈ (fr p m).take j := fun x => by rw [hmem]; exact ⟨fun h => h.elim id fun e => by rw [e]; exact hin', .inl⟩
    refine ⟨h.needs, fun i hi => ?_, ⟨fun x => by rw [hmem']; exact h.mine.1 x, by have := h.mine.2; omega⟩, h.none, h.top⟩
    rw [h.users i hi]
    by_cases hc : (i : Int) ∈ (fr p m).take j
    · rw [if_pos hc, if_pos ((hmem' _).2 hc)]
    · rw [if_neg hc, if_neg fun h => hc ((hmem' _).1 h)]
  · rw [if_neg hin]
    have hin' : (e : Int) ∉ (fr p m).take j := fun h' => hin ((h.mine.1 e).2 h')
    refine ⟨fun i hi => ?_, fun i hi => ?_, ⟨fun x => ?_, ?_⟩, ?_, ?_⟩
    · rw [setF_ne _ _ (by omega), setF_ne _ _ (by omega)]; exact h.needs i hi
    · by_cases e2 : i = e
      · subst e2
        rw [setF_same, List.map_append, h.users i hi, if_neg hin', if_pos ((hmem _).2 (.inr rfl))]
        simp
      · rw [setF_ne _ _ (by omega), setF_ne _ _ (by omega), h.users i hi]
        by_cases hc : (i : Int) ∈ (fr p m).take j
        · rw [if_pos hc, if_pos ((hmem _).2 (.inl hc))]
        · rw [if_neg hc, if_neg fun h => ((hmem _).1 h).elim hc fun e => e2 (by omega)]
    · rw [setF_ne _ _ (by omega), setF_same, List.mem_append, h.mine.1 x, hmem]
      simp only [List.mem_singleton]
      exact ⟨fun h => h.elim .inl fun e => .inr (by rw [e]), fun h => h.elim .inl fun e => .inr (by omega)⟩
    · rw [setF_ne _ _ (by omega), setF_same]
      have := h.mine.2
      simp; omega
    · rw [setF_ne _ _ (by omega), setF_ne _ _ (by omega)]; exact h.none
    · rw [setF_ne _ _ (by omega), setF_ne _ _ (by omega)]; exact h.top

theorem GMid.done {p : List Nd} {m : Nat} {sl : Nat → List Nat} (hlt : ∀ f ∈ fr p m, f < (m : Int)) (hlow : ∀ k, k < m → ∀ f ∈ fr p k, f < (k : Int)) (h2 : (fr p m).length ≤ 2) (h : GMid p m (fr p m).length sl) {sl' : Nat → List Nat} (hs : ∀ s, s ≠ 0 → sl' s = sl s) : GInv p (m + 1) sl' := by
  have ht : (fr p m).take (fr p m).length = fr p m := List.take_length
  refine ⟨fun i hi => ?_, fun i hi => ?_⟩
  · rw [hs _ (by omega)]
    by_cases e : i = m
    · subst e
      have := h.mine
      rw [ht] at this
      exact ⟨this.1, by have := this.2; omega⟩
    · exact h.needs i (by omega)
  · rw [hs _ (by omega)]
    by_cases e : i = m
    · subst e
      rw [h.none, sel_nil fun k hk hm => ?_]
      · rfl
      · by_cases e : k = i
        · subst e; have := hlt _ hm; omega
        · have := hlow k (by omega) _ hm; omega
    · rw [h.users i (by omega), ht]
      by_cases hc : (i : Int) ∈ fr p m
      · rw [if_pos hc, sel_yes hc]
      · rw [if_neg hc, sel_no hc]; simp

theorem GInv.start {p : List Nd} {m : Nat} {sl : Nat → List Nat} (h : GInv p m sl) (ht : sl 0 = List.range m) : GMid p m 0 (setF (setF sl (2 * m + 1) []) (2 * m + 2) []) := by
  refine ⟨fun i hi => ?_, fun i hi => ?_, ⟨fun x => ?_, ?_⟩, ?_, ?_⟩
  · rw [setF_ne _ _ (by omega), setF_ne _ _ (by omega)]; exact h.needs i hi
  · rw [setF_ne _ _ (by omega), setF_ne _ _ (by omega), h.users i hi]; simp
  · rw [setF_ne _ _ (by omega), setF_same]; simp
  · rw [setF_ne _ _ (by omega), setF_same]; simp
  · rw [setF_same]
  · rw [setF_ne _ _ (by omega), setF_ne _ _ (by omega)]; exact ht

theorem fill_node {m : Nat} : Instr.fill (fun i => ([(0, 1), (1, 1), (2, 1)] : List (Nat × Nat))[i]?) #[.int .i64 0, .slice none 0 0, .slice none 0 0] [(0, .int .i64 m)] = some #[.int .i64 m, .slice none 0 0, .slice none 0 0] := by
  simp [Instr.fill, Value.cells]

theorem gmap_len {sl : List Nat} {n : Nat} {c : Nat → Prop} (h : sl.map (fun (k : Nat) => (k : Int)) = sel n c) : sl.length ≤ n := by
  have := congrArg List.length h
  rw [List.length_map] at this
  have h2 := @sel_len n c
  omega

theorem graphOf_ok {w : World} {v : Value} {p : List Nd} (hp : PlanV w v p) : Calls Try.prog N.impl_graphOf #[v] w (Ret fun r w' => Ext w w' ∧
    ((PlanOk p ∧ ∃ gs sv sl, r = .tuple #[sv 0, .bool true] ∧ GraphV w' w.heap.size p gs sv sl) ∨ (¬ PlanOk p ∧ r = .tuple #[.slice none 0 0, .bool false]))) := by
  have hsm := hp.small
  refine ret_k fun R hR => c_impl_graphOf _ _ _ ?_
  have hlen : ∀ K, LenV v K = K (.int .i64 p.length) := fun K => hp.len
  simp only [hlen, go_sem]
  have no : ∀ w', Ext w w' → ¬ PlanOk p → R (.tuple #[.slice none 0 0, .bool false]) w' := fun w' hE hn => hR _ _ ⟨hE, .inr ⟨hn, rfl⟩⟩
  refine ⟨fun h => no _ (Ext.refl _) fun hd => by have := hd.len; omega, fun h10 => ?_⟩
  refine ⟨by omega, by omega, by omega, by omega, fun w1 hn1 => ?_⟩
  simp only [Int.toNat_natCast] at hn1 ⊢
  have ho1 := Own.cap0 hn1 (Nat.le_refl _) (by omega)
  refine loopV (fun s w' => ∃ (m : Nat) (wd : Int) (gs : Nat → Nat) (sv : Nat → Value) (sl : Nat → List Nat), s = [sv 0, .int .i64 wd, .int .i64 m] ∧ m ≤ p.length ∧ Ext w w' ∧ Graph w' w.heap.size m gs sv sl ∧ sl 0 = List.range m ∧ GInv p m sl ∧
      (∀ i (_ : i < m) (h : i < p.length), NdFits p[i] i ∧ (p[i].kind = 0 → p[i].row.length = wide p)) ∧ ((wd = -1 ∧ ∀ i (_ : i < m) (h : i < p.length), p[i].kind ≠ 0) ∨ (wd = wide p ∧ ∃ i, ∃ (_ : i < m) (h : i < p.length), p[i].kind = 0))) (upTo p.length 2)
    ⟨0, -1, fun _ => 0, fun _ => .slice (some ⟨w.heap.size, 0, none⟩) 0 p.length, fun _ => [], rfl, by omega, hn1.ext, ⟨⟨fun s hs => ?_, fun s t k hs ht _ _ => by omega, fun s j _ hj => by cases hj⟩, fun i hi => by omega, fun i j hi => by omega⟩, rfl, ⟨fun i hi => by omega, fun i hi => by omega⟩, fun i hi => by omega, .inl ⟨rfl, fun i hi => by omega⟩⟩ ?_
  · exact ho1
  rintro s z w2 K ⟨m, wd, gs, sv, sl, rfl, hm, E2, hg2, htop, hinv, hfits, hwd⟩ hK
  have hp2 := hp.ext E2
  simp only [go_sem]
  refine ⟨fun h => ?_, fun h => ?_⟩
  · have hm : m < p.length := by omega
    refine hp.get E2 hm fun fv rv hfv hrv hsml => ?_
    refine box_set (hfv.ext E2) (hrv.ext E2) fun w3 E3 hb3 hlt3 => ?_
    have hg3 := hg2.ext E3
    have e3 := E2.trans E3
    simp only [go_sem]
    refine load_box hb3 ?_
    refine callV_of (nodeFits_ok ⟨fv, rv, rfl, hfv.ext e3, hrv.ext e3, hsml⟩) rfl ?_
    rintro _ w4 ⟨E4, rfl⟩
    have hg4 := hg3.ext E4
    have hb4 := E4.at hb3
    obtain ⟨fa, fc, rfl, hfc0, hfc⟩ := hfv.out
    obtain ⟨ra, rc, rfl, _, _⟩ := hrv.out
    have e4 := e3.trans E4
    simp only [go_sem]
    refine ⟨fun h => no _ e4 fun hd => h (hd.2 m hm).1, fun hfit => ?_⟩
    refine joinV (fun s w' => w' = w4 ∧ ∃ wd' : Int, s = [.int .i64 wd'] ∧ (p[m].kind = 0 → p[m].row.length = wide p) ∧ ((wd' = -1 ∧ ∀ i (_ : i < m + 1) (h : i < p.length), p[i].kind ≠ 0) ∨ (wd' = wide p ∧ ∃ i, ∃ (_ : i < m + 1) (h : i < p.length), p[i].kind = 0))) (fun M hM => ?_) ?_
    · refine load2 (v := .int .i64 p[m].kind) hb4 rfl ?_
      simp only [go_sem]
      have hw0 : p[m].kind = 0 → (wd = -1 ∨ wd = p[m].row.length) → p[m].row.length = wide p := fun h0 hw => by
        rcases hwd with ⟨_, hall⟩ | ⟨e, _⟩
        · exact (wide_first hm hall h0).symm
        · rcases hw with hw | hw <;> omega
      have fin : p[m].kind = 0 → (wd = -1 ∨ wd = p[m].row.length) → M [.int .i64 p[m].row.length] w4 := fun h0 hw => by
        have h1 := hw0 h0 hw
        exact hM _ _ ⟨rfl, _, rfl, fun _ => h1, .inr ⟨by omega, m, by omega, hm, h0⟩⟩
      refine ⟨fun h0 => ⟨fun hge => ?_, fun hlt => ?_⟩, fun h0 => ?_⟩
      · refine load2 (v := .slice ra p[m].row.length rc) hb4 rfl ?_
        simp only [go_sem]
        have hpos : wd = wide p ∧ ∃ i, ∃ (_ : i < m) (h : i < p.length), p[i].kind = 0 := hwd.resolve_left fun h => by omega
        refine ⟨fun hne => no _ e4 fun hd => hne (by rw [hpos.1, (hd.2 m hm).2 h0]), fun heq => ?_⟩
        refine load2 (v := .slice ra p[m].row.length rc) hb4 rfl ?_
        exact fin h0 (.inr (by
          have := Classical.not_not.1 heq
          omega))
      · refine load2 (v := .slice ra p[m].row.length rc) hb4 rfl ?_
        refine fin h0 (.inl ?_)
        rcases hwd with h | h <;> omega
      · refine hM _ _ ⟨rfl, _, rfl, fun h => absurd h h0, ?_⟩
        rcases hwd with ⟨h1, h2⟩ | ⟨h1, i, hi, hl, hk⟩
        · refine .inl ⟨h1, fun i hi hl => ?_⟩
          by_cases e : i = m
          · subst e; exact h0
          · exact h2 i (by omega) hl
        · exact .inr ⟨h1, i, by omega, hl, hk⟩
    rintro _ _ w5 ⟨rfl, wd', rfl, hrow, hwd'⟩
    simp only [go_sem]
    refine ⟨_, fill_node, ?_⟩
    intro w6 hn6
    have hlo : w.heap.size ≤ w5.heap.size := e4.size
    have hg6 := hg4.new hlo hn6
    have hb6 := hn6.ext.at hb4
    have e6 := e4.trans hn6.ext
    refine load2 (v := .slice fa p[m].frm.length fc) hb6 rfl ?_
    have hfr : fr p m = p[m].frm := fr_get hm
    have hflen := hsml.1
    have hflt : ∀ f ∈ fr p m, 0 ≤ f ∧ f < (m : Int) := fun f hf => hfit.2.1 f (by rw [← hfr]; exact hf)
    have hf2 : (fr p m).length ≤ 2 := by have h1 := hfit.1; have h2 := (kneeds_range p[m].kind).2; rw [hfr]; omega
    rw [← hfr] at hfc hflen ⊢
    simp only [go_sem]
    refine loopV (fun s w' => ∃ (j : Nat) (gs' : Nat → Nat) (sv' : Nat → Value) (sl' : Nat → List Nat), s = [.int .i64 j] ∧ j ≤ (fr p m).length ∧ Chg (w.heap.size ≤ ·) w6 w' ∧ Graph w' w.heap.size (m + 1) gs' sv' sl' ∧ gs' m = w5.heap.size ∧ sv' 0 = sv 0 ∧ GMid p m j sl') (upTo (fr p m).length 0)
      ⟨0, _, _, _, rfl, by omega, Chg.refl _ _, hg6, setF_same _ _ _, ?_, hinv.start htop⟩ ?_
    · rw [setF_ne _ _ (by omega), setF_ne _ _ (by omega)]
    rintro s z w7 K' ⟨j, gs', sv', sl', rfl, hj, C7, hg7, hgm, hsv, hmid⟩ hK'
    have e7 : Ext w w7 := Chg.ext (e6.then C7) fun k hk h => by omega
    simp only [go_sem]
    refine ⟨fun h => ?_, fun h => ?_⟩
    · have hj : j < (fr p m).length := by omega
      have hfc7 : Cells w7 fa (ints (fr p m)) := hfc.ext e7
      refine idxLoad hfc7 rfl hj ?_
      obtain ⟨e, he⟩ : ∃ e : Nat, (fr p m)[j] = (e : Int) := ⟨(fr p m)[j].toNat, by have := hflt _ (List.getElem_mem hj); omega⟩
      have hem : e < m := by have := hflt _ (List.getElem_mem hj); omega
      rw [he, ← hsv]
      have htop7 := hg7.slots.own 0 (by omega)
      rw [hmid.top] at htop7
      refine ptr_at htop7 (k := e) (by simp; omega) ?_
      rw [List.getElem_range, show (Value.pointer (some ⟨w5.heap.size, 0, none⟩)) = ptr (gs' m) by rw [hgm]; rfl]
      have hul := gmap_len (sl := sl' (2 * e + 2)) (n := m + 1) (c := fun k => (k < m ∧ (e : Int) ∈ fr p k) ∨ (k = m ∧ (e : Int) ∈ (fr p m).take j)) (by
        rw [hmid.users e hem]
        by_cases hc : (e : Int) ∈ (fr p m).take j
        · rw [if_pos hc, sel_yes (.inr ⟨rfl, hc⟩)]
          congr 1
          exact sel_congr fun k hk => ⟨fun h => .inl ⟨hk, h⟩, fun h => h.elim (·.2) fun h => by omega⟩
        · rw [if_neg hc, List.append_nil, sel_no (fun h => h.elim (fun h => by omega) fun h => hc h.2)]
          exact sel_congr fun k hk => ⟨fun h => .inl ⟨hk, h⟩, fun h => h.elim (·.2) fun h => by omega⟩)
      refine callV_of (link_ok hg7 (a := m) (e := e) (by omega) (by omega) (by have := hmid.mine.2; omega) (by omega) e7.size) rfl ?_
      rintro _ w8 ⟨C8, sv8, hs8, hg8⟩
      refine bin_inc (by omega) (hK' _ _ ⟨j + 1, gs', sv8, _, rfl, by omega, C7.andThen C8, hg8, hgm, by rw [hs8, hsv], hmid.link hj he hem⟩ (by simp [upTo, nthV, iOf]; omega))
    · have hj : j = (fr p m).length := by omega
      subst hj
      rw [← hsv, show (Value.pointer (some ⟨w5.heap.size, 0, none⟩)) = ptr (gs' m) by rw [hgm]; rfl]
      have htop7 := hg7.slots.own 0 (by omega)
      refine app_ptr (i := m) htop7 (by rw [hmid.top]; simp; omega) e7.size fun v8 w8 ho8 hc8 hm8 => ?_
      have hs8 := hg7.slots.app (s := 0) (e := m) (by omega) (by omega) ho8 hc8 hm8
      refine bin_inc (by omega) (hK _ _ ⟨m + 1, wd', gs', setF sv' 0 v8, setF sl' 0 (sl' 0 ++ [m]), by rw [setF_same], by omega, ?_, ⟨hs8, fun i hi => ⟨(hg7.node i hi).1, ?_⟩, hg7.inj⟩, ?_, ?_, ?_, hwd'⟩ (by simp [upTo, nthV, iOf]; omega))
      · exact Chg.ext (e7.then hc8) fun k hk h => by have := (Own.lt htop7 h).1; omega
      · rw [setF_ne _ _ (by omega), setF_ne _ _ (by omega)]
        exact hc8.at (hg7.node i hi).2 fun hb => tag_ne htop7 hb (hg7.node i hi).2 tags rfl
      · rw [setF_same, hmid.top, List.range_succ]
      · exact hmid.done (fun f hf => (hflt f hf).2) (fun k hk f hf => by
          have := (hfits k hk (by omega)).1.2.1 f (by rw [← fr_get (by omega)]; exact hf)
          exact this.2) hf2 (fun s hs => setF_ne _ _ hs)
      · intro i hi hl
        by_cases e : i = m
        · subst e; exact ⟨hfit, hrow⟩
        · exact hfits i (by omega) hl
  · have hm : m = p.length := by omega
    subst hm
    refine hR _ _ ⟨E2, .inl ⟨⟨by omega, fun i hi => hfits i hi hi⟩, gs, sv, sl, rfl, hg2, htop, hinv.needs, fun i hi => hinv.users i hi⟩⟩
end Go.Proofs.Ytblgkpfnjlobjaa

namespace Go.Proofs.Ytblgkpfnjlobjaa
open Go Go.V

theorem implPlanValid_ok {w : World} {v : Value} {p : List Nd} (hp : PlanV w v p) : Calls Try.prog N.impl_PlanValid #[v] w (Ret fun r w' => Ext w w' ∧ r = .bool (decide (PlanOk p))) := by
  refine ret_k fun R hR => c_impl_PlanValid _ _ _ ?_
  refine callV_of (graphOf_ok hp) rfl ?_
  rintro _ w1 ⟨E1, ⟨hok, gs, sv, sl, rfl, _⟩ | ⟨hno, rfl⟩⟩
  · simp only [go_sem]; exact hR _ _ ⟨E1, by rw [decide_eq_true hok]⟩
  · simp only [go_sem]; exact hR _ _ ⟨E1, by rw [decide_eq_false hno]⟩

theorem isNode_ok {w : World} {v : Value} {p : List Nd} (hp : PlanV w v p) (a : Int) : Calls Try.prog N.impl_isNode #[v, .int .i64 a] w (Ret fun r w' => Ext w w' ∧ r = .bool (decide (0 ≤ a ∧ a < p.length))) := by
  refine ret_k fun R hR => c_impl_isNode _ _ _ _ ?_
  have hlen : ∀ K, LenV v K = K (.int .i64 p.length) := fun K => hp.len
  simp only [hlen, go_sem]
  refine ⟨fun h => hR _ _ ⟨Ext.refl _, ?_⟩, fun h => hR _ _ ⟨Ext.refl _, ?_⟩⟩
  · congr 1; exact decide_eq_decide.2 ⟨fun h' => ⟨h, h'⟩, fun h' => h'.2⟩
  · rw [decide_eq_false fun h' => h h'.1]

/-- An empty slice, in a world of its own. -/
theorem own_nil {w : World} {lo : Nat} : Own w lo T.int 1 (.slice none 0 0) 0 (ints []) := Own.nil

theorem own_len {w : World} {lo e n : Nat} {v : Value} {xs : List Int} (h : Own w lo e 1 v n (ints xs)) : n = xs.length := by
  have := h.1; simp [ints] at this; omega

theorem take_snoc {α : Type} {l : List α} {k : Nat} (h : k < l.length) : l.take (k + 1) = l.take k ++ [l[k]] := List.take_succ_eq_append_getElem h

theorem planUses_ok {w : World} {v : Value} {p : List Nd} (hp : PlanV w v p) (a : Int) : Calls Try.prog N.impl_PlanUses #[v, .int .i64 a] w (Ret (NewInts w (if PlanOk p then usesL p a else []))) := by
  refine ret_k fun R hR => c_impl_PlanUses _ _ _ _ ?_
  refine callV_of (graphOf_ok hp) rfl ?_
  rintro _ w1 ⟨E1, ⟨hok, gs, sv, sl, rfl, hg⟩ | ⟨hno, rfl⟩⟩
  rotate_left
  · simp only [go_sem]
    refine ⟨fun _ => hR _ _ ⟨E1, by rw [if_neg hno]; exact FInts.nil⟩, fun h => absurd trivial (by simp at h)⟩
  simp only [go_sem]
  rw [if_pos hok] at hR
  refine ⟨fun h => by simp at h, fun _ => ?_⟩
  refine callV_of (isNode_ok (hp.ext E1) a) rfl ?_
  rintro _ w2 ⟨E2, rfl⟩
  simp only [go_sem]
  refine ⟨fun h => hR _ _ ⟨E1.trans E2, by rw [usesL_none hok h]; exact FInts.nil⟩, fun h => ?_⟩
  obtain ⟨i, rfl⟩ : ∃ i : Nat, a = (i : Int) := ⟨a.toNat, by omega⟩
  have hi : i < p.length := by omega
  have hg2 := hg.g.ext E2
  have htop := hg2.slots.own 0 (by omega)
  rw [hg.top] at htop
  refine ptr_at htop (k := i) (by simpa using hi) ?_
  rw [List.getElem_range]
  simp only [go_sem, ptr]
  refine hg2.users hi ?_
  have hus := hg2.slots.own (2 * i + 2) (by omega)
  have hu := hg.users i hi
  have hul := gmap_len hu
  have hsm := hp.small
  rw [Own.lenV hus]
  refine loopV (fun s w' => ∃ (k : Nat) (u : Value), s = [u, .int .i64 k] ∧ k ≤ (sl (2 * i + 2)).length ∧ Ext w2 w' ∧ Own w' w2.heap.size T.int 1 u k (ints ((usesL p i).take k))) (upTo (sl (2 * i + 2)).length 1)
    ⟨0, _, rfl, by omega, Ext.refl _, by simpa using own_nil⟩ ?_
  rintro s z w3 K ⟨k, u, rfl, hk, E3, ho⟩ hK
  simp only [go_sem]
  refine ⟨fun h => ?_, fun h => ?_⟩
  · have hk : k < (sl (2 * i + 2)).length := by omega
    have hg3 := hg2.ext E3
    refine ptr_at (hg3.slots.own (2 * i + 2) (by omega)) hk ?_
    have hlow := hg3.slots.low (2 * i + 2) _ (by omega) (List.getElem_mem hk)
    simp only [go_sem, ptr]
    refine hg3.at_ hlow ?_
    have hln := own_len ho
    rw [hln] at ho
    refine app1_int sl_int el_int ho (by omega) E3.size fun v' w4 ho4 C4 => ?_
    have hkl : k < (usesL p i).length := by rw [← hu]; simpa using hk
    have he : ((sl (2 * i + 2))[k] : Int) = (usesL p i)[k] := by
      have h1 : ((sl (2 * i + 2)).map fun (k : Nat) => (k : Int))[k]? = (usesL p i)[k]? := by rw [hu]
      rw [List.getElem?_map, List.getElem?_eq_getElem hk, List.getElem?_eq_getElem hkl] at h1
      simpa using h1
    refine bin_inc (by omega) (hK _ _ ⟨k + 1, v', rfl, by omega, chg_own E3 ho C4 (Nat.le_refl _), ?_⟩ (by simp [upTo, nthV, iOf]; omega))
    rw [take_snoc hkl, ← he]
    rw [← hln] at ho4; exact ho4
  · have hkl : k = (usesL p i).length := by rw [← hu]; simp; omega
    rw [hkl, List.take_length] at ho
    refine hR _ _ ⟨(E1.trans E2).trans E3, (Own.fints ho).mono fun b _ hb => ?_⟩
    have := (E1.trans E2).size
    unfold Since
    exact Nat.le_trans this hb
end Go.Proofs.Ytblgkpfnjlobjaa
