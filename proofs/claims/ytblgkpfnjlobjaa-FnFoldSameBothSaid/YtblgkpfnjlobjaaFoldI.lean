/- Folding: the program's way. -/
import Derived.Test.YtblgkpfnjlobjaaValues
import Derived.Test.YtblgkpfnjlobjaaPart
import Derived.Test.YtblgkpfnjlobjaaNodeSet
import Derived.Test.YtblgkpfnjlobjaaCF
import Derived.Test.YtblgkpfnjlobjaaDrawPlan
namespace Go.Proofs.Ytblgkpfnjlobjaa
open Go Go.V

/-! ### One more ahead of the others -/
def consF {α : Type} (y : α) (g : Nat → α) : Nat → α
  | 0 => y
  | i + 1 => g i
/-- The blocks of a plan's lists with two more ahead. -/
def consB (b1 b2 : Nat) (bs : Nat → Nat) : Nat → Nat
  | 0 => b1
  | 1 => b2
  | s + 2 => bs s
theorem nd_cons0 (x : Nd) (q : List Nd) : nd (x :: q) 0 = x := rfl
theorem nd_cons (x : Nd) (q : List Nd) (i : Nat) : nd (x :: q) (i + 1) = nd q i := by simp [nd]
theorem slot_cons (x : Nd) (q : List Nd) (s : Nat) : slot (x :: q) (s + 2) = slot q s := by
  unfold slot
  rw [show (s + 2) % 2 = s % 2 by omega, show (s + 2) / 2 = s / 2 + 1 by omega, nd_cons]
theorem flatN_cons (x : Nd) (q : List Nd) (f r : Value) (fv rv : Nat → Value) (n : Nat) : flatN (x :: q) (consF f fv) (consF r rv) (n + 1) = [.int .i64 x.kind, f, r] ++ flatN q fv rv n := by
  induction n with
  | zero => rfl
  | succ n ih => rw [flatN, ih, flatN, nd_cons]; simp [consF]
theorem flat_cons (x : Nd) (q : List Nd) (f r : Value) (fv rv : Nat → Value) : flat (x :: q) (consF f fv) (consF r rv) = [.int .i64 x.kind, f, r] ++ flat q fv rv := flatN_cons _ _ _ _ _ _ _
theorem Inner.cons {w : World} {B : Nat → Prop} {q : List Nd} {bs : Nat → Nat} {fv rv : Nat → Value} (h : Inner w B q bs fv rv) {x : Nd} {f r : Value} {b1 b2 : Nat} (hf : FInts w (· = b1) f x.frm) (hr : FInts w (· = b2) r x.row) (hs : Sml x)
    (h1 : x.frm ≠ [] → B b1 ∧ ∀ s, s < 2 * q.length → slot q s ≠ [] → b1 ≠ bs s) (h2 : x.row ≠ [] → B b2 ∧ ∀ s, s < 2 * q.length → slot q s ≠ [] → b2 ≠ bs s) (h3 : x.frm ≠ [] → x.row ≠ [] → b1 ≠ b2) :
    Inner w B (x :: q) (consB b1 b2 bs) (consF f fv) (consF r rv) := by
  have s0 : slot (x :: q) 0 = x.frm := rfl
  have s1 : slot (x :: q) 1 = x.row := rfl
  refine ⟨fun i hi => ?_, fun s hs' hne => ?_, fun s t hs' ht hsn htn e => ?_⟩
  · cases i with
    | zero => exact ⟨hf, hr, hs⟩
    | succ i =>
      have := h.ints i (by simpa using hi)
      rw [nd_cons]
      exact this
  · match s, hs', hne with
    | 0, _, hne => exact (h1 hne).1
    | 1, _, hne => exact (h2 hne).1
    | s + 2, hs', hne => rw [slot_cons] at hne; exact h.inB s (by simp at hs'; omega) hne
  · match s, t, hs', ht, hsn, htn, e with
    | 0, 0, _, _, _, _, _ => rfl
    | 0, 1, _, _, a, b, e => exact absurd e (h3 a b)
    | 0, t + 2, _, ht, a, b, e => rw [slot_cons] at b; exact absurd e ((h1 a).2 t (by simp at ht; omega) b)
    | 1, 0, _, _, a, b, e => exact absurd e.symm (h3 b a)
    | 1, 1, _, _, _, _, _ => rfl
    | 1, t + 2, _, ht, a, b, e => rw [slot_cons] at b; exact absurd e ((h2 a).2 t (by simp at ht; omega) b)
    | s + 2, 0, hs', _, a, b, e => rw [slot_cons] at a; exact absurd e.symm ((h1 b).2 s (by simp at hs'; omega) a)
    | s + 2, 1, hs', _, a, b, e => rw [slot_cons] at a; exact absurd e.symm ((h2 b).2 s (by simp at hs'; omega) a)
    | s + 2, t + 2, hs', ht, a, b, e =>
      rw [slot_cons] at a b
      rw [h.inj s t (by simp at hs'; omega) (by simp at ht; omega) a b e]

theorem flatN_one {q : List Nd} {fv rv : Nat → Value} : ∀ {n : Nat}, (∀ i, i < n → (fv i).oneCell' = true ∧ (rv i).oneCell' = true) → ∀ u ∈ flatN q fv rv n, u.oneCell' = true := by
  intro n
  induction n with
  | zero => intro _ u hu; cases hu
  | succ n ih =>
    intro h u hu
    rw [flatN, List.mem_append] at hu
    rcases hu with hu | hu
    · exact ih (fun i hi => h i (by omega)) u hu
    · simp at hu
      rcases hu with rfl | rfl | rfl
      · rfl
      · exact (h n (by omega)).1
      · exact (h n (by omega)).2

/-- A plan is put behind the nodes of a slice in memory of one's own. -/
theorem append_plan {w : World} {lo n : Nat} {u : Value} {cs : List Value} (hown : Own w lo T.impl_Node 3 u n cs) {r : Value} {q : List Nd} {B : Nat → Prop} (hq : FPlan w B r q) (hn : n + q.length ≤ 1048576) (hlo : lo ≤ w.heap.size) {K : Value → World → Prop}
    (hK : ∀ v' w' bs fv rv, Own w' lo T.impl_Node 3 v' (n + q.length) (cs ++ flat q fv rv) → Inner w B q bs fv rv → Chg (blkIs u) w w' → K v' w') : AppendV Try.prog T.sl_impl_Node u r w K := by
  obtain ⟨a, c, bs, fv, rv, rfl, hc, hl, hin, hr⟩ := hq.out
  by_cases hne : q = []
  · subst hne
    cases a with
    | some ad =>
      refine appendV_own (lo := lo) sl_node el_node hown (a := ad) (m := 0) (c := c) [] (by simp) (fun j u hj => by simp at hj) (by simp) (by simp at hn; omega) (by simp at hn; omega) hlo fun v' w' ho' hc' => ?_
      exact hK v' w' bs fv rv (by simpa [flat, flatN] using ho') hin hc'
    | none =>
      refine ⟨u, w, fun ty => ?_, hK u w bs fv rv (by simpa [flat, flatN] using hown) hin (Chg.refl _ _)⟩
      obtain ⟨i, hi, hz, hs, hb, hzs, h0⟩ := el_node.out
      rcases hown.2 with ⟨rfl, _⟩ | ⟨g, cap, cur, rfl, _, hg, hnc, _⟩
      · simp [Builtin.append_, run_und sl_node, sizeOf, run_info hi, Builtin.lenOf, Builtin.firstCells]
      · simp [Builtin.append_, run_und sl_node, sizeOf, run_info hi, Builtin.lenOf, Builtin.firstCells, hnc, storeCells]
  · obtain ⟨b, off, cur, rfl, hB, hb, hsz, hcell⟩ := hr hne
    have hfl := flatN_len q fv rv q.length
    refine appendV_own (lo := lo) sl_node el_node hown (a := ⟨b, off, none⟩) (m := q.length) (c := c) (flat q fv rv) (by unfold flat; omega) (fun j u hj => ?_) ?_ (by omega) (by omega) hlo fun v' w' ho' hc' => hK v' w' bs fv rv ho' hin hc'
    · have hjl : j < 3 * q.length := by
        have := (List.getElem?_eq_some_iff.1 hj).1
        unfold flat at this; omega
      have hi : j / 3 < q.length := by omega
      obtain ⟨c1, c2, c3⟩ := hcell (j / 3) hi
      obtain ⟨g1, g2, g3⟩ := flatN_get (p := q) (fv := fv) (rv := rv) hi
      rw [addr_add, cell_of_row w b _ cur _ (0, 0) hb]
      unfold flat at hj
      rcases (show j = 3 * (j / 3) ∨ j = 3 * (j / 3) + 1 ∨ j = 3 * (j / 3) + 2 by omega) with e | e | e
      · rw [e, g1] at hj; cases hj; rw [e, show 3 * (j / 3) / 3 = j / 3 by omega]; exact c1
      · rw [e, g2] at hj; cases hj; rw [e, show (3 * (j / 3) + 1) / 3 = j / 3 by omega]; exact c2
      · rw [e, g3] at hj; cases hj; rw [e, show (3 * (j / 3) + 2) / 3 = j / 3 by omega]; exact c3
    · refine flatN_one fun i hi => ?_
      obtain ⟨k1, k2, _⟩ := hin.ints i hi
      exact ⟨k1.cellsV.2, k2.cellsV.2⟩

theorem fill_nd {k : Int} {f r : Value} : Instr.fill (fun i => some (i * 3, 3)) (rowOf #[.int .i64 0, .slice none 0 0, .slice none 0 0] (1 * 3)) [(0, .agg #[.int .i64 k, f, r])] = some #[.int .i64 k, f, r] := by
  simp [Instr.fill, rowOf, Value.cells]
  refine Array.ext (by simp) fun i hi _ => ?_
  simp at hi
  match i, hi with
  | 0, _ => simp
  | 1, _ => simp
  | 2, _ => simp

/-- A node, and all behind it. -/
theorem fold_tail {w w1 : World} (E1 : Ext w w1) {b b1 b2 e : Nat} {f r v rv0 sv : Value} {x : Nd} {q : List Nd} {k : Nat} {kk : Int} (hkk : kk = x.kind) (hb : w1.heap[b]? = some (.cells #[.int .i64 kk, f, r] e (0, 0))) (hf : FInts w1 (· = b1) f x.frm) (hr : FInts w1 (· = b2) r x.row) (hs : Sml x)
    (h1 : x.frm ≠ [] → w.heap.size ≤ b1) (h2 : x.row ≠ [] → w.heap.size ≤ b2) (h3 : x.frm ≠ [] → x.row ≠ [] → b1 ≠ b2) (hq : q.length ≤ 1000) (hk : k ≤ 1000)
    (hrest : ∀ w2, Ext w1 w2 → Calls Try.prog N.impl_foldFrom #[v, rv0, sv, .int .i64 (k + 1 : Nat)] w2 (Ret fun r w' => Ext w2 w' ∧ FPlan w' (Since w2) r q)) {R : Value → World → Prop} (hR : ∀ u w', Ext w w' → FPlan w' (Since w) u (x :: q) → R u w') :
    DrawV w1 fun S w_7 => LoadS S true 3 (.pointer (some ⟨b, 0, none⟩)) w_7 fun t28 => BinV .add (.int .i64 k) (.int .i64 1) fun t34 =>
      (BSliceV T.impl_Node 3 1 #[.int .i64 0, .slice none 0 0, .slice none 0 0] [(0, t28)] w_7 fun t29 w_8 => Chg S w_7 w_8 ∧ CallV Try.prog N.impl_foldFrom [v, rv0, sv, t34] w_8 fun t35 w_9 => Chg S w_8 w_9 ∧ AppendV Try.prog T.sl_impl_Node t29 t35 w_9 fun t36 w_10 => Chg S w_9 w_10 ∧ R t36 w_10) ∧
      (CallV Try.prog N.impl_foldFrom [v, rv0, sv, t34] w_7 fun t35 w_8 => Chg S w_7 w_8 ∧ BSliceV T.impl_Node 3 1 #[.int .i64 0, .slice none 0 0, .slice none 0 0] [(0, t28)] w_8 fun t29 w_9 => Chg S w_8 w_9 ∧ AppendV Try.prog T.sl_impl_Node t29 t35 w_9 fun t36 w_10 => Chg S w_9 w_10 ∧ R t36 w_10) := by
  subst hkk
  refine ⟨fun j => w1.heap.size ≤ j, fun w2 hs2 => ?_⟩
  have z2 : w2.heap.size = w1.heap.size := by rw [hs2.heap]
  have E2 := hs2.ext
  have hb2 := E2.at hb
  refine ⟨fun h => by have h : w1.heap.size ≤ b := h; have := lt_of_at hb; omega, load_box hb2 ?_⟩
  refine bin_inc (by omega) ?_
  have hcs : (Value.agg #[.int .i64 x.kind, f, r]).cells = #[.int .i64 x.kind, f, r] := by simp [Value.cells]
  have z12 := E1.size
  have lt1 : x.frm ≠ [] → b1 < w1.heap.size := fun h => (hf.lt h).1
  have lt2 : x.row ≠ [] → b2 < w1.heap.size := fun h => (hr.lt h).1
  -- the end of both ways
  have fin : ∀ {w5 w6 : World} {bA : Nat} {u : Value} {bs : Nat → Nat} {fv rv : Nat → Value} {B : Nat → Prop}, Ext w1 w5 → w1.heap.size ≤ bA → Own w5 w1.heap.size T.impl_Node 3 (.slice (some ⟨bA, 0, none⟩) 1 1) 1 [.int .i64 x.kind, f, r] → Own w6 w1.heap.size T.impl_Node 3 u (1 + q.length) ([.int .i64 x.kind, f, r] ++ flat q fv rv) →
      Inner w5 B q bs fv rv → (∀ s, B s → w1.heap.size ≤ s) → Chg (blkIs (.slice (some ⟨bA, 0, none⟩) 1 1)) w5 w6 → Chg (fun j => w1.heap.size ≤ j) w5 w6 ∧ R u w6 := by
    intro w5 w6 bA u bs fv rv B E5 hbA ho5 ho6 hin hB C6
    refine ⟨C6.mono fun j _ hj => by have hj : some bA = some j := hj; cases hj; exact hbA, ?_⟩
    refine hR _ _ ?_ ?_
    · exact Chg.ext ((E1.trans E5).then C6) fun j hj hk => by have hk : some bA = some j := hk; cases hk; omega
    · have hin6 := (hin.beside ho5 C6).mono (B' := Since w) fun s _ hs => by have := hB s hs; unfold Since; omega
      have hf6 := (hf.ext E5).beside ho5 C6
      have hr6 := (hr.ext E5).beside ho5 C6
      have hnot : ∀ s, s < 2 * q.length → slot q s ≠ [] → w1.heap.size ≤ bs s := fun s hs hne => hB _ (hin.inB s hs hne)
      have hc := hin6.cons (x := x) hf6 hr6 hs (fun h => ⟨h1 h, fun s hs' hne => by have := hnot s hs' hne; have := lt1 h; omega⟩) (fun h => ⟨h2 h, fun s hs' hne => by have := hnot s hs' hne; have := lt2 h; omega⟩) h3
      have ho6' : Own w6 w1.heap.size T.impl_Node 3 u (x :: q).length (flat (x :: q) (consF f fv) (consF r rv)) := by rw [flat_cons, List.length_cons, Nat.add_comm]; exact ho6
      exact FPlan.of_own ho6' hc (by simp; omega) fun b hb => by unfold Since; omega
  refine ⟨⟨_, fill_nd, fun w3 hn3 => ⟨hn3.ext.chg, ?_⟩⟩, ?_⟩
  · have z3 := hn3.size
    have hn3' : New w2 (.cells #[.int .i64 x.kind, f, r] T.impl_Node (0, 0)) w3 := hn3
    have ho3 : Own w3 w1.heap.size T.impl_Node 3 (.slice (some ⟨w2.heap.size, 0, none⟩) 1 1) 1 [.int .i64 x.kind, f, r] := Own.made (n := 1) hn3' (by omega) (by simp) (by decide)
    refine callV_of (hrest w3 (E2.trans hn3.ext)) rfl fun u w4 ⟨E4, f4⟩ => ⟨E4.chg, ?_⟩
    have ho4 := Own.ext ho3 E4
    have z4 := E4.size
    refine append_plan ho4 f4 (by omega) (by omega) fun u' w5 bs fv rv ho5 hin C5 => ?_
    exact fin ((E2.trans hn3.ext).trans E4) (by omega) ho4 ho5 hin (fun s hs => by unfold Since at hs; omega) C5
  · refine callV_of (hrest w2 E2) rfl fun u w3 ⟨E3, f3⟩ => ⟨E3.chg, ⟨_, fill_nd, fun w4 hn4 => ⟨hn4.ext.chg, ?_⟩⟩⟩
    have z3 := E3.size
    have z4 := hn4.size
    have hn4' : New w3 (.cells #[.int .i64 x.kind, f, r] T.impl_Node (0, 0)) w4 := hn4
    have ho4 : Own w4 w1.heap.size T.impl_Node 3 (.slice (some ⟨w3.heap.size, 0, none⟩) 1 1) 1 [.int .i64 x.kind, f, r] := Own.made (n := 1) hn4' (by omega) (by simp) (by decide)
    refine append_plan ho4 (f3.ext hn4.ext) (by omega) (by omega) fun u' w5 bs fv rv ho5 hin C5 => ?_
    exact fin ((E2.trans E3).trans hn4.ext) (by omega) ho4 ho5 hin (fun s hs => by unfold Since at hs; omega) C5

theorem vals_at {p : List Nd} {i : Nat} (hi : i < p.length) : (vals p)[i]'(by rw [vals_len]; exact hi) = val p i := by
  unfold val; rw [List.getD_eq_getElem?_getD, List.getElem?_eq_getElem (by rw [vals_len]; exact hi)]; rfl

theorem foldFrom_ok {p : List Nd} (hok : PlanOk p) {c : Nat → Prop} : ∀ (n k : Nat) {w : World} {v rv sv : Value}, PlanV w v p → Lists w rv (vals p) → NSet sv c → k + n = p.length →
    Calls Try.prog N.impl_foldFrom #[v, rv, sv, .int .i64 k] w (Ret fun r w' => Ext w w' ∧ FPlan w' (Since w) r ((foldP p c).drop k)) := by
  intro n
  have h10 := hok.len
  have hfl := foldP_len p c
  induction n with
  | zero =>
    intro k w v rv sv hp hl hs hk
    refine ret_k fun R hR => c_impl_foldFrom _ _ _ _ _ _ ?_
    rw [hp.len]
    simp only [go_sem]
    refine ⟨fun _ => hR _ _ ⟨Ext.refl _, ?_⟩, fun h => absurd (by omega) h⟩
    rw [List.drop_of_length_le (by omega)]
    exact FPlan.nil
  | succ n ih =>
    intro k w v rv sv hp hl hset hk
    refine ret_k fun R hR => c_impl_foldFrom _ _ _ _ _ _ ?_
    have hk' : k < p.length := by omega
    have hdrop : (foldP p c).drop k = nd (foldP p c) k :: (foldP p c).drop (k + 1) := by
      rw [List.drop_eq_getElem_cons (by omega), nd_get (by omega)]
    rw [hdrop] at hR
    have hql : ((foldP p c).drop (k + 1)).length ≤ 1000 := by rw [List.length_drop]; omega
    rw [hp.len]
    simp only [go_sem]
    refine ⟨fun h => absurd h (by omega), fun _ => ?_⟩
    refine hp.load hk' fun x hx => ?_
    have hsm := hp.sml hk'
    refine callV_of (copyNode_ok hx) rfl ?_
    rintro _ w1 ⟨E1, fv, ov, b1, b2, rfl, hf, hr, g1, g2, g12⟩
    have hnk : nd p k = p[k] := nd_get hk'
    intro w2 hn2
    have z2 := hn2.size
    have hn2' : New w1 (.cells #[.int .i64 0, .slice none 0 0, .slice none 0 0] T.impl_Node (0, 0)) w2 := by simpa [Value.cells] using hn2
    have hf2 := hf.ext hn2.ext
    have hr2 := hr.ext hn2.ext
    refine store_node (off := 0) hn2'.here hf2.cellsV hr2.cellsV (by simp) fun w3 hp3 => ?_
    have z1 := E1.size
    have z3 := hp3.size
    have hb3 : w3.heap[w1.heap.size]? = some (.cells #[.int .i64 p[k].kind, fv, ov] T.impl_Node (0, 0)) := by simpa using hp3.here
    have E3 : Ext w w3 := Chg.ext ((E1.trans hn2.ext).then hp3.chg) fun j hj e => by have e : j = w1.heap.size := e; omega
    have l1 : p[k].frm ≠ [] → b1 < w1.heap.size := fun h => (hf.lt h).1
    have l2 : p[k].row ≠ [] → b2 < w1.heap.size := fun h => (hr.lt h).1
    have hf3 := hf2.keep1 hp3.chg fun h e => by have e : b1 = w1.heap.size := e; have := l1 h; omega
    have hr3 := hr2.keep1 hp3.chg fun h e => by have e : b2 = w1.heap.size := e; have := l2 h; omega
    refine callV_of (nsHas_ok hset (i := k) (by omega)) rfl ?_
    rintro _ w4 ⟨E4, m, rfl, hm⟩
    have e4 := E3.trans E4
    have hb4 := E4.at hb3
    have rest : ∀ {w' : World}, Ext w w' → ∀ w2, Ext w' w2 → Calls Try.prog N.impl_foldFrom #[v, rv, sv, .int .i64 (k + 1 : Nat)] w2 (Ret fun r w'' => Ext w2 w'' ∧ FPlan w'' (Since w2) r ((foldP p c).drop (k + 1))) := fun hE w2 h2 =>
      ih (k + 1) (hp.ext (hE.trans h2)) (hl.ext (hE.trans h2)) hset (by omega)
    have z4 := E4.size
    simp only [Split_i]
    refine ⟨fun ht => ?_, fun hfalse => ?_⟩
    · have hc := hm.1 ht
      have hx' : nd (foldP p c) k = ⟨0, [], val p k⟩ := foldP_yes hk' hc
      rw [hx'] at hR
      refine (hl.ext e4).load (i := k) (by rw [vals_len]; exact hk') fun y hy => ?_
      rw [vals_at hk'] at hy
      have hw := (val_row hok hk').1.1
      refine callV_of (copyInts_ok hy (by omega)) rfl fun u w5 ⟨E5, f5⟩ => ?_
      obtain ⟨b3, f5, g5⟩ := f5.one
      have z5 := E5.size
      have hnil : FInts w5 (· = 0) (.slice none 0 0) [] := FInts.nil
      refine ⟨_, fill_node02 f5.cellsV.1, ?_⟩
      refine store_node (off := 0) (E5.at hb4) hnil.cellsV f5.cellsV (by simp) fun w6 hp6 => ?_
      have z6 := hp6.size
      have hb6 : w6.heap[w1.heap.size]? = some (.cells #[.int .i64 0, .slice none 0 0, u] T.impl_Node (0, 0)) := by simpa using hp6.here
      have e6 : Ext w w6 := Chg.ext ((e4.trans E5).then hp6.chg) fun j hj e => by have e : j = w1.heap.size := e; omega
      have f6 := f5.keep1 hp6.chg fun h e => by have e : b3 = w1.heap.size := e; have := (g5 h).1; unfold Since at this; omega
      exact fold_tail e6 (x := ⟨0, [], val p k⟩) rfl hb6 (FInts.nil (B := (· = 0))) f6 ⟨by simp, by show (val p k).length ≤ _; omega⟩ (fun h => absurd rfl h) (fun h => by have := (g5 h).1; unfold Since at this; omega) (fun h => absurd rfl h) hql (by omega) (rest e6) fun u w' hE hfp => hR _ _ ⟨hE, hfp⟩
    · have hc : ¬ c k := fun h => by rw [hm.2 h] at hfalse; cases hfalse
      have hx' : nd (foldP p c) k = p[k] := by rw [foldP_no hk' hc, hnk]
      rw [hx'] at hR
      exact fold_tail e4 (x := p[k]) rfl hb4 (hf3.ext E4) (hr3.ext E4) hsm g1 g2 g12 hql (by omega) (rest e4) fun u w' hE hfp => hR _ _ ⟨hE, hfp⟩

theorem implFoldAll_ok {w : World} {v lv : Value} {p : List Nd} {l : List Int} (hp : PlanV w v p) (hl : Ints w lv l) (hll : l.length ≤ 1099511627776) :
    Calls Try.prog N.impl_FoldAll #[v, lv] w (Ret fun r w' => ∃ u, r = .tuple #[u, .bool (decide (KeepOk p l))] ∧ Ext w w' ∧ FPlan w' (Since w) u (foldO p l)) := by
  refine ret_k fun R hR => c_impl_FoldAll _ _ _ _ ?_
  have no : ∀ w', Ext w w' → ¬ KeepOk p l → R (.tuple #[.slice none 0 0, .bool false]) w' := fun w' hE hn => hR _ _ ⟨_, by rw [decide_eq_false hn], hE, by unfold foldO; rw [if_neg hn]; exact FPlan.nil⟩
  refine callV_of (implValuesOf_ok hp) rfl ?_
  rintro _ w1 ⟨u, rfl, E1, hls⟩
  simp only [go_sem]
  refine ⟨fun h => no _ E1 fun hk => h hk.1, fun hok => ?_⟩
  have hvo : valsO p = vals p := by unfold valsO; rw [if_pos hok]
  rw [hvo] at hls
  refine callV_of (allNodes_ok (hp.ext E1) (hl.ext E1) hll) rfl ?_
  rintro _ w2 ⟨E2, rfl⟩
  have e2 := E1.trans E2
  simp only [go_sem]
  refine ⟨fun h => no _ e2 fun hk => h hk.2, fun hall => ?_⟩
  have hK : KeepOk p l := ⟨hok, hall⟩
  refine callV_of (setOf_ok (hp.ext e2) hok.len (hl.ext e2) hll) rfl ?_
  rintro sv w3 ⟨E3, hs⟩
  have e3 := e2.trans E3
  refine callV_of (foldFrom_ok hok p.length 0 (hp.ext e3) (hls.ext (E2.trans E3)) hs (by omega)) rfl fun u' w4 ⟨E4, f4⟩ => ?_
  refine hR _ _ ⟨u', by rw [decide_eq_true hK], e3.trans E4, ?_⟩
  unfold foldO
  rw [if_pos hK, foldP_congr (d := fun i => i < p.length ∧ (i : Int) ∈ l) fun i hi => ⟨fun h => ⟨hi, h⟩, fun h => h.2⟩]
  rw [List.drop_zero] at f4
  exact f4.mono fun b _ hb => by have := e3.size; unfold Since at hb ⊢; omega

theorem one_list {w w' : World} {x : Int} (hn : New w (.cells #[.int .i64 x] T.int (0, 0)) w') : Ints w' (.slice (some ⟨w.heap.size, 0, none⟩) 1 1) [x] :=
  Own.ints (lo := w.heap.size) (n := 1) (Own.made (n := 1) hn (Nat.le_refl _) rfl (by decide))
theorem implFoldNode_ok {w : World} {v : Value} {p : List Nd} (hp : PlanV w v p) (a : Int) :
    Calls Try.prog N.impl_FoldNode #[v, .int .i64 a] w (Ret fun r w' => ∃ u, r = .tuple #[u, .bool (decide (KeepOk p [a]))] ∧ Ext w w' ∧ FPlan w' (Since w) u (foldO p [a])) := by
  refine ret_k fun R hR => c_impl_FoldNode _ _ _ _ ?_
  refine ⟨_, fill1, fun w1 hn1 => ?_⟩
  refine callV_of (implFoldAll_ok (hp.ext hn1.ext) (one_list hn1) (by simp)) rfl ?_
  rintro _ w2 ⟨u, rfl, E2, f2⟩
  simp only [go_sem]
  exact hR _ _ ⟨u, rfl, hn1.ext.trans E2, f2.mono fun b _ hb => by have := hn1.size; unfold Since at hb ⊢; omega⟩

/-! ### Lists that are compared -/
theorem slicesEqual_ok {w : World} {u v : Value} {xs ys : List Int} (hx : Ints w u xs) (hy : Ints w v ys) (hl : xs.length < 9223372036854775807) :
    Calls Try.prog N.slices_Equal #[u, v] w (Ret fun r w' => Ext w w' ∧ r = .bool (decide (xs = ys))) := by
  refine ret_k fun R hR => c_slices_Equal _ _ _ _ ?_
  have l1 : ∀ K, LenV u K = K (.int .i64 xs.length) := fun K => ints_len hx
  have l2 : ∀ K, LenV v K = K (.int .i64 ys.length) := fun K => ints_len hy
  simp only [l1, l2, go_sem]
  refine ⟨fun h => hR _ _ ⟨Ext.refl _, ?_⟩, fun h => ?_⟩
  · have : xs ≠ ys := by rintro rfl; simp at h
    simp [this]
  · have hlen : xs.length = ys.length := by omega
    refine loopV (fun s w' => ∃ k : Nat, s = [.int .i64 k] ∧ k ≤ xs.length ∧ Ext w w' ∧ ∀ i (h : i < k) (h1 : i < xs.length), xs[i] = ys[i]'(by omega)) (upTo xs.length 0) ⟨0, rfl, by omega, Ext.refl _, fun i h => by omega⟩ ?_
    rintro s z w' K ⟨k, rfl, hk, hE, heq⟩ hK
    simp only [go_sem]
    refine ⟨fun h => ?_, fun h => ?_⟩
    · have hk : k < xs.length := by omega
      refine draw_none fun w0 hs => ?_
      have hE0 : Ext w w0 := hE.trans hs.ext
      refine Ints.loadS (hx.ext hE0) hk (fun _ => id) ?_
      refine Ints.loadS (hy.ext hE0) (q := k) (by omega) (fun _ => id) ?_
      simp only [go_sem]
      refine ⟨fun h => hR _ _ ⟨hE0, ?_⟩, fun h => ?_⟩
      · have : xs ≠ ys := by rintro rfl; exact h rfl
        simp [this]
      · refine bin_inc (by omega) (hK _ _ ⟨k + 1, rfl, by omega, hE0, fun i hi h1 => ?_⟩ (by simp [upTo, nthV, iOf]; omega))
        by_cases e : i = k
        · subst e; simpa using h
        · exact heq i (by omega) h1
    · have : xs = ys := (list_eq_iff hlen).2 fun i hi => heq i (by omega) hi
      exact hR _ _ ⟨hE, by simp [this]⟩
theorem okSame : okFn Try.prog N.impl_sameLists_1 = true := by kernel_rfl
theorem sameLists_ok {w : World} {u v : Value} {ls ms : List (List Int)} (hx : Lists w u ls) (hy : Lists w v ms) (hl : ls.length ≤ 1048576) (hs : ∀ l ∈ ls, l.length ≤ 1048576) :
    Calls Try.prog N.impl_sameLists #[u, v] w (Ret fun r w' => Ext w w' ∧ r = .bool (decide (ls = ms))) := by
  refine ret_k fun R hR => c_impl_sameLists _ _ _ _ ?_
  refine callV_of (ret_k (Q := fun r w' => Ext w w' ∧ r = .bool (decide (ls = ms))) fun R hR => c_slices_EqualFunc _ _ _ _ _ ?_) rfl fun _ _ h => hR _ _ h
  have l1 : ∀ K, LenV u K = K (.int .i64 ls.length) := fun K => hx.len
  have l2 : ∀ K, LenV v K = K (.int .i64 ms.length) := fun K => hy.len
  simp only [l1, l2, go_sem]
  refine ⟨fun h => hR _ _ ⟨Ext.refl _, ?_⟩, fun h => ?_⟩
  · have : ls ≠ ms := by rintro rfl; simp at h
    simp [this]
  · have hlen : ls.length = ms.length := by omega
    refine loopV (fun s w' => ∃ k : Nat, s = [.int .i64 k] ∧ k ≤ ls.length ∧ Ext w w' ∧ ∀ i (h : i < k) (h1 : i < ls.length), ls[i] = ms[i]'(by omega)) (upTo ls.length 0) ⟨0, rfl, by omega, Ext.refl _, fun i h => by omega⟩ ?_
    rintro s z w1 K ⟨k, rfl, hk, E1, heq⟩ hK
    simp only [go_sem]
    refine ⟨fun h => ?_, fun h => ?_⟩
    · have hk : k < ls.length := by omega
      refine (hx.ext E1).load (i := k) hk fun x hx => ?_
      refine (hy.ext E1).load (i := k) (by omega) fun y hy => ?_
      refine ⟨okSame, ?_⟩
      have hlk := hs _ (List.getElem_mem hk)
      refine callV_of (ret_k (Q := fun r w' => Ext w1 w' ∧ r = .bool (decide (ls[k] = ms[k]'(by omega)))) fun R hR => c_impl_sameLists_1 _ _ _ _ (callV_of (slicesEqual_ok hx hy (by omega)) rfl fun _ _ h => hR _ _ h)) rfl ?_
      rintro _ w2 ⟨E2, rfl⟩
      have e2 := E1.trans E2
      simp only [go_sem]
      refine ⟨fun h => hR _ _ ⟨e2, ?_⟩, fun h => ?_⟩
      · have : ls ≠ ms := by rintro rfl; exact h rfl
        simp [this]
      · refine bin_inc (by omega) (hK _ _ ⟨k + 1, rfl, by omega, e2, fun i hi h1 => ?_⟩ (by simp [upTo, nthV, iOf]; omega))
        by_cases e : i = k
        · subst e; exact h
        · exact heq i (by omega) h1
    · have : ls = ms := List.ext_getElem hlen fun i h1 h2 => heq i (by omega) h1
      exact hR _ _ ⟨E1, by simp [this]⟩

/-- Both plans are valid, and have the same rows. -/
def SameO (a b : List Nd) : Prop := PlanOk a ∧ PlanOk b ∧ vals a = vals b
noncomputable instance (a b : List Nd) : Decidable (SameO a b) := Classical.propDecidable _
theorem vals_small {p : List Nd} (hok : PlanOk p) : ∀ l ∈ vals p, l.length ≤ 6 := by
  intro l hl
  obtain ⟨i, hi, rfl⟩ := List.mem_iff_getElem.1 hl
  rw [vals_len] at hi
  rw [vals_at hi]
  exact (val_row hok hi).1.1
theorem implFoldSame_ok {w : World} {u v : Value} {a b : List Nd} (ha : PlanV w u a) (hb : PlanV w v b) :
    Calls Try.prog N.impl_FoldSame #[u, v] w (Ret fun r w' => Ext w w' ∧ r = .bool (decide (SameO a b))) := by
  refine ret_k fun R hR => c_impl_FoldSame _ _ _ _ ?_
  refine callV_of (implValuesOf_ok ha) rfl ?_
  rintro _ w1 ⟨x, rfl, E1, hx⟩
  simp only [go_sem]
  refine callV_of (implValuesOf_ok (hb.ext E1)) rfl ?_
  rintro _ w2 ⟨y, rfl, E2, hy⟩
  have e2 := E1.trans E2
  simp only [go_sem]
  have no : ¬ SameO a b → R (.bool false) w2 := fun hn => hR _ _ ⟨e2, by rw [decide_eq_false hn]⟩
  refine ⟨fun h1 => ⟨fun h2 => ?_, fun h2 => no fun h => h2 h.2.1⟩, fun h1 => no fun h => h1 h.1⟩
  have v1 : valsO a = vals a := by unfold valsO; rw [if_pos h1]
  have v2 : valsO b = vals b := by unfold valsO; rw [if_pos h2]
  rw [v1] at hx
  rw [v2] at hy
  refine callV_of (sameLists_ok (hx.ext E2) hy (by rw [vals_len]; have := h1.len; omega) fun l hl => by have := vals_small h1 l hl; omega) rfl ?_
  rintro _ w3 ⟨E3, rfl⟩
  refine hR _ _ ⟨e2.trans E3, ?_⟩
  congr 1
  rw [Bool.eq_iff_iff, decide_eq_true_eq, decide_eq_true_eq]
  exact ⟨fun h => ⟨h1, h2, h⟩, fun h => h.2.2⟩
end Go.Proofs.Ytblgkpfnjlobjaa
