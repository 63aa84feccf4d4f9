/- Folding: the reference's way. -/
import Derived.Test.YtblgkpfnjlobjaaFoldI
import Derived.Test.YtblgkpfnjlobjaaRowSpec
import Derived.Test.YtblgkpfnjlobjaaL3Copy
import Derived.Test.YtblgkpfnjlobjaaL13
namespace Go.Proofs.Ytblgkpfnjlobjaa
open Go Go.V

theorem FInts.reB {w : World} {B : Nat → Prop} {b : Nat} {v : Value} {xs : List Int} (h : FInts w (· = b) v xs) (hB : xs ≠ [] → B b) : FInts w B v xs := by
  obtain ⟨a, c, hv, hc, hr⟩ := h.out
  refine ⟨a, c, hv, hc, fun hne => ?_⟩
  obtain ⟨b', off, cur, ha, rfl, r⟩ := hr hne
  exact ⟨b', off, cur, ha, hB hne, r⟩
theorem Grow.dplan {w : World} {lo lo' : Nat} {v : Value} {p : List Nd} (h : Grow w lo lo' v p) (hl : p.length ≤ 1048576) (hlo : lo ≤ lo') : DPlan w lo v p := by
  obtain ⟨bs, fv, rv, ho, hi⟩ := h.out
  refine ⟨fv, rv, ho, hl, fun i hi' => ?_⟩
  obtain ⟨k1, k2, k3⟩ := hi.ints i hi'
  refine ⟨FInts.reB k1 fun hne => ?_, FInts.reB k2 fun hne => ?_, k3⟩
  · have := hi.inB (2 * i) (by omega) (by rw [slot_f]; exact hne); omega
  · have := hi.inB (2 * i + 1) (by omega) (by rw [slot_r]; exact hne); omega
theorem DPlan.lower {w : World} {lo lo' : Nat} {v : Value} {p : List Nd} (h : DPlan w lo v p) (hl : lo' ≤ lo) : DPlan w lo' v p := by
  obtain ⟨fv, rv, ho, hpl, hin⟩ := h.out
  refine ⟨fv, rv, Own.mono ho hl, hpl, fun i hi => ?_⟩
  obtain ⟨h1, h2, h3⟩ := hin i hi
  exact ⟨h1.mono fun _ _ h => Nat.le_trans hl h, h2.mono fun _ _ h => Nat.le_trans hl h, h3⟩
theorem GLists.load {w : World} {lo : Nat} {B : Nat → Prop} {v : Value} {ls : List (List Int)} (h : GLists w lo B v ls) {i : Nat} (hi : i < ls.length) {K : Value → Prop} (hK : ∀ x, FInts w B x ls[i] → K x) : IdxV 1 v (.int .i64 i) fun t => LoadV false 1 t w K := by
  obtain ⟨vs, ho, hl, hh⟩ := h.out
  obtain ⟨a, c, rfl, hc, _, hcell⟩ := Own.cells ho
  obtain ⟨b, off, rfl, hx⟩ := hcell i vs[i] (List.getElem?_eq_getElem (by omega))
  refine ⟨by omega, by omega, ?_⟩
  simp only [addr_add, Int.toNat_natCast, Nat.mul_one]
  exact ⟨_, hx, hK _ (hh i hi (by omega))⟩

theorem foldP_one {p : List Nd} {i : Nat} (hi : i < p.length) : foldP p (fun j => (j : Int) ∈ [(i : Int)]) = p.set i ⟨0, [], val p i⟩ := by
  refine ext_nd (by simp [foldP_len]) fun j hj => ?_
  rw [foldP_len] at hj
  rw [nd_set hi]
  by_cases e : j = i
  · subst e; rw [if_pos rfl, foldP_yes hj (by simp)]
  · rw [if_neg e, foldP_no hj (by simp; omega)]

theorem specFoldNode_ok {w : World} {v : Value} {p : List Nd} (hp : PlanV w v p) (a : Int) :
    Calls Try.prog N.spec_FoldNode #[v, .int .i64 a] w (Ret fun r w' => ∃ u, r = .tuple #[u, .bool (decide (KeepOk p [a]))] ∧ Ext w w' ∧ DPlan w' w.heap.size u (foldO p [a])) := by
  refine ret_k fun R hR => c_spec_FoldNode _ _ _ _ ?_
  have no : ∀ w', Ext w w' → ¬ KeepOk p [a] → BSliceV T.impl_Node 3 0 #[.int .i64 0, .slice none 0 0, .slice none 0 0] [] w' fun t w2 => R (.tuple #[t, .bool false]) w2 := fun w' hE hn =>
    ⟨_, rfl, fun w2 hn2 => hR _ _ ⟨_, by rw [decide_eq_false hn], hE.trans hn2.ext, by unfold foldO; rw [if_neg hn]; exact DPlan.nil hn2 hE.size⟩⟩
  refine callV_of (specPlanValid_ok hp) rfl ?_
  rintro _ w1 ⟨E1, rfl⟩
  have hlen : ∀ K, LenV v K = K (.int .i64 p.length) := fun K => hp.len
  have hsm := hp.small
  simp only [hlen, go_sem]
  refine ⟨fun h => no _ E1 fun hk => h hk.1, fun hok => ?_⟩
  refine bin_sub ⟨by omega, by omega⟩ ?_
  refine callV_of (l6In_ok _ _ _) rfl ?_
  rintro _ w2 ⟨E2, rfl⟩
  have e2 := E1.trans E2
  simp only [go_sem]
  refine ⟨fun h => no _ e2 fun hk => h (by have := hk.2 a (by simp); omega), fun hin => ?_⟩
  obtain ⟨i, rfl⟩ : ∃ i : Nat, a = (i : Int) := ⟨a.toNat, by omega⟩
  have hi : i < p.length := by omega
  have hK : KeepOk p [(i : Int)] := ⟨hok, fun x hx => by simp at hx; subst hx; omega⟩
  rw [decide_eq_true hK] at hR
  refine callV_of (l3Copy_grow (hp.ext e2)) rfl fun u w3 ⟨E3, g3⟩ => ?_
  have d3 := g3.dplan hsm (Nat.le_refl _)
  have e3 := e2.trans E3
  refine ⟨_, rfl, fun w4 hn4 => ?_⟩
  have e4 := e3.trans hn4.ext
  refine callV_of (l4Values_ok (hp.ext e4) hok) rfl fun x w5 ⟨E5, h5⟩ => ?_
  have e5 := e4.trans E5
  refine h5.load (i := i) (by rw [vals_len]; exact hi) fun y hy => ?_
  rw [vals_at hi] at hy
  have z2 := e2.size
  have z3 := e3.size
  have z4 := e4.size
  have zz := hn4.size
  have z23 := E3.size
  refine build_node rfl rfl hy.cellsV.1 ?_
  have d5 : DPlan w5 w2.heap.size u p := (d3.ext hn4.ext).ext E5
  have hw := (val_row hok hi).1.1
  refine d5.setNode hi (x := ⟨0, [], val p i⟩) rfl FInts.nil (hy.mono fun b _ hb => by unfold Since at hb; omega) ⟨by simp, by show (val p i).length ≤ _; omega⟩ fun w6 C6 z6 d6 => ?_
  refine hR _ _ ⟨u, rfl, Chg.ext (e5.then C6) fun j hj hb => by have := (d5.blk hb).1; omega, ?_⟩
  unfold foldO
  rw [if_pos hK, foldP_one hi]
  exact d6.lower z2

theorem specFoldAll_ok {w : World} {v lv : Value} {p : List Nd} {l : List Int} (hp : PlanV w v p) (hl : Ints w lv l) (hll : l.length ≤ 1099511627776) :
    Calls Try.prog N.spec_FoldAll #[v, lv] w (Ret fun r w' => ∃ u, r = .tuple #[u, .bool (decide (KeepOk p l))] ∧ Ext w w' ∧ DPlan w' w.heap.size u (foldO p l)) := by
  refine ret_k fun R hR => c_spec_FoldAll _ _ _ _ ?_
  have no : ∀ w', Ext w w' → ¬ KeepOk p l → BSliceV T.impl_Node 3 0 #[.int .i64 0, .slice none 0 0, .slice none 0 0] [] w' fun t w2 => R (.tuple #[t, .bool false]) w2 := fun w' hE hn =>
    ⟨_, rfl, fun w2 hn2 => hR _ _ ⟨_, by rw [decide_eq_false hn], hE.trans hn2.ext, by unfold foldO; rw [if_neg hn]; exact DPlan.nil hn2 hE.size⟩⟩
  have llen : ∀ K, LenV lv K = K (.int .i64 l.length) := fun K => ints_len hl
  refine callV_of (specPlanValid_ok hp) rfl ?_
  rintro _ w1 ⟨E1, rfl⟩
  simp only [llen, go_sem]
  refine ⟨fun h => no _ E1 fun hk => h hk.1, fun hok => ?_⟩
  refine callV_of (l3Copy_grow (hp.ext E1)) rfl fun u w2 ⟨E2, g2⟩ => ?_
  have e2 := E1.trans E2
  refine loopV (fun s w' => ∃ (k : Nat) (u : Value), s = [u, .int .i64 k] ∧ k ≤ l.length ∧ Ext w w' ∧ (∀ x ∈ l.take k, 0 ≤ x ∧ x < (p.length : Int)) ∧ DPlan w' w.heap.size u (foldP p fun i => (i : Int) ∈ l.take k)) (upTo l.length 1)
    ⟨0, u, rfl, by omega, e2, by simp, by rw [foldP_none p (by simp)]; exact (g2.dplan hp.small (Nat.le_refl _)).lower E1.size⟩ ?_
  rintro s z w3 K ⟨k, u, rfl, hk, E3, hin, d3⟩ hK
  simp only [go_sem]
  have hfo : PlanOk (foldP p fun i => (i : Int) ∈ l.take k) := foldP_ok hok _
  refine ⟨fun h => ?_, fun h => ?_⟩
  · have hk : k < l.length := by omega
    refine Ints.loadI (hl.ext E3) hk ?_
    refine callV_of (specFoldNode_ok d3.plan _) rfl ?_
    rintro _ w4 ⟨u', rfl, E4, d4⟩
    have e4 := E3.trans E4
    simp only [go_sem]
    refine ⟨fun hn => no _ e4 fun hk' => hn ⟨hfo, fun x hx => ?_⟩, fun hk' => ?_⟩
    · simp at hx; subst hx
      rw [foldP_len]; exact hk'.2 _ (List.getElem_mem hk)
    · have hx := hk'.2 l[k] (by simp)
      rw [foldP_len] at hx
      refine bin_inc (by omega) (hK _ _ ⟨k + 1, u', rfl, by omega, e4, fun x hx' => ?_, ?_⟩ (by simp [upTo, nthV, iOf]; omega))
      · rw [take_snoc hk, List.mem_append, List.mem_singleton] at hx'
        rcases hx' with hx' | rfl
        · exact hin x hx'
        · exact hx
      · unfold foldO at d4
        rw [if_pos hk', foldP_fold hok] at d4
        rw [take_snoc hk]
        have hc : (foldP p fun i => (i : Int) ∈ l.take k ++ [l[k]]) = foldP p fun i => (i : Int) ∈ l.take k ∨ (i : Int) ∈ [l[k]] := foldP_congr fun i _ => List.mem_append
        rw [hc]
        exact d4.lower E3.size
  · have hk : k = l.length := by omega
    subst hk
    rw [List.take_length] at hin d3
    have hK : KeepOk p l := ⟨hok, hin⟩
    exact hR _ _ ⟨u, by rw [decide_eq_true hK], E3, by unfold foldO; rw [if_pos hK]; exact d3⟩

theorem specFoldSame_ok {w : World} {u v : Value} {a b : List Nd} (ha : PlanV w u a) (hb : PlanV w v b) :
    Calls Try.prog N.spec_FoldSame #[u, v] w (Ret fun r w' => Ext w w' ∧ r = .bool (decide (SameO a b))) := by
  refine ret_k fun R hR => c_spec_FoldSame _ _ _ _ ?_
  have no : ∀ w', Ext w w' → ¬ SameO a b → R (.bool false) w' := fun w' hE hn => hR _ _ ⟨hE, by rw [decide_eq_false hn]⟩
  have l1 : ∀ K, LenV u K = K (.int .i64 a.length) := fun K => ha.len
  have l2 : ∀ K, LenV v K = K (.int .i64 b.length) := fun K => hb.len
  refine callV_of (specPlanValid_ok ha) rfl ?_
  rintro _ w1 ⟨E1, rfl⟩
  simp only [go_sem]
  refine ⟨fun h => no _ E1 fun hs => h hs.1, fun h1 => ?_⟩
  refine callV_of (specPlanValid_ok (hb.ext E1)) rfl ?_
  rintro _ w2 ⟨E2, rfl⟩
  have e2 := E1.trans E2
  simp only [l1, l2, go_sem]
  refine ⟨fun h => no _ e2 fun hs => h hs.2.1, fun h2 => ⟨fun h => no _ e2 fun hs => ?_, fun h => ?_⟩⟩
  · have := congrArg List.length hs.2.2
    rw [vals_len, vals_len] at this
    exact h (by rw [this])
  have hlen : a.length = b.length := by have := Classical.not_not.1 h; omega
  have h10 := h1.len
  refine callV_of (l4Values_ok (ha.ext e2) h1) rfl fun x w3 ⟨E3, g3⟩ => ?_
  refine callV_of (l4Values_ok (hb.ext (e2.trans E3)) h2) rfl fun y w4 ⟨E4, g4⟩ => ?_
  have hx := (g3.ext E4).lists
  have hy := g4.lists
  have e4 := (e2.trans E3).trans E4
  have xl : ∀ K, LenV x K = K (.int .i64 a.length) := fun K => by rw [hx.len, vals_len]
  refine loopV (fun s w' => ∃ k : Nat, s = [.int .i64 k] ∧ k ≤ a.length ∧ Ext w4 w' ∧ ∀ i, i < k → i < a.length → val a i = val b i) (upTo a.length 0) ⟨0, rfl, by omega, Ext.refl _, fun i h => by omega⟩ ?_
  rintro s z w5 K ⟨k, rfl, hk, E5, heq⟩ hK
  simp only [xl, go_sem]
  refine ⟨fun h => ?_, fun h => ?_⟩
  · have hk : k < a.length := by omega
    refine draw_none fun w6 hs6 => ?_
    have e6 := E5.trans hs6.ext
    refine (hx.ext e6).loadS (i := k) (by rw [vals_len]; exact hk) (fun _ => id) fun p hp => ?_
    refine (hy.ext e6).loadS (i := k) (by rw [vals_len]; omega) (fun _ => id) fun q hq => ?_
    rw [vals_at hk] at hp
    rw [vals_at (by omega)] at hq
    have hw := (val_row h1 hk).1.1
    refine callV_of (l13Same_ok hp hq (by omega)) rfl ?_
    rintro _ w7 ⟨E7, rfl⟩
    refine ⟨E7, ?_⟩
    simp only [go_sem]
    refine ⟨fun hne => no _ ((e4.trans e6).trans E7) fun hs => hne ?_, fun he => ?_⟩
    · unfold val; rw [hs.2.2]
    · refine bin_inc (by omega) (hK _ _ ⟨k + 1, rfl, by omega, e6.trans E7, fun i hi hia => ?_⟩ (by simp [upTo, nthV, iOf]; omega))
      by_cases e : i = k
      · subst e; exact he
      · exact heq i (by omega) hia
  · have hk : k = a.length := by omega
    subst hk
    have hs : SameO a b := ⟨h1, h2, vals_ext hlen fun i hi => heq i hi hi⟩
    exact hR _ _ ⟨e4.trans E5, by rw [decide_eq_true hs]⟩
end Go.Proofs.Ytblgkpfnjlobjaa
