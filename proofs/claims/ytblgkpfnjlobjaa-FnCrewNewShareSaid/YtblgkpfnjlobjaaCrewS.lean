/- New workers: the reference's way. -/
import Derived.Test.YtblgkpfnjlobjaaCrewI
namespace Go.Proofs.Ytblgkpfnjlobjaa
open Go Go.V

theorem fill_12 {b d : Value} (hb : b.cells = #[b]) (hd : d.cells = #[d]) : Instr.fill (fun i => ([(0, 1), (1, 1), (2, 1), (3, 1)] : List (Nat × Nat))[i]?) #[.slice none 0 0, .slice none 0 0, .slice none 0 0, .slice none 0 0] [(1, b), (2, d)] = some #[.slice none 0 0, b, d, .slice none 0 0] := by
  simp [Instr.fill, hb, hd]
theorem FInts.loadS {S B : Nat → Prop} {w : World} {v : Value} {xs : List Int} (h : FInts w B v xs) {q : Nat} (hq : q < xs.length) (hS : ∀ b, b < w.heap.size → B b → ¬ S b) {K : Value → Prop} (hK : K (.int .i64 xs[q])) : IdxV 1 v (.int .i64 q) fun t => LoadS S false 1 t w K := by
  obtain ⟨a, c, rfl, hc, hr⟩ := h.out
  obtain ⟨b, off, cur, rfl, hB, hb, hsz, hx⟩ := hr (List.ne_nil_of_length_pos (by omega))
  refine ⟨by omega, by omega, ?_⟩
  simp only [addr_add, Int.toNat_natCast, Nat.mul_one]
  exact loadS2 hb (hS b (lt_of_at hb) hB) (hx q _ (List.getElem?_eq_getElem hq)) hK
theorem GP.nil {w : World} {e : Nat} {Bu Be : Nat → Prop} : GP w e (.slice none 0 0) Bu Be [] [] :=
  ⟨Own.nil, rfl, fun k hk => (by cases hk), fun i hi => (by simp at hi), fun i hi => (by simp at hi), fun i j k hi => (by simp at hi)⟩

theorem specCrewNew_ok {w : World} {v : Value} {p : List Nd} (hp : PlanV w v p) (n : Int) :
    Calls Try.prog N.spec_CrewNew #[v, .int .i64 n] w (Ret fun r w' => ∃ u, r = .tuple #[u, .bool (decide (CrewOk p n))] ∧ Ext w w' ∧ CrewV w' u (crewO p n)) := by
  refine ret_k fun R hR => c_spec_CrewNew _ _ _ _ ?_
  refine box_crew rfl fun w1 E1 hb1 => ?_
  have hlen : ∀ K, LenV v K = K (.int .i64 p.length) := fun K => hp.len
  have nc : ∀ x ∈ ([.slice none 0 0, .slice none 0 0, .slice none 0 0, .slice none 0 0] : List Value), x.cells = #[x] ∧ x.oneCell' = true := by simp [Value.cells, Value.oneCell']
  have z1 : w.heap.size < w1.heap.size := lt_of_at hb1
  have no : ∀ w', Ext w1 w' → ¬ CrewOk p n → BuildV #[.slice none 0 0, .slice none 0 0, .slice none 0 0, .slice none 0 0] (fun i => ([(0, 1), (1, 1), (2, 1), (3, 1)] : List (Nat × Nat))[i]?) [] fun t21 =>
      StoreV 4 (.pointer (some ⟨w.heap.size, 0, none⟩)) t21 w' fun w_3 => LoadV true 4 (.pointer (some ⟨w.heap.size, 0, none⟩)) w_3 fun r => R (.tuple #[r, .bool false]) w_3 := fun w' hE hn => by
    refine ⟨_, fill_none, ?_⟩
    refine store_all (vs := [.slice none 0 0, .slice none 0 0, .slice none 0 0, .slice none 0 0]) (hE.at hb1) rfl nc fun w2 hp2 => ?_
    refine load_all (vs := [.slice none 0 0, .slice none 0 0, .slice none 0 0, .slice none 0 0]) hp2.here ?_
    refine hR _ _ ⟨_, by rw [decide_eq_false hn], Chg.ext ((E1.trans hE).then hp2.chg) fun k hk e => by have e : k = w.heap.size := e; omega, ?_⟩
    unfold crewO; rw [if_neg hn]
    exact (FCrew.empty (B := fun _ => True)).crew
  refine callV_of (specPlanValid_ok (hp.ext E1)) rfl ?_
  rintro _ w2 ⟨E2, rfl⟩
  simp only [go_sem]
  refine ⟨fun h => no _ E2 fun hk => h hk.1, fun hok => ?_⟩
  refine callV_of (l6In_ok _ _ _) rfl ?_
  rintro _ w3 ⟨E3, rfl⟩
  have e13 := E2.trans E3
  simp only [go_sem]
  refine ⟨fun h => no _ e13 fun hk => h hk.2, fun hn => ?_⟩
  have hC : CrewOk p n := ⟨hok, hn⟩
  rw [decide_eq_true hC] at hR
  obtain ⟨m, rfl⟩ : ∃ m : Nat, n = (m : Int) := ⟨n.toNat, by omega⟩
  have h10 := hok.len
  have e3 := E1.trans e13
  have z3 := e13.size
  refine callV_of (l11Counts_ok (hp.ext e3)) rfl fun cv w4 hf4 => ?_
  have E4 := hf4.1
  have f4 := hf4.bet
  rw [firsts_cnt hok] at f4
  have z4 := E4.size
  refine ⟨_, rfl, fun w5 hn5 => ?_⟩
  have z5 := hn5.size
  have f5 := f4.ext hn5.ext
  have hcv := f4.cellsV
  refine ⟨_, fill_12 hcv.1 rfl, ?_⟩
  refine box_crew rfl fun w6 E6 hb6 => ?_
  have z6 : w5.heap.size < w6.heap.size := lt_of_at hb6
  refine store_all (vs := [.slice none 0 0, cv, .slice (some ⟨w4.heap.size, 0, none⟩) 0 0, .slice none 0 0]) hb6 rfl (four ⟨rfl, rfl⟩ hcv ⟨rfl, rfl⟩ ⟨rfl, rfl⟩) fun w8 hp8 => ?_
  have z8 := hp8.size
  have f8 := (f5.ext E6).keep hp8.chg fun q hq e => by have e : q = w5.heap.size := e; obtain ⟨h1, h2⟩ := hq; omega
  have e35 := (E4.trans hn5.ext).trans E6
  have hb8 : w8.heap[w.heap.size]? = some (.cells #[.slice none 0 0, .slice none 0 0, .slice none 0 0, .slice none 0 0] T.impl_Crew (0, 0)) :=
    hp8.chg.at (e35.at (e13.at hb1)) fun e => by have e : w.heap.size = w5.heap.size := e; omega
  have e8 : Ext w w8 := Chg.ext ((e3.trans e35).then hp8.chg) fun q hq e => by have e : q = w5.heap.size := e; omega
  -- the lists of the workers
  refine loopV (fun s w' => ∃ (k : Nat) (u : Value) (vs : List Value), s = [.int .i64 k] ∧ k ≤ m ∧ Chg (· = w5.heap.size) w8 w' ∧ w'.heap[w5.heap.size]? = some (.cells #[u, cv, .slice (some ⟨w4.heap.size, 0, none⟩) 0 0, .slice none 0 0] T.impl_Crew (0, 0)) ∧ GP w' T.sl_int u (w8.heap.size ≤ ·) (w8.heap.size ≤ ·) (List.replicate k []) vs) (upTo m 0)
    ⟨0, .slice none 0 0, [], rfl, by omega, Chg.refl _ _, hp8.here, GP.nil⟩ ?_
  rintro s z w9 K ⟨k, u, vs, rfl, hk, C9, hb9, hg9⟩ hK
  have z9 := C9.size
  simp only [go_sem]
  refine ⟨fun h => ?_, fun h => ?_⟩
  · have hk : k < m := by omega
    refine load2 (v := u) hb9 rfl ?_
    refine ⟨_, rfl, fun w10 hn10 => ?_⟩
    have z10 := hn10.size
    have hy : Own w10 0 T.int 1 (.slice (some ⟨w9.heap.size, 0, none⟩) 0 0) 0 (ints []) := Own.empty hn10 (Nat.zero_le _)
    refine (hg9.ext hn10.ext).push sl_sl el_sl (by decide) hy (fun q hq => ?_) (by simp; omega) (fun q hq => by omega) fun u' w11 hg11 C11 => ?_
    · have hq : some w9.heap.size = some q := hq
      cases hq
      exact ⟨z9, fun i hi hk' => by have := hg9.lt hi hk'; omega⟩
    have z11 := C11.size
    have hb11 := C11.at (hn10.ext.at hb9) fun hk' => by have := hg9.ub _ hk'; omega
    have huc := own_cellsV hg11.arr
    refine store_at hb11 huc.1 huc.2 (by simp) fun w12 hp12 => ?_
    refine bin_inc (by omega) (hK _ _ ⟨k + 1, u', vs ++ [.slice (some ⟨w9.heap.size, 0, none⟩) 0 0], rfl, by omega, ?_, by simpa using hp12.here, ?_⟩ (by simp [upTo, nthV, iOf]; omega))
    · exact Chg.trans (Chg.trans (C9.andThen hn10.ext.chg) C11 (fun _ _ h => h) fun q hq hq' => by have := hg9.ub q hq'; omega) hp12.chg (fun _ _ h => h) fun q _ e => e
    · rw [List.replicate_succ']
      exact hg11.keep hp12.chg fun q _ hq e => by have e : q = w5.heap.size := e; rcases hq with hq | hq <;> omega
  have hk : k = m := by omega
  subst hk
  -- rows
  refine loopV (fun s w' => ∃ (k : Nat) (rv : Value) (vr : List Value), s = [.int .i64 k] ∧ k ≤ p.length ∧ Chg (· = w5.heap.size) w9 w' ∧ w'.heap[w5.heap.size]? = some (.cells #[u, cv, .slice (some ⟨w4.heap.size, 0, none⟩) 0 0, rv] T.impl_Crew (0, 0)) ∧ GP w' T.sl_int rv (w9.heap.size ≤ ·) (w9.heap.size ≤ ·) (List.replicate k []) vr) (upTo p.length 0)
    ⟨0, .slice none 0 0, [], rfl, by omega, Chg.refl _ _, hb9, GP.nil⟩ ?_
  rintro s z w10 K ⟨q, rv, vr, rfl, hq, C10, hb10, hg10⟩ hK
  have z10 := C10.size
  simp only [hlen, go_sem]
  refine ⟨fun h => ?_, fun h => ?_⟩
  · have hq : q < p.length := by omega
    refine load2 (v := rv) hb10 rfl ?_
    refine ⟨_, rfl, fun w11 hn11 => ?_⟩
    have z11 := hn11.size
    have hy : Own w11 0 T.int 1 (.slice (some ⟨w10.heap.size, 0, none⟩) 0 0) 0 (ints []) := Own.empty hn11 (Nat.zero_le _)
    refine (hg10.ext hn11.ext).push sl_sl el_sl (by decide) hy (fun x hx => ?_) (by simp; omega) (fun x hx => by omega) fun u' w12 hg12 C12 => ?_
    · have hx : some w10.heap.size = some x := hx
      cases hx
      exact ⟨z10, fun i hi hk' => by have := hg10.lt hi hk'; omega⟩
    have z12 := C12.size
    have hb12 := C12.at (hn11.ext.at hb10) fun hk' => by have := hg10.ub _ hk'; omega
    have huc := own_cellsV hg12.arr
    refine store_at hb12 huc.1 huc.2 (by simp) fun w13 hp13 => ?_
    refine bin_inc (by omega) (hK _ _ ⟨q + 1, u', vr ++ [.slice (some ⟨w10.heap.size, 0, none⟩) 0 0], rfl, by omega, ?_, by simpa using hp13.here, ?_⟩ (by simp [upTo, nthV, iOf]; omega))
    · exact Chg.trans (Chg.trans (C10.andThen hn11.ext.chg) C12 (fun _ _ h => h) fun x hx hx' => by have := hg10.ub x hx'; omega) hp13.chg (fun _ _ h => h) fun x _ e => e
    · rw [List.replicate_succ']
      exact hg12.keep hp13.chg fun x _ hx e => by have e : x = w5.heap.size := e; rcases hx with hx | hx <;> omega
  have hq : q = p.length := by omega
  subst hq
  have C810 : Chg (· = w5.heap.size) w8 w10 := C9.andThen C10
  have f10 := f8.keep C810 fun x hx e => by obtain ⟨h1, h2⟩ := hx; omega
  refine load2 (v := cv) hb10 rfl ?_
  refine callV_of (specCountsReady_ok f10.ints (by rw [cntL_len]; omega)) rfl fun tv w11 hf11 => ?_
  have E11 := hf11.1
  have f11 := hf11.bet
  rw [zeros_cnt hok] at f11
  have z11 := E11.size
  have hrl : (readyL p []).length ≤ p.length := sel_len
  generalize hr : readyL p [] = r at *
  have tlen : ∀ K, LenV tv K = K (.int .i64 r.length) := fun K => ints_len f11.ints
  have hg9' := (hg9.mono (Bu' := fun x => (w8.heap.size ≤ x ∧ x < w9.heap.size) ∨ w11.heap.size ≤ x) (Be' := fun x => (w8.heap.size ≤ x ∧ x < w9.heap.size) ∨ w11.heap.size ≤ x) (fun x hx h => .inl ⟨h, hx⟩) fun x hx h => .inl ⟨h, hx⟩).keep C10 fun x _ hx e => by rcases hx with (⟨h1, h2⟩ | hx) | (⟨h1, h2⟩ | hx) <;> omega
  have hgr := (hg10.mono (Bu' := fun x => w9.heap.size ≤ x ∧ x < w10.heap.size) (Be' := fun x => w9.heap.size ≤ x ∧ x < w10.heap.size) (fun x hx h => ⟨h, hx⟩) fun x hx h => ⟨h, hx⟩).ext E11
  have hb11 := E11.at hb10
  have f11' := f10.ext E11
  have hg11 := hg9'.ext E11
  rw [← dealL_zero r k] at hg11
  simp only [tlen, go_sem]
  refine loopV (fun s w' => ∃ (i : Nat) (vs : List Value), s = [.int .i64 i] ∧ i ≤ r.length ∧ Chg (fun x => (w8.heap.size ≤ x ∧ x < w9.heap.size) ∨ w11.heap.size ≤ x) w11 w' ∧
      GP w' T.sl_int u (fun x => (w8.heap.size ≤ x ∧ x < w9.heap.size) ∨ w11.heap.size ≤ x) (fun x => (w8.heap.size ≤ x ∧ x < w9.heap.size) ∨ w11.heap.size ≤ x) (dealL r k i) vs) (upTo r.length 0)
    ⟨0, vs, rfl, by omega, Chg.refl _ _, hg11⟩ ?_
  rintro s z w12 K ⟨i, vs, rfl, hi, C12, hg12⟩ hK
  have z12 := C12.size
  have hb12 := C12.at hb11 fun h => by rcases h with ⟨h1, h2⟩ | h <;> omega
  simp only [go_sem]
  refine ⟨fun h => ?_, fun h => ?_⟩
  · have hi : i < r.length := by omega
    have hm := Nat.mod_lt i (show 0 < k by omega)
    have hvl : vs.length = k := by rw [hg12.len, dealL_len]
    have hjv : i % k < vs.length := by omega
    have hjl : i % k < (dealL r k i).length := by rw [dealL_len]; exact hm
    refine ⟨fun x => w12.heap.size ≤ x ∨ blkIs vs[i % k] x, fun w13 hs13 => ?_⟩
    have z13 : w13.heap.size = w12.heap.size := by rw [hs13.heap]
    have hg13 := hg12.ext hs13.ext
    have hb13 := hs13.ext.at hb12
    have hnC : ¬ (w12.heap.size ≤ w5.heap.size ∨ blkIs vs[i % k] w5.heap.size) := fun h => by
      rcases h with h | h
      · omega
      · rcases hg12.eb _ hjv _ h with ⟨h1, h2⟩ | h <;> omega
    have hmod : ((i : Int).tmod (k : Int)) = ((i % k : Nat) : Int) := rfl
    simp only [go_sem]
    refine loadS2 (v := u) hb13 hnC rfl ?_
    refine bin_rem (by omega) ?_
    rw [hmod]
    refine loadS2 (v := u) hb13 hnC rfl ?_
    refine bin_rem (by omega) ?_
    rw [hmod]
    refine hg13.loadS hjv (fun x hx h => ?_) ?_
    · rcases h with h | h
      · have := (Own.lt hg12.arr hx).2; omega
      · obtain ⟨_, h1⟩ := own_tagN hg12.arr hx
        obtain ⟨_, h2⟩ := own_tagN (hg12.el _ hjl hjv) h
        rw [h1] at h2; cases h2
    have f13 := (f11.keep C12 fun x hx h => by obtain ⟨h1, h2⟩ := hx; rcases h with ⟨h3, h4⟩ | h <;> omega).ext hs13.ext
    refine FInts.loadS f13 hi (fun x hx hx' h => ?_) ?_
    · obtain ⟨h1, h2⟩ := hx'
      rcases h with h | h
      · omega
      · rcases hg12.eb _ hjv _ h with ⟨h3, h4⟩ | h <;> omega
    refine hg13.grow (by decide) hjl hjv (by rw [dealL_get]; have := dealt_le r k i (i % k); omega) (fun x hx => .inr (by omega)) (fun x hx => .inr hx) fun v' w14 C14 hst => ?_
    refine hst fun w15 vs' C15 s15 hg15 => ?_
    refine bin_inc (by omega) (hK _ _ ⟨i + 1, vs', rfl, by omega, ?_, ?_⟩ (by simp [upTo, nthV, iOf]; omega))
    · exact Chg.trans (Chg.trans (C12.andThen hs13.ext.chg) C14 (fun _ _ h => h) fun x _ hx => hg12.eb _ hjv x hx) C15 (fun _ _ h => h) fun x _ hx => hg12.ub x hx
    · rw [dealL_succ (by omega) hi]
      exact hg15
  · have hi : i = r.length := by omega
    subst hi
    refine load_all (vs := [u, cv, .slice (some ⟨w4.heap.size, 0, none⟩) 0 0, rv]) hb12 ?_
    have huc := own_cellsV hg12.arr
    have hrc := own_cellsV hgr.arr
    have hb8' := C12.at (E11.at (C810.at hb8 fun e => by omega)) fun h => by have := e3.size; rcases h with ⟨h1, h2⟩ | h <;> omega
    refine store_all (vs := [u, cv, .slice (some ⟨w4.heap.size, 0, none⟩) 0 0, rv]) hb8' rfl (four huc hcv ⟨rfl, rfl⟩ hrc) fun w13 hp13 => ?_
    refine load_all (vs := [u, cv, .slice (some ⟨w4.heap.size, 0, none⟩) 0 0, rv]) hp13.here ?_
    have e10 : Ext w w10 := Chg.ext (e8.then C810) fun x hx e => by omega
    have e12 : Ext w w12 := Chg.ext ((e10.trans E11).then C12) fun x hx h => by rcases h with ⟨h1, h2⟩ | h <;> omega
    have e13 : Ext w w13 := Chg.ext (e12.then hp13.chg) fun x hx e => by have e : x = w.heap.size := e; omega
    have hz : ∀ {x : Nat}, w8.heap.size ≤ x → ¬ x = w.heap.size := fun h e => by omega
    have l1 := (hg12.keep hp13.chg fun x _ hx e => by have e : x = w.heap.size := e; rcases hx with (⟨h1, h2⟩ | hx) | (⟨h1, h2⟩ | hx) <;> omega).lists
    have l2 := ((f11'.keep C12 fun x hx h => by obtain ⟨h1, h2⟩ := hx; rcases h with ⟨h3, h4⟩ | h <;> omega).keep hp13.chg fun x hx e => by have e : x = w.heap.size := e; obtain ⟨h1, h2⟩ := hx; omega).ints
    have l3 := ((hgr.keep C12 fun x _ hx h => by rcases hx with ⟨h1, h2⟩ | ⟨h1, h2⟩ <;> rcases h with ⟨h3, h4⟩ | h <;> omega).keep hp13.chg fun x _ hx e => by have e : x = w.heap.size := e; rcases hx with ⟨h1, h2⟩ | ⟨h1, h2⟩ <;> omega).lists
    have hcrew : crewO p (k : Int) = ⟨dealL r k r.length, cntL p, [], List.replicate p.length []⟩ := by unfold crewO; rw [if_pos hC]; unfold newCrew; rw [hr]; rfl
    have hsml := crewO_sml p (k : Int)
    refine hR _ _ ⟨_, rfl, e13, ?_⟩
    rw [hcrew] at hsml ⊢
    exact ⟨u, cv, _, rv, rfl, l1, l2, Ints.empty, l3, hsml⟩

/-! ### Workers in a variable -/
structure CVar (w : World) (b : Nat) (v : Value) : Prop where
  out : ∃ x y z u, v = .agg #[x, y, z, u] ∧ w.heap[b]? = some (.cells #[x, y, z, u] T.impl_Crew (0, 0))
theorem CVar.keep {w w' : World} {b : Nat} {v : Value} (h : CVar w b v) {S : Nat → Prop} (hc : Chg S w w') (hs : ¬ S b) : CVar w' b v := by
  obtain ⟨x, y, z, u, hv, hb⟩ := h.out
  exact ⟨x, y, z, u, hv, hc.at hb hs⟩
theorem CVar.ext {w w' : World} {b : Nat} {v : Value} (h : CVar w b v) (hE : Ext w w') : CVar w' b v := h.keep hE id
theorem CVar.load {w : World} {b : Nat} {v : Value} (h : CVar w b v) {K : Value → Prop} (hK : K v) : LoadV true 4 (.pointer (some ⟨b, 0, none⟩)) w K := by
  obtain ⟨x, y, z, u, rfl, hb⟩ := h.out
  exact load_all (vs := [x, y, z, u]) hb hK
theorem crew_var {w : World} {v : Value} {c : Cr} (h : CrewV w v c) {K : Value → World → Prop} (hK : ∀ w', Ext w w' → CVar w' w.heap.size v → w.heap.size < w'.heap.size → K (.pointer (some ⟨w.heap.size, 0, none⟩)) w') :
    BoxV T.impl_Crew (.agg #[.slice none 0 0, .slice none 0 0, .slice none 0 0, .slice none 0 0]) w fun t w1 => StoreV 4 t v w1 fun w2 => K t w2 := by
  obtain ⟨a, b, d, e, rfl, h1, h2, h3, h4, _⟩ := h.out
  refine box_crew rfl fun w1 E1 hb1 => ?_
  refine store_all (vs := [a, b, d, e]) hb1 rfl (four (lists_cells h1) (ints_cells h2) (ints_cells h3) (lists_cells h4)) fun w2 hp2 => ?_
  have hlt := lt_of_at hp2.here
  exact hK w2 (Chg.ext (E1.then hp2.chg) fun k hk e => by have e : k = w.heap.size := e; omega) ⟨a, b, d, e, rfl, hp2.here⟩ hlt
end Go.Proofs.Ytblgkpfnjlobjaa
