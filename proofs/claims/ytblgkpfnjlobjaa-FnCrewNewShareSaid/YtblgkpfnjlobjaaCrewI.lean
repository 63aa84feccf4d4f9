/- New workers: the program's way. -/
import Derived.Test.YtblgkpfnjlobjaaDqs
namespace Go.Proofs.Ytblgkpfnjlobjaa
open Go Go.V

theorem fitsW_ok {w : World} (n : Int) : Calls Try.prog N.impl_workersFit #[.int .i64 n] w (Ret fun r w' => Ext w w' ∧ r = .bool (decide (1 ≤ n ∧ n ≤ 4))) := by
  refine ret_k fun R hR => c_impl_workersFit _ _ _ ?_
  simp only [go_sem]
  refine ⟨fun h => hR _ _ ⟨Ext.refl _, ?_⟩, fun h => hR _ _ ⟨Ext.refl _, by rw [decide_eq_false fun h' => h h'.1]⟩⟩
  congr 1; exact decide_eq_decide.2 ⟨fun h' => ⟨h, h'⟩, fun h' => h'.2⟩

/-- A number is pushed onto one of the lists. -/
theorem push_ok {w : World} {e : Nat} {u : Value} {Bu Be : Nat → Prop} {ls : List (List Int)} {vs : List Value} (h : GP w e u Bu Be ls vs) (he : T.int ≠ e) {j : Nat} (hj : j < ls.length) (hlj : ls[j].length ≤ 1000) (hB : ∀ k, w.heap.size ≤ k → Be k) {x : Int} {K : World → Prop}
    (hK : ∀ w2 vs', Chg (fun k => Bu k ∨ Be k) w w2 → GP w2 e u Bu Be (ls.set j (ls[j] ++ [x])) vs' → K w2) : IdxV 1 u (.int .i64 j) fun t => CallV Try.prog N.impl_deque_push [t, .int .i64 x] w fun _ w' => K w' := by
  have hj' : j < vs.length := by rw [h.len]; exact hj
  obtain ⟨b, off, hh⟩ := Own.at1 h.arr hj'
  have hc := (hh (K := fun _ => True)).1
  refine (hh (K := fun t => CallV Try.prog N.impl_deque_push [t, .int .i64 x] w fun _ w' => K w')).2.2 ?_
  refine callV_of (ret_k (Q := fun _ w' => K w') fun R hR => c_impl_deque_push _ _ _ _ ?_) rfl fun _ _ h => h
  simp only [go_sem, Nat.add_zero]
  refine load_cell hc ?_
  refine plainly (S := fun _ => True) (h.grow he hj hj' hlj hB (fun _ _ => trivial) fun v' w1 C1 hst => ?_)
  have hidx : ∀ {K : Value → Prop}, IdxV 1 u (.int .i64 j) K → K (.pointer (some ⟨b, off, none⟩)) := fun {K} hi => by
    have hb := (hh (K := fun _ => True)).2.1
    have hp := (hh (K := fun t => t = .pointer (some ⟨b, off, none⟩))).2.2 rfl
    obtain ⟨a, c, hu, _⟩ := Own.cells h.arr
    rw [hu] at hi hp
    cases a with
    | none => exact hi.elim
    | some a => rw [← hp.2.2]; exact hi.2.2
  refine hidx (K := fun t => StoreV 1 t v' w1 fun w_3 => R _ w_3) (hst fun w2 vs' C2 s2 hg => hR _ _ (hK w2 vs' ?_ hg))
  exact Chg.trans C1 C2 (fun k _ hk => .inr (h.eb j hj' k hk)) fun k _ hk => .inl (h.ub k hk)

theorem four {P : Value → Prop} {a b c d : Value} (ha : P a) (hb : P b) (hc : P c) (hd : P d) : ∀ x ∈ [a, b, c, d], P x := by
  intro x hx
  simp only [List.mem_cons, List.not_mem_nil, or_false] at hx
  rcases hx with rfl | rfl | rfl | rfl
  · exact ha
  · exact hb
  · exact hc
  · exact hd
theorem fill_none {a b d e : Value} : Instr.fill (fun i => ([(0, 1), (1, 1), (2, 1), (3, 1)] : List (Nat × Nat))[i]?) #[a, b, d, e] [] = some #[a, b, d, e] := rfl
theorem fill_13 {b e : Value} (hb : b.cells = #[b]) (he : e.cells = #[e]) : Instr.fill (fun i => ([(0, 1), (1, 1), (2, 1), (3, 1)] : List (Nat × Nat))[i]?) #[.slice none 0 0, .slice none 0 0, .slice none 0 0, .slice none 0 0] [(1, b), (3, e)] = some #[.slice none 0 0, b, .slice none 0 0, e] := by
  simp [Instr.fill, hb, he]
theorem FCrew.empty {w : World} {B : Nat → Prop} : FCrew w B (.agg #[.slice none 0 0, .slice none 0 0, .slice none 0 0, .slice none 0 0]) ⟨[], [], [], []⟩ := by
  have hl : FLists w (fun _ => False) (.slice none 0 0) [] := ⟨none, 0, fun _ => 0, fun _ => .slice none 0 0, rfl, Nat.le_refl _, fun i hi => by simp at hi, fun i j hi => by simp at hi, fun h => absurd rfl h⟩
  exact ⟨_, _, _, _, fun _ => False, fun _ => False, fun _ => False, rfl, hl, FInts.nil, ⟨none, 0, rfl⟩, hl, fun k => ⟨fun h => h.elim, fun h => h.elim, fun h => h.elim⟩, rfl, by simp, ⟨⟨by simp, by simp⟩, by simp, by simp, ⟨by simp, by simp⟩⟩⟩
theorem rowOf_list (z : Value) (m : Nat) : (rowOf #[z] (m * 1)).toList = List.replicate m z := by
  refine List.ext_getElem (by simp [rowOf]) fun i h1 h2 => ?_
  have : i % 1 = 0 := Nat.mod_one i
  simp [rowOf, this]
/-- As many empty lists. -/
theorem GP.fresh {w w' : World} {e m : Nat} {Bu Be : Nat → Prop} (hn : New w (.cells (rowOf #[.slice none 0 0] (m * 1)) e (0, 0)) w') (hm : m ≤ 1048576) (hB : Bu w.heap.size) : GP w' e (.slice (some ⟨w.heap.size, 0, none⟩) m m) Bu Be (List.replicate m []) (List.replicate m (.slice none 0 0)) := by
  refine ⟨?_, by simp, fun k hk => ?_, fun i hi hi' => ?_, fun i hi' k hk => ?_, fun i j k hi hj hne h1 => ?_⟩
  · have := Own.made (lo := 0) (size := 1) (n := m) hn (Nat.zero_le _) (by simp [rowOf]) (by unfold maxLen; omega)
    rw [rowOf_list] at this
    rw [List.length_replicate]; exact this
  · have hk : some w.heap.size = some k := hk
    cases hk; exact hB
  · rw [List.getElem_replicate, List.getElem_replicate]; exact Own.nil
  · rw [List.getElem_replicate] at hk; cases hk
  · rw [List.getElem_replicate] at h1; cases h1
theorem FLists.fresh {w w' : World} {m : Nat} (hn : New w (.cells (rowOf #[.slice none 0 0] (m * 1)) T.sl_int (0, 0)) w') (hm : m ≤ 1048576) : FLists w' (· = w.heap.size) (.slice (some ⟨w.heap.size, 0, none⟩) m m) (List.replicate m []) :=
  (GP.fresh (Bu := (· = w.heap.size)) (Be := fun _ => False) hn hm rfl).flists (fun _ _ h => h) fun _ _ h => h.elim

theorem implCrewNew_ok {w : World} {v : Value} {p : List Nd} (hp : PlanV w v p) (n : Int) :
    Calls Try.prog N.impl_CrewNew #[v, .int .i64 n] w (Ret fun r w' => ∃ u, r = .tuple #[u, .bool (decide (CrewOk p n))] ∧ Ext w w' ∧ FCrew w' (Since w) u (crewO p n)) := by
  refine ret_k fun R hR => c_impl_CrewNew _ _ _ _ ?_
  refine box_crew rfl fun w1 E1 hb1 => ?_
  have hlen : ∀ K, LenV v K = K (.int .i64 p.length) := fun K => hp.len
  have nc : ∀ x ∈ ([.slice none 0 0, .slice none 0 0, .slice none 0 0, .slice none 0 0] : List Value), x.cells = #[x] ∧ x.oneCell' = true := by simp [Value.cells, Value.oneCell']
  have z1 : w.heap.size < w1.heap.size := lt_of_at hb1
  have no : ∀ w', Ext w1 w' → ¬ CrewOk p n → BuildV #[.slice none 0 0, .slice none 0 0, .slice none 0 0, .slice none 0 0] (fun i => ([(0, 1), (1, 1), (2, 1), (3, 1)] : List (Nat × Nat))[i]?) [] fun t21 =>
      StoreV 4 (.pointer (some ⟨w.heap.size, 0, none⟩)) t21 w' fun w_3 => LoadV true 4 (.pointer (some ⟨w.heap.size, 0, none⟩)) w_3 fun r => R (.tuple #[r, .bool false]) w_3 := fun w' hE hn => by
    refine ⟨_, fill_none, ?_⟩
    refine store_all (vs := [.slice none 0 0, .slice none 0 0, .slice none 0 0, .slice none 0 0]) (hE.at hb1) rfl nc fun w2 hp2 => ?_
    refine load_all (vs := [.slice none 0 0, .slice none 0 0, .slice none 0 0, .slice none 0 0]) hp2.here ?_
    refine hR _ _ ⟨_, by rw [decide_eq_false hn], Chg.ext ((E1.trans hE).then hp2.chg) fun k hk e => by have e : k = w.heap.size := e; omega, ?_⟩
    unfold crewO; rw [if_neg hn]
    exact FCrew.empty
  refine callV_of (implPlanValid_ok (hp.ext E1)) rfl ?_
  rintro _ w2 ⟨E2, rfl⟩
  simp only [go_sem]
  refine ⟨fun h => no _ E2 fun hk => h hk.1, fun hok => ?_⟩
  refine callV_of (fitsW_ok n) rfl ?_
  rintro _ w3 ⟨E3, rfl⟩
  have e13 := E2.trans E3
  simp only [go_sem]
  refine ⟨fun h => no _ e13 fun hk => h hk.2, fun hn => ?_⟩
  have hC : CrewOk p n := ⟨hok, hn⟩
  rw [decide_eq_true hC] at hR
  obtain ⟨m, rfl⟩ : ∃ m : Nat, n = (m : Int) := ⟨n.toNat, by omega⟩
  have h10 := hok.len
  have e3 := E1.trans e13
  refine ⟨by omega, by omega, by omega, by omega, fun w4 hn4 => ?_⟩
  simp only [Int.toNat_natCast] at hn4
  simp only [Int.toNat_natCast]
  have z4 := hn4.size
  have e4 := e3.trans hn4.ext
  have hg4 := GP.fresh (Bu := fun k => k = w3.heap.size) (Be := fun _ => False) hn4 (by omega) rfl
  refine callV_of (implCountsOf_ok (hp.ext e4)) rfl fun cv w5 hf5 => ?_
  have E5 := hf5.1
  have f5 := hf5.bet
  rw [if_pos hok] at f5
  have z5 := E5.size
  refine callV_of (implCountsReady_ok f5.ints (by rw [cntL_len]; omega)) rfl fun rv w6 hf6 => ?_
  have E6 := hf6.1
  have f6 := hf6.bet
  rw [zeros_cnt hok] at f6
  have z6 := E6.size
  have hrl : (readyL p []).length ≤ p.length := sel_len
  have rlen : ∀ K, LenV rv K = K (.int .i64 (readyL p []).length) := fun K => ints_len f6.ints
  simp only [rlen, hlen, go_sem]
  generalize hr : readyL p [] = r at *
  have hg6 := ((hg4.ext E5).ext E6).mono (Bu' := fun k => k = w3.heap.size) (Be' := fun k => w6.heap.size ≤ k) (fun _ _ h => h) fun _ _ h => h.elim
  rw [← dealL_zero r m] at hg6
  refine loopV (fun s w' => ∃ (k : Nat) (vs : List Value), s = [.int .i64 k] ∧ k ≤ r.length ∧ Chg (fun q => q = w3.heap.size ∨ w6.heap.size ≤ q) w6 w' ∧ GP w' T.impl_deque_int (.slice (some ⟨w3.heap.size, 0, none⟩) m m) (fun q => q = w3.heap.size) (fun q => w6.heap.size ≤ q) (dealL r m k) vs) (upTo r.length 0)
    ⟨0, _, rfl, by omega, Chg.refl _ _, hg6⟩ ?_
  rintro s z w7 K ⟨k, vs, rfl, hk, C7, hg7⟩ hK
  simp only [go_sem]
  have z7 := C7.size
  refine ⟨fun h => ?_, fun h => ?_⟩
  · have hk : k < r.length := by omega
    have f7 := f6.keep C7 fun q hq hq' => by obtain ⟨hq1, hq2⟩ := hq; rcases hq' with hq' | hq' <;> omega
    refine Ints.loadI f7.ints hk ?_
    refine bin_rem (by omega) ?_
    have hmod : ((k : Int).tmod (m : Int)) = ((k % m : Nat) : Int) := rfl
    rw [hmod]
    have hm := Nat.mod_lt k (show 0 < m by omega)
    refine push_ok hg7 (by decide) (by rw [dealL_len]; exact hm) (by rw [dealL_get]; have := dealt_le r m k (k % m); omega) (fun q hq => by omega) fun w8 vs' C8 hg8 => ?_
    refine bin_inc (by omega) (hK _ _ ⟨k + 1, vs', rfl, by omega, C7.andThen C8, ?_⟩ (by simp [upTo, nthV, iOf]; omega))
    rw [dealL_succ (by omega) hk]
    exact hg8
  · have hk : k = r.length := by omega
    subst hk
    have hvl : vs.length = m := by rw [hg7.len, dealL_len]
    refine ⟨by omega, by omega, by omega, by omega, fun w8 hn8 => ?_⟩
    simp only [Int.toNat_natCast] at hn8
    simp only [Int.toNat_natCast]
    have z8 := hn8.size
    have f7 := f5.ext E6 |>.keep C7 fun q hq hq' => by obtain ⟨hq1, hq2⟩ := hq; rcases hq' with hq' | hq' <;> omega
    have hrows := FLists.fresh hn8 (by omega)
    have hcv := f5.cellsV
    refine ⟨_, fill_13 hcv.1 rfl, ?_⟩
    refine box_crew rfl fun w9 E9 hb9 => ?_
    have z9 : w8.heap.size < w9.heap.size := lt_of_at hb9
    refine store_all (vs := [.slice none 0 0, cv, .slice none 0 0, .slice (some ⟨w7.heap.size, 0, none⟩) p.length p.length]) hb9 rfl (four ⟨rfl, rfl⟩ hcv ⟨rfl, rfl⟩ ⟨rfl, rfl⟩) fun w10 hp10 => ?_
    have z10 := hp10.size
    have hg10 := (((hg7.mono (Bu' := fun q => q = w3.heap.size) (Be' := fun q => w6.heap.size ≤ q ∧ q < w7.heap.size) (fun _ _ h => h) fun _ hq h => ⟨h, hq⟩).ext hn8.ext).ext E9).keep hp10.chg fun q _ hq e => by have e : q = w8.heap.size := e; rcases hq with hq | hq <;> omega
    have f10 := ((f7.ext hn8.ext).ext E9).keep hp10.chg fun q hq e => by have e : q = w8.heap.size := e; obtain ⟨h1, h2⟩ := hq; omega
    have hr10 := (hrows.ext E9).keep hp10.chg fun q _ hq e => by have e : q = w8.heap.size := e; omega
    have hb10 : w10.heap[w.heap.size]? = some (.cells #[.slice none 0 0, .slice none 0 0, .slice none 0 0, .slice none 0 0] T.impl_Crew (0, 0)) := by
      refine hp10.chg.at (E9.at (hn8.ext.at (C7.at ((hn4.ext.trans (E5.trans E6)).at (e13.at hb1)) ?_))) ?_
      · intro hq; have := e13.size; rcases hq with hq | hq <;> omega
      · intro e; have e : w.heap.size = w8.heap.size := e; have := e13.size; omega
    have e10 : Ext w w10 := by
      have h7 : Ext w w7 := Chg.ext ((e4.trans (E5.trans E6)).then C7) fun q hq h => by have := e3.size; rcases h with h | h <;> omega
      exact Chg.ext (((h7.trans hn8.ext).trans E9).then hp10.chg) fun q hq e => by have e : q = w8.heap.size := e; have := e3.size; omega
    refine loopV (fun s w' => ∃ (k : Nat) (u : Value), s = [.int .i64 k] ∧ k ≤ m ∧ Chg (· = w8.heap.size) w10 w' ∧ w'.heap[w8.heap.size]? = some (.cells #[u, cv, .slice none 0 0, .slice (some ⟨w7.heap.size, 0, none⟩) p.length p.length] T.impl_Crew (0, 0)) ∧ Own w' 0 T.sl_int 1 u k (vs.take k) ∧ ∀ q, blkIs u q → w10.heap.size ≤ q) (upTo m 0)
      ⟨0, .slice none 0 0, rfl, by omega, Chg.refl _ _, hp10.here, by rw [List.take_zero]; exact Own.nil, fun q hq => by cases hq⟩ ?_
    rintro s z w11 K2 ⟨k, u, rfl, hk, C11, hb11, ho11, hu11⟩ hK2
    have z11 := C11.size
    have hg11 := hg10.keep C11 fun q _ hq e => by rcases hq with hq | hq <;> omega
    simp only [go_sem]
    refine ⟨fun h => ?_, fun h => ?_⟩
    · have hk : k < m := by omega
      have hkv : k < vs.length := by omega
      refine hg11.loadA hkv ?_
      intro w12 hn12
      have z12 := hn12.size
      have hn12' : w12.heap[w11.heap.size]? = some (.cells #[.slice none 0 0] T.impl_deque_int (0, 0)) := by simpa [Value.cells] using hn12.here
      have hvc := own_cellsV (hg11.el k (by rw [dealL_len]; exact hk) hkv)
      refine store_all (vs := [vs[k]]) hn12' rfl (by intro x hx; simp at hx; subst hx; exact hvc) fun w13 hp13 => ?_
      have z13 := hp13.size
      have E13 : Ext w11 w13 := Chg.ext (hn12.ext.then hp13.chg) fun q hq e => by have e : q = w11.heap.size := e; omega
      refine load2 (v := u) (E13.at hb11) rfl ?_
      refine load2 (v := vs[k]) hp13.here rfl ?_
      have ho13 := Own.ext ho11 E13
      refine plainly (S := fun _ => True) (app1At sl_sl el_sl ho13 (news := [vs[k]]) (by rw [hvc.1]) (fill_one hvc.1) (by rw [hvc.1]; rfl) (by simpa using hvc.2) (by omega) (by omega) (Nat.zero_le _) (fun _ _ => trivial) fun u' w14 ho14 C14 hlat => ?_)
      have z14 := C14.size
      have hb14 := C14.at (E13.at hb11) fun hk => by have := hu11 _ hk; omega
      have huc := own_cellsV ho14
      refine store_at hb14 huc.1 huc.2 (by simp) fun w15 hp15 => ?_
      have z15 := hp15.size
      have hub : ∀ q, blkIs u' q → w10.heap.size ≤ q := fun q hq => by
        rcases hlat with e1 | ⟨q', e1, hq'⟩
        · exact hu11 q (by unfold blkIs at hq ⊢; rw [← e1]; exact hq)
        · have hq : u'.ownBlock = some q := hq
          rw [e1] at hq; cases hq; omega
      refine bin_inc (by omega) (hK2 _ _ ⟨k + 1, u', rfl, by omega, ?_, by simpa using hp15.here, ?_, hub⟩ (by simp [upTo, nthV, iOf]; omega))
      · exact Chg.trans (Chg.trans (C11.andThen E13.chg) C14 (fun _ _ h => h) fun q hq hq' => by have := hu11 q hq'; omega) hp15.chg (fun _ _ h => h) fun q _ e => e
      · rw [take_snoc hkv]
        exact Own.keep ho14 hp15.chg fun q hq e => by have e : q = w8.heap.size := e; have := hub q hq; omega
    · have hk : k = m := by omega
      subst hk
      rw [List.take_of_length_le (by omega)] at ho11
      refine load_all (vs := [u, cv, .slice none 0 0, .slice (some ⟨w7.heap.size, 0, none⟩) p.length p.length]) hb11 ?_
      have huc := own_cellsV ho11
      have hb11' := C11.at hb10 fun e => by have := e3.size; omega
      refine store_all (vs := [u, cv, .slice none 0 0, .slice (some ⟨w7.heap.size, 0, none⟩) p.length p.length]) hb11' rfl (four huc hcv ⟨rfl, rfl⟩ ⟨rfl, rfl⟩) fun w12 hp12 => ?_
      have z12 := hp12.size
      refine load_all (vs := [u, cv, .slice none 0 0, .slice (some ⟨w7.heap.size, 0, none⟩) p.length p.length]) hp12.here ?_
      have e11 : Ext w w11 := Chg.ext (e10.then C11) fun q hq e => by have := e3.size; omega
      have e12 : Ext w w12 := Chg.ext (e11.then hp12.chg) fun q hq e => by have e : q = w.heap.size := e; omega
      have z3 := e13.size
      have hfin : GP w11 T.sl_int u (fun q => w10.heap.size ≤ q) (fun q => w6.heap.size ≤ q ∧ q < w7.heap.size) (dealL r k r.length) vs := ⟨by rw [dealL_len]; exact ho11, hg11.len, hu11, hg11.el, hg11.eb, hg11.ne⟩
      have hfin := hfin.keep hp12.chg fun q _ hq e => by have e : q = w.heap.size := e; rcases hq with hq | hq <;> omega
      have hdq := hfin.flists (B := fun q => w10.heap.size ≤ q ∨ (w6.heap.size ≤ q ∧ q < w7.heap.size)) (fun _ _ h => .inl h) fun _ _ h => .inr h
      have f12 := (f10.keep C11 fun q hq e => by obtain ⟨h1, h2⟩ := hq; omega).keep hp12.chg fun q hq e => by have e : q = w.heap.size := e; obtain ⟨h1, h2⟩ := hq; omega
      have hr12 := (hr10.keep C11 fun q _ hq e => by omega).keep hp12.chg fun q _ hq e => by have e : q = w.heap.size := e; omega
      have hcrew : crewO p (k : Int) = ⟨dealL r k r.length, cntL p, [], List.replicate p.length []⟩ := by unfold crewO; rw [if_pos hC]; unfold newCrew; rw [hr]; rfl
      refine hR _ _ ⟨_, rfl, e12, ?_⟩
      have hsml := crewO_sml p (k : Int)
      rw [hcrew] at hsml ⊢
      refine ⟨u, cv, _, _, _, _, _, rfl, hdq, f12, ⟨none, 0, rfl⟩, hr12, fun q => ⟨fun g => ?_, fun g => ?_, fun g => ?_⟩, rfl, fun l hl => List.eq_of_mem_replicate hl, hsml⟩
      · refine ⟨?_, fun g' => ?_, fun g' => ?_⟩
        · unfold Since; rcases g with g | g <;> omega
        · obtain ⟨h1, h2⟩ := g'; rcases g with g | g <;> omega
        · rcases g with g | g <;> omega
      · obtain ⟨h1, h2⟩ := g
        exact ⟨by unfold Since; omega, fun g' => by omega⟩
      · unfold Since; omega
end Go.Proofs.Ytblgkpfnjlobjaa
