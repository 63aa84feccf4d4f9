/- Plans that are shared: the program's way. -/
import Derived.Test.YtmbfkhacejnnhaaPart
import Derived.Test.YtmbfkhacejnnhaaFirst
import Derived.Test.YtmbfkhacejnnhaaCH
namespace Go.Proofs.Ytmbfkhacejnnhaa
open Go Go.V

noncomputable def shareO (p : List Nd) : List Nd := if PlanOk p then shareP p (firstO p) else []
noncomputable def shareN (p : List Nd) : List Int := if PlanOk p then shareTo (firstO p) p.length else []
theorem shareO_len (p : List Nd) : (shareO p).length ≤ p.length := by
  unfold shareO; split
  · unfold shareP; rw [subP_len]; exact rank_le _
  · simp
theorem shareN_len (p : List Nd) : (shareN p).length ≤ p.length := by
  unfold shareN; split
  · rw [shareTo_len]; exact Nat.le_refl _
  · simp
theorem shareTo_snoc {fs : List Int} {k : Nat} : shareTo fs (k + 1) = shareTo fs k ++ [(rank (rep fs) (fst fs k) : Int)] := by simp [shareTo, List.range_succ]
theorem shareTo_at {fs : List Int} {n i : Nat} (h : i < n) : (shareTo fs n)[i]'(by rw [shareTo_len]; exact h) = (rank (rep fs) (fst fs i) : Int) := by simp [shareTo]
/-- Node k is not the first that does the same: its number is that of the first. -/
theorem share_old {p : List Nd} {fs : List Int} (h : IsFirsts p p.length fs) {k : Nat} (hk : k < p.length) (hn : ¬ rep fs k) : fst fs k < k ∧ rank (rep fs) (fst fs (fst fs k)) = rank (rep fs) (fst fs k) := by
  have hle := fst_lt h hk
  have hne : fst fs k ≠ k := fun e => hn (by have := fst_rep h hk; rw [e] at this; exact this)
  exact ⟨by omega, by rw [fst_of_rep (fst_rep h hk)]⟩
theorem first_at {p : List Nd} {fs : List Int} (h : IsFirsts p p.length fs) {k : Nat} (hk : k < p.length) : fs[k]'(by rw [h.len]; exact hk) = (fst fs k : Int) := by
  obtain ⟨r, hr, _⟩ := h.at_ k hk
  have : fs.getD k 0 = fs[k]'(by rw [h.len]; exact hk) := by rw [List.getD_eq_getElem?_getD, List.getElem?_eq_getElem (by rw [h.len]; exact hk)]; rfl
  unfold fst
  rw [← this, hr]; simp

theorem implPlanShare_ok {w : World} {v : Value} {p : List Nd} (hp : PlanV w v p) :
    Calls Try.prog N.impl_PlanShare #[v] w (Ret fun r w' => ∃ u n k, r = .tuple #[u, n, .bool (decide (PlanOk p))] ∧ Ext w w' ∧ FPlan w' (fun b => w.heap.size ≤ b ∧ b ≠ k) u (shareO p) ∧ FInts w' (fun b => w.heap.size ≤ b ∧ b = k) n (shareN p)) := by
  refine ret_k fun R hR => c_impl_PlanShare _ _ _ ?_
  have hlen : ∀ K, LenV v K = K (.int .i64 p.length) := fun K => hp.len
  refine callV_of (implPlanValid_ok hp) rfl ?_
  rintro _ w1 ⟨E1, rfl⟩
  simp only [hlen, go_sem]
  refine ⟨fun hno => hR _ _ ⟨_, _, 0, by rw [decide_eq_false hno], E1, by unfold shareO; rw [if_neg hno]; exact FPlan.nil, by unfold shareN; rw [if_neg hno]; exact FInts.nil⟩, fun hok => ?_⟩
  have h10 := hok.len
  have z1 := E1.size
  refine ⟨by omega, by omega, by omega, by omega, fun w2 hn2 => ?_⟩
  simp only [Int.toNat_natCast] at hn2
  simp only [Int.toNat_natCast, go_sem]
  have z2 := hn2.size
  have ho2 := Own.cap0 (lo := w1.heap.size) hn2 (Nat.le_refl _) (by omega)
  refine callV_of (implShareFirst_ok (hp.ext (E1.trans hn2.ext))) rfl fun fv w3 ⟨E3, f3⟩ => ?_
  have z3 := E3.size
  have hfi := firstO_is hok
  have hcO : shareO p = subP p (rep (firstO p)) (fst (firstO p)) := by unfold shareO; rw [if_pos hok]; rfl
  have hcN : shareN p = shareTo (firstO p) p.length := by unfold shareN; rw [if_pos hok]
  rw [hcO, hcN, decide_eq_true hok] at hR
  have hsub := share_sub hok hfi
  generalize firstO p = fs at hR f3 hfi hsub
  have hfl := hfi.len
  have hfi3 := f3.ints
  have hflen : ∀ K, LenV fv K = K (.int .i64 p.length) := fun K => by rw [ints_len hfi3, hfl]
  have G3 := hn2.ext.trans E3
  simp only [hflen, go_sem]
  refine loopV (fun s w' => ∃ (k : Nat) (u t : Value) (bs : Nat → Nat) (fw rw : Nat → Value), s = [u, t, .int .i64 k] ∧ k ≤ p.length ∧ Ext w1 w' ∧ FInts w' (Between w2 w3) fv fs ∧ w3.heap.size ≤ w'.heap.size ∧ Own w' w1.heap.size T.int 1 t k (ints (shareTo fs k)) ∧
      Own w' w1.heap.size T.impl_Node 3 u (subGo p (rep fs) (fst fs) k).length (flat (subGo p (rep fs) (fst fs) k) fw rw) ∧ Inner w' (fun b => w1.heap.size ≤ b ∧ ¬ blkIs t b) (subGo p (rep fs) (fst fs) k) bs fw rw ∧ ∀ b, blkIs t b → ¬ Between w2 w3 b) (upTo p.length 2)
    ⟨0, _, _, fun _ => 0, fun _ => .slice none 0 0, fun _ => .slice none 0 0, rfl, by omega, G3, f3.mono fun _ hb h => ⟨h, hb⟩, Nat.le_refl _, by simpa [shareTo, ints] using Own.ext ho2 E3, by simpa [subGo, flat, flatN] using Own.nil, by simpa [subGo] using Inner.nil,
      fun b hb h => by have hb : some w1.heap.size = some b := hb; cases hb; have := h.1; omega⟩ ?_
  rintro s z w4 K ⟨k, u, t, bs, fw, rw_, rfl, hk, G4, hfi4, z4, hot, hou, hin, htb⟩ hK
  have E4 := E1.trans G4
  have hgl := subGo_len p (rep fs) (fst fs) k
  have hrk := @rank_le (rep fs) k
  have hul : ∀ K, LenV u K = K (.int .i64 (subGo p (rep fs) (fst fs) k).length) := fun K => Own.lenN hou K
  simp only [go_sem]
  refine ⟨fun h => ?_, fun h => ?_⟩
  · have hk : k < p.length := by omega
    have htw : ∀ b, blkIs t b → w1.heap.size ≤ b ∧ b < w4.heap.size := fun b hb => Own.lt hot hb
    have huw : ∀ b, blkIs u b → w1.heap.size ≤ b ∧ b < w4.heap.size := fun b hb => Own.lt hou hb
    have tu : ∀ {w' : World} {b : Nat} {a b' : Value} {m n : Nat} {cs ds : List Value}, Own w' w1.heap.size T.int 1 a m cs → Own w' w1.heap.size T.impl_Node 3 b' n ds → blkIs a b → ¬ blkIs b' b := fun h1 h2 k1 k2 => by
      obtain ⟨_, q1⟩ := own_tagN h1 k1
      obtain ⟨_, q2⟩ := own_tagN h2 k2
      rw [q1] at q2; cases q2
    have later : ∀ {w' : World} {t' : Value}, w3.heap.size ≤ w'.heap.size → Later w' t t' → ∀ b, blkIs t' b → ¬ Between w2 w3 b := fun {w' t'} hz hL b hb hB => by
      rcases hL with h | ⟨m, h, hm⟩
      · exact htb b (by unfold blkIs at hb ⊢; rw [← h]; exact hb) hB
      · have hb : t'.ownBlock = some b := hb
        rw [h] at hb; cases hb; have := hB.2; omega
    have laterI : ∀ {w' : World} {t' : Value} {b : Nat}, Later w' t t' → b < w'.heap.size → ¬ blkIs t b → ¬ blkIs t' b := fun {w' t' b} hL hb hn hb' => by
      rcases hL with h | ⟨m, h, hm⟩
      · exact hn (by unfold blkIs at hb' ⊢; rw [← h]; exact hb')
      · have hb' : t'.ownBlock = some b := hb'
        rw [h] at hb'; cases hb'; omega
    refine Ints.loadI hfi4.ints (q := k) (by omega) ?_
    rw [first_at hfi hk]
    simp only [go_sem]
    refine ⟨fun hne => ?_, fun he => ?_⟩
    · have hnr : ¬ rep fs k := fun h => hne (by rw [fst_of_rep h])
      obtain ⟨h1, h2⟩ := share_old hfi hk hnr
      refine Ints.loadI (Own.ints hot) (q := fst fs k) (by rw [shareTo_len]; exact h1) ?_
      rw [shareTo_at h1, h2]
      refine app_intAt hot (by omega) (by omega) fun t' w5 hot5 C5 L5 => ?_
      have z5 := C5.size
      refine bin_inc (by omega) (hK _ _ ⟨k + 1, u, t', bs, fw, rw_, rfl, by omega, Chg.ext (G4.then C5) fun j hj hb => by have := (htw j hb).1; omega, hfi4.keep C5 fun b hb h => htb b h hb, by omega, by rw [shareTo_snoc]; exact hot5, ?_, ?_, later (by omega) L5⟩ (by simp [upTo, nthV, iOf]; omega))
      · rw [subGo_no hnr]; exact Own.keep hou C5 fun b hb ht => tu hot hou ht hb
      · rw [subGo_no hnr]
        exact ((hin.mono (B' := fun b => (w1.heap.size ≤ b ∧ ¬ blkIs t b) ∧ b < w4.heap.size) fun b hb h => ⟨h, hb⟩).keep C5 fun s hs hne hb => (hin.inB s hs hne).2 hb).mono fun b _ h => ⟨h.1.1, laterI L5 h.2 h.1.2⟩
    · have he : fst fs k = k := by have := Classical.not_not.1 he; omega
      have hr : rep fs k := by have := fst_rep hfi hk; rw [he] at this; exact this
      refine (hp.ext E4).load hk fun x hx => ?_
      have hsm := hp.sml hk
      have hsm1 : p[k].frm.length ≤ 1048576 := hsm.1
      refine callV_of (copyNode_ok hx) rfl ?_
      rintro _ w5 ⟨E5, av, rv, b1, b2, rfl, f5, r5, hb1, hb2, hb12⟩
      have z5 := E5.size
      refine box_set f5.ints r5.ints fun w6 E6 hbox z6 => ?_
      have f6 := f5.ext E6
      have r6 := r5.ext E6
      have hal : ∀ K, LenV av K = K (.int .i64 p[k].frm.length) := fun K => ints_len f5.ints
      simp only [go_sem]
      refine load2 (v := av) hbox rfl ?_
      simp only [hal, go_sem]
      have b1lt := fun hne => (f5.lt hne).1
      have hfr : fr p k = p[k].frm := by rw [fr_get hk]
      refine loopV (fun s w' => ∃ q : Nat, s = [.int .i64 q] ∧ q ≤ p[k].frm.length ∧ Chg (fun b => b = b1 ∧ p[k].frm ≠ []) w6 w' ∧ w'.heap.size = w6.heap.size ∧ FInts w' (· = b1) av (mapTo (fun f => (rank (rep fs) (fst fs f.toNat) : Int)) q p[k].frm)) (upTo p[k].frm.length 0)
        ⟨0, rfl, by omega, Chg.refl _ _, rfl, by rw [mapTo_zero]; exact f6⟩ ?_
      rintro s z w7 K'' ⟨q, rfl, hq, C7, z7, f7⟩ hK''
      have hbox7 : w7.heap[w5.heap.size]? = some (.cells #[.int .i64 p[k].kind, av, rv] T.impl_Node (0, 0)) := C7.at hbox fun e => by have := b1lt e.2; omega
      have E56 := E5.trans E6
      have hot7 : Own w7 w1.heap.size T.int 1 t k (ints (shareTo fs k)) := Own.keep (Own.ext hot E56) C7 fun j hj e => by have := hb1 e.2; have := (htw j hj).2; omega
      simp only [go_sem]
      refine ⟨fun h => ?_, fun h => ?_⟩
      · have hq : q < p[k].frm.length := by omega
        have hnf : p[k].frm ≠ [] := List.ne_nil_of_length_pos (by omega)
        refine f7.load (by rw [mapTo_len]; exact hq) ?_
        rw [mapTo_get hq]
        have hmem : p[k].frm[q] ∈ fr p k := by rw [hfr]; exact List.getElem_mem hq
        have hflt := hok.fr_lt hmem
        obtain ⟨g, hge⟩ : ∃ g : Nat, p[k].frm[q] = (g : Int) := ⟨(p[k].frm[q]).toNat, by omega⟩
        have hset := mapTo_set (g := fun f => (rank (rep fs) (fst fs f.toNat) : Int)) hq
        rw [hge] at hset hflt ⊢
        simp only [Int.toNat_natCast] at hset
        refine draw_none fun w8 hs8 => ?_
        refine loadS2 (v := av) (hs8.ext.at hbox7) id rfl ?_
        refine Ints.loadS (Own.ints (Own.ext hot7 hs8.ext)) (q := g) (by rw [shareTo_len]; omega) (fun _ => id) ?_
        rw [shareTo_at (by omega)]
        refine (f7.ext hs8.ext).store (by rw [mapTo_len]; exact hq) fun w9 C9 z9 f9 => ?_
        rw [hset] at f9
        refine bin_inc (by omega) (hK'' _ _ ⟨q + 1, rfl, by omega, (C7.then hs8.ext).andThen (C9.mono fun j _ e => ⟨e, hnf⟩), ?_, f9⟩ (by simp [upTo, nthV, iOf]; omega))
        rw [z9, hs8.heap]; exact z7
      · have hq : q = p[k].frm.length := by omega
        subst hq
        rw [mapTo_all] at f7
        have r7 : FInts w7 (· = b2) rv p[k].row := r6.keep1 C7 fun hne e => hb12 e.2 hne e.1.symm
        have E7 : Ext w4 w7 := Chg.ext (E56.then C7) fun j hj e => by have := hb1 e.2; omega
        have hren : ren p (rep fs) (fst fs) k = ⟨p[k].kind, p[k].frm.map fun f => (rank (rep fs) (fst fs f.toNat) : Int), p[k].row⟩ := by unfold ren; rw [nd_get hk]
        have hmn : ∀ {xs : List Int} {g : Int → Int}, xs.map g ≠ [] → xs ≠ [] := fun h e => h (by rw [e]; rfl)
        have hin7 := hin.push (x := ren p (rep fs) (fst fs) k) E7 (by rw [hren]; exact f7) (by rw [hren]; exact r7) (by rw [hren]; exact fun h => by have := hb1 (hmn h); omega) (by rw [hren]; exact fun h => by have := hb2 h; omega)
          (by rw [hren]; exact fun h1 h2 => hb12 (hmn h1) h2) (fun b hb => ⟨by omega, fun h => by have := (htw b h).2; omega⟩) (by rw [hren]; exact ⟨by simpa using hsm.1, hsm.2⟩)
        have hou7 := Own.ext hou E7
        have z74 := E7.size
        simp only [hul, go_sem]
        refine app_intAt hot7 (by omega) (by omega) fun t' w8 hot8 C8 L8 => ?_
        have z8 := C8.size
        have hou8 := Own.keep hou7 C8 fun b hb ht => tu hot7 hou7 ht hb
        have hbox8 : w8.heap[w5.heap.size]? = some (.cells #[.int .i64 p[k].kind, av, rv] T.impl_Node (0, 0)) := C8.at hbox7 fun hb => by have := (htw _ hb).2; omega
        have hin8 := ((hin7.mono (B' := fun b => (w1.heap.size ≤ b ∧ ¬ blkIs t b) ∧ b < w7.heap.size) fun b hb h => ⟨h, hb⟩).keep C8 fun s hs hne hb => (hin7.inB s hs hne).2 hb).mono (B' := fun b => w1.heap.size ≤ b ∧ ¬ blkIs t' b) fun b _ h => ⟨h.1.1, laterI L8 h.2 h.1.2⟩
        have e8 : Ext w1 w8 := Chg.ext ((G4.trans E7).then C8) fun j hj hb => by have := (htw j hb).1; omega
        have hfi8 := (hfi4.ext E7).keep C8 fun b hb h => htb b h hb
        refine load_box hbox8 ?_
        have fc := f7.cellsV
        have rc := r7.cellsV
        refine plainly (S := fun _ => True) (app_nodeAt (x := ren p (rep fs) (fst fs) k) hou8 (by rw [hren]) fc rc (by rw [hgl]; omega) (by omega) (fun _ _ => trivial) fun u' w9 hou9 C9 L9 => ?_)
        have z9 := C9.size
        refine bin_inc (by omega) (hK _ _ ⟨k + 1, u', t', _, _, _, rfl, by omega, Chg.ext (e8.then C9) fun j hj hb => by have := (huw j hb).1; omega, hfi8.beside hou8 C9, by omega, ?_, by rw [subGo_yes hr]; exact hou9, by rw [subGo_yes hr]; exact hin8.beside hou8 C9, later (by omega) L8⟩ (by simp [upTo, nthV, iOf]; omega))
        rw [shareTo_snoc, fst_of_rep hr, ← hgl]
        exact Own.keep hot8 C9 fun b hb hu => tu hot8 hou8 hb hu
  · have hk : k = p.length := by omega
    subst hk
    have fin : ∀ b0, (∀ b, blkIs t b → b = b0) → (∀ b, b < w4.heap.size → ¬ blkIs t b → b ≠ b0) → R (.tuple #[u, t, .bool true]) w4 := fun b0 h1 h2 => by
      refine hR _ _ ⟨_, _, b0, rfl, E4, ?_, ?_⟩
      · refine FPlan.of_own' (B := fun b => w.heap.size ≤ b ∧ b ≠ b0) hou (hin.mono fun b hb hB => ⟨by omega, h2 b hb hB.2⟩) (by rw [subP_len]; omega) fun b hb => ?_
        have hl := Own.lt hou hb
        refine ⟨by omega, h2 b hl.2 fun ht => ?_⟩
        obtain ⟨_, q1⟩ := own_tagN hou hb
        obtain ⟨_, q2⟩ := own_tagN hot ht
        rw [q1] at q2; cases q2
      · exact (Own.fintsAt hot).mono fun b _ hb => ⟨by have := (Own.lt hot hb).1; omega, h1 b hb⟩
    cases hbk : t.ownBlock with
    | none => exact fin w4.heap.size (fun b hb => by have hb : t.ownBlock = some b := hb; rw [hbk] at hb; cases hb) (fun b hb _ => by omega)
    | some b0 => exact fin b0 (fun b hb => by have hb : t.ownBlock = some b := hb; rw [hbk] at hb; cases hb; rfl) (fun b _ hn e => hn (by unfold blkIs; rw [hbk, e]))
end Go.Proofs.Ytmbfkhacejnnhaa
