/- Plans that are shared: the reference's way. -/
import Derived.Test.YtmbfkhacejnnhaaShare
import Derived.Test.YtmbfkhacejnnhaaL3Copy
namespace Go.Proofs.Ytmbfkhacejnnhaa
open Go Go.V

theorem specPlanShare_ok {w : World} {v : Value} {p : List Nd} (hp : PlanV w v p) :
    Calls Try.prog N.spec_PlanShare #[v] w (Ret fun r w' => ∃ u n, r = .tuple #[u, n, .bool (decide (PlanOk p))] ∧ Ext w w' ∧ FPlan w' (Since w) u (shareO p) ∧ FInts w' (Since w) n (shareN p)) := by
  refine ret_k fun R hR => c_spec_PlanShare _ _ _ ?_
  have hlen : ∀ K, LenV v K = K (.int .i64 p.length) := fun K => hp.len
  refine ⟨_, rfl, fun w1 hn1 => ⟨_, rfl, fun w2 hn2 => ?_⟩⟩
  have z1 := hn1.size
  have z2 := hn2.size
  have E2 := hn1.ext.trans hn2.ext
  refine callV_of (specPlanValid_ok (hp.ext E2)) rfl ?_
  rintro _ w3a ⟨E3a, rfl⟩
  have e3a := E2.trans E3a
  simp only [go_sem]
  refine ⟨fun hno => hR _ _ ⟨_, _, by rw [decide_eq_false hno], e3a, by unfold shareO; rw [if_neg hno]; exact FPlan.nil, by unfold shareN; rw [if_neg hno]; exact FInts.nil⟩, fun hok => ?_⟩
  have h10 := hok.len
  refine callV_of (l22First_ok (hp.ext e3a) hok) rfl fun kv w3 ⟨E3, f3⟩ => ?_
  have e3 := e3a.trans E3
  have z3 := e3a.size
  have z3a := E3a.size
  have z3b := E3.size
  have hfi := firstO_is hok
  have hcO : shareO p = subP p (rep (firstO p)) (fst (firstO p)) := by unfold shareO; rw [if_pos hok]; rfl
  have hcN : shareN p = shareTo (firstO p) p.length := by unfold shareN; rw [if_pos hok]
  rw [hcO, hcN, decide_eq_true hok] at hR
  generalize firstO p = fs at hR f3 hfi
  have hfl := hfi.len
  have hki := f3.ints
  have hklen : fs.length ≤ p.length := by omega
  refine callV_of (l3Copy_ok (hp.ext e3)) rfl ?_
  rintro av w4 ⟨E4, fp⟩
  have z4 := E4.size
  obtain ⟨aa, ac, bs, fv, rv, rfl, hac, _, hin, hrow⟩ := (fp.mono (B' := Between w3 w4) fun _ hb h => ⟨h, hb⟩).out
  have e4 := e3.trans E4
  refine loopV (fun s w' => ∃ (i : Nat) (u t : Value), s = [u, t, .int .i64 i] ∧ i ≤ p.length ∧ FInts w' (Between w3a w3) kv fs ∧ Ext w w' ∧ w4.heap.size ≤ w'.heap.size ∧
      (∀ j, j < p.length → FInts w' (· = bs (2 * j)) (fv j) (curF p (rep fs) (fst fs) i j) ∧ FInts w' (· = bs (2 * j + 1)) (rv j) (nd p j).row ∧ Sml (nd p j)) ∧
      (p ≠ [] → ∃ b off cur, aa = some ⟨b, off, none⟩ ∧ Between w3 w4 b ∧ w'.heap[b]? = some (.cells cur T.impl_Node (0, 0)) ∧ off + 3 * p.length ≤ cur.size ∧ FCells cur off p fv rv p.length) ∧
      Own w' w.heap.size T.impl_Node 3 u (rank (rep fs) i) (flat ((subP p (rep fs) (fst fs)).take (rank (rep fs) i)) (fun a => fv (inv (rep fs) p.length a)) fun a => rv (inv (rep fs) p.length a)) ∧
      Own w' w.heap.size T.int 1 t i (ints (shareTo fs i)) ∧ (∀ k, blkIs u k → ¬ Between w3a w4 k) ∧ ∀ k, blkIs t k → ¬ Between w3a w4 k) (upTo p.length 2)
    ⟨0, _, _, rfl, by omega, (f3.mono (B' := Between w3a w3) fun _ hb h => ⟨h, hb⟩).ext E4, e4, Nat.le_refl _, fun j hj => by have := hin.ints j hj; unfold curF; rw [if_neg fun h => by omega]; exact this, hrow,
      by have := Own.ext (Own.empty (lo := w.heap.size) hn1 (Nat.le_refl _)) (((hn2.ext.trans E3a).trans E3).trans E4); simpa [rank, sel, flat, flatN] using this,
      by have := Own.ext (Own.empty (lo := w.heap.size) hn2 (by omega)) ((E3a.trans E3).trans E4); simpa [shareTo, ints] using this,
      fun k hk h => by have hk : some w.heap.size = some k := hk; cases hk; have := h.1; omega, fun k hk h => by have hk : some w1.heap.size = some k := hk; cases hk; have := h.1; omega⟩ ?_
  rintro s z w5 K ⟨i, u, t, rfl, hi, hkv5, E5, z5, hall, harr, hou, hot, hub, htb⟩ hK'
  simp only [hlen, go_sem]
  have hri := @rank_le (rep fs) i
  have hflen : ((subP p (rep fs) (fst fs)).take (rank (rep fs) i)).length ≤ p.length := by rw [List.length_take, subP_len]; have := @rank_le (rep fs) p.length; omega
  refine ⟨fun h => ?_, fun h => ?_⟩
  · have hi : i < p.length := by omega
    have E6 : Ext w5 w5 := Ext.refl _
    have hou6 := hou
    have hot6 := hot
    have hall6 := hall
    have e6 := E5
    have z6 := E6.size
    have hne : p ≠ [] := List.ne_nil_of_length_pos (by omega)
    obtain ⟨ab, aoff, acur, rfl, habt, hab, hasz, hacell⟩ := harr hne
    have hab6 := hab
    have habt' : Between w3a w4 ab := ⟨by have := habt.1; omega, habt.2⟩
    have hslot : ∀ j, j < p.length → (nd p j).frm ≠ [] → Between w3a w4 (bs (2 * j)) ∧ w3.heap.size ≤ bs (2 * j) := fun j hj h => by have := hin.inB (2 * j) (by omega) (by rw [slot_f]; exact h); exact ⟨⟨by have := this.1; omega, this.2⟩, this.1⟩
    have hslotr : ∀ j, j < p.length → (nd p j).row ≠ [] → Between w3a w4 (bs (2 * j + 1)) := fun j hj h => by have := hin.inB (2 * j + 1) (by omega) (by rw [slot_r]; exact h); exact ⟨by have := this.1; omega, this.2⟩
    have cne : ∀ {i j}, curF p (rep fs) (fst fs) i j ≠ [] → (nd p j).frm ≠ [] := fun {i j} h e => h (List.eq_nil_of_length_eq_zero (by rw [curF_len, e]; rfl))
    have keepAll : ∀ {w' w'' : World} {q : Nat} {x : Value}, (∀ k, blkIs x k → ¬ Between w3a w4 k) → Chg (blkIs x) w' w'' →
        (∀ j, j < p.length → FInts w' (· = bs (2 * j)) (fv j) (curF p (rep fs) (fst fs) q j) ∧ FInts w' (· = bs (2 * j + 1)) (rv j) (nd p j).row ∧ Sml (nd p j)) →
        ∀ j, j < p.length → FInts w'' (· = bs (2 * j)) (fv j) (curF p (rep fs) (fst fs) q j) ∧ FInts w'' (· = bs (2 * j + 1)) (rv j) (nd p j).row ∧ Sml (nd p j) := fun hx hc h j hj =>
      ⟨(h j hj).1.keep1 hc fun hne hk => hx _ hk (hslot j hj (cne hne)).1, (h j hj).2.1.keep1 hc fun hne hk => hx _ hk (hslotr j hj hne), (h j hj).2.2⟩
    have laterB : ∀ {w' : World} {x y : Value}, w4.heap.size ≤ w'.heap.size → (∀ k, blkIs x k → ¬ Between w3a w4 k) → Later w' x y → ∀ k, blkIs y k → ¬ Between w3a w4 k := fun hz hx hl k hk hb => by
      rcases hl with h | ⟨m, h, hm⟩
      · exact hx k (by unfold blkIs at hk ⊢; rw [← h]; exact hk) hb
      · have hk : _ = some k := hk
        rw [h] at hk; cases hk; have := hb.2; omega
    have hlo1 : w.heap.size ≤ w5.heap.size := by omega
    have fsB : ∀ k, Between w3a w3 k → Between w3a w4 k := fun k h => ⟨h.1, by have := h.2; omega⟩
    refine Ints.loadI hkv5.ints (q := i) (by omega) ?_
    rw [first_at hfi hi]
    have hfle := fst_lt hfi hi
    simp only [go_sem]
    refine ⟨fun hlt => ?_, fun hge => ?_⟩
    · have hnc : ¬ rep fs i := fun h => by rw [fst_of_rep h] at hlt; omega
      obtain ⟨h1, h2⟩ := share_old hfi hi hnc
      refine Ints.loadI hkv5.ints (q := i) (by omega) ?_
      rw [first_at hfi hi]
      refine Ints.loadI (Own.ints hot) (q := fst fs i) (by rw [shareTo_len]; exact h1) ?_
      rw [shareTo_at h1, h2]
      refine app_intAt hot6 (by omega) hlo1 fun t' w7 hot7 C7 L7 => ?_
      have hle : ∀ k, blkIs t k → w.heap.size ≤ k := fun k hk => (Own.lt hot6 hk).1
      refine bin_inc (by omega) (hK' _ _ ⟨i + 1, u, t', rfl, by omega, hkv5.keep C7 fun k hk hb => htb k hb (fsB k hk), Chg.ext (e6.then C7) fun j hj hb => by have := hle j hb; omega, by have := C7.size; omega, ?_, ?_, ?_, ?_, hub, laterB (by omega) htb L7⟩ (by simp [upTo, nthV, iOf]; omega))
      · have hcur : ∀ j, curF p (rep fs) (fst fs) (i + 1) j = curF p (rep fs) (fst fs) i j := fun j => by
          unfold curF
          by_cases e : j = i
          · subst e; rw [if_neg fun h => hnc h.2, if_neg fun h => hnc h.2]
          · by_cases hh : j < i ∧ rep fs j
            · rw [if_pos ⟨by omega, hh.2⟩, if_pos hh]
            · rw [if_neg fun h => hh ⟨by omega, h.2⟩, if_neg hh]
        intro j hj
        rw [hcur]
        exact keepAll htb C7 hall6 j hj
      · exact fun _ => ⟨ab, aoff, acur, rfl, habt, C7.at hab6 fun hk => htb _ hk habt', hasz, hacell⟩
      · rw [rank_no hnc]
        exact Own.keep hou6 C7 fun k hk hb => by
          obtain ⟨_, h1⟩ := own_tagN hou6 hk
          obtain ⟨_, h2⟩ := own_tagN hot6 hb
          rw [h1] at h2; cases h2
      · rw [shareTo_snoc]; exact hot7
    · have hfe : fst fs i = i := by omega
      have hci : rep fs i := by have := fst_rep hfi hi; rw [hfe] at this; exact this
      have hrlen : ((subP p (rep fs) (fst fs)).take (rank (rep fs) i)).length = rank (rep fs) i := by rw [List.length_take, subP_len, Nat.min_eq_left (Nat.le_of_lt (rank_lt hci hi))]
      obtain ⟨c1, c2, c3⟩ := hacell i hi
      have cellAt : ∀ q x, acur[q]? = some x → w5.cell? ⟨ab, q, none⟩ = some x := fun q x h => by rw [cell_of_row w5 ab _ _ _ (0, 0) hab6]; exact h
      obtain ⟨fi, ri, si⟩ := hall6 i hi
      have si1 : (nd p i).frm.length ≤ 1048576 := si.1
      have hcur0 : curF p (rep fs) (fst fs) i i = (nd p i).frm := by unfold curF; rw [if_neg fun h => by omega]
      rw [hcur0] at fi
      refine ⟨by omega, by omega, ?_⟩
      simp only [addr_add, Int.toNat_natCast, Nat.mul_comm i 3]
      refine load_node (cellAt _ _ c1) (cellAt _ _ c2) (cellAt _ _ c3) ?_
      refine box_set fi.ints ri.ints fun w7 E7 hbox z7 => ?_
      have e7 := e6.trans E7
      have hfl : ∀ K, LenV (fv i) K = K (.int .i64 (nd p i).frm.length) := fun K => ints_len fi.ints
      have hfr : fr p i = (nd p i).frm := by rw [fr_get hi, nd_get hi]
      have hot7 := Own.ext hot6 E7
      refine loopV (fun s w' => ∃ q : Nat, s = [.int .i64 q] ∧ q ≤ (nd p i).frm.length ∧ Chg (fun b => b = bs (2 * i) ∧ (nd p i).frm ≠ []) w7 w' ∧ w'.heap.size = w7.heap.size ∧ FInts w' (· = bs (2 * i)) (fv i) (mapTo (fun f => (rank (rep fs) (fst fs f.toNat) : Int)) q (nd p i).frm)) (upTo (nd p i).frm.length 0)
        ⟨0, rfl, by omega, Chg.refl _ _, rfl, by rw [mapTo_zero]; exact fi.ext E7⟩ ?_
      rintro s z w8 K'' ⟨q, rfl, hq, C8, z8, f8⟩ hK''
      have hbox8 : w8.heap[w5.heap.size]? = some (.cells #[.int .i64 (nd p i).kind, fv i, rv i] T.impl_Node (0, 0)) := C8.at hbox fun e => by have := (hslot i hi e.2).1.2; have := e.1; omega
      have hot8 : Own w8 w.heap.size T.int 1 t i (ints (shareTo fs i)) := Own.keep hot7 C8 fun k hk e => by
        have := (hslot i hi e.2).1
        rw [← e.1] at this
        exact htb k hk this
      simp only [go_sem]
      refine load2 (v := fv i) hbox8 rfl ?_
      simp only [hfl, go_sem]
      refine ⟨fun h => ?_, fun h => ?_⟩
      · have hq : q < (nd p i).frm.length := by omega
        have hnf : (nd p i).frm ≠ [] := List.ne_nil_of_length_pos (by omega)
        refine draw_none fun w9 hs9 => ?_
        have hb9 := hs9.ext.at hbox8
        refine loadS2 (v := fv i) hb9 id rfl ?_
        refine loadS2 (v := fv i) hb9 id rfl ?_
        refine Ints.loadS (f8.ext hs9.ext).ints (q := q) (by rw [mapTo_len]; exact hq) (fun _ => id) ?_
        rw [mapTo_get hq]
        have hmemf : (nd p i).frm[q] ∈ fr p i := by rw [hfr]; exact List.getElem_mem hq
        have hflt := hok.fr_lt hmemf
        obtain ⟨g, hge⟩ : ∃ g : Nat, (nd p i).frm[q] = (g : Int) := ⟨((nd p i).frm[q]).toNat, by omega⟩
        have hset := mapTo_set (g := fun f => (rank (rep fs) (fst fs f.toNat) : Int)) hq
        rw [hge] at hset hflt ⊢
        simp only [Int.toNat_natCast] at hset
        refine Ints.loadS (Own.ints (Own.ext hot8 hs9.ext)) (q := g) (by rw [shareTo_len]; omega) (fun _ => id) ?_
        rw [shareTo_at (by omega)]
        refine (f8.ext hs9.ext).store (by rw [mapTo_len]; exact hq) fun w10 C10 z10 f10 => ?_
        rw [hset] at f10
        refine bin_inc (by omega) (hK'' _ _ ⟨q + 1, rfl, by omega, (C8.then hs9.ext).andThen (C10.mono fun k _ e => ⟨e, hnf⟩), ?_, f10⟩ (by simp [upTo, nthV, iOf]; omega))
        rw [z10, hs9.heap]; exact z8
      · have hq : q = (nd p i).frm.length := by omega
        subst hq
        rw [mapTo_all] at f8
        have hbB : ∀ k, (k = bs (2 * i) ∧ (nd p i).frm ≠ []) → Between w3a w4 k := fun k e => by rw [e.1]; exact (hslot i hi e.2).1
        have hou8 := Own.keep (Own.ext hou6 E7) C8 fun k hk e => hub k hk (hbB k e)
        have hall8 : ∀ j, j < p.length → FInts w8 (· = bs (2 * j)) (fv j) (curF p (rep fs) (fst fs) (i + 1) j) ∧ FInts w8 (· = bs (2 * j + 1)) (rv j) (nd p j).row ∧ Sml (nd p j) := by
          intro j hj
          obtain ⟨k1, k2, k3⟩ := hall6 j hj
          have r1 := (k2.ext E7).keep1 C8 fun hne' e => by
            have := hin.inj (2 * j + 1) (2 * i) (by omega) (by omega) (by rw [slot_r]; exact hne') (by rw [slot_f]; exact e.2) e.1
            omega
          by_cases e : j = i
          · subst e
            refine ⟨?_, r1, k3⟩
            unfold curF; rw [if_pos ⟨by omega, hci⟩]
            exact f8
          · have hcur : curF p (rep fs) (fst fs) (i + 1) j = curF p (rep fs) (fst fs) i j := by
              unfold curF
              by_cases hh : j < i ∧ rep fs j
              · rw [if_pos ⟨by omega, hh.2⟩, if_pos hh]
              · rw [if_neg fun h => hh ⟨by omega, h.2⟩, if_neg hh]
            rw [hcur]
            refine ⟨(k1.ext E7).keep1 C8 fun hne' e' => ?_, r1, k3⟩
            have := hin.inj (2 * j) (2 * i) (by omega) (by omega) (by rw [slot_f]; exact cne hne') (by rw [slot_f]; exact e'.2) e'.1
            omega
        have hab8 : w8.heap[ab]? = some (.cells acur T.impl_Node (0, 0)) := C8.at (E7.at hab6) fun e => by
          obtain ⟨_, _, h2⟩ := hin.lt (s := 2 * i) (by omega) (by rw [slot_f]; exact e.2)
          obtain ⟨_, cur', h3⟩ := (hall6 i hi).1.lt (by rw [hcur0]; exact e.2)
          rw [← e.1, hab6] at h3; cases h3
        have hlenu : ∀ K, LenV u K = K (.int .i64 (rank (rep fs) i)) := fun K => Own.lenN hou K
        have c8 : Chg (fun k => Between w3a w4 k) w7 w8 := C8.mono fun k _ e => hbB k e
        have e8 : Ext w w8 := Chg.ext (e7.then c8) fun k hk hb => by have := hb.1; omega
        have kv8 : FInts w8 (Between w3a w3) kv fs := (hkv5.ext E7).keep C8 fun k hk e => by have := (hslot i hi e.2).2; have := hk.2; have := e.1; omega
        have z8' : w4.heap.size ≤ w8.heap.size := by have := E7.size; omega
        simp only [hlenu, go_sem]
        refine app_intAt hot8 (by omega) (by omega) fun t' w9 hot9 C9 L9 => ?_
        have hle : ∀ k, blkIs t k → w.heap.size ≤ k := fun k hk => (Own.lt hot8 hk).1
        have hou9 := Own.keep hou8 C9 fun k hk hb => by
          obtain ⟨_, h1⟩ := own_tagN hou8 hk
          obtain ⟨_, h2⟩ := own_tagN hot8 hb
          rw [h1] at h2; cases h2
        have hbox9 : w9.heap[w5.heap.size]? = some (.cells #[.int .i64 (nd p i).kind, fv i, rv i] T.impl_Node (0, 0)) := C9.at hbox8 fun hk => by have := (Own.lt hot6 hk).2; omega
        have hall9 := keepAll htb C9 hall8
        have hab9 := C9.at hab8 fun hk => htb _ hk habt'
        have e9 : Ext w w9 := Chg.ext (e8.then C9) fun k hk hb => by have := hle k hb; omega
        have kv9 := kv8.keep C9 fun k hk hb => htb k hb (fsB k hk)
        refine load_box hbox9 ?_
        have hren : ren p (rep fs) (fst fs) i = ⟨(nd p i).kind, (nd p i).frm.map fun f => (rank (rep fs) (fst fs f.toNat) : Int), (nd p i).row⟩ := rfl
        have hou9' : Own w9 w.heap.size T.impl_Node 3 u ((subP p (rep fs) (fst fs)).take (rank (rep fs) i)).length (flat ((subP p (rep fs) (fst fs)).take (rank (rep fs) i)) (fun a => fv (inv (rep fs) p.length a)) fun a => rv (inv (rep fs) p.length a)) := by rw [hrlen]; exact hou9
        have fi9 := (hall9 i hi).1
        have ri9 := (hall9 i hi).2.1
        refine plainly (S := fun _ => True) (app_nodeAt (x := ren p (rep fs) (fst fs) i) hou9' (by rw [hren]) fi9.cellsV ri9.cellsV (by omega) (by have := C9.size; omega) (fun _ _ => trivial) fun u' w10 hou10 C10 L10 => ?_)
        rw [hrlen, setF_same' (by rw [inv_rank hi hci]), setF_same' (by rw [inv_rank hi hci]), ← part_step hi hci] at hou10
        have hleu : ∀ k, blkIs u k → w.heap.size ≤ k := fun k hk => (Own.lt hou9 hk).1
        refine bin_inc (by omega) (hK' _ _ ⟨i + 1, u', t', rfl, by omega, kv9.keep C10 fun k hk hb => hub k hb (fsB k hk), Chg.ext (e9.then C10) fun j hj hb => by have := hleu j hb; omega, by have := C9.size; have := C10.size; omega, keepAll hub C10 hall9, ?_, ?_, ?_, laterB (by have := C9.size; omega) hub L10, laterB z8' htb L9⟩ (by simp [upTo, nthV, iOf]; omega))
        · exact fun _ => ⟨ab, aoff, acur, rfl, habt, C10.at hab9 fun hk => hub _ hk habt', hasz, hacell⟩
        · rw [rank_yes hci]
          have : ((subP p (rep fs) (fst fs)).take (rank (rep fs) i + 1)).length = rank (rep fs) i + 1 := by rw [List.length_take, subP_len, Nat.min_eq_left (rank_lt hci hi)]
          rw [this] at hou10
          exact hou10
        · rw [shareTo_snoc, hfe]
          exact Own.keep hot9 C10 fun k hk hb => by
            obtain ⟨_, h1⟩ := own_tagN hot9 hk
            obtain ⟨_, h2⟩ := own_tagN hou9 hb
            rw [h1] at h2; cases h2
  · have hi : i = p.length := by omega
    subst hi
    have hfull : (subP p (rep fs) (fst fs)).take (rank (rep fs) p.length) = subP p (rep fs) (fst fs) := List.take_of_length_le (by rw [subP_len]; exact Nat.le_refl _)
    rw [hfull] at hou
    exact hR _ _ ⟨_, _, rfl, E5, moved_plan hok.len hou hall hin (fun b hb => by have := hb.1; unfold Since; omega) (fun b hb => by have := (Own.lt hou hb).1; unfold Since; omega), (Own.fints hot).mono fun b _ hb => by unfold Since; omega⟩
end Go.Proofs.Ytmbfkhacejnnhaa
