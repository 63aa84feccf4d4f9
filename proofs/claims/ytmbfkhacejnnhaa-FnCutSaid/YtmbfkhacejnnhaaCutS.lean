/- Plans that are cut: the reference's way. -/
import Derived.Test.YtmbfkhacejnnhaaCut
import Derived.Test.YtmbfkhacejnnhaaL3Copy
import Derived.Test.YtmbfkhacejnnhaaCopy
namespace Go.Proofs.Ytmbfkhacejnnhaa
open Go Go.V

theorem cutTo_snoc {c : Nat → Prop} {k : Nat} : cutTo c (k + 1) = cutTo c k ++ [(cutTo c (k + 1)).getD k 0] := by
  have h : k < (cutTo c (k + 1)).length := by rw [cutTo_len]; omega
  have e : (cutTo c (k + 1)).take k = cutTo c k := by
    unfold cutTo; rw [← List.map_take, List.take_range, Nat.min_eq_left (by omega)]
  have := take_snoc h
  rw [List.take_of_length_le (by rw [cutTo_len]; omega), e] at this
  rw [this]
  congr 1
  rw [List.getD_eq_getElem?_getD, ← this, List.getElem?_eq_getElem h]
  simp
theorem cutTo_at {c : Nat → Prop} {k i : Nat} (hi : i < k) (h : c i) : (cutTo c k)[i]'(by rw [cutTo_len]; exact hi) = (rank c i : Int) := by
  have := cutTo_yes hi h
  rw [List.getD_eq_getElem?_getD, List.getElem?_eq_getElem (by rw [cutTo_len]; exact hi)] at this
  simpa using this

theorem specPlanCut_ok {w : World} {v lv : Value} {p : List Nd} {l : List Int} (hp : PlanV w v p) (hl : Ints w lv l) (hll : l.length ≤ 1099511627776) :
    Calls Try.prog N.spec_PlanCut #[v, lv] w (Ret fun r w' => ∃ u n, r = .tuple #[u, n, .bool (decide (KeepOk p l))] ∧ Ext w w' ∧ FPlan w' (Since w) u (cutP p l) ∧ FInts w' (Since w) n (cutT p l)) := by
  refine ret_k fun R hR => c_spec_PlanCut _ _ _ _ ?_
  have hlen : ∀ K, LenV v K = K (.int .i64 p.length) := fun K => hp.len
  refine callV_of (specCutKeep_ok hp hl hll) rfl ?_
  rintro _ w1 ⟨kv, rfl, E1, fk⟩
  simp only [hlen, go_sem]
  refine ⟨_, rfl, fun w2 hn2 => ⟨_, rfl, fun w3 hn3 => ?_⟩⟩
  have e3 := (E1.trans hn2.ext).trans hn3.ext
  have z1 := E1.size
  have z2 := hn2.size
  have z3 := hn3.size
  refine ⟨fun hno => hR _ _ ⟨_, _, by rw [decide_eq_false hno], e3, by unfold cutP; rw [if_neg hno]; exact FPlan.nil, by unfold cutT; rw [if_neg hno]; exact FInts.nil⟩, fun hK => ?_⟩
  have hok := hK.1
  have h10 := hok.len
  have hkl : keepO p l = sel p.length (Rch p l) := by unfold keepO; rw [if_pos hK]; rfl
  rw [hkl] at fk
  have hcP : cutP p l = subP p (Rch p l) id := by unfold cutP; rw [if_pos hK]
  have hcT : cutT p l = cutTo (Rch p l) p.length := by unfold cutT; rw [if_pos hK]
  rw [hcP, hcT, decide_eq_true hK] at hR
  have hclosed : ∀ i, Rch p l i → ∀ f ∈ fr p i, Rch p l f.toNat := fun i hi f hf => by
    have := hok.fr_lt hf
    exact .need hi (by rw [show ((f.toNat : Nat) : Int) = f by omega]; exact hf)
  generalize Rch p l = c at hR fk hclosed
  have hki := fk.ints
  have hklen : (sel p.length c).length ≤ p.length := sel_len
  refine callV_of (l3Copy_ok (hp.ext e3)) rfl ?_
  rintro av w4 ⟨E4, fp⟩
  have z4 := E4.size
  obtain ⟨aa, ac, bs, fv, rv, rfl, hac, _, hin, hrow⟩ := (fp.mono (B' := Between w3 w4) fun _ hb h => ⟨h, hb⟩).out
  have e4 := e3.trans E4
  have hout2 : ∀ k, k = w1.heap.size ∨ k = w2.heap.size → k < w3.heap.size := fun k h => by omega
  refine loopV (fun s w' => ∃ (i : Nat) (u t : Value), s = [u, t, .int .i64 i] ∧ i ≤ p.length ∧ Ext w1 w' ∧ Ext w w' ∧ w4.heap.size ≤ w'.heap.size ∧
      (∀ j, j < p.length → FInts w' (· = bs (2 * j)) (fv j) (curF p c id i j) ∧ FInts w' (· = bs (2 * j + 1)) (rv j) (nd p j).row ∧ Sml (nd p j)) ∧
      (p ≠ [] → ∃ b off cur, aa = some ⟨b, off, none⟩ ∧ Between w3 w4 b ∧ w'.heap[b]? = some (.cells cur T.impl_Node (0, 0)) ∧ off + 3 * p.length ≤ cur.size ∧ FCells cur off p fv rv p.length) ∧
      Own w' w1.heap.size T.impl_Node 3 u (rank c i) (flat ((subP p c id).take (rank c i)) (fun a => fv (inv c p.length a)) fun a => rv (inv c p.length a)) ∧
      Own w' w1.heap.size T.int 1 t i (ints (cutTo c i)) ∧ (∀ k, blkIs u k → ¬ Between w3 w4 k) ∧ ∀ k, blkIs t k → ¬ Between w3 w4 k) (upTo p.length 2)
    ⟨0, _, _, rfl, by omega, (hn2.ext.trans hn3.ext).trans E4, e4, Nat.le_refl _, fun j hj => by have := hin.ints j hj; unfold curF; rw [if_neg fun h => by omega]; exact this, hrow,
      by have := Own.ext (Own.empty (lo := w1.heap.size) hn2 (Nat.le_refl _)) (hn3.ext.trans E4); simpa [rank, sel, flat, flatN] using this,
      by have := Own.ext (Own.empty (lo := w1.heap.size) hn3 (by omega)) E4; simpa [cutTo, ints] using this,
      fun k hk h => by have hk : some w1.heap.size = some k := hk; cases hk; have := h.1; omega, fun k hk h => by have hk : some w2.heap.size = some k := hk; cases hk; have := h.1; omega⟩ ?_
  rintro s z w5 K ⟨i, u, t, rfl, hi, G5, E5, z5, hall, harr, hou, hot, hub, htb⟩ hK'
  simp only [go_sem]
  have hri := @rank_le c i
  have hflen : ((subP p c id).take (rank c i)).length ≤ p.length := by rw [List.length_take, subP_len]; have := @rank_le c p.length; omega
  refine ⟨fun h => ?_, fun h => ?_⟩
  · have hi : i < p.length := by omega
    refine callV_of (l3HasI (hki.ext G5) (by omega) _) rfl ?_
    rintro _ w6 ⟨E6, rfl⟩
    have hmem : (i : Int) ∈ sel p.length c ↔ c i := by rw [mem_sel_nat]; exact ⟨fun h => h.2, fun h => ⟨hi, h⟩⟩
    have G6 := G5.trans E6
    have e6 := E5.trans E6
    have z6 := E6.size
    have hou6 := Own.ext hou E6
    have hot6 := Own.ext hot E6
    have hall6 : ∀ j, j < p.length → FInts w6 (· = bs (2 * j)) (fv j) (curF p c id i j) ∧ FInts w6 (· = bs (2 * j + 1)) (rv j) (nd p j).row ∧ Sml (nd p j) := fun j hj => ⟨(hall j hj).1.ext E6, (hall j hj).2.1.ext E6, (hall j hj).2.2⟩
    have hne : p ≠ [] := List.ne_nil_of_length_pos (by omega)
    obtain ⟨ab, aoff, acur, rfl, habt, hab, hasz, hacell⟩ := harr hne
    have hab6 := E6.at hab
    have hslot : ∀ j, j < p.length → (nd p j).frm ≠ [] → Between w3 w4 (bs (2 * j)) := fun j hj h => hin.inB (2 * j) (by omega) (by rw [slot_f]; exact h)
    have hslotr : ∀ j, j < p.length → (nd p j).row ≠ [] → Between w3 w4 (bs (2 * j + 1)) := fun j hj h => hin.inB (2 * j + 1) (by omega) (by rw [slot_r]; exact h)
    have cne : ∀ {i j}, curF p c id i j ≠ [] → (nd p j).frm ≠ [] := fun {i j} h e => h (List.eq_nil_of_length_eq_zero (by rw [curF_len, e]; rfl))
    have keepAll : ∀ {w' w'' : World} {q : Nat} {x : Value}, (∀ k, blkIs x k → ¬ Between w3 w4 k) → Chg (blkIs x) w' w'' →
        (∀ j, j < p.length → FInts w' (· = bs (2 * j)) (fv j) (curF p c id q j) ∧ FInts w' (· = bs (2 * j + 1)) (rv j) (nd p j).row ∧ Sml (nd p j)) →
        ∀ j, j < p.length → FInts w'' (· = bs (2 * j)) (fv j) (curF p c id q j) ∧ FInts w'' (· = bs (2 * j + 1)) (rv j) (nd p j).row ∧ Sml (nd p j) := fun hx hc h j hj =>
      ⟨(h j hj).1.keep1 hc fun hne hk => hx _ hk (hslot j hj (cne hne)), (h j hj).2.1.keep1 hc fun hne hk => hx _ hk (hslotr j hj hne), (h j hj).2.2⟩
    have laterB : ∀ {w' : World} {x y : Value}, w4.heap.size ≤ w'.heap.size → (∀ k, blkIs x k → ¬ Between w3 w4 k) → Later w' x y → ∀ k, blkIs y k → ¬ Between w3 w4 k := fun hz hx hl k hk hb => by
      rcases hl with h | ⟨m, h, hm⟩
      · exact hx k (by unfold blkIs at hk ⊢; rw [← h]; exact hk) hb
      · have hk : _ = some k := hk
        rw [h] at hk; cases hk; have := hb.2; omega
    have hlo1 : w1.heap.size ≤ w6.heap.size := by omega
    simp only [go_sem]
    refine ⟨fun hnot => ?_, fun hin' => ?_⟩
    · have hnc : ¬ c i := fun h => hnot (hmem.2 h)
      refine app_intAt hot6 (by omega) hlo1 fun t' w7 hot7 C7 L7 => ?_
      have hle : ∀ k, blkIs t k → w1.heap.size ≤ k := fun k hk => (Own.lt hot6 hk).1
      refine bin_inc (by omega) (hK' _ _ ⟨i + 1, u, t', rfl, by omega, Chg.ext (G6.then C7) fun j hj hb => by have := hle j hb; omega, Chg.ext (e6.then C7) fun j hj hb => by have := hle j hb; omega, by have := C7.size; omega, ?_, ?_, ?_, ?_, hub, laterB (by omega) htb L7⟩ (by simp [upTo, nthV, iOf]; omega))
      · have hcur : ∀ j, curF p c id (i + 1) j = curF p c id i j := fun j => by
          unfold curF
          by_cases e : j = i
          · subst e; rw [if_neg fun h => hnc h.2, if_neg fun h => hnc h.2]
          · by_cases hh : j < i ∧ c j
            · rw [if_pos ⟨by omega, hh.2⟩, if_pos hh]
            · rw [if_neg fun h => hh ⟨by omega, h.2⟩, if_neg hh]
        intro j hj
        rw [hcur]
        exact keepAll htb C7 hall6 j hj
      · exact fun _ => ⟨ab, aoff, acur, rfl, habt, C7.at hab6 fun hk => htb _ hk habt, hasz, hacell⟩
      · rw [rank_no hnc]
        exact Own.keep hou6 C7 fun k hk hb => by
          obtain ⟨_, h1⟩ := own_tagN hou6 hk
          obtain ⟨_, h2⟩ := own_tagN hot6 hb
          rw [h1] at h2; cases h2
      · rw [cutTo_snoc, cutTo_no (by omega) hnc]; exact hot7
    · have hci : c i := hmem.1 hin'
      have hrlen : ((subP p c id).take (rank c i)).length = rank c i := by rw [List.length_take, subP_len, Nat.min_eq_left (Nat.le_of_lt (rank_lt hci hi))]
      obtain ⟨c1, c2, c3⟩ := hacell i hi
      have cellAt : ∀ q x, acur[q]? = some x → w6.cell? ⟨ab, q, none⟩ = some x := fun q x h => by rw [cell_of_row w6 ab _ _ _ (0, 0) hab6]; exact h
      obtain ⟨fi, ri, si⟩ := hall6 i hi
      have si1 : (nd p i).frm.length ≤ 1048576 := si.1
      have hcur0 : curF p c id i i = (nd p i).frm := by unfold curF; rw [if_neg fun h => by omega]
      rw [hcur0] at fi
      refine ⟨by omega, by omega, ?_⟩
      simp only [addr_add, Int.toNat_natCast, Nat.mul_comm i 3]
      refine load_node (cellAt _ _ c1) (cellAt _ _ c2) (cellAt _ _ c3) ?_
      refine box_set fi.ints ri.ints fun w7 E7 hbox z7 => ?_
      have e7 := e6.trans E7
      have hfl : ∀ K, LenV (fv i) K = K (.int .i64 (nd p i).frm.length) := fun K => ints_len fi.ints
      have hfr : fr p i = (nd p i).frm := by rw [fr_get hi, nd_get hi]
      have hot7 := Own.ext hot6 E7
      refine loopV (fun s w' => ∃ q : Nat, s = [.int .i64 q] ∧ q ≤ (nd p i).frm.length ∧ Chg (fun b => b = bs (2 * i) ∧ (nd p i).frm ≠ []) w7 w' ∧ w'.heap.size = w7.heap.size ∧ FInts w' (· = bs (2 * i)) (fv i) (mapTo (fun f => (rank c f.toNat : Int)) q (nd p i).frm)) (upTo (nd p i).frm.length 0)
        ⟨0, rfl, by omega, Chg.refl _ _, rfl, by rw [mapTo_zero]; exact fi.ext E7⟩ ?_
      rintro s z w8 K'' ⟨q, rfl, hq, C8, z8, f8⟩ hK''
      have hbox8 : w8.heap[w6.heap.size]? = some (.cells #[.int .i64 (nd p i).kind, fv i, rv i] T.impl_Node (0, 0)) := C8.at hbox fun e => by have := (hslot i hi e.2).2; have := e.1; omega
      have hot8 : Own w8 w1.heap.size T.int 1 t i (ints (cutTo c i)) := Own.keep hot7 C8 fun k hk e => by
        have := hslot i hi e.2
        rw [← e.1] at this
        exact htb k hk this
      simp only [go_sem]
      refine load2 (v := fv i) hbox8 rfl ?_
      simp only [hfl, go_sem]
      refine ⟨fun h => ?_, fun h => ?_⟩
      · have hq : q < (nd p i).frm.length := by omega
        have hnf : (nd p i).frm ≠ [] := List.ne_nil_of_length_pos (by omega)
        refine draw_none fun w9 hs9 => ?_
        have hb9 := hs9.ext.at hbox8
        refine loadS2 (v := fv i) hb9 id rfl ?_
        refine loadS2 (v := fv i) hb9 id rfl ?_
        refine Ints.loadS (f8.ext hs9.ext).ints (q := q) (by rw [mapTo_len]; exact hq) (fun _ => id) ?_
        rw [mapTo_get hq]
        have hmemf : (nd p i).frm[q] ∈ fr p i := by rw [hfr]; exact List.getElem_mem hq
        have hflt := hok.fr_lt hmemf
        have hcf := hclosed i hci _ hmemf
        obtain ⟨g, hge⟩ : ∃ g : Nat, (nd p i).frm[q] = (g : Int) := ⟨((nd p i).frm[q]).toNat, by omega⟩
        have hset := mapTo_set (g := fun f => (rank c f.toNat : Int)) hq
        rw [hge] at hset hcf hflt ⊢
        simp only [Int.toNat_natCast] at hset hcf
        refine Ints.loadS (Own.ints (Own.ext hot8 hs9.ext)) (q := g) (by rw [cutTo_len]; omega) (fun _ => id) ?_
        rw [cutTo_at (by omega) hcf]
        refine (f8.ext hs9.ext).store (by rw [mapTo_len]; exact hq) fun w10 C10 z10 f10 => ?_
        rw [hset] at f10
        refine bin_inc (by omega) (hK'' _ _ ⟨q + 1, rfl, by omega, (C8.then hs9.ext).andThen (C10.mono fun k _ e => ⟨e, hnf⟩), ?_, f10⟩ (by simp [upTo, nthV, iOf]; omega))
        rw [z10, hs9.heap]; exact z8
      · have hq : q = (nd p i).frm.length := by omega
        subst hq
        rw [mapTo_all] at f8
        have hbB : ∀ k, (k = bs (2 * i) ∧ (nd p i).frm ≠ []) → Between w3 w4 k := fun k e => by rw [e.1]; exact hslot i hi e.2
        have hou8 := Own.keep (Own.ext hou6 E7) C8 fun k hk e => hub k hk (hbB k e)
        have hall8 : ∀ j, j < p.length → FInts w8 (· = bs (2 * j)) (fv j) (curF p c id (i + 1) j) ∧ FInts w8 (· = bs (2 * j + 1)) (rv j) (nd p j).row ∧ Sml (nd p j) := by
          intro j hj
          obtain ⟨k1, k2, k3⟩ := hall6 j hj
          have r1 := (k2.ext E7).keep1 C8 fun hne' e => by
            have := hin.inj (2 * j + 1) (2 * i) (by omega) (by omega) (by rw [slot_r]; exact hne') (by rw [slot_f]; exact e.2) e.1
            omega
          by_cases e : j = i
          · subst e
            refine ⟨?_, r1, k3⟩
            unfold curF; rw [if_pos ⟨by omega, hci⟩]
            exact f8
          · have hcur : curF p c id (i + 1) j = curF p c id i j := by
              unfold curF
              by_cases hh : j < i ∧ c j
              · rw [if_pos ⟨by omega, hh.2⟩, if_pos hh]
              · rw [if_neg fun h => hh ⟨by omega, h.2⟩, if_neg hh]
            rw [hcur]
            refine ⟨(k1.ext E7).keep1 C8 fun hne' e' => ?_, r1, k3⟩
            have := hin.inj (2 * j) (2 * i) (by omega) (by omega) (by rw [slot_f]; exact cne hne') (by rw [slot_f]; exact e'.2) e'.1
            omega
        have hab8 : w8.heap[ab]? = some (.cells acur T.impl_Node (0, 0)) := C8.at (E7.at hab6) fun e => by
          obtain ⟨_, _, h2⟩ := hin.lt (s := 2 * i) (by omega) (by rw [slot_f]; exact e.2)
          obtain ⟨_, cur', h3⟩ := (hall6 i hi).1.lt (by rw [hcur0]; exact e.2)
          rw [← e.1, hab6] at h3; cases h3
        have hlenu : ∀ K, LenV u K = K (.int .i64 (rank c i)) := fun K => Own.lenN hou K
        have c8 : Chg (fun k => Between w3 w4 k) w7 w8 := C8.mono fun k _ e => hbB k e
        have e8 : Ext w w8 := Chg.ext (e7.then c8) fun k hk hb => by have := hb.1; omega
        have G8 : Ext w1 w8 := Chg.ext ((G6.trans E7).then c8) fun k hk hb => by have := hb.1; omega
        have z8' : w4.heap.size ≤ w8.heap.size := by have := E7.size; omega
        simp only [hlenu, go_sem]
        refine app_intAt hot8 (by omega) (by omega) fun t' w9 hot9 C9 L9 => ?_
        have hle : ∀ k, blkIs t k → w1.heap.size ≤ k := fun k hk => (Own.lt hot8 hk).1
        have hou9 := Own.keep hou8 C9 fun k hk hb => by
          obtain ⟨_, h1⟩ := own_tagN hou8 hk
          obtain ⟨_, h2⟩ := own_tagN hot8 hb
          rw [h1] at h2; cases h2
        have hbox9 : w9.heap[w6.heap.size]? = some (.cells #[.int .i64 (nd p i).kind, fv i, rv i] T.impl_Node (0, 0)) := C9.at hbox8 fun hk => by have := (Own.lt hot6 hk).2; omega
        have hall9 := keepAll htb C9 hall8
        have hab9 := C9.at hab8 fun hk => htb _ hk habt
        have e9 : Ext w w9 := Chg.ext (e8.then C9) fun k hk hb => by have := hle k hb; omega
        have G9 : Ext w1 w9 := Chg.ext (G8.then C9) fun k hk hb => by have := hle k hb; omega
        refine load_box hbox9 ?_
        have hren : ren p c id i = ⟨(nd p i).kind, (nd p i).frm.map fun f => (rank c f.toNat : Int), (nd p i).row⟩ := rfl
        have hou9' : Own w9 w1.heap.size T.impl_Node 3 u ((subP p c id).take (rank c i)).length (flat ((subP p c id).take (rank c i)) (fun a => fv (inv c p.length a)) fun a => rv (inv c p.length a)) := by rw [hrlen]; exact hou9
        have fi9 := (hall9 i hi).1
        have ri9 := (hall9 i hi).2.1
        refine plainly (S := fun _ => True) (app_nodeAt (x := ren p c id i) hou9' (by rw [hren]) fi9.cellsV ri9.cellsV (by omega) (by have := C9.size; omega) (fun _ _ => trivial) fun u' w10 hou10 C10 L10 => ?_)
        rw [hrlen, setF_same' (by rw [inv_rank hi hci]), setF_same' (by rw [inv_rank hi hci]), ← part_step hi hci] at hou10
        have hleu : ∀ k, blkIs u k → w1.heap.size ≤ k := fun k hk => (Own.lt hou9 hk).1
        refine bin_inc (by omega) (hK' _ _ ⟨i + 1, u', t', rfl, by omega, Chg.ext (G9.then C10) fun j hj hb => by have := hleu j hb; omega, Chg.ext (e9.then C10) fun j hj hb => by have := hleu j hb; omega, by have := C9.size; have := C10.size; omega, keepAll hub C10 hall9, ?_, ?_, ?_, laterB (by have := C9.size; omega) hub L10, laterB z8' htb L9⟩ (by simp [upTo, nthV, iOf]; omega))
        · exact fun _ => ⟨ab, aoff, acur, rfl, habt, C10.at hab9 fun hk => hub _ hk habt, hasz, hacell⟩
        · rw [rank_yes hci]
          have : ((subP p c id).take (rank c i + 1)).length = rank c i + 1 := by rw [List.length_take, subP_len, Nat.min_eq_left (rank_lt hci hi)]
          rw [this] at hou10
          exact hou10
        · rw [cutTo_snoc, cutTo_yes (by omega) hci]
          exact Own.keep hot9 C10 fun k hk hb => by
            obtain ⟨_, h1⟩ := own_tagN hot9 hk
            obtain ⟨_, h2⟩ := own_tagN hou9 hb
            rw [h1] at h2; cases h2
  · have hi : i = p.length := by omega
    subst hi
    have hfull : (subP p c id).take (rank c p.length) = subP p c id := List.take_of_length_le (by rw [subP_len]; exact Nat.le_refl _)
    rw [hfull] at hou
    exact hR _ _ ⟨_, _, rfl, E5, moved_plan hok.len hou hall hin (fun b hb => by have := hb.1; unfold Since; omega) (fun b hb => by have := (Own.lt hou hb).1; unfold Since; omega), (Own.fints hot).mono fun b _ hb => by unfold Since; omega⟩
end Go.Proofs.Ytmbfkhacejnnhaa
