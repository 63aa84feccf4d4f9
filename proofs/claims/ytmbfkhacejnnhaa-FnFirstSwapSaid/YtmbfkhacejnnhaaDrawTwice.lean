/- Drawn plans in which some nodes are told twice. -/
import Derived.Test.YtmbfkhacejnnhaaDrawPlan
import Derived.Test.YtmbfkhacejnnhaaPart
import Derived.Test.YtmbfkhacejnnhaaCopy
import Derived.Test.YtmbfkhacejnnhaaCS
namespace Go.Proofs.Ytmbfkhacejnnhaa
open Go Go.V

/-- A plan in memory of its own, of which one list has a block alone. -/
structure Fresh (w : World) (lo : Nat) (v : Value) (p : List Nd) (i b1 : Nat) : Prop where
  out : ∃ fv rv, Own w lo T.impl_Node 3 v p.length (flat p fv rv) ∧ p.length ≤ 1048576 ∧ i < p.length ∧ lo ≤ b1 ∧ FInts w (· = b1) (fv i) (nd p i).frm ∧ (∀ j, j < p.length → j ≠ i → FInts w (fun b => lo ≤ b ∧ b ≠ b1) (fv j) (nd p j).frm) ∧
    (∀ j, j < p.length → FInts w (fun b => lo ≤ b ∧ b ≠ b1) (rv j) (nd p j).row ∧ Sml (nd p j))
theorem Fresh.dplan {w : World} {lo : Nat} {v : Value} {p : List Nd} {i b1 : Nat} (h : Fresh w lo v p i b1) : DPlan w lo v p := by
  obtain ⟨fv, rv, ho, hl, hi, hb, hf, hfs, hrs⟩ := h.out
  refine ⟨fv, rv, ho, hl, fun j hj => ⟨?_, (hrs j hj).1.mono fun _ _ h => h.1, (hrs j hj).2⟩⟩
  by_cases e : j = i
  · subst e; exact hf.mono fun b _ h => by omega
  · exact (hfs j hj e).mono fun _ _ h => h.1
theorem Fresh.keep {w w' : World} {lo : Nat} {v : Value} {p : List Nd} {i b1 : Nat} (h : Fresh w lo v p i b1) {S : Nat → Prop} (hc : Chg S w w') (hs : ∀ k, lo ≤ k → ¬ S k) : Fresh w' lo v p i b1 := by
  obtain ⟨fv, rv, ho, hl, hi, hb, hf, hfs, hrs⟩ := h.out
  exact ⟨fv, rv, Own.keep ho hc fun k hk => hs k (Own.lt ho hk).1, hl, hi, hb, hf.keep hc fun k hk => hs k (by omega), fun j hj e => (hfs j hj e).keep hc fun k hk => hs k hk.1, fun j hj => ⟨(hrs j hj).1.keep hc fun k hk => hs k hk.1, (hrs j hj).2⟩⟩
/-- What node i needs, and how it is written. -/
theorem Fresh.frm {w : World} {lo : Nat} {v : Value} {p : List Nd} {i b1 : Nat} (h : Fresh w lo v p i b1) (he : (nd p i).frm ≠ []) {S : Nat → Prop} (hS : ∀ b, ¬ S b) {K : Value → Prop}
    (hK : ∀ f, FInts w (· = b1) f (nd p i).frm → (∀ w' xs, Chg (· = b1) w w' → FInts w' (· = b1) f xs → xs.length = (nd p i).frm.length → Fresh w' lo v (p.set i ⟨(nd p i).kind, xs, (nd p i).row⟩) i b1) → K f) :
    IdxV 3 v (.int .i64 i) fun a => FAddrV 1 a fun b => LoadS S false 1 b w K := by
  obtain ⟨fv, rv, ho, hl, hi, hb, hf, hfs, hrs⟩ := h.out
  obtain ⟨a, c, rfl, hc, hr⟩ := Own.nodes ho rfl
  obtain ⟨b, cur', ha, hlo, hbb, hsz, hcell⟩ := hr (List.ne_nil_of_length_pos (by omega))
  subst ha
  obtain ⟨c1, c2, c3⟩ := hcell i hi
  refine ⟨by omega, by omega, ?_⟩
  simp only [addr_add, Int.toNat_natCast, Nat.mul_comm i 3]
  refine loadS2 (v := fv i) hbb (hS b) c2 ?_
  refine hK _ hf fun w' xs hC hx hxl => ?_
  have hn : ∀ j, nd (p.set i ⟨(nd p i).kind, xs, (nd p i).row⟩) j = if j = i then ⟨(nd p i).kind, xs, (nd p i).row⟩ else nd p j := fun j => nd_set hi
  have hfl : flat (p.set i ⟨(nd p i).kind, xs, (nd p i).row⟩) fv rv = flat p fv rv := by
    unfold flat
    rw [List.length_set]
    refine flatN_congr fun j hj => ⟨?_, rfl, rfl⟩
    rw [hn]; split
    · rename_i e; rw [e]
    · rfl
  have hbk : b ≠ b1 := fun e => by
    obtain ⟨_, cur2, h2⟩ := hf.lt he
    rw [← e, hbb] at h2; cases h2
  have ho' := Own.keep ho hC fun k hk e => by
    have hk : some b = some k := hk
    cases hk
    exact hbk e
  refine ⟨fv, rv, by rw [List.length_set, hfl]; exact ho', by rw [List.length_set]; exact hl, by rw [List.length_set]; exact hi, hb, by rw [hn, if_pos rfl]; exact hx, fun j hj e => ?_, fun j hj => ?_⟩
  · rw [List.length_set] at hj
    rw [hn, if_neg e]
    exact (hfs j hj e).keep hC fun k hk => hk.2
  · rw [List.length_set] at hj
    rw [hn]
    split
    · rename_i e; subst e
      exact ⟨(hrs j hj).1.keep hC fun k hk => hk.2, by unfold Sml; exact ⟨by rw [hxl]; exact (hrs j hj).2.1, (hrs j hj).2.2⟩⟩
    · exact ⟨(hrs j hj).1.keep hC fun k hk => hk.2, (hrs j hj).2⟩

/-- A node of such a plan is replaced by one whose lists are new. -/
theorem DPlan.setFresh {w w' : World} {lo : Nat} {v : Value} {p : List Nd} (h : DPlan w lo v p) (hE : Ext w w') {i : Nat} (hi : i < p.length) {x : Nd} {f r : Value} {k : Int} {b1 b2 : Nat} (hk : k = x.kind) (hf : FInts w' (· = b1) f x.frm) (hr : FInts w' (· = b2) r x.row)
    (h1 : w.heap.size ≤ b1) (h2 : w.heap.size ≤ b2) (h12 : b1 ≠ b2) (hlo : lo ≤ w.heap.size) (hs : Sml x) {K : World → Prop} (hK : ∀ w'', Chg (blkIs v) w' w'' → w''.heap.size = w'.heap.size → Fresh w'' lo v (p.set i x) i b1 → K w'') :
    IdxV 3 v (.int .i64 i) fun t => StoreV 3 t (.agg #[.int .i64 k, f, r]) w' K := by
  subst hk
  obtain ⟨fv, rv, ho, hl, hin⟩ := h.out
  have ho' := Own.ext ho hE
  have ho0 := ho'
  rcases ho'.2 with ⟨rfl, h0⟩ | ⟨g, cap, cur, rfl, hb, hg, hnc, hcm, hcs, htake⟩
  · omega
  · refine ⟨by omega, by omega, ?_⟩
    simp only [addr_add, Int.toNat_natCast, Nat.zero_add]
    refine store_node hg hf.cellsV hr.cellsV (by omega) fun w'' hp => ?_
    have hc : Chg (blkIs (.slice (some ⟨g, 0, none⟩) p.length cap)) w' w'' := hp.chg.mono fun j _ e => by have e : j = g := e; subst e; rfl
    refine hK w'' hc hp.size ⟨setF fv i f, setF rv i r, ⟨?_, .inr ⟨g, cap, _, by rw [List.length_set], hb, hp.here, by rw [List.length_set]; exact hnc, hcm, by simpa using hcs, ?_⟩⟩, by rw [List.length_set]; exact hl, by rw [List.length_set]; exact hi, by omega, ?_, fun j hj e => ?_, fun j hj => ?_⟩
    · unfold flat; rw [flatN_len]; omega
    · rw [List.length_set, Array.toList_setIfInBounds, Array.toList_setIfInBounds, Array.toList_setIfInBounds, List.take_set, List.take_set, List.take_set, htake]
      unfold flat
      rw [List.length_set, ← flatN_set hi hi]
      rw [show i * 3 = 3 * i by omega]
    · rw [setF_same, nd_set hi, if_pos rfl]; exact hf.beside ho0 hc
    · rw [List.length_set] at hj
      rw [setF_ne _ _ e, nd_set hi, if_neg e]
      exact (((hin j hj).1.mono (B' := fun b => lo ≤ b ∧ b ≠ b1) fun b hb h => ⟨h, by omega⟩).ext hE).beside ho0 hc
    · rw [List.length_set] at hj
      rw [nd_set hi]
      by_cases e : j = i
      · subst e
        rw [if_pos rfl, setF_same]
        exact ⟨(hr.beside ho0 hc).mono fun b _ h => by have h : b = b2 := h; omega, hs⟩
      · rw [if_neg e, setF_ne _ _ e]
        exact ⟨(((hin j hj).2.1.mono (B' := fun b => lo ≤ b ∧ b ≠ b1) fun b hb h => ⟨h, by omega⟩).ext hE).beside ho0 hc, (hin j hj).2.2⟩

theorem drawTwice {w : World} {v : Value} {bs : List Int} (hx : RowIn .u8 w v bs) {K : Value → World → Prop} (hK : ∀ t w' p lo, Drawn w t w' p lo → K t w') :
    CallV Try.prog N.spec_l6Open [v] w fun t w1 => CallV Try.prog N.spec_l92Twice [t] w1 K := by
  refine callV_of (l6Open_ok hx) rfl ?_
  rintro _ w1 ⟨rfl, E1, r1⟩
  have hlt := r1.lt
  refine callV_of (ret_k (Q := fun r w' => K r w') fun R hR => c_spec_l92Twice _ _ _ ?_) rfl fun _ _ h => h
  refine callV_of (l91Plan_ok r1 (by omega)) rfl ?_
  rintro t w2 ⟨⟨C2, q2, hq2, r2⟩, p, d2, hl, hs⟩
  have z2 := C2.size
  have z1 := E1.size
  have E2 : Ext w w2 := Chg.ext (E1.then C2) fun k hk e => by have e : k = w.heap.size := e; omega
  refine loopV (fun s w' => ∃ (i : Nat) (p' : List Nd) (q : Nat), s = [.int .i64 i] ∧ 1 ≤ i ∧ i ≤ p.length + 1 ∧ p'.length = p.length ∧ Ext w w' ∧ w2.heap.size ≤ w'.heap.size ∧ DPlan w' w1.heap.size t p' ∧ (∀ x ∈ p', x.frm.length ≤ 2 ∧ x.row.length ≤ 1000) ∧ q ≤ q2 + 3 * i ∧ Rdr w' w.heap.size q) (upTo p.length 0)
    ⟨1, p, q2, rfl, by omega, by omega, rfl, E2, Nat.le_refl _, d2, hs, by omega, r2⟩ ?_
  rintro s z w3 K' ⟨i, p', q, rfl, hi1, hi, hpl, E3, z3, d3, hs3, hq, r3⟩ hK'
  have hlen : ∀ {w' p''}, DPlan w' w1.heap.size t p'' → ∀ K, LenV t K = K (.int .i64 p''.length) := fun d K => d.plan.len
  rw [hlen d3]
  simp only [go_sem]
  refine ⟨fun h => ?_, fun _ => hR _ _ (hK t w3 p' w1.heap.size ⟨E3, d3, E1.size, by omega, hs3⟩)⟩
  have hi : i < p'.length := by omega
  have chgR : ∀ {w' w'' : World}, Ext w w' → Chg (· = w.heap.size) w' w'' → Ext w w'' := fun h1 h2 => Chg.ext (h1.then h2) fun k hk e => by have e : k = w.heap.size := e; omega
  have next : ∀ {w' : World} {p'' : List Nd} {q' : Nat}, p''.length = p.length → Ext w w' → w2.heap.size ≤ w'.heap.size → DPlan w' w1.heap.size t p'' → (∀ x ∈ p'', x.frm.length ≤ 2 ∧ x.row.length ≤ 1000) → q' ≤ q2 + 3 * i + 3 → Rdr w' w.heap.size q' → BinV .add (.int .i64 i) (.int .i64 1) fun t13 => K' [t13] w' := fun {w' p'' q'} h1 h2 h3 h4 h5 h6 h7 =>
    bin_inc (by omega) (hK' _ _ ⟨i + 1, p'', q', rfl, by omega, by omega, h1, h2, h3, h4, h5, by omega, h7⟩ (by simp [upTo, nthV, iOf]; omega))
  refine pick_use r3 (by omega) (by omega) fun m4 w4 hm4 C4 s4 r4 => ?_
  have E4 := chgR E3 C4
  have d4 := d3.keepR C4 hlt
  simp only [go_sem]
  refine ⟨fun _ => ?_, fun _ => next hpl E4 (by omega) d4 hs3 (by omega) r4⟩
  refine pick_use r4 (by omega) (by omega) fun a w5 ha C5 s5 r5 => ?_
  have E5 := chgR E4 C5
  have d5 := d4.keepR C5 hlt
  have ha : a < i := by omega
  have hap : a < p'.length := by omega
  refine ⟨fun b => w5.heap.size ≤ b, fun w6 hs6 => ?_⟩
  have d6 := d5.ext hs6.ext
  have E6 := E5.trans hs6.ext
  have s6 : w6.heap.size = w5.heap.size := by rw [hs6.heap]
  have nin : ∀ {b o : Nat} {x : Value}, w6.cell? ⟨b, o, none⟩ = some x → ¬ w5.heap.size ≤ b := fun h => by have := World.block_lt_of_cell? w6 _ h; simp at this; omega
  refine d6.plan.idx hap fun b o fv rv h0 h1 h2 hfv hrv hsml => ?_
  refine loadS_cell h0 (nin h0) ?_
  refine d6.plan.idx hap fun b o fv rv h0 h1 h2 hfv hrv hsml => ?_
  refine loadS_cell h1 (nin h1) ?_
  refine d6.plan.idx hap fun b o fv2 rv h0 h1 h2 _ hrv hsml => ?_
  refine loadS_cell h2 (nin h2) ?_
  have hm1 := hs3 _ (List.getElem_mem hap)
  refine two_copies (fun k hk => by omega) hfv hrv (by omega) (by omega) fun f' r' w7 b1 b2 E7 f7 r7 g1 g2 g12 => ?_
  refine build_node rfl f7.cellsV.1 r7.cellsV.1 ?_
  have z6 : w1.heap.size ≤ w6.heap.size := by omega
  refine d6.setFresh E7 hi (x := p'[a]) rfl f7 r7 g1 g2 g12 z6 hsml fun w8 C8 s8 hF8 => ?_
  have htb : ∀ k, blkIs t k → w1.heap.size ≤ k := fun k hk => (d6.blk hk).1
  have z7 := E7.size
  have E8 : Ext w w8 := Chg.ext ((E6.trans E7).then C8) fun k hk hb => by have := htb k hb; omega
  have r8 : Rdr w8 w.heap.size (q + 1 + 1) := (r5.ext (hs6.ext.trans E7)).keep C8 fun k hk hb => by have := htb k hb; omega
  have hmem8 : ∀ x ∈ p'.set i p'[a], x.frm.length ≤ 2 ∧ x.row.length ≤ 1000 := fun x hx => by
    rcases List.mem_or_eq_of_mem_set hx with h | h
    · exact hs3 x h
    · rw [h]; exact hm1
  have hli : i < (p'.set i p'[a]).length := by rw [List.length_set]; exact hi
  have hnd : nd (p'.set i p'[a]) i = p'[a] := by rw [nd_set hi, if_pos rfl]
  have hgi : (p'.set i p'[a])[i] = p'[a] := by simp
  refine hF8.dplan.plan.idx hli fun b o fv rv h0 h1 h2 hfv hrv _ => ?_
  simp only [go_sem]
  refine load_cell h1 ?_
  rw [ints_len hfv, hgi]
  simp only [go_sem]
  refine ⟨fun h2l => ?_, fun _ => next (by rw [List.length_set]; exact hpl) E8 (by omega) hF8.dplan hmem8 (by omega) r8⟩
  have h2l : p'[a].frm.length = 2 := by omega
  refine pick_use r8 (by omega) (by omega) fun m9 w9 hm9 C9 s9 r9 => ?_
  have E9 := chgR E8 C9
  have hF9 := hF8.keep C9 fun k hk e => by omega
  simp only [go_sem]
  refine ⟨fun _ => ?_, fun _ => next (by rw [List.length_set]; exact hpl) E9 (by omega) hF9.dplan hmem8 (by omega) r9⟩
  have hla : a < (p'.set i p'[a]).length := by rw [List.length_set]; exact hap
  have hga : (p'.set i p'[a])[a] = p'[a] := by rw [List.getElem_set_ne (by omega)]
  -- the first of the two
  refine draw_none fun w10 hs10 => ?_
  have hF10 := hF9.keep (S := fun _ => False) hs10.ext fun _ _ => id
  have E10 := E9.trans hs10.ext
  have r10 := r9.ext hs10.ext
  refine hF10.frm (by rw [hnd]; intro e; rw [e] at h2l; cases h2l) (fun _ => id) fun f hf hst => ?_
  rw [hnd] at hf hst
  refine hF10.dplan.plan.idx hla fun b o fa ra h0 h1 h2 hfa hra _ => ?_
  rw [hga] at hfa
  refine loadS_cell h1 id ?_
  refine Ints.loadS hfa (q := 1) (by omega) (fun _ => id) ?_
  refine hf.store (q := 0) (by omega) fun w11 C11 s11 f11 => ?_
  have hF11 := hst w11 _ C11 f11 (by rw [List.length_set])
  have hb1 : w6.heap.size ≤ b1 := g1
  have E11 : Ext w w11 := Chg.ext (E10.then C11) fun k hk e => by have e : k = b1 := e; omega
  have r11 := r10.keep C11 fun k hk e => by have e : k = b1 := e; omega
  generalize hp11 : (p'.set i p'[a]).set i ⟨p'[a].kind, p'[a].frm.set 0 (p'[a].frm[1]'(by omega)), p'[a].row⟩ = p11 at hF11
  have hl11 : p11.length = p.length := by rw [← hp11, List.length_set, List.length_set]; exact hpl
  have hnd11 : nd p11 i = ⟨p'[a].kind, p'[a].frm.set 0 (p'[a].frm[1]'(by omega)), p'[a].row⟩ := by rw [← hp11, nd_set hli, if_pos rfl]
  have hnda11 : nd p11 a = p'[a] := by rw [← hp11, nd_set hli, if_neg (by omega), nd_set hi, if_neg (by omega), nd_get hap]
  have hmem11 : ∀ x ∈ p11, x.frm.length ≤ 2 ∧ x.row.length ≤ 1000 := fun x hx => by
    rw [← hp11] at hx
    rcases List.mem_or_eq_of_mem_set hx with h | h
    · exact hmem8 x h
    · rw [h]; simp only [List.length_set]; exact hm1
  -- the second
  refine draw_none fun w12 hs12 => ?_
  have hF12 := hF11.keep (S := fun _ => False) hs12.ext fun _ _ => id
  have E12 := E11.trans hs12.ext
  have r12 := r11.ext hs12.ext
  have hla11 : a < p11.length := by omega
  refine hF12.frm (by rw [hnd11]; intro e; have := congrArg List.length e; simp [h2l] at this) (fun _ => id) fun f hf hst => ?_
  rw [hnd11] at hf hst
  refine hF12.dplan.plan.idx hla11 fun b o fa ra h0 h1 h2 hfa hra _ => ?_
  have : p11[a] = p'[a] := by rw [← nd_get hla11, hnda11]
  rw [this] at hfa
  refine loadS_cell h1 id ?_
  refine Ints.loadS hfa (q := 0) (by omega) (fun _ => id) ?_
  refine hf.store (q := 1) (by rw [List.length_set]; omega) fun w13 C13 s13 f13 => ?_
  have hF13 := hst w13 _ C13 f13 (by rw [List.length_set])
  have E13 : Ext w w13 := Chg.ext (E12.then C13) fun k hk e => by have e : k = b1 := e; omega
  have r13 := r12.keep C13 fun k hk e => by have e : k = b1 := e; omega
  have z12 := hs12.ext.size
  have z10 := hs10.ext.size
  refine next (by rw [List.length_set]; exact hl11) E13 (by omega) hF13.dplan (fun x hx => ?_) (by omega) r13
  rcases List.mem_or_eq_of_mem_set hx with h | h
  · exact hmem11 x h
  · rw [h]; simp only [List.length_set]; exact hm1
end Go.Proofs.Ytmbfkhacejnnhaa
