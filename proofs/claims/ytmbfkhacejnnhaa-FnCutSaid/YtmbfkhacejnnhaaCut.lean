/- Plans that are cut: the program's way. -/
import Derived.Test.YtmbfkhacejnnhaaKeep
import Derived.Test.YtmbfkhacejnnhaaCopy
import Derived.Test.YtmbfkhacejnnhaaPart
import Derived.Test.YtmbfkhacejnnhaaCX
namespace Go.Proofs.Ytmbfkhacejnnhaa
open Go Go.V

open Classical in
/-- The number that each of the first k nodes has in a part, or -1. -/
noncomputable def cutTo (c : Nat → Prop) (k : Nat) : List Int := (List.range k).map fun i => if c i then (rank c i : Int) else -1
theorem cutTo_len (c : Nat → Prop) (k : Nat) : (cutTo c k).length = k := by simp [cutTo]
theorem cutTo_yes {c : Nat → Prop} {k i : Nat} (hi : i < k) (h : c i) : (cutTo c k).getD i 0 = (rank c i : Int) := by simp [cutTo, hi, h]
theorem cutTo_no {c : Nat → Prop} {k i : Nat} (hi : i < k) (h : ¬ c i) : (cutTo c k).getD i 0 = -1 := by simp [cutTo, hi, h]
noncomputable def cutP (p : List Nd) (l : List Int) : List Nd := if KeepOk p l then subP p (Rch p l) id else []
noncomputable def cutT (p : List Nd) (l : List Int) : List Int := if KeepOk p l then cutTo (Rch p l) p.length else []
theorem cutT_len (p : List Nd) (l : List Int) : (cutT p l).length ≤ p.length := by
  unfold cutT; split
  · rw [cutTo_len]; exact Nat.le_refl _
  · simp
theorem cutP_len (p : List Nd) (l : List Int) : (cutP p l).length ≤ p.length := by
  unfold cutP; split
  · rw [subP_len]; exact rank_le _
  · simp

open Classical in
/-- The numbers while the first m kept nodes have theirs. -/
noncomputable def numL (c : Nat → Prop) (n m : Nat) : List Int := (List.range n).map fun j => if c j ∧ rank c j < m then (rank c j : Int) else -1
theorem numL_len (c : Nat → Prop) (n m : Nat) : (numL c n m).length = n := by simp [numL]
theorem numL_all {c : Nat → Prop} {n m : Nat} (h : rank c n ≤ m) : numL c n m = cutTo c n := by
  unfold numL cutTo
  refine List.map_congr_left fun j hj => ?_
  have hj : j < n := by simpa using hj
  by_cases hc : c j
  · rw [if_pos ⟨hc, Nat.lt_of_lt_of_le (rank_lt hc hj) h⟩, if_pos hc]
  · rw [if_neg fun h => hc h.1, if_neg hc]
theorem numL_zero (c : Nat → Prop) (n : Nat) : numL c n 0 = List.replicate n (-1) := by
  refine List.ext_getElem (by simp [numL]) fun i h1 h2 => ?_
  simp [numL]
open Classical in
theorem numL_at {c : Nat → Prop} {n m j : Nat} (h : j < (numL c n m).length) : (numL c n m)[j] = if c j ∧ rank c j < m then (rank c j : Int) else -1 := by
  have hj : j < n := by rw [numL_len] at h; exact h
  have e : (numL c n m)[j]? = some (if c j ∧ rank c j < m then (rank c j : Int) else -1) := by
    unfold numL; rw [List.getElem?_map, List.getElem?_range hj]; rfl
  rw [List.getElem?_eq_getElem h] at e
  exact Option.some.inj e
theorem numL_set {c : Nat → Prop} {n i : Nat} (hc : c i) : (numL c n (rank c i)).set i (rank c i : Int) = numL c n (rank c i + 1) := by
  refine List.ext_getElem (by simp [numL]) fun j h1 h2 => ?_
  rw [List.getElem_set]
  by_cases e : i = j
  · subst e; rw [if_pos rfl, numL_at, if_pos ⟨hc, by omega⟩]
  · rw [if_neg e, numL_at, numL_at]
    by_cases hcj : c j
    · by_cases hr : rank c j < rank c i
      · rw [if_pos ⟨hcj, hr⟩, if_pos ⟨hcj, by omega⟩]
      · rw [if_neg fun h => hr h.2, if_neg fun h => e (rank_inj hc hcj (by have := h.2; omega))]
    · rw [if_neg fun h => hcj h.1, if_neg fun h => hcj h.1]
theorem numL_get {c : Nat → Prop} {n m j : Nat} (hj : j < n) (hc : c j) (hr : rank c j < m) : (numL c n m)[j]'(by rw [numL_len]; exact hj) = (rank c j : Int) := by simp [numL, hc, hr]

theorem implPlanCut_ok {w : World} {v lv : Value} {p : List Nd} {l : List Int} (hp : PlanV w v p) (hl : Ints w lv l) (hll : l.length ≤ 1099511627776) :
    Calls Try.prog N.impl_PlanCut #[v, lv] w (Ret fun r w' => ∃ u n k, r = .tuple #[u, n, .bool (decide (KeepOk p l))] ∧ Ext w w' ∧ FPlan w' (fun b => w.heap.size ≤ b ∧ b ≠ k) u (cutP p l) ∧ FInts w' (fun b => w.heap.size ≤ b ∧ b = k) n (cutT p l)) := by
  refine ret_k fun R hR => c_impl_PlanCut _ _ _ _ ?_
  have hlen : ∀ K, LenV v K = K (.int .i64 p.length) := fun K => hp.len
  refine callV_of (implCutKeep_ok hp hl hll) rfl ?_
  rintro _ w1 ⟨kv, rfl, E1, fk⟩
  simp only [hlen, go_sem]
  refine ⟨fun hno => hR _ _ ⟨_, _, 0, by rw [decide_eq_false hno], E1, by unfold cutP; rw [if_neg hno]; exact FPlan.nil, by unfold cutT; rw [if_neg hno]; exact FInts.nil⟩, fun hK => ?_⟩
  have hok := hK.1
  have h10 := hok.len
  have hkl : keepO p l = sel p.length (Rch p l) := by unfold keepO; rw [if_pos hK]; rfl
  rw [hkl] at fk
  have hcP : cutP p l = subP p (Rch p l) id := by unfold cutP; rw [if_pos hK]
  have hcT : cutT p l = cutTo (Rch p l) p.length := by unfold cutT; rw [if_pos hK]
  rw [hcP, hcT, decide_eq_true hK] at hR
  have hclosed : ∀ i, Rch p l i → ∀ f ∈ fr p i, Rch p l f.toNat := fun i hi f hf => by
    have := hok.fr_lt hf
    exact .need hi (by rw [show ((f.toNat : Nat) : Int) = f by omega]; exact hf)
  generalize Rch p l = c at hR fk hclosed
  have hki := fk.ints
  have hklen : (sel p.length c).length ≤ p.length := sel_len
  have hklen' : ∀ K, LenV kv K = K (.int .i64 (sel p.length c).length) := fun K => ints_len hki
  refine ⟨by omega, by omega, by omega, by omega, fun w2 hn2 => ?_⟩
  simp only [Int.toNat_natCast] at hn2
  simp only [Int.toNat_natCast, go_sem]
  have z2 := hn2.size
  have z1 := E1.size
  -- all numbers are -1 at first
  refine loopV (fun s w' => ∃ k : Nat, s = [.int .i64 k] ∧ k ≤ p.length ∧ Chg (· = w1.heap.size) w2 w' ∧ w'.heap.size = w2.heap.size ∧ ∃ cur, w'.heap[w1.heap.size]? = some (.cells cur T.int (0, 0)) ∧ cur.size = p.length ∧ ∀ i, i < k → cur[i]? = some (.int .i64 (-1))) (upTo p.length 0)
    ⟨0, rfl, by omega, Chg.refl _ _, rfl, _, hn2.here, by simp [rowOf], fun i hi => by omega⟩ ?_
  rintro s z w3 K ⟨k, rfl, hk, C3, z3, cur, hb3, hcs, hall⟩ hK'
  simp only [go_sem]
  refine ⟨fun h => ?_, fun h => ?_⟩
  · refine ⟨by omega, by omega, ?_⟩
    simp only [addr_add, Int.toNat_natCast, Nat.mul_one, Nat.zero_add]
    refine store_at hb3 rfl rfl (by omega) fun w4 hp4 => ?_
    refine bin_inc (by omega) (hK' _ _ ⟨k + 1, rfl, by omega, C3.andThen hp4.chg, by have := hp4.size; omega, _, hp4.here, by simp [hcs], fun i hi => ?_⟩ (by simp [upTo, nthV, iOf]; omega))
    by_cases e : i = k
    · subst e; rw [Array.getElem?_setIfInBounds_self_of_lt (by omega)]
    · rw [Array.getElem?_setIfInBounds_ne (by omega)]; exact hall i (by omega)
  · have hk : k = p.length := by omega
    subst hk
    have hnum3 : FInts w3 (· = w1.heap.size) (.slice (some ⟨w1.heap.size, 0, none⟩) p.length p.length) (numL c p.length 0) := by
      rw [numL_zero]
      refine ⟨some ⟨w1.heap.size, 0, none⟩, p.length, by rw [List.length_replicate], by rw [List.length_replicate]; exact Nat.le_refl _, fun _ => ⟨_, 0, cur, rfl, rfl, hb3, by simp; omega, fun i x hi => ?_⟩⟩
      obtain ⟨hlt, rfl⟩ := List.getElem?_eq_some_iff.1 hi
      simp at hlt
      rw [Nat.zero_add, hall i hlt]; simp
    have G3 : Ext w1 w3 := Chg.ext (hn2.ext.then C3) fun j hj e => by omega
    clear hb3 hall hcs
    simp only [hklen', go_sem]
    refine ⟨by omega, by omega, by omega, by omega, fun w4 hn4 => ?_⟩
    simp only [Int.toNat_natCast] at hn4
    simp only [Int.toNat_natCast, go_sem]
    have z4 := hn4.size
    have ho4 := Own.cap03 (lo := w2.heap.size) hn4 (by omega) (by omega)
    refine loopV (fun s w' => ∃ (m : Nat) (u : Value), s = [u, .int .i64 m] ∧ m ≤ (sel p.length c).length ∧ Ext w1 w' ∧ w2.heap.size ≤ w'.heap.size ∧ FInts w' (· = w1.heap.size) (.slice (some ⟨w1.heap.size, 0, none⟩) p.length p.length) (numL c p.length m) ∧ Grow w' w2.heap.size w2.heap.size u ((subP p c id).take m)) (upTo (sel p.length c).length 1)
      ⟨0, _, rfl, by omega, G3.trans hn4.ext, by omega, hnum3.ext hn4.ext, ⟨fun _ => 0, fun _ => .slice none 0 0, fun _ => .slice none 0 0, by simpa [flat, flatN] using ho4, by simpa using Inner.nil⟩⟩ ?_
    rintro s z w5 K' ⟨m, u, rfl, hm, E5, z5, hnum5, hg5⟩ hK'
    simp only [go_sem]
    refine ⟨fun h => ?_, fun h => ?_⟩
    · have hm : m < (sel p.length c).length := by omega
      obtain ⟨i, hi, hci, hrk, hsi⟩ := sel_at hm
      subst hrk
      refine Ints.loadI (hki.ext E5) hm ?_
      rw [hsi]
      refine hnum5.store (by rw [numL_len]; exact hi) fun w6 C6 z6 hnum6 => ?_
      rw [numL_set hci] at hnum6
      have E6 : Ext w1 w6 := Chg.ext (E5.then C6) fun j hj e => by omega
      have e6 := E1.trans E6
      refine (hp.ext e6).load hi fun x hx => ?_
      have hsm := hp.sml hi
      have hsm1 : p[i].frm.length ≤ 1048576 := hsm.1
      refine callV_of (copyNode_ok hx) rfl ?_
      rintro _ w7 ⟨E7, fv, rv, b1, b2, rfl, f7, r7, hb1, hb2, hb12⟩
      have z7 := E7.size
      refine box_set f7.ints r7.ints fun w8 E8 hbox z8 => ?_
      have f8 := f7.ext E8
      have r8 := r7.ext E8
      have hfl : ∀ K, LenV fv K = K (.int .i64 p[i].frm.length) := fun K => ints_len f7.ints
      simp only [go_sem]
      refine load2 (v := fv) hbox rfl ?_
      simp only [hfl, go_sem]
      have b1lt := fun hne => (f7.lt hne).1
      have hfr : fr p i = p[i].frm := by rw [fr_get hi]
      refine loopV (fun s w' => ∃ q : Nat, s = [.int .i64 q] ∧ q ≤ p[i].frm.length ∧ Chg (fun b => b = b1 ∧ p[i].frm ≠ []) w8 w' ∧ w'.heap.size = w8.heap.size ∧ FInts w' (· = b1) fv (mapTo (fun f => (rank c f.toNat : Int)) q p[i].frm)) (upTo p[i].frm.length 0)
        ⟨0, rfl, by omega, Chg.refl _ _, rfl, by rw [mapTo_zero]; exact f8⟩ ?_
      rintro s z w9 K'' ⟨q, rfl, hq, C9, z9, f9⟩ hK''
      have hbox9 : w9.heap[w7.heap.size]? = some (.cells #[.int .i64 p[i].kind, fv, rv] T.impl_Node (0, 0)) := C9.at hbox fun e => by have := b1lt e.2; omega
      have hnum9 : FInts w9 (· = w1.heap.size) (.slice (some ⟨w1.heap.size, 0, none⟩) p.length p.length) (numL c p.length (rank c i + 1)) := ((hnum6.ext E7).ext E8).keep C9 fun k hk e => by have := hb1 e.2; omega
      simp only [go_sem]
      refine ⟨fun h => ?_, fun h => ?_⟩
      · have hq : q < p[i].frm.length := by omega
        have hne : p[i].frm ≠ [] := List.ne_nil_of_length_pos (by omega)
        refine f9.load (by rw [mapTo_len]; exact hq) ?_
        rw [mapTo_get hq]
        have hmem : p[i].frm[q] ∈ fr p i := by rw [hfr]; exact List.getElem_mem hq
        have hflt := hok.fr_lt hmem
        have hcf := hclosed i hci _ hmem
        obtain ⟨g, hge⟩ : ∃ g : Nat, p[i].frm[q] = (g : Int) := ⟨(p[i].frm[q]).toNat, by omega⟩
        have hset := mapTo_set (g := fun f => (rank c f.toNat : Int)) hq
        rw [hge] at hset hcf hflt ⊢
        simp only [Int.toNat_natCast] at hset hcf
        have hrg := rank_lt (c := c) hcf (show g < i by omega)
        refine draw_none fun w10 hs10 => ?_
        have hnum10 := hnum9.ext hs10.ext
        refine loadS2 (v := fv) (hs10.ext.at hbox9) id rfl ?_
        refine Ints.loadS hnum10.ints (q := g) (by rw [numL_len]; omega) (fun _ => id) ?_
        rw [numL_get (by omega) hcf (by omega)]
        refine (f9.ext hs10.ext).store (by rw [mapTo_len]; exact hq) fun w11 C11 z11 f11 => ?_
        rw [hset] at f11
        refine bin_inc (by omega) (hK'' _ _ ⟨q + 1, rfl, by omega, (C9.then hs10.ext).andThen (C11.mono fun k _ e => ⟨e, hne⟩), ?_, f11⟩ (by simp [upTo, nthV, iOf]; omega))
        rw [z11, hs10.heap]; exact z9
      · have hq : q = p[i].frm.length := by omega
        subst hq
        rw [mapTo_all] at f9
        refine load_box hbox9 ?_
        have r9 : FInts w9 (· = b2) rv p[i].row := r8.keep1 C9 fun hne e => hb12 e.2 hne e.1.symm
        have E9 : Ext w6 w9 := Chg.ext ((E7.trans E8).then C9) fun j hj e => by have := hb1 e.2; omega
        have hg6 : Grow w6 w2.heap.size w2.heap.size u ((subP p c id).take (rank c i)) := hg5.keep C6 (fun k _ hk e => by omega) fun k hk e => by have := (hg5.blk hk).1; omega
        have hren : ren p c id i = ⟨p[i].kind, p[i].frm.map fun f => (rank c f.toNat : Int), p[i].row⟩ := by unfold ren; rw [nd_get hi]; rfl
        have hmn : ∀ {xs : List Int} {g : Int → Int}, xs.map g ≠ [] → xs ≠ [] := fun h e => h (by rw [e]; rfl)
        refine hg6.push (x := ren p c id i) E9 (k := p[i].kind) (by rw [hren]) (by rw [hren]; exact f9) (by rw [hren]; exact r9) (by rw [hren]; exact fun h => by have := hb1 (hmn h); omega) (by rw [hren]; exact fun h => by have := hb2 h; omega)
          (by rw [hren]; exact fun h1 h2 => hb12 (hmn h1) h2) (by omega) (by omega) (by rw [hren]; exact ⟨by simpa using hsm.1, hsm.2⟩) (by rw [List.length_take]; omega) fun u' w12 hg12 C12 => ?_
        have hub : ∀ k, blkIs u k → w2.heap.size ≤ k := fun k hk => (hg5.blk hk).1
        refine bin_inc (by omega) (hK' _ _ ⟨rank c i + 1, u', rfl, by omega, ?_, ?_, ?_, ?_⟩ (by simp [upTo, nthV, iOf]; omega))
        · exact Chg.ext ((E6.trans E9).then C12) fun j hj hb => by have := hub j hb; omega
        · have := C12.size; have := E9.size; omega
        · exact hnum9.keep C12 fun k hk hb => by have := hub k hb; omega
        · rw [part_step hi hci]; exact hg12
    · have hm : m = (sel p.length c).length := by omega
      subst hm
      have hall : (subP p c id).take (sel p.length c).length = subP p c id := List.take_of_length_le (by rw [subP_len]; exact Nat.le_refl _)
      rw [hall] at hg5
      rw [numL_all (show rank c p.length ≤ (sel p.length c).length from Nat.le_refl _)] at hnum5
      refine hR _ _ ⟨_, _, w1.heap.size, rfl, E1.trans E5, (hg5.fplan (by rw [subP_len]; have := @rank_le c p.length; omega) (Nat.le_refl _)).mono fun b _ hb => by omega, hnum5.mono fun b _ hb => by omega⟩
end Go.Proofs.Ytmbfkhacejnnhaa
