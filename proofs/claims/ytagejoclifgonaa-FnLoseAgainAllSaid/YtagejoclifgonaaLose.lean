/- Rows that are lost. -/
import Derived.Test.YtagejoclifgonaaReady0
import Derived.Test.YtagejoclifgonaaSetOf
import Derived.Test.YtagejoclifgonaaKeep
import Derived.Test.YtagejoclifgonaaCL
namespace Go.Proofs.Ytagejoclifgonaa
open Go Go.V

def LoseOk (p : List Nd) (d : List Int) : Prop := PlanOk p ∧ OrdOk p d
noncomputable instance (p : List Nd) (d : List Int) : Decidable (LoseOk p d) := Classical.propDecidable _
noncomputable def loseO (p : List Nd) (d l : List Int) : List Int := if LoseOk p d then againL p d l else []
noncomputable def staysO (p : List Nd) (d l : List Int) : List Int := if LoseOk p d then stays p d l else []
theorem loseO_len (p : List Nd) (d l : List Int) : (loseO p d l).length ≤ p.length := by
  unfold loseO; split
  · exact sel_len
  · simp
theorem staysO_len (p : List Nd) (d l : List Int) : (staysO p d l).length ≤ d.length := by
  unfold staysO; split
  · unfold stays; exact List.length_filter_le _ _
  · simp

theorem l13Order_ok {w : World} {v lv : Value} {p : List Nd} {l : List Int} (hp : PlanV w v p) (hl : Ints w lv l) (hll : l.length ≤ 1099511627776) :
    Calls Try.prog N.spec_l13Order #[v, lv] w (Ret fun r w' => Ext w w' ∧ r = .bool (decide (OrdOk p l))) := by
  refine ret_k fun R hR => c_spec_l13Order _ _ _ _ ?_
  have hlen : ∀ K, LenV v K = K (.int .i64 p.length) := fun K => hp.len
  have hsm := hp.small
  obtain ⟨la, lc, rfl, hlc, hlcell⟩ := hl.out
  simp only [hlen, go_sem]
  have no : ∀ w', Ext w w' → ¬ OrdOk p l → R (.bool false) w' := fun w' hE hn => hR _ _ ⟨hE, by rw [decide_eq_false hn]⟩
  refine loopV (fun s w' => ∃ k : Nat, s = [.int .i64 k] ∧ k ≤ l.length ∧ Ext w w' ∧ ∀ i (_ : i < k) (h : i < l.length), (0 ≤ l[i] ∧ l[i] < p.length) ∧ l[i] ∉ l.take i ∧ ∀ f ∈ fr p l[i].toNat, f ∈ l.take i) (upTo l.length 0) ⟨0, rfl, by omega, Ext.refl _, fun i hi => by omega⟩ ?_
  rintro s z w1 K ⟨k, rfl, hk, E1, hin⟩ hK
  simp only [go_sem]
  refine ⟨fun h => ?_, fun h => ?_⟩
  · have hk : k < l.length := by omega
    refine draw_none fun w2 hs2 => ?_
    have e2 := E1.trans hs2.ext
    refine idxLoadS (hlcell.ext e2) rfl hk (fun _ _ _ => id) ?_
    refine bin_sub ⟨by omega, by omega⟩ ?_
    refine callV_of (l6In_ok _ _ _) rfl ?_
    rintro _ w3 ⟨E3, rfl⟩
    refine ⟨E3, ?_⟩
    have e3 := e2.trans E3
    simp only [go_sem]
    refine ⟨fun h => no _ e3 fun hd => h (by have := (hd k hk).1; omega), fun hnode => ?_⟩
    refine sliceHi (k := k) (by omega) ?_
    refine idxLoadS (hlcell.ext e3) rfl hk (fun _ _ _ => id) ?_
    refine callV_of (l3Has_ok (xs := l.take k) (by simpa [ints] using Cells.take (hlcell.ext e3) k) (by rw [List.length_take]; omega) (by omega) _) rfl ?_
    rintro _ w4 ⟨E4, rfl⟩
    refine ⟨E4, ?_⟩
    have e4 := e3.trans E4
    simp only [go_sem]
    refine ⟨fun h => no _ e4 fun hd => (hd k hk).2.1 h, fun hnew => ?_⟩
    refine sliceHi (k := k) (by omega) ?_
    refine idxLoadS (hlcell.ext e4) rfl hk (fun _ _ _ => id) ?_
    obtain ⟨i, hi⟩ : ∃ i : Nat, l[k] = (i : Int) := ⟨l[k].toNat, by omega⟩
    have hip : i < p.length := by omega
    rw [hi]
    refine (hp.ext e4).idx hip fun b o fv rv h0 h1 h2 hf hr hs => ?_
    simp only [go_sem]
    refine loadS_cell h1 id ?_
    have htk : Ints w4 (.slice la k lc) (l.take k) := by
      have hl' : (l.take k).length = k := by rw [List.length_take]; omega
      refine ⟨la, lc, by rw [hl'], by rw [hl']; omega, ?_⟩
      simpa [ints] using Cells.take (hlcell.ext e4) k
    refine callV_of (l5All_ok htk hf (by rw [List.length_take]; omega) (by have := hs.1; omega)) rfl ?_
    rintro _ w5 ⟨E5, rfl⟩
    refine ⟨E5, ?_⟩
    have e5 := e4.trans E5
    simp only [go_sem]
    refine ⟨fun h => no _ e5 fun hd => h ?_, fun hall => ?_⟩
    · have := (hd k hk).2.2
      rw [hi, Int.toNat_natCast, fr_get hip] at this
      exact this
    · refine bin_inc (by omega) (hK _ _ ⟨k + 1, rfl, by omega, e5, fun j hj hjl => ?_⟩ (by simp [upTo, nthV, iOf]; omega))
      by_cases e : j = k
      · subst e
        rw [hi]
        refine ⟨by omega, by rw [← hi]; exact hnew, ?_⟩
        rw [Int.toNat_natCast, fr_get hip]; exact hall
      · exact hin j (by omega) hjl
  · exact hR _ _ ⟨E1, by rw [decide_eq_true]; exact fun i hi => hin i (by omega) hi⟩

theorem neededAgain_ok {w : World} {uv dv av : Value} {us : List Int} {cd ca : Nat → Prop} (hu : Ints w uv us) (hr : ∀ x ∈ us, 0 ≤ x ∧ x < 10) (hl : us.length ≤ 1000) (hd : NSet dv cd) (ha : NSet av ca) :
    Calls Try.prog N.impl_neededAgain #[uv, dv, av] w (Ret fun r w' => Ext w w' ∧ ∃ b : Bool, r = .bool b ∧ (b = true ↔ us = [] ∨ ∃ u ∈ us, ¬ cd u.toNat ∨ ca u.toNat)) := by
  obtain ⟨ua, uc, rfl, huc, hucell⟩ := hu.out
  refine ret_k fun R hR => c_impl_neededAgain _ _ _ _ _ ?_
  simp only [go_sem]
  refine loopV (fun s w' => ∃ k : Nat, s = [.int .i64 k] ∧ k ≤ us.length ∧ Ext w w' ∧ ∀ u ∈ us.take k, cd u.toNat ∧ ¬ ca u.toNat) (upTo us.length 0) ⟨0, rfl, by omega, Ext.refl _, by simp⟩ ?_
  rintro s z w1 K ⟨k, rfl, hk, E1, hin⟩ hK
  simp only [go_sem]
  refine ⟨fun h => ?_, fun h => ?_⟩
  · have hk : k < us.length := by omega
    refine idxLoad (hucell.ext E1) rfl hk ?_
    have hx := hr _ (List.getElem_mem hk)
    obtain ⟨i, hi⟩ : ∃ i : Nat, us[k] = (i : Int) := ⟨us[k].toNat, by omega⟩
    have hm : (i : Int) ∈ us := by rw [← hi]; exact List.getElem_mem hk
    rw [hi]
    refine callV_of (nsHas_ok hd (i := i) (by omega)) rfl ?_
    rintro _ w2 ⟨E2, b2, rfl, hb2⟩
    simp only [go_sem]
    refine ⟨fun h => hR _ _ ⟨E1.trans E2, true, rfl, by simp only [true_iff]; exact .inr ⟨_, hm, .inl fun hc => by rw [Int.toNat_natCast] at hc; rw [hb2.2 hc] at h; cases h⟩⟩, fun ht => ?_⟩
    refine callV_of (nsHas_ok ha (i := i) (by omega)) rfl ?_
    rintro _ w3 ⟨E3, b3, rfl, hb3⟩
    have e3 := (E1.trans E2).trans E3
    simp only [go_sem]
    refine ⟨fun h => hR _ _ ⟨e3, true, rfl, by simp only [true_iff]; exact .inr ⟨_, hm, .inr (by rw [Int.toNat_natCast]; exact hb3.1 h)⟩⟩, fun hf => ?_⟩
    refine bin_inc (by omega) (hK _ _ ⟨k + 1, rfl, by omega, e3, fun u hu => ?_⟩ (by simp [upTo, nthV, iOf]; omega))
    rw [take_snoc hk, List.mem_append, List.mem_singleton] at hu
    rcases hu with hu | hu
    · exact hin u hu
    · rw [hu, hi, Int.toNat_natCast]
      exact ⟨hb2.1 (by simpa using ht), fun hc => by rw [hb3.2 hc] at hf; cases hf⟩
  · rw [List.take_of_length_le (by omega)] at hin
    refine hR _ _ ⟨E1, _, rfl, ?_⟩
    rw [decide_eq_true_eq]
    constructor
    · intro h; exact .inl (List.eq_nil_of_length_eq_zero (by omega))
    · rintro (h | ⟨u, hu, h⟩)
      · rw [h]; rfl
      · have := hin u hu
        rcases h with h | h
        · exact absurd this.1 h
        · exact absurd h this.2

theorem ns_and {a b : Value} {c d : Nat → Prop} (ha : NSet a c) (hb : NSet b d) {K : Value → Prop} (hK : ∀ v, NSet v (fun i => c i ∧ d i) → K v) : BinV .and a b K := by
  obtain ⟨m, rfl, hm, hc⟩ := ha.out
  obtain ⟨n, rfl, hn, hd⟩ := hb.out
  refine ⟨rfl, hK _ ?_⟩
  have e : (BitVec.ofInt IntKind.u16.bits (m : Int) &&& BitVec.ofInt IntKind.u16.bits (n : Int)).toNat = m &&& n := by
    show (BitVec.ofInt 16 (m : Int) &&& BitVec.ofInt 16 (n : Int)).toNat = _
    rw [BitVec.toNat_and, BitVec.toNat_ofInt, BitVec.toNat_ofInt]
    have a1 : ((m : Int) % ((2 ^ 16 : Nat) : Int)).toNat = m := by omega
    have a2 : ((n : Int) % ((2 ^ 16 : Nat) : Int)).toNat = n := by omega
    rw [a1, a2]
  have hlt : m &&& n < 65536 := Nat.lt_of_le_of_lt Nat.and_le_left hm
  rw [e, u16_wrap hlt]
  refine ⟨m &&& n, rfl, hlt, fun i hi => ?_⟩
  rw [Nat.testBit_and, Bool.and_eq_true, hc i hi, hd i hi]

theorem loseSet_ok {w : World} {v dv lv : Value} {p : List Nd} {d l : List Int} (hp : PlanV w v p) (hd : Ints w dv d) (hl : Ints w lv l) (hdl : d.length ≤ 1099511627776) (hll : l.length ≤ 1099511627776) :
    Calls Try.prog N.impl_loseSet #[v, dv, lv] w (Ret fun r w' => ∃ u, r = .tuple #[u, .bool (decide (LoseOk p d))] ∧ Ext w w' ∧ (LoseOk p d → NSet u fun i => i < p.length ∧ Again p d l i)) := by
  refine ret_k fun R hR => c_impl_loseSet _ _ _ _ _ ?_
  have hlen : ∀ K, LenV v K = K (.int .i64 p.length) := fun K => hp.len
  have no : ∀ w', Ext w w' → ¬ LoseOk p d → R (.tuple #[.int .u16 0, .bool false]) w' := fun w' hE hn => hR _ _ ⟨_, by rw [decide_eq_false hn], hE, fun h => absurd h hn⟩
  refine callV_of (implPlanValid_ok hp) rfl ?_
  rintro _ w1 ⟨E1, rfl⟩
  simp only [hlen, go_sem]
  refine ⟨fun h => no _ E1 fun hd => h hd.1, fun hok => ?_⟩
  have h10 := hok.len
  refine callV_of (orderBegins_ok (hp.ext E1) hok (hd.ext E1) hdl) rfl ?_
  rintro _ w2 ⟨E2, rfl⟩
  have e2 := E1.trans E2
  simp only [go_sem]
  refine ⟨fun h => no _ e2 fun hd => h hd.2, fun hord => ?_⟩
  have hL : LoseOk p d := ⟨hok, hord⟩
  refine callV_of (setOf_ok (hp.ext e2) h10 (hd.ext e2) hdl) rfl ?_
  rintro fin w3 ⟨E3, hfin⟩
  have e3 := e2.trans E3
  refine callV_of (setOf_ok (hp.ext e3) h10 (hl.ext e3) hll) rfl ?_
  rintro gone w4 ⟨E4, hgone⟩
  have e4 := e3.trans E4
  refine ns_and hfin hgone fun g hg => ?_
  refine bin_sub ⟨by omega, by omega⟩ ?_
  refine loopV (fun s w' => ∃ (m : Nat) (u : Value), s = [u, .int .i64 ((m : Int) - 1)] ∧ m ≤ p.length ∧ Ext w w' ∧ NSet u fun i => m ≤ i ∧ i < p.length ∧ Again p d l i) (fun s _ => (iOf (nthV s 1) + 1).toNat)
    ⟨p.length, _, rfl, by omega, e4, NSet.zero.congr fun i _ => ⟨fun h => h.elim, fun h => by omega⟩⟩ ?_
  rintro s z w5 K ⟨m, u, rfl, hm, E5, hs⟩ hK
  simp only [go_sem]
  refine ⟨fun hge => ?_, fun hlt => ?_⟩
  · obtain ⟨i, rfl⟩ : ∃ i, m = i + 1 := ⟨m - 1, by omega⟩
    have ei : ((i + 1 : Nat) : Int) - 1 = (i : Int) := by omega
    rw [ei]
    have hi : i < p.length := by omega
    refine callV_of (nsHas_ok hg (i := i) (by omega)) rfl ?_
    rintro _ w6 ⟨E6, b6, rfl, hb6⟩
    have e6 := E5.trans E6
    have next : ∀ {w' : World} {u' : Value} {q : Prop}, Ext w w' → (q ↔ Again p d l i) → (q → NSet u' fun j => (i + 1 ≤ j ∧ j < p.length ∧ Again p d l j) ∨ j = i) → (¬ q → u' = u) → K [u', .int .i64 ((i : Int) - 1)] w' := fun {w' u' q} hE hq h1 h2 => by
      refine hK _ _ ⟨i, u', rfl, by omega, hE, ?_⟩ (by simp [nthV, iOf])
      by_cases h : q
      · refine (h1 h).congr fun j _ => ?_
        constructor
        · rintro (h' | h')
          · exact ⟨by omega, h'.2⟩
          · subst h'; exact ⟨by omega, hi, hq.1 h⟩
        · rintro ⟨a, b, c⟩
          by_cases e : j = i
          · exact .inr e
          · exact .inl ⟨by omega, b, c⟩
      · rw [h2 h]
        refine hs.congr fun j _ => ?_
        constructor
        · exact fun h' => ⟨by omega, h'.2⟩
        · rintro ⟨a, b, c⟩
          by_cases e : j = i
          · subst e; exact absurd (hq.2 c) h
          · exact ⟨by omega, b, c⟩
    simp only [go_sem]
    refine ⟨fun ht => ?_, fun hf => ?_⟩
    · have hgi := hb6.1 ht
      refine callV_of (planUses_ok (hp.ext e6) i) rfl fun us w7 ⟨E7, f7⟩ => ?_
      rw [if_pos hok] at f7
      have e7 := e6.trans E7
      have hul : (usesL p i).length ≤ 10 := Nat.le_trans sel_len h10
      refine callV_of (neededAgain_ok f7.ints (fun x hx => by obtain ⟨k, hk, _, rfl⟩ := mem_usesL.1 hx; omega) (by omega) hfin hs) rfl ?_
      rintro _ w8 ⟨E8, b8, rfl, hb8⟩
      have e8 := e7.trans E8
      have hiff : b8 = true ↔ Again p d l i := by
        rw [hb8, Again.iff]
        constructor
        · rintro (h | ⟨x, hx, h⟩)
          · exact ⟨hgi.1.2, hgi.2.2, .inl h⟩
          · obtain ⟨k, hk, hm, rfl⟩ := mem_usesL.1 hx
            refine ⟨hgi.1.2, hgi.2.2, .inr ⟨_, hx, ?_⟩⟩
            simp only [Int.toNat_natCast] at h
            rcases h with h | h
            · exact .inl fun hd => h ⟨hk, hd⟩
            · exact .inr (mem_sel_nat.2 h.2)
        · rintro ⟨_, _, h | ⟨x, hx, h⟩⟩
          · exact .inl h
          · obtain ⟨k, hk, hm, rfl⟩ := mem_usesL.1 hx
            have := hok.fr_lt hm
            refine .inr ⟨_, hx, ?_⟩
            simp only [Int.toNat_natCast]
            rcases h with h | h
            · exact .inl fun hd => h hd.2
            · have h' := mem_sel_nat.1 h
              exact .inr ⟨by omega, h'⟩
      simp only [go_sem]
      refine ⟨fun ht8 => ?_, fun hf8 => ?_⟩
      · refine callV_of (nsWith_ok hs (i := i) (by omega)) rfl ?_
        rintro _ w9 ⟨E9, m', _, rfl, hs9⟩
        refine bin_sub ⟨by omega, by omega⟩ (next (e8.trans E9) hiff (fun _ => hs9) fun h => absurd ht8 h)
      · exact bin_sub ⟨by omega, by omega⟩ (next e8 hiff (fun h => by rw [h] at hf8; cases hf8) fun _ => rfl)
    · refine bin_sub ⟨by omega, by omega⟩ (next (q := False) e6 ⟨fun h => h.elim, fun h => ?_⟩ (fun h => h.elim) fun _ => rfl)
      rw [hb6.2 ⟨⟨hi, h.mem.1⟩, hi, h.mem.2⟩] at hf; cases hf
  · refine hR _ _ ⟨_, by rw [decide_eq_true hL], E5, fun _ => hs.congr fun j _ => ⟨fun h => h.2, fun h => ⟨by omega, h⟩⟩⟩

theorem implLoseRows_ok {w : World} {v dv lv : Value} {p : List Nd} {d l : List Int} (hp : PlanV w v p) (hd : Ints w dv d) (hl : Ints w lv l) (hdl : d.length ≤ 1099511627776) (hll : l.length ≤ 1099511627776) :
    Calls Try.prog N.impl_LoseRows #[v, dv, lv] w (Ret fun r w' => ∃ u, r = .tuple #[u, .bool (decide (LoseOk p d))] ∧ Ext w w' ∧ FInts w' (Since w) u (loseO p d l)) := by
  refine ret_k fun R hR => c_impl_LoseRows _ _ _ _ _ ?_
  refine callV_of (loseSet_ok hp hd hl hdl hll) rfl ?_
  rintro _ w1 ⟨u, rfl, E1, hs⟩
  simp only [go_sem]
  refine ⟨fun h => hR _ _ ⟨_, by rw [decide_eq_false h], E1, by unfold loseO; rw [if_neg h]; exact FInts.nil⟩, fun h => ?_⟩
  refine callV_of (nsList_ok (hs h)) rfl fun g w2 ⟨E2, f2⟩ => ?_
  have e : sel 10 (fun i => i < p.length ∧ Again p d l i) = loseO p d l := by
    unfold loseO; rw [if_pos h]
    rw [sel_cut h.1.len fun k hk hc => by omega]
    exact sel_congr fun k hk => ⟨fun h => h.2, fun h => ⟨hk, h⟩⟩
  rw [e] at f2
  exact hR _ _ ⟨g, by rw [decide_eq_true h], E1.trans E2, f2.mono fun k _ hk => by have := E1.size; unfold Since at hk ⊢; omega⟩

theorem implLoseAgain_ok {w : World} {v dv lv : Value} {p : List Nd} {d l : List Int} (hp : PlanV w v p) (hd : Ints w dv d) (hl : Ints w lv l) (hdl : d.length ≤ 1048576) (hll : l.length ≤ 1099511627776) :
    Calls Try.prog N.impl_LoseAgain #[v, dv, lv] w (Ret fun r w' => ∃ u, r = .tuple #[u, .bool (decide (LoseOk p d))] ∧ Ext w w' ∧ FInts w' (Since w) u (staysO p d l)) := by
  obtain ⟨da, dc, hdv, hdc, hdcell⟩ := hd.out
  refine ret_k fun R hR => c_impl_LoseAgain _ _ _ _ _ ?_
  refine callV_of (loseSet_ok hp hd hl (by omega) hll) rfl ?_
  rintro _ w1 ⟨u, rfl, E1, hs⟩
  have hlen : ∀ K, LenV dv K = K (.int .i64 d.length) := fun K => ints_len hd
  simp only [hlen, go_sem]
  refine ⟨fun h => hR _ _ ⟨_, by rw [decide_eq_false h], E1, by unfold staysO; rw [if_neg h]; exact FInts.nil⟩, fun h => ?_⟩
  have hset := hs h
  have h10 := h.1.len
  subst hdv
  refine loopV (fun s w' => ∃ (k : Nat) (u : Value), s = [u, .int .i64 k] ∧ k ≤ d.length ∧ Ext w w' ∧ Own w' w.heap.size T.int 1 u ((d.take k).filter fun x => decide (x ∉ againL p d l)).length (ints ((d.take k).filter fun x => decide (x ∉ againL p d l)))) (upTo d.length 1)
    ⟨0, _, rfl, by omega, E1, own_nil⟩ ?_
  rintro s z w2 K ⟨k, g, rfl, hk, E2, ho⟩ hK
  have hfl : ((d.take k).filter fun x => decide (x ∉ againL p d l)).length ≤ k := Nat.le_trans (List.length_filter_le _ _) (by rw [List.length_take]; omega)
  simp only [go_sem]
  refine ⟨fun hlt => ?_, fun hge => ?_⟩
  · have hk : k < d.length := by omega
    refine idxLoad (hdcell.ext E2) rfl hk ?_
    have hx := h.2.mem (List.getElem_mem hk)
    obtain ⟨i, hi⟩ : ∃ i : Nat, d[k] = (i : Int) := ⟨d[k].toNat, by omega⟩
    rw [hi]
    refine callV_of (nsHas_ok hset (i := i) (by omega)) rfl ?_
    rintro _ w3 ⟨E3, b, rfl, hb⟩
    have hmem : (i : Int) ∈ againL p d l ↔ b = true := by rw [hb]; exact mem_sel_nat
    have e3 := E2.trans E3
    have ho3 := Own.ext ho E3
    have hsn : (d.take (k + 1)).filter (fun x => decide (x ∉ againL p d l)) = (d.take k).filter (fun x => decide (x ∉ againL p d l)) ++ if (i : Int) ∈ againL p d l then [] else [(i : Int)] := by
      rw [take_snoc hk, List.filter_append, hi]
      congr 1
      by_cases hm : (i : Int) ∈ againL p d l
      · rw [if_pos hm, List.filter_cons_of_neg (by simp [hm])]; rfl
      · rw [if_neg hm, List.filter_cons_of_pos (by simp [hm])]; rfl
    simp only [go_sem]
    refine ⟨fun hf => ?_, fun ht => ?_⟩
    · refine app1_int sl_int el_int ho3 (by omega) e3.size fun v' w4 ho4 C4 => ?_
      refine bin_inc (by omega) (hK _ _ ⟨k + 1, v', rfl, by omega, chg_own e3 ho3 C4 (Nat.le_refl _), ?_⟩ (by simp [upTo, nthV, iOf]; omega))
      rw [hsn, if_neg fun hm => by rw [hmem.1 hm] at hf; cases hf]
      simpa using ho4
    · refine bin_inc (by omega) (hK _ _ ⟨k + 1, g, rfl, by omega, e3, ?_⟩ (by simp [upTo, nthV, iOf]; omega))
      rw [hsn, if_pos (hmem.2 (by simpa using ht)), List.append_nil]; exact ho3
  · rw [List.take_of_length_le (by omega)] at ho
    exact hR _ _ ⟨g, by rw [decide_eq_true h], E2, by unfold staysO; rw [if_pos h]; exact (Own.fints ho).mono fun _ _ h => h⟩

theorem specPlanUses_ok {w : World} {v : Value} {p : List Nd} (hp : PlanV w v p) (a : Int) : Calls Try.prog N.spec_PlanUses #[v, .int .i64 a] w (Ret (NewInts w (if PlanOk p then usesL p a else []))) := by
  refine ret_k fun R hR => c_spec_PlanUses _ _ _ _ ?_
  have hlen : ∀ K, LenV v K = K (.int .i64 p.length) := fun K => hp.len
  have hsm := hp.small
  refine ⟨_, rfl, fun w1 hn1 => ?_⟩
  simp only [hlen, go_sem]
  refine loopV (fun s w' => ∃ (k : Nat) (u : Value), s = [u, .int .i64 k] ∧ k ≤ p.length ∧ (k = 0 ∨ PlanOk p) ∧ Ext w w' ∧ Own w' w.heap.size T.int 1 u (sel k fun i => a ∈ fr p i).length (ints (sel k fun i => a ∈ fr p i))) (upTo p.length 1)
    ⟨0, _, rfl, by omega, .inl rfl, hn1.ext, Own.empty hn1 (Nat.le_refl _)⟩ ?_
  rintro s z w2 K ⟨k, u, rfl, hk, hok, E2, ho⟩ hK
  have hsl := @sel_len k fun i => a ∈ fr p i
  simp only [go_sem]
  refine ⟨fun h => ?_, fun h => ?_⟩
  · have hk : k < p.length := by omega
    refine callV_of (specPlanValid_ok (hp.ext E2)) rfl ?_
    rintro _ w3 ⟨E3, rfl⟩
    have e3 := E2.trans E3
    simp only [go_sem]
    refine ⟨fun hpok => ?_, fun hno => ?_⟩
    · refine (hp.ext e3).idx hk fun b o fv rv h0 h1 h2 hf hr hs => ?_
      rw [← fr_get hk] at hf
      simp only [go_sem]
      refine load_cell h1 ?_
      refine callV_of (l3HasI hf (by have := hpok.fr_len k; omega) a) rfl ?_
      rintro _ w4 ⟨E4, rfl⟩
      have e4 := e3.trans E4
      have ho4 := (Own.ext (Own.ext ho E3) E4)
      simp only [go_sem]
      refine ⟨fun hm => ?_, fun hm => ?_⟩
      · refine app1_int sl_int el_int ho4 (by omega) e4.size fun v' w5 ho5 C5 => ?_
        refine bin_inc (by omega) (hK _ _ ⟨k + 1, v', rfl, by omega, .inr hpok, chg_own e4 ho4 C5 (Nat.le_refl _), ?_⟩ (by simp [upTo, nthV, iOf]; omega))
        rw [sel_yes hm]; simpa using ho5
      · refine bin_inc (by omega) (hK _ _ ⟨k + 1, u, rfl, by omega, .inr hpok, e4, ?_⟩ (by simp [upTo, nthV, iOf]; omega))
        rw [sel_no hm]; exact ho4
    · have h0 : k = 0 := hok.resolve_right hno
      subst h0
      exact hR _ _ ⟨e3, by rw [if_neg hno]; exact (Own.fints (Own.ext ho E3)).mono fun _ _ h => h⟩
  · have hk : k = p.length := by omega
    subst hk
    have hpok : PlanOk p := hok.elim (fun h0 => ⟨by omega, fun i hi => by omega⟩) id
    exact hR _ _ ⟨E2, by rw [if_pos hpok]; exact (Own.fints ho).mono fun _ _ h => h⟩

theorem l16Again_ok {w : World} {v dv lv : Value} {p : List Nd} {d l : List Int} (hp : PlanV w v p) (hd : Ints w dv d) (hl : Ints w lv l) (hdl : d.length ≤ 1099511627776) (hll : l.length ≤ 1099511627776) :
    Calls Try.prog N.spec_l16Again #[v, dv, lv] w (Ret (NewInts w (sel p.length fun i => (i : Int) ∈ d ∧ (i : Int) ∈ l))) := by
  refine ret_k fun R hR => c_spec_l16Again _ _ _ _ _ ?_
  have hlen : ∀ K, LenV v K = K (.int .i64 p.length) := fun K => hp.len
  have hsm := hp.small
  refine ⟨_, rfl, fun w1 hn1 => ?_⟩
  simp only [hlen, go_sem]
  refine loopV (fun s w' => ∃ (k : Nat) (u : Value), s = [u, .int .i64 k] ∧ k ≤ p.length ∧ Ext w w' ∧ Own w' w.heap.size T.int 1 u (sel k fun i => (i : Int) ∈ d ∧ (i : Int) ∈ l).length (ints (sel k fun i => (i : Int) ∈ d ∧ (i : Int) ∈ l))) (upTo p.length 1)
    ⟨0, _, rfl, by omega, hn1.ext, Own.empty hn1 (Nat.le_refl _)⟩ ?_
  rintro s z w2 K ⟨k, u, rfl, hk, E2, ho⟩ hK
  have hsl := @sel_len k fun i => (i : Int) ∈ d ∧ (i : Int) ∈ l
  simp only [go_sem]
  refine ⟨fun h => ?_, fun h => ?_⟩
  · refine callV_of (l3HasI (hd.ext E2) (by omega) _) rfl ?_
    rintro _ w3 ⟨E3, rfl⟩
    have e3 := E2.trans E3
    simp only [go_sem]
    refine ⟨fun h1 => ?_, fun h1 => bin_inc (by omega) (hK _ _ ⟨k + 1, u, rfl, by omega, e3, by rw [sel_no fun h => h1 h.1]; exact Own.ext ho E3⟩ (by simp [upTo, nthV, iOf]; omega))⟩
    refine callV_of (l3HasI (hl.ext e3) (by omega) _) rfl ?_
    rintro _ w4 ⟨E4, rfl⟩
    have e4 := e3.trans E4
    have ho4 := Own.ext (Own.ext ho E3) E4
    simp only [go_sem]
    refine ⟨fun h2 => ?_, fun h2 => bin_inc (by omega) (hK _ _ ⟨k + 1, u, rfl, by omega, e4, by rw [sel_no fun h => h2 h.2]; exact ho4⟩ (by simp [upTo, nthV, iOf]; omega))⟩
    refine app1_int sl_int el_int ho4 (by omega) e4.size fun v' w5 ho5 C5 => ?_
    refine bin_inc (by omega) (hK _ _ ⟨k + 1, v', rfl, by omega, chg_own e4 ho4 C5 (Nat.le_refl _), ?_⟩ (by simp [upTo, nthV, iOf]; omega))
    rw [sel_yes ⟨h1, h2⟩]; simpa using ho5
  · have hk : k = p.length := by omega
    subst hk
    exact hR _ _ ⟨E2, (Own.fints ho).mono fun _ _ h => h⟩

theorem Flags.put {w : World} {b n i : Nat} {c : Nat → Prop} (h : Flags w b n c) (hi : i < n) {x : Bool} {K : World → Prop} (hK : ∀ w', Chg (· = b) w w' → w'.heap.size = w.heap.size → Flags w' b n (fun j => if j = i then x = true else c j) → K w') :
    IdxV 1 (.slice (some ⟨b, 0, none⟩) n n) (.int .i64 i) fun t => StoreV 1 t (.bool x) w K := by
  obtain ⟨cur, h1, h2, h3⟩ := h.out
  refine ⟨by omega, by omega, ?_⟩
  simp only [addr_add, Int.toNat_natCast, Nat.mul_one, Nat.zero_add]
  refine store_at h1 rfl rfl (by omega) fun w' hp => hK w' hp.chg hp.size ⟨_, hp.here, by simp [h2], fun j hj => ?_⟩
  by_cases e : j = i
  · subst e
    exact ⟨x, by simp [h2, hj], by simp⟩
  · obtain ⟨m, hm, hc⟩ := h3 j hj
    exact ⟨m, by rw [Array.getElem?_setIfInBounds_ne (by omega)]; exact hm, by rw [if_neg e]; exact hc⟩

theorem l16Wanted_ok {w : World} {v dv lv : Value} {p : List Nd} {d l : List Int} (hp : PlanV w v p) (hok : PlanOk p) (hd : Ints w dv d) (hl : Ints w lv l) (hdl : d.length ≤ 1099511627776) (hll : l.length ≤ 1099511627776) :
    Calls Try.prog N.spec_l16Wanted #[v, dv, lv] w (Ret (NewInts w (againL p d l))) := by
  refine ret_k fun R hR => c_spec_l16Wanted _ _ _ _ _ ?_
  have hlen : ∀ K, LenV v K = K (.int .i64 p.length) := fun K => hp.len
  have h10 := hok.len
  refine callV_of (l16Again_ok hp hd hl hdl hll) rfl fun gv w1 ⟨E1, f1⟩ => ?_
  have hgl := @sel_len p.length fun i => (i : Int) ∈ d ∧ (i : Int) ∈ l
  simp only [hlen, go_sem]
  refine ⟨by omega, by omega, by omega, by omega, fun w2 hn2 => ?_⟩
  simp only [Int.toNat_natCast] at hn2 ⊢
  have z1 := E1.size
  have z2 := hn2.size
  have e2 := E1.trans hn2.ext
  have extB : ∀ {w' w'' : World}, Ext w w' → Chg (· = w1.heap.size) w' w'' → Ext w w'' := fun h1 h2 => Chg.ext (h1.then h2) fun k hk e => by omega
  have ext1 : ∀ {w' w'' : World}, Ext w1 w' → Chg (· = w1.heap.size) w' w'' → Ext w1 w'' := fun h1 h2 => Chg.ext (h1.then h2) fun k hk e => by omega
  refine bin_sub ⟨by omega, by omega⟩ ?_
  refine loopV (fun s w' => ∃ (m : Nat) (c : Nat → Prop), s = [.int .i64 ((m : Int) - 1)] ∧ m ≤ p.length ∧ Ext w w' ∧ Ext w1 w' ∧ Flags w' w1.heap.size p.length c ∧ ∀ j, j < p.length → (c j ↔ m ≤ j ∧ Again p d l j)) (fun s _ => (iOf (nthV s 0) + 1).toNat)
    ⟨p.length, _, rfl, by omega, e2, hn2.ext, Flags.new hn2, fun j hj => ⟨fun h => h.elim, fun h => by omega⟩⟩ ?_
  rintro s z w3 K ⟨m, c, rfl, hm, E3, G3, hf3, hc3⟩ hK
  simp only [go_sem]
  refine ⟨fun hge => ?_, fun hlt => ?_⟩
  · obtain ⟨i, rfl⟩ : ∃ i, m = i + 1 := ⟨m - 1, by omega⟩
    have ei : ((i + 1 : Nat) : Int) - 1 = (i : Int) := by omega
    rw [ei]
    have hi : i < p.length := by omega
    refine callV_of (l3HasI ((f1.ext G3).ints) (by omega) _) rfl ?_
    rintro _ w4 ⟨E4, rfl⟩
    simp only [go_sem]
    refine ⟨fun hno => ?_, fun hmem => ?_⟩
    · refine bin_sub ⟨by omega, by omega⟩ (hK _ _ ⟨i, c, rfl, by omega, E3.trans E4, G3.trans E4, hf3.ext E4, fun j hj => ?_⟩ (by simp [nthV, iOf]))
      rw [hc3 j hj]
      constructor
      · exact fun h => ⟨by omega, h.2⟩
      · rintro ⟨h1, h2⟩
        by_cases e : j = i
        · subst e; exact absurd (mem_sel_nat.2 ⟨hi, h2.mem⟩) hno
        · exact ⟨by omega, h2⟩
    · have hmem := (mem_sel_nat.1 hmem).2
      have e4 := E3.trans E4
      have g4 := G3.trans E4
      refine callV_of (specPlanUses_ok (hp.ext e4) i) rfl fun uv w5 ⟨E5, f5⟩ => ?_
      rw [if_pos hok] at f5
      have hul : (usesL p i).length ≤ 10 := Nat.le_trans sel_len h10
      obtain ⟨ua, uc, rfl, huc, hucell⟩ := f5.ints.out
      simp only [go_sem]
      have hf5 := (hf3.ext E4).ext E5
      refine hf5.put hi fun w6 C6 s6 hf6 => ?_
      have e5 := e4.trans E5
      have g5 := g4.trans E5
      have z5 := g4.size
      have f6 := f5.keep C6 fun j hj e => by unfold Since at hj; have e : j = w1.heap.size := e; have := lt_of_at hn2.here; have := hn2.ext.size; have := (G3.trans E4).size; have : w1.heap.size < w3.heap.size := by
                                                obtain ⟨cur, hh, _⟩ := hf3.out
                                                exact lt_of_at hh
                                             have := E4.size; omega
      have hucell6 : Cells w6 ua (ints (usesL p i)) := by
        obtain ⟨a', c', hv', _, h'⟩ := f6.ints.out
        cases hv'; exact h'
      refine loopV (fun s w' => ∃ (k : Nat) (c : Nat → Prop), s = [.int .i64 k] ∧ k ≤ (usesL p i).length ∧ Ext w w' ∧ Ext w1 w' ∧ Cells w' ua (ints (usesL p i)) ∧ w6.heap.size ≤ w'.heap.size ∧ Flags w' w1.heap.size p.length c ∧ (∀ j, j < p.length → j ≠ i → (c j ↔ i + 1 ≤ j ∧ Again p d l j)) ∧ (c i ↔ usesL p i = [] ∨ ∃ u ∈ (usesL p i).take k, u ∉ d ∨ u ∈ againL p d l)) (upTo (usesL p i).length 0)
        ⟨0, _, rfl, by omega, extB e5 C6, ext1 g5 C6, hucell6, Nat.le_refl _, hf6, fun j hj hne => by rw [if_neg hne]; exact hc3 j hj, ?_⟩ ?_
      · rw [if_pos rfl, decide_eq_true_eq]
        constructor
        · exact fun h => .inl (List.eq_nil_of_length_eq_zero (by omega))
        · rintro (h | ⟨u, hu, _⟩)
          · rw [h]; rfl
          · simp at hu
      rintro s z w7 K' ⟨k, c, rfl, hk, E7, G7, hucell7, z7, hf7, hoth, hmine⟩ hK'
      simp only [go_sem]
      refine ⟨fun h => ?_, fun h => ?_⟩
      · have hk : k < (usesL p i).length := by omega
        refine idxLoad hucell7 rfl hk ?_
        obtain ⟨u, hu, hm', he⟩ := mem_usesL.1 (List.getElem_mem hk)
        have hui := hok.fr_lt hm'
        rw [he]
        refine callV_of (l3HasI (hd.ext E7) (by omega) _) rfl ?_
        rintro _ w8 ⟨E8, rfl⟩
        have hsn : ∀ q : Int → Prop, (∃ x ∈ (usesL p i).take (k + 1), q x) ↔ (∃ x ∈ (usesL p i).take k, q x) ∨ q u := fun q => by
          rw [take_snoc hk, he]
          constructor
          · rintro ⟨x, hx, hq⟩
            rcases List.mem_append.1 hx with hx | hx
            · exact .inl ⟨x, hx, hq⟩
            · simp at hx; subst hx; exact .inr hq
          · rintro (⟨x, hx, hq⟩ | hq)
            · exact ⟨x, List.mem_append_left _ hx, hq⟩
            · exact ⟨_, List.mem_append_right _ (by simp), hq⟩
        -- the mark of node i is set
        have setI : ∀ {w' : World}, Ext w7 w' → (¬ ((u : Int) ∈ d) ∨ (u : Int) ∈ againL p d l) → IdxV 1 (.slice (some ⟨w1.heap.size, 0, none⟩) p.length p.length) (.int .i64 i) fun t => StoreV 1 t (.bool true) w' fun w9 => BinV .add (.int .i64 k) (.int .i64 1) fun t => K' [t] w9 := fun {w'} hE hq => by
          refine (hf7.ext hE).set hi fun w9 C9 s9 hf9 => ?_
          have hE' := hE.size
          refine bin_inc (by omega) (hK' _ _ ⟨k + 1, _, rfl, by omega, extB (E7.trans hE) C9, ext1 (G7.trans hE) C9, ?_, by omega, hf9, fun j hj hne => ?_, ?_⟩ (by simp [upTo, nthV, iOf]; omega))
          · intro q x hx
            obtain ⟨b, off, ha, hcell⟩ := (hucell7.ext hE) q x hx
            refine ⟨b, off, ha, cell_keep C9 hcell fun e => ?_⟩
            obtain ⟨b', off', ha', hc'⟩ := hucell6 q x hx
            rw [ha] at ha'
            cases ha'
            have e : b = w1.heap.size := e
            subst e
            obtain ⟨cur, hh, _, hval⟩ := hf6.out
            rw [cell_of_row w6 _ _ cur _ (0, 0) hh] at hc'
            obtain ⟨hlt', _⟩ := Array.getElem?_eq_some_iff.1 hc'
            obtain ⟨mm, hmm, _⟩ := hval (off + q) (by obtain ⟨cur', hh', hs', _⟩ := hf6.out; rw [hh] at hh'; cases hh'; omega)
            rw [hmm] at hc'
            simp [ints] at hx
            obtain ⟨y, _, rfl⟩ := hx
            cases hc'
          · rw [hoth j hj hne]
            exact ⟨fun h => h.elim id fun e => absurd e hne, .inl⟩
          · rw [hsn, hmine]
            constructor
            · rintro ((h | h) | _)
              · exact .inl h
              · exact .inr (.inl h)
              · exact .inr (.inr hq)
            · exact fun _ => .inr rfl
        simp only [go_sem]
        refine ⟨fun hnd => setI E8 (.inl hnd), fun hdn => ?_⟩
        refine idxLoad (hucell7.ext E8) rfl hk ?_
        rw [he]
        refine (hf7.ext E8).get hu fun b hb => ?_
        have hag : b = true ↔ (u : Int) ∈ againL p d l := by
          rw [hb, hoth u hu (by omega)]
          constructor
          · exact fun h => mem_sel_nat.2 ⟨hu, h.2⟩
          · exact fun h => ⟨by omega, (mem_sel_nat.1 h).2⟩
        simp only [go_sem]
        refine ⟨fun ht => setI E8 (.inr (hag.1 ht)), fun hff => ?_⟩
        refine bin_inc (by omega) (hK' _ _ ⟨k + 1, c, rfl, by omega, E7.trans E8, G7.trans E8, hucell7.ext E8, Nat.le_trans z7 E8.size, hf7.ext E8, hoth, ?_⟩ (by simp [upTo, nthV, iOf]; omega))
        rw [hmine, hsn]
        constructor
        · rintro (h | h)
          · exact .inl h
          · exact .inr (.inl h)
        · rintro (h | h | h)
          · exact .inl h
          · exact .inr h
          · exfalso
            rcases h with h | h
            · exact h (by simpa using hdn)
            · rw [hag.2 h] at hff; cases hff
      · rw [List.take_of_length_le (by omega)] at hmine
        refine bin_sub ⟨by omega, by omega⟩ (hK _ _ ⟨i, c, rfl, by omega, E7, G7, hf7, fun j hj => ?_⟩ (by simp [nthV, iOf]))
        by_cases e : j = i
        · subst e
          rw [hmine, Again.iff]
          exact ⟨fun h => ⟨Nat.le_refl _, hmem.1, hmem.2, h⟩, fun h => h.2.2.2⟩
        · rw [hoth j hj e]
          exact ⟨fun h => ⟨by omega, h.2⟩, fun h => ⟨by omega, h.2⟩⟩
  · have hm0 : m = 0 := by omega
    subst hm0
    refine ⟨_, rfl, fun w4 hn4 => ?_⟩
    refine loopV (fun s w' => ∃ (k : Nat) (u : Value), s = [u, .int .i64 k] ∧ k ≤ p.length ∧ Ext w3 w' ∧ Own w' w3.heap.size T.int 1 u (sel k (Again p d l)).length (ints (sel k (Again p d l)))) (upTo p.length 1)
      ⟨0, _, rfl, by omega, hn4.ext, Own.empty hn4 (Nat.le_refl _)⟩ ?_
    rintro s z w5 K'' ⟨k, u, rfl, hk, E5, ho5⟩ hK''
    have hsl := @sel_len k (Again p d l)
    simp only [go_sem]
    refine ⟨fun h => ?_, fun h => ?_⟩
    · have hk : k < p.length := by omega
      refine (hf3.ext E5).get hk fun b hb => ?_
      have hiff : b = true ↔ Again p d l k := hb.trans ((hc3 k hk).trans ⟨fun h => h.2, fun h => ⟨by omega, h⟩⟩)
      simp only [go_sem]
      refine ⟨fun ht => ?_, fun hff => ?_⟩
      · refine app1_int sl_int el_int ho5 (by omega) E5.size fun v' w6 ho6 C6 => ?_
        refine bin_inc (by omega) (hK'' _ _ ⟨k + 1, v', rfl, by omega, chg_own E5 ho5 C6 (Nat.le_refl _), ?_⟩ (by simp [upTo, nthV, iOf]; omega))
        rw [sel_yes (hiff.1 ht)]; simpa using ho6
      · refine bin_inc (by omega) (hK'' _ _ ⟨k + 1, u, rfl, by omega, E5, ?_⟩ (by simp [upTo, nthV, iOf]; omega))
        rw [sel_no fun hr => by rw [hiff.2 hr] at hff; cases hff]; exact ho5
    · have hk : k = p.length := by omega
      subst hk
      exact hR _ _ ⟨E3.trans E5, (Own.fints ho5).mono fun j _ hj => by have := E3.size; unfold Since; omega⟩

theorem specLoseRows_ok {w : World} {v dv lv : Value} {p : List Nd} {d l : List Int} (hp : PlanV w v p) (hd : Ints w dv d) (hl : Ints w lv l) (hdl : d.length ≤ 1099511627776) (hll : l.length ≤ 1099511627776) :
    Calls Try.prog N.spec_LoseRows #[v, dv, lv] w (Ret fun r w' => ∃ u, r = .tuple #[u, .bool (decide (LoseOk p d))] ∧ Ext w w' ∧ FInts w' (Since w) u (loseO p d l)) := by
  refine ret_k fun R hR => c_spec_LoseRows _ _ _ _ _ ?_
  have no : ∀ w' w'' u, Ext w w' → Ext w' w'' → ¬ LoseOk p d → R (.tuple #[.slice u 0 0, .bool false]) w'' := fun w' w'' u hE hE' hn => hR _ _ ⟨_, by rw [decide_eq_false hn], hE.trans hE', by unfold loseO; rw [if_neg hn]; exact FInts.nil⟩
  refine callV_of (specPlanValid_ok hp) rfl ?_
  rintro _ w1 ⟨E1, rfl⟩
  simp only [go_sem]
  refine ⟨fun h => ⟨_, rfl, fun w2 hn2 => no w1 _ _ E1 hn2.ext fun hd => h hd.1⟩, fun hok => ?_⟩
  refine callV_of (l13Order_ok (hp.ext E1) (hd.ext E1) hdl) rfl ?_
  rintro _ w2 ⟨E2, rfl⟩
  have e2 := E1.trans E2
  simp only [go_sem]
  refine ⟨fun h => ⟨_, rfl, fun w3 hn3 => no w2 _ _ e2 hn3.ext fun hd => h hd.2⟩, fun hord => ?_⟩
  have hL : LoseOk p d := ⟨hok, hord⟩
  refine callV_of (l16Wanted_ok (hp.ext e2) hok (hd.ext e2) (hl.ext e2) hdl hll) rfl fun u w3 ⟨E3, f3⟩ => ?_
  exact hR _ _ ⟨u, by rw [decide_eq_true hL], e2.trans E3, by unfold loseO; rw [if_pos hL]; exact f3.mono fun k _ hk => by have := e2.size; unfold Since at hk ⊢; omega⟩

theorem specLoseAgain_ok {w : World} {v dv lv : Value} {p : List Nd} {d l : List Int} (hp : PlanV w v p) (hd : Ints w dv d) (hl : Ints w lv l) (hdl : d.length ≤ 1048576) (hll : l.length ≤ 1099511627776) :
    Calls Try.prog N.spec_LoseAgain #[v, dv, lv] w (Ret fun r w' => ∃ u, r = .tuple #[u, .bool (decide (LoseOk p d))] ∧ Ext w w' ∧ FInts w' (Since w) u (staysO p d l)) := by
  obtain ⟨da, dc, hdv, hdc, hdcell⟩ := hd.out
  refine ret_k fun R hR => c_spec_LoseAgain _ _ _ _ _ ?_
  have hlen : ∀ K, LenV dv K = K (.int .i64 d.length) := fun K => ints_len hd
  have hpl := hp.small
  have hll' := loseO_len p d l
  refine callV_of (specLoseRows_ok hp hd hl (by omega) hll) rfl ?_
  rintro _ w1 ⟨u, rfl, E1, f1⟩
  simp only [hlen, go_sem]
  refine ⟨_, rfl, fun w2 hn2 => ?_⟩
  subst hdv
  have e2 := E1.trans hn2.ext
  refine loopV (fun s w' => ∃ (k : Nat) (g : Value), s = [g, .int .i64 k] ∧ k ≤ d.length ∧ (k = 0 ∨ LoseOk p d) ∧ Ext w w' ∧ Ext w1 w' ∧ Own w' w1.heap.size T.int 1 g ((d.take k).filter fun x => decide (x ∉ againL p d l)).length (ints ((d.take k).filter fun x => decide (x ∉ againL p d l)))) (upTo d.length 1)
    ⟨0, _, rfl, by omega, .inl rfl, e2, hn2.ext, Own.empty hn2 (Nat.le_refl _)⟩ ?_
  rintro s z w3 K ⟨k, g, rfl, hk, hok0, E3, G3, ho⟩ hK
  have hfl : ((d.take k).filter fun x => decide (x ∉ againL p d l)).length ≤ k := Nat.le_trans (List.length_filter_le _ _) (by rw [List.length_take]; omega)
  have done : k = d.length ∨ ¬ LoseOk p d → R (.tuple #[g, .bool (decide (LoseOk p d))]) w3 := fun hh => by
    refine hR _ _ ⟨g, rfl, E3, ?_⟩
    by_cases hL : LoseOk p d
    · have : k = d.length := hh.resolve_right fun h => h hL
      rw [List.take_of_length_le (by omega)] at ho
      unfold staysO; rw [if_pos hL]; exact (Own.fints ho).mono fun _ _ h => Nat.le_trans E1.size h
    · have h0 : k = 0 := hok0.resolve_right hL
      subst h0
      unfold staysO; rw [if_neg hL]
      exact (Own.fints ho).mono fun _ _ h => Nat.le_trans E1.size h
  simp only [go_sem]
  refine ⟨fun hlt => ⟨fun hL => ?_, fun hL => done (.inr hL)⟩, fun hge => done (.inl (by omega))⟩
  have hk : k < d.length := by omega
  have hal : againL p d l = loseO p d l := by unfold loseO; rw [if_pos hL]
  refine idxLoad (hdcell.ext E3) rfl hk ?_
  refine callV_of (l3HasI (f1.ext G3).ints (by omega) _) rfl ?_
  rintro _ w4 ⟨E4, rfl⟩
  have e4 := E3.trans E4
  have ho4 := Own.ext ho E4
  have hsn : (d.take (k + 1)).filter (fun x => decide (x ∉ againL p d l)) = (d.take k).filter (fun x => decide (x ∉ againL p d l)) ++ if d[k] ∈ againL p d l then [] else [d[k]] := by
    rw [take_snoc hk, List.filter_append]
    congr 1
    by_cases hm : d[k] ∈ againL p d l
    · rw [if_pos hm, List.filter_cons_of_neg (by simp [hm])]; rfl
    · rw [if_neg hm, List.filter_cons_of_pos (by simp [hm])]; rfl
  rw [← hal]
  simp only [go_sem]
  refine ⟨fun hf => ?_, fun ht => ?_⟩
  · refine idxLoad (hdcell.ext e4) rfl hk ?_
    refine app1_int sl_int el_int ho4 (by omega) (G3.trans E4).size fun v' w5 ho5 C5 => ?_
    refine bin_inc (by omega) (hK _ _ ⟨k + 1, v', rfl, by omega, .inr hL, chg_own e4 ho4 C5 E1.size, chg_own (G3.trans E4) ho4 C5 (Nat.le_refl _), ?_⟩ (by simp [upTo, nthV, iOf]; omega))
    rw [hsn, if_neg hf]; simpa using ho5
  · refine bin_inc (by omega) (hK _ _ ⟨k + 1, g, rfl, by omega, .inr hL, e4, G3.trans E4, ?_⟩ (by simp [upTo, nthV, iOf]; omega))
    rw [hsn, if_pos ht, List.append_nil]; exact ho4
end Go.Proofs.Ytagejoclifgonaa
