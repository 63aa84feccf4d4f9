/- Counts of plans. -/
import Derived.Test.YtblgkpfnjlobjaaReady
import Derived.Test.YtblgkpfnjlobjaaCopy
import Derived.Test.YtblgkpfnjlobjaaCT
namespace Go.Proofs.Ytblgkpfnjlobjaa
open Go Go.V

/-- A table of counts. -/
structure Tbl (w : World) (b : Nat) (c : Nat → Nat) (n : Nat) : Prop where
  out : ∃ cur : Array Value, w.heap[b]? = some (.cells cur T.impl_countTable (0, 0)) ∧ cur.size = 11 ∧ (∀ i, i < 10 → cur[i]? = some (.int .i64 (c i : Nat))) ∧ cur[10]? = some (.int .i64 n)
theorem Tbl.ext {w w' : World} {b n : Nat} {c : Nat → Nat} (h : Tbl w b c n) (hc : Ext w w') : Tbl w' b c n := by
  obtain ⟨cur, h1, h2⟩ := h.out
  exact ⟨cur, hc.at h1, h2⟩
theorem Tbl.congr {w : World} {b n : Nat} {c d : Nat → Nat} (h : Tbl w b c n) (e : ∀ i, i < 10 → c i = d i) : Tbl w b d n := by
  obtain ⟨cur, h1, h2, h3, h4⟩ := h.out
  exact ⟨cur, h1, h2, fun i hi => by rw [← e i hi]; exact h3 i hi, h4⟩

theorem fill_tbl {n : Nat} : Instr.fill (fun i => ([(0, 10), (10, 1)] : List (Nat × Nat))[i]?) #[.int .i64 0, .int .i64 0, .int .i64 0, .int .i64 0, .int .i64 0, .int .i64 0, .int .i64 0, .int .i64 0, .int .i64 0, .int .i64 0, .int .i64 0] [(1, .int .i64 n)] =
    some #[.int .i64 0, .int .i64 0, .int .i64 0, .int .i64 0, .int .i64 0, .int .i64 0, .int .i64 0, .int .i64 0, .int .i64 0, .int .i64 0, .int .i64 n] := by
  simp [Instr.fill, Value.cells]

theorem countTableOf_ok {w : World} {v : Value} {p : List Nd} (hp : PlanV w v p) (hok : PlanOk p) :
    Calls Try.prog N.impl_countTableOf #[v] w (Ret fun r w' => Ext w w' ∧ ∃ b, r = .pointer (some ⟨b, 0, none⟩) ∧ Tbl w' b (cnt p) p.length) := by
  refine ret_k fun R hR => c_impl_countTableOf _ _ _ ?_
  have hlen : ∀ K, LenV v K = K (.int .i64 p.length) := fun K => hp.len
  have h10 := hok.len
  simp only [hlen, go_sem]
  refine ⟨_, fill_tbl, fun w1 hn1 => ?_⟩
  have z1 := hn1.size
  simp only [go_sem]
  refine loopV (fun s w' => ∃ m : Nat, s = [.int .i64 m] ∧ m ≤ p.length ∧ Ext w w' ∧ w.heap.size < w'.heap.size ∧ Tbl w' w.heap.size (fun u => (sel m fun j => (j : Int) ∈ fr p u).length) p.length) (upTo p.length 0)
    ⟨0, rfl, by omega, hn1.ext, by omega, _, hn1.here, rfl, fun i hi => ?_, rfl⟩ ?_
  · simp only [Value.cells, sel]
    match i, hi with
    | 0, _ => rfl
    | 1, _ => rfl
    | 2, _ => rfl
    | 3, _ => rfl
    | 4, _ => rfl
    | 5, _ => rfl
    | 6, _ => rfl
    | 7, _ => rfl
    | 8, _ => rfl
    | 9, _ => rfl
  rintro s z w2 K ⟨m, rfl, hm, E2, z2, ht2⟩ hK
  simp only [go_sem]
  refine ⟨fun h => ?_, fun h => ?_⟩
  · have hm : m < p.length := by omega
    refine callV_of (planUses_ok (hp.ext E2) m) rfl fun u w3 ⟨E3, f3⟩ => ?_
    rw [if_pos hok] at f3
    have e3 := E2.trans E3
    have z3 := E3.size
    obtain ⟨ua, uc, rfl, huc, hucell⟩ := f3.ints.out
    have hul : (usesL p m).length ≤ 10 := Nat.le_trans sel_len h10
    simp only [go_sem]
    refine loopV (fun s w' => ∃ k : Nat, s = [.int .i64 k] ∧ k ≤ (usesL p m).length ∧ Chg (· = w.heap.size) w3 w' ∧ w'.heap.size = w3.heap.size ∧ Tbl w' w.heap.size (fun u => (sel m fun j => (j : Int) ∈ fr p u).length + if (u : Int) ∈ (usesL p m).take k then 1 else 0) p.length) (upTo (usesL p m).length 0)
      ⟨0, rfl, by omega, Chg.refl _ _, rfl, (ht2.ext E3).congr fun i _ => by simp⟩ ?_
    rintro s z w4 K' ⟨k, rfl, hk, C4, z4, ht4⟩ hK'
    have hcell4 : Cells w4 ua (ints (usesL p m)) := by
      obtain ⟨a', c', hv', _, hr'⟩ := f3.out
      cases hv'
      intro i u hi
      have hne : usesL p m ≠ [] := by intro h; rw [h] at hi; simp [ints] at hi
      obtain ⟨b, off, cur, ha, hb, hcur, hsz, hx⟩ := hr' hne
      obtain ⟨b', off', ha', hc'⟩ := hucell i u hi
      rw [ha] at ha'
      cases ha'
      have hB : w2.heap.size ≤ b := hb
      exact ⟨b, off, ha, cell_keep C4 hc' (by omega)⟩
    simp only [go_sem]
    refine ⟨fun h => ?_, fun h => ?_⟩
    · have hk : k < (usesL p m).length := by omega
      refine idxLoad hcell4 rfl hk ?_
      obtain ⟨u, hu, hmu, he⟩ := mem_usesL.1 (List.getElem_mem hk)
      rw [he]
      have hnew : (u : Int) ∉ (usesL p m).take k := by rw [← he]; exact nodup_take sel_nodup hk
      obtain ⟨cur, c1, c2, c3, c4⟩ := ht4.out
      refine draw_none fun w5 hs5 => ?_
      have c1' := hs5.at c1
      refine ⟨by omega, by omega, ?_⟩
      simp only [addr_add, Int.toNat_natCast, Nat.mul_one, Nat.zero_add]
      refine loadS2 c1' id (c3 u (by omega)) ?_
      rw [if_neg hnew, Nat.add_zero]
      have hs := @sel_len m fun j => (j : Int) ∈ fr p u
      refine bin_inc (by omega) ?_
      refine ⟨by omega, by omega, ?_⟩
      simp only [addr_add, Int.toNat_natCast, Nat.mul_one, Nat.zero_add]
      refine store_at c1' rfl rfl (by omega) fun w6 hp6 => ?_
      refine bin_inc (by omega) (hK' _ _ ⟨k + 1, rfl, by omega, (C4.then hs5.ext).andThen hp6.chg, by have := hp6.size; have := hs5.size; omega, _, hp6.here, by simp [c2], fun i hi => ?_, by rw [Array.getElem?_setIfInBounds_ne (by omega)]; exact c4⟩ (by simp [upTo, nthV, iOf]; omega))
      rw [take_snoc hk, he]
      by_cases e : i = u
      · subst e
        rw [Array.getElem?_setIfInBounds_self_of_lt (by omega), if_pos (by simp)]
      · rw [Array.getElem?_setIfInBounds_ne (by omega), c3 i hi]
        congr 3
        by_cases hc : (i : Int) ∈ (usesL p m).take k
        · rw [if_pos hc, if_pos (by simp [hc])]
        · rw [if_neg hc, if_neg (by simp [hc]; omega)]
    · rw [List.take_of_length_le (by omega)] at ht4
      refine bin_inc (by omega) (hK _ _ ⟨m + 1, rfl, by omega, Chg.ext (e3.then C4) fun j hj e => by omega, by omega, ht4.congr fun i hi => ?_⟩ (by simp [upTo, nthV, iOf]; omega))
      by_cases hc : (m : Int) ∈ fr p i
      · have hi' := hok.fr_lt hc
        rw [if_pos (mem_usesL_nat.2 ⟨hi'.2.2, hc⟩), sel_yes hc]; simp
      · rw [if_neg fun h => hc (mem_usesL_nat.1 h).2, sel_no hc]; rfl
  · have hm : m = p.length := by omega
    subst hm
    exact hR _ _ ⟨E2, _, rfl, ht2⟩

theorem sliceA_hi {n k b : Nat} {K : Value → Prop} (hn : 0 < n) (hk : k ≤ n) (hK : K (.slice (some ⟨b, 0, none⟩) k n)) : SliceAV n 1 (.pointer (some ⟨b, 0, none⟩)) none (some (.int .i64 k)) K := by
  refine ⟨by omega, by omega, by omega, ?_⟩
  have e : (if n = 0 then (⟨b, 0, none⟩ : Addr) else Addr.add ⟨b, 0, none⟩ (0 * 1)) = ⟨b, 0, none⟩ := by rw [if_neg (by omega)]; simp [addr_add]
  simp only [Int.toNat_natCast, Nat.sub_zero]
  rw [e]; exact hK

theorem countTable_list_ok {w : World} {b n : Nat} {c : Nat → Nat} (h : Tbl w b c n) (hn : n ≤ 10) :
    Calls Try.prog N.impl_countTable_list #[.pointer (some ⟨b, 0, none⟩)] w (Ret (NewInts w ((List.range n).map fun i => (c i : Int)))) := by
  refine ret_k fun R hR => c_impl_countTable_list _ _ _ ?_
  refine draw_none fun w1 hs1 => ?_
  obtain ⟨cur, h1, h2, h3, h4⟩ := (h.ext hs1.ext).out
  simp only [go_sem]
  refine loadS2 (v := .int .i64 n) h1 id h4 ?_
  refine sliceA_hi (n := 10) (by omega) hn ?_
  have hi : Ints w1 (.slice (some ⟨b, 0, none⟩) n 10) ((List.range n).map fun i => (c i : Int)) := by
    refine ⟨some ⟨b, 0, none⟩, 10, by simp, by simp; omega, fun i u hi => ⟨b, 0, rfl, ?_⟩⟩
    simp only [ints, List.map_map, List.getElem?_map, Option.map_eq_some_iff] at hi
    obtain ⟨j, hj, rfl⟩ := hi
    obtain ⟨hlt, rfl⟩ := List.getElem?_eq_some_iff.1 hj
    simp at hlt
    rw [Nat.zero_add, cell_of_row w1 b i cur _ (0, 0) h1]
    simpa using h3 i (by omega)
  refine callV_of (copyInts_ok hi (by simp; omega)) rfl fun u w2 ⟨E2, f2⟩ => ⟨E2, hR _ _ ⟨hs1.ext.trans E2, f2.mono fun k _ hk => ?_⟩⟩
  unfold Since at hk ⊢
  rw [← hs1.size]; exact hk

theorem implCountsOf_ok {w : World} {v : Value} {p : List Nd} (hp : PlanV w v p) : Calls Try.prog N.impl_CountsOf #[v] w (Ret (NewInts w (if PlanOk p then cntL p else []))) := by
  refine ret_k fun R hR => c_impl_CountsOf _ _ _ ?_
  refine callV_of (implPlanValid_ok hp) rfl ?_
  rintro _ w1 ⟨E1, rfl⟩
  simp only [go_sem]
  refine ⟨fun hno => hR _ _ ⟨E1, by rw [if_neg hno]; exact FInts.nil⟩, fun hok => ?_⟩
  rw [if_pos hok] at hR
  refine callV_of (countTableOf_ok (hp.ext E1) hok) rfl ?_
  rintro _ w2 ⟨E2, b, rfl, ht⟩
  refine callV_of (countTable_list_ok ht hok.len) rfl fun u w3 ⟨E3, f3⟩ => hR _ _ ⟨(E1.trans E2).trans E3, f3.mono fun k _ hk => ?_⟩
  have := (E1.trans E2).size
  unfold Since at hk ⊢; omega

theorem l11Counts_ok {w : World} {v : Value} {p : List Nd} (hp : PlanV w v p) : Calls Try.prog N.spec_l11Counts #[v] w (Ret (NewInts w ((List.range p.length).map fun k => (firsts1 [] (fr p k) : Int)))) := by
  refine ret_k fun R hR => c_spec_l11Counts _ _ _ ?_
  have hlen : ∀ K, LenV v K = K (.int .i64 p.length) := fun K => hp.len
  have hsm := hp.small
  refine ⟨_, rfl, fun w1 hn1 => ?_⟩
  simp only [hlen, go_sem]
  refine loopV (fun s w' => ∃ (k : Nat) (u : Value), s = [u, .int .i64 k] ∧ k ≤ p.length ∧ Ext w w' ∧ Own w' w.heap.size T.int 1 u k (ints ((List.range k).map fun k => (firsts1 [] (fr p k) : Int)))) (upTo p.length 1)
    ⟨0, _, rfl, by omega, hn1.ext, Own.empty hn1 (Nat.le_refl _)⟩ ?_
  rintro s z w2 K ⟨k, u, rfl, hk, E2, ho2⟩ hK
  simp only [go_sem]
  refine ⟨fun h => ?_, fun h => ?_⟩
  · have hk : k < p.length := by omega
    refine loopV (fun s w' => ∃ j : Nat, s = [.int .i64 (firsts1 [] ((fr p k).take j) : Nat), .int .i64 j] ∧ j ≤ (fr p k).length ∧ Ext w2 w') (upTo (fr p k).length 1) ⟨0, by simp [firsts1], by omega, Ext.refl _⟩ ?_
    rintro s z w3 K' ⟨j, rfl, hj, E3⟩ hK'
    have e3 := E2.trans E3
    have hsml := hp.sml hk
    have hfl := hsml.1
    rw [← fr_get hk] at hfl
    simp only [go_sem]
    refine (hp.ext e3).idx hk fun b o fv rv h0 h1 h2 hf hr hs => ?_
    rw [← fr_get hk] at hf
    simp only [go_sem]
    refine load_cell h1 ?_
    rw [ints_len hf]
    simp only [go_sem]
    have hfle : firsts1 [] ((fr p k).take j) ≤ j := by
      have : ∀ (xs pre : List Int), firsts1 pre xs ≤ xs.length := by
        intro xs
        induction xs with
        | nil => intro pre; simp [firsts1]
        | cons x xs ih => intro pre; have := ih (pre ++ [x]); simp only [firsts1, List.length_cons]; split <;> omega
      have := this ((fr p k).take j) []
      rw [List.length_take] at this; omega
    refine ⟨fun h => ?_, fun h => ?_⟩
    · have hj : j < (fr p k).length := by omega
      refine draw_none fun w4 hs4 => ?_
      have e4 := e3.trans hs4.ext
      refine (hp.ext e4).idx hk fun b o fv rv h0 h1 h2 hf hr hs => ?_
      rw [← fr_get hk] at hf
      obtain ⟨fa, fc, rfl, hfc, hfcell⟩ := hf.out
      simp only [go_sem]
      refine loadS_cell h1 id (sliceHi (k := j) (by omega) ?_)
      refine (hp.ext e4).idx hk fun b o fv rv h0 h1 h2 hf hr hs => ?_
      rw [← fr_get hk] at hf
      obtain ⟨fa', fc', rfl, hfc', hfcell'⟩ := hf.out
      simp only [go_sem]
      refine loadS_cell h1 id ?_
      refine idxLoadS hfcell' rfl hj (fun _ _ _ => id) ?_
      refine callV_of (l3Has_ok (xs := (fr p k).take j) (by simpa [ints] using Cells.take hfcell j) (by rw [List.length_take]; omega) (by omega) _) rfl ?_
      rintro _ w5 ⟨E5, rfl⟩
      refine ⟨E5, ?_⟩
      have hsn := firsts1_snoc ((fr p k).take j) [] (fr p k)[j]
      rw [← take_snoc hj, List.nil_append] at hsn
      simp only [go_sem]
      refine ⟨fun hnew => ?_, fun hold => ?_⟩
      · rw [if_neg hnew] at hsn
        refine bin_inc (by omega) (bin_inc (by omega) (hK' _ _ ⟨j + 1, by rw [hsn], by omega, (E3.trans hs4.ext).trans E5⟩ (by simp [upTo, nthV, iOf]; omega)))
      · rw [if_pos (by simpa using hold)] at hsn
        refine bin_inc (by omega) (hK' _ _ ⟨j + 1, by simp [hsn], by omega, (E3.trans hs4.ext).trans E5⟩ (by simp [upTo, nthV, iOf]; omega))
    · rw [List.take_of_length_le (by omega)]
      have ho3 := Own.ext ho2 E3
      have hln := own_len ho3
      rw [hln] at ho3
      refine app1_int sl_int el_int ho3 (by simp; omega) e3.size fun v' w4 ho4 C4 => ?_
      rw [← hln] at ho4
      refine bin_inc (by omega) (hK _ _ ⟨k + 1, v', rfl, by omega, chg_own e3 ho3 C4 (Nat.le_refl _), ?_⟩ (by simp [upTo, nthV, iOf]; omega))
      rw [List.range_succ, List.map_append]
      exact ho4
  · have hk : k = p.length := by omega
    subst hk
    exact hR _ _ ⟨E2, (Own.fints ho2).mono fun _ _ h => h⟩

theorem firsts_cnt {p : List Nd} (hok : PlanOk p) : ((List.range p.length).map fun k => (firsts1 [] (fr p k) : Int)) = cntL p := by
  unfold cntL
  exact List.map_congr_left fun k _ => by rw [cnt_firsts hok]

theorem cnt_le {p : List Nd} (k : Nat) : cnt p k ≤ p.length := sel_len
theorem cntO_len {p : List Nd} : (if PlanOk p then cntL p else []).length ≤ p.length := by
  split
  · rw [cntL_len]; exact Nat.le_refl _
  · simp
end Go.Proofs.Ytblgkpfnjlobjaa
