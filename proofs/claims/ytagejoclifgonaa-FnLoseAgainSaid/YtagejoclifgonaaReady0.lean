/- What is ready; orders. -/
import Derived.Test.YtagejoclifgonaaUses
namespace Go.Proofs.Ytagejoclifgonaa
open Go Go.V

theorem l3HasI {w : World} {v : Value} {xs : List Int} (hx : Ints w v xs) (hl : xs.length < 9223372036854775807) (y : Int) :
    Calls Try.prog N.spec_l3Has #[v, .int .i64 y] w (Ret fun r w' => Ext w w' ∧ r = .bool (decide (y ∈ xs))) := by
  obtain ⟨a, c, rfl, _, h⟩ := hx.out
  exact l3Has_ok h rfl hl y

theorem hasInt_ok {w : World} {v : Value} {xs : List Int} (hx : Ints w v xs) (hl : xs.length < 9223372036854775807) (y : Int) :
    Calls Try.prog N.laws_hasInt #[v, .int .i64 y] w (Ret fun r w' => Ext w w' ∧ r = .bool (decide (y ∈ xs))) := by
  obtain ⟨a, c, rfl, _, hx⟩ := hx.out
  refine ret_k fun R hR => c_laws_hasInt _ _ _ _ ?_
  refine loopV (fun s w' => ∃ k : Nat, s = [.int .i64 k] ∧ k ≤ xs.length ∧ w' = w ∧ y ∉ xs.take k) (upTo xs.length 0) ⟨0, rfl, by omega, rfl, by simp⟩ ?_
  rintro s z w' K ⟨k, rfl, hk, rfl, hn⟩ hK
  simp only [go_sem]
  refine ⟨fun h => ?_, fun h => ?_⟩
  · have hk : k < xs.length := by omega
    refine idxLoad hx rfl hk ?_
    simp only [go_sem]
    refine ⟨fun h => hR _ _ ⟨Ext.refl _, ?_⟩, fun h => ?_⟩
    · simp [← h]
    · refine bin_inc (by omega) (hK _ _ ⟨k + 1, rfl, by omega, rfl, ?_⟩ (by simp [upTo, nthV, iOf]; omega))
      rw [take_snoc hk, List.mem_append, List.mem_singleton]
      rintro (h' | h')
      · exact hn h'
      · exact h h'.symm
  · rw [List.take_of_length_le (by omega)] at hn
    exact hR _ _ ⟨Ext.refl _, by simp [hn]⟩

theorem l5All_ok {w : World} {u v : Value} {xs ys : List Int} (hx : Ints w u xs) (hy : Ints w v ys) (hl : xs.length < 9223372036854775807) (hm : ys.length < 9223372036854775807) :
    Calls Try.prog N.spec_l5All #[u, v] w (Ret fun r w' => Ext w w' ∧ r = .bool (decide (∀ y ∈ ys, y ∈ xs))) := by
  obtain ⟨a, c, rfl, _, hyc⟩ := hy.out
  refine ret_k fun R hR => c_spec_l5All _ _ _ _ ?_
  refine loopV (fun s w' => ∃ k : Nat, s = [.int .i64 k] ∧ k ≤ ys.length ∧ Ext w w' ∧ ∀ y ∈ ys.take k, y ∈ xs) (upTo ys.length 0) ⟨0, rfl, by omega, Ext.refl _, by simp⟩ ?_
  rintro s z w1 K ⟨k, rfl, hk, E1, hin⟩ hK
  simp only [go_sem]
  refine ⟨fun h => ?_, fun h => ?_⟩
  · have hk : k < ys.length := by omega
    refine idxLoad (hyc.ext E1) rfl hk ?_
    refine callV_of (l3HasI (hx.ext E1) hl _) rfl ?_
    rintro _ w2 ⟨E2, rfl⟩
    simp only [go_sem]
    refine ⟨fun h => hR _ _ ⟨E1.trans E2, by rw [decide_eq_false fun hd => h (hd _ (List.getElem_mem hk))]⟩, fun h => ?_⟩
    refine bin_inc (by omega) (hK _ _ ⟨k + 1, rfl, by omega, E1.trans E2, fun y hy => ?_⟩ (by simp [upTo, nthV, iOf]; omega))
    rw [take_snoc hk, List.mem_append, List.mem_singleton] at hy
    exact hy.elim (hin y) fun e => by rw [e]; exact h
  · rw [List.take_of_length_le (by omega)] at hin
    exact hR _ _ ⟨E1, by rw [decide_eq_true hin]⟩

theorem specReadyOf_ok {w : World} {v dv : Value} {p : List Nd} {done : List Int} (hp : PlanV w v p) (hd : Ints w dv done) (hl : done.length ≤ 1099511627776) :
    Calls Try.prog N.spec_ReadyOf #[v, dv] w (Ret (NewInts w (if PlanOk p then readyL p done else []))) := by
  refine ret_k fun R hR => c_spec_ReadyOf _ _ _ _ ?_
  have hlen : ∀ K, LenV v K = K (.int .i64 p.length) := fun K => hp.len
  have hsm := hp.small
  refine ⟨_, rfl, fun w1 hn1 => ?_⟩
  simp only [hlen, go_sem]
  refine loopV (fun s w' => ∃ (k : Nat) (u : Value), s = [u, .int .i64 k] ∧ k ≤ p.length ∧ (k = 0 ∨ PlanOk p) ∧ Ext w w' ∧ Own w' w.heap.size T.int 1 u (sel k fun i => (i : Int) ∉ done ∧ ∀ f ∈ fr p i, f ∈ done).length (ints (sel k fun i => (i : Int) ∉ done ∧ ∀ f ∈ fr p i, f ∈ done))) (upTo p.length 1)
    ⟨0, _, rfl, by omega, .inl rfl, hn1.ext, Own.empty hn1 (Nat.le_refl _)⟩ ?_
  rintro s z w2 K ⟨k, u, rfl, hk, hok, E2, ho⟩ hK
  have hp2 := hp.ext E2
  have hd2 := hd.ext E2
  have hsl := @sel_len k fun i => (i : Int) ∉ done ∧ ∀ f ∈ fr p i, f ∈ done
  simp only [go_sem]
  refine ⟨fun h => ?_, fun h => ?_⟩
  · have hk : k < p.length := by omega
    refine callV_of (specPlanValid_ok hp2) rfl ?_
    rintro _ w3 ⟨E3, rfl⟩
    have e3 := E2.trans E3
    simp only [go_sem]
    refine ⟨fun hpok => ?_, fun hno => ?_⟩
    · refine callV_of (l3HasI (hd2.ext E3) (by omega) k) rfl ?_
      rintro _ w4 ⟨E4, rfl⟩
      have e4 := e3.trans E4
      have ho4 := (Own.ext (Own.ext ho E3) E4)
      simp only [go_sem]
      refine ⟨fun hnd => ?_, fun hdn => ?_⟩
      · refine (hp.ext e4).idx hk fun b o fv rv h0 h1 h2 hf hr hs => ?_
        simp only [go_sem]
        refine load_cell h1 ?_
        refine callV_of (l5All_ok (hd.ext e4) hf (by omega) (by have := hs.1; omega)) rfl ?_
        rintro _ w5 ⟨E5, rfl⟩
        have e5 := e4.trans E5
        have ho5 := Own.ext ho4 E5
        rw [← fr_get hk]
        simp only [go_sem]
        refine ⟨fun hall => ?_, fun hnall => ?_⟩
        · refine app1_int sl_int el_int ho5 (by omega) e5.size fun v' w6 ho6 C6 => ?_
          refine bin_inc (by omega) (hK _ _ ⟨k + 1, v', rfl, by omega, .inr hpok, chg_own e5 ho5 C6 (Nat.le_refl _), ?_⟩ (by simp [upTo, nthV, iOf]; omega))
          rw [sel_yes ⟨hnd, hall⟩]
          simpa using ho6
        · refine bin_inc (by omega) (hK _ _ ⟨k + 1, u, rfl, by omega, .inr hpok, e5, ?_⟩ (by simp [upTo, nthV, iOf]; omega))
          rw [sel_no fun hc => hnall hc.2]; exact ho5
      · refine bin_inc (by omega) (hK _ _ ⟨k + 1, u, rfl, by omega, .inr hpok, e4, ?_⟩ (by simp [upTo, nthV, iOf]; omega))
        rw [sel_no fun hc => hc.1 hdn]; exact ho4
    · have h0 : k = 0 := hok.resolve_right hno
      subst h0
      refine hR _ _ ⟨e3, ?_⟩
      rw [if_neg hno]
      exact (Own.fints (Own.ext ho E3)).mono fun b _ hb => hb
  · have hk : k = p.length := by omega
    subst hk
    refine hR _ _ ⟨E2, ?_⟩
    have hpok : PlanOk p := hok.elim (fun h0 => ⟨by omega, fun i hi => by omega⟩) id
    rw [if_pos hpok]
    exact (Own.fints ho).mono fun b _ hb => hb

/-! ### Ten marks -/
/-- Block b holds ten marks: place i is marked where c holds of i. -/
structure Bits (w : World) (b : Nat) (c : Nat → Prop) : Prop where
  out : ∃ cur : Array Value, w.heap[b]? = some (.cells cur T.a10_bool (0, 0)) ∧ cur.size = 10 ∧ ∀ i, i < 10 → ∃ m : Bool, cur[i]? = some (.bool m) ∧ (m = true ↔ c i)
theorem Bits.keep {w w' : World} {b : Nat} {c : Nat → Prop} (h : Bits w b c) {S : Nat → Prop} (hc : Chg S w w') (hs : ¬ S b) : Bits w' b c := by
  obtain ⟨cur, h1, h2⟩ := h.out
  exact ⟨cur, hc.at h1 hs, h2⟩
theorem Bits.ext {w w' : World} {b : Nat} {c : Nat → Prop} (h : Bits w b c) (hc : Ext w w') : Bits w' b c := h.keep hc id
theorem Bits.new {w : World} {K : Value → World → Prop} (hK : ∀ w', Ext w w' → Bits w' w.heap.size (fun _ => False) → w'.heap.size = w.heap.size + 1 → K (.pointer (some ⟨w.heap.size, 0, none⟩)) w') :
    BoxV T.a10_bool (.agg #[.bool false, .bool false, .bool false, .bool false, .bool false, .bool false, .bool false, .bool false, .bool false, .bool false]) w K := by
  intro w' hn
  refine hK w' hn.ext ⟨_, hn.here, rfl, fun i hi => ⟨false, ?_, by simp⟩⟩ hn.size
  simp only [Value.cells]
  match i, hi with
  | 0, _ => rfl
  | 1, _ => rfl
  | 2, _ => rfl
  | 3, _ => rfl
  | 4, _ => rfl
  | 5, _ => rfl
  | 6, _ => rfl
  | 7, _ => rfl
  | 8, _ => rfl
  | 9, _ => rfl
theorem Bits.get {w : World} {b i : Nat} {c : Nat → Prop} (h : Bits w b c) (hi : i < 10) {K : Value → Prop} (hK : ∀ m : Bool, (m = true ↔ c i) → K (.bool m)) :
    IdxAV 10 1 (.pointer (some ⟨b, 0, none⟩)) (.int .i64 i) fun t => LoadV false 1 t w K := by
  obtain ⟨cur, h1, h2, h3⟩ := h.out
  obtain ⟨m, hm, hc⟩ := h3 i hi
  refine ⟨by omega, by omega, ?_⟩
  simp only [addr_add, Int.toNat_natCast, Nat.mul_one, Nat.zero_add]
  exact load2 h1 hm (hK m hc)
theorem Bits.set {w : World} {b i : Nat} {c : Nat → Prop} (h : Bits w b c) (hi : i < 10) {K : World → Prop} (hK : ∀ w', Chg (· = b) w w' → w'.heap.size = w.heap.size → Bits w' b (fun j => c j ∨ j = i) → K w') :
    IdxAV 10 1 (.pointer (some ⟨b, 0, none⟩)) (.int .i64 i) fun t => StoreV 1 t (.bool true) w K := by
  obtain ⟨cur, h1, h2, h3⟩ := h.out
  refine ⟨by omega, by omega, ?_⟩
  simp only [addr_add, Int.toNat_natCast, Nat.mul_one, Nat.zero_add]
  refine store_at h1 rfl rfl (by omega) fun w' hp => hK w' hp.chg hp.size ⟨_, hp.here, by simp [h2], fun j hj => ?_⟩
  by_cases e : j = i
  · subst e
    exact ⟨true, by simp [h2, hj], by simp⟩
  · obtain ⟨m, hm, hc⟩ := h3 j hj
    exact ⟨m, by rw [Array.getElem?_setIfInBounds_ne (by omega)]; exact hm, by rw [hc]; simp [e]⟩

theorem allIn_ok {w : World} {v : Value} {b : Nat} {c : Nat → Prop} {xs : List Int} (hx : Ints w v xs) (hb : Bits w b c) (hr : ∀ x ∈ xs, 0 ≤ x ∧ x < 10) (hl : xs.length < 9223372036854775807) :
    Calls Try.prog N.impl_allIn #[v, .pointer (some ⟨b, 0, none⟩)] w (Ret fun r w' => w' = w ∧ ∃ m : Bool, r = .bool m ∧ (m = true ↔ ∀ x ∈ xs, c x.toNat)) := by
  obtain ⟨a, cp, rfl, _, hx⟩ := hx.out
  refine ret_k fun R hR => c_impl_allIn _ _ _ _ ?_
  simp only [go_sem]
  refine loopV (fun s w' => ∃ k : Nat, s = [.int .i64 k] ∧ k ≤ xs.length ∧ w' = w ∧ ∀ x ∈ xs.take k, c x.toNat) (upTo xs.length 0) ⟨0, rfl, by omega, rfl, by simp⟩ ?_
  rintro s z w' K ⟨k, rfl, hk, rfl, hn⟩ hK
  simp only [go_sem]
  refine ⟨fun h => ?_, fun h => ?_⟩
  · have hk : k < xs.length := by omega
    refine idxLoad hx rfl hk ?_
    have hxr := hr _ (List.getElem_mem hk)
    obtain ⟨i, hi⟩ : ∃ i : Nat, xs[k] = (i : Int) := ⟨xs[k].toNat, by omega⟩
    rw [hi]
    refine hb.get (by omega) fun m hm => ?_
    simp only [go_sem]
    refine ⟨fun h => hR _ _ ⟨rfl, false, rfl, by simp only [Bool.false_eq_true, false_iff]; intro hd; have := hd _ (List.getElem_mem hk); rw [hi, Int.toNat_natCast, ← hm, h] at this; cases this⟩, fun h => ?_⟩
    refine bin_inc (by omega) (hK _ _ ⟨k + 1, rfl, by omega, rfl, fun x hx => ?_⟩ (by simp [upTo, nthV, iOf]; omega))
    rw [take_snoc hk, List.mem_append, List.mem_singleton] at hx
    rcases hx with hx | hx
    · exact hn x hx
    · rw [hx, hi, Int.toNat_natCast]; exact hm.1 h
  · rw [List.take_of_length_le (by omega)] at hn
    exact hR _ _ ⟨rfl, true, rfl, by simp only [true_iff]; exact hn⟩

theorem orderBegins_ok {w : World} {v lv : Value} {p : List Nd} {l : List Int} (hp : PlanV w v p) (hok : PlanOk p) (hl : Ints w lv l) (hll : l.length ≤ 1099511627776) :
    Calls Try.prog N.impl_orderBegins #[v, lv] w (Ret fun r w' => Ext w w' ∧ r = .bool (decide (OrdOk p l))) := by
  refine ret_k fun R hR => c_impl_orderBegins _ _ _ _ ?_
  have h10 := hok.len
  obtain ⟨la, lc, rfl, hlc, hlc'⟩ := hl.out
  refine Bits.new fun w1 E1 hb1 hs1 => ?_
  simp only [go_sem]
  have no : ∀ w', Ext w w' → ¬ OrdOk p l → R (.bool false) w' := fun w' hE hn => hR _ _ ⟨hE, by rw [decide_eq_false hn]⟩
  refine loopV (fun s w' => ∃ k : Nat, s = [.int .i64 k] ∧ k ≤ l.length ∧ Ext w w' ∧ w.heap.size < w'.heap.size ∧ Bits w' w.heap.size (fun i => (i : Int) ∈ l.take k) ∧
      ∀ i (_ : i < k) (h : i < l.length), (0 ≤ l[i] ∧ l[i] < p.length) ∧ l[i] ∉ l.take i ∧ ∀ f ∈ fr p l[i].toNat, f ∈ l.take i) (upTo l.length 0) ⟨0, rfl, by omega, E1, by omega, by simpa using hb1, fun i hi => by omega⟩ ?_
  rintro s z w2 K ⟨k, rfl, hk, E2, hs2, hb2, hin⟩ hK
  simp only [go_sem]
  refine ⟨fun h => ?_, fun h => ?_⟩
  · have hk : k < l.length := by omega
    refine idxLoad (hlc'.ext E2) rfl hk ?_
    refine callV_of (isNode_ok (hp.ext E2) _) rfl ?_
    rintro _ w3 ⟨E3, rfl⟩
    have e3 := E2.trans E3
    have hb3 := hb2.ext E3
    simp only [go_sem]
    refine ⟨fun h => no _ e3 fun hd => h (hd k hk).1, fun hnode => ?_⟩
    obtain ⟨i, hi⟩ : ∃ i : Nat, l[k] = (i : Int) := ⟨l[k].toNat, by omega⟩
    rw [hi]
    refine hb3.get (by omega) fun m hm => ?_
    simp only [go_sem]
    refine ⟨fun h => no _ e3 fun hd => (hd k hk).2.1 (by rw [hi]; exact hm.1 h), fun hm0 => ?_⟩
    have hnew : (i : Int) ∉ l.take k := fun h' => by rw [hm.2 h'] at hm0; cases hm0
    have hip : i < p.length := by omega
    refine (hp.ext e3).idx hip fun b o fv rv h0 h1 h2 hf hr hs => ?_
    simp only [go_sem]
    refine load_cell h1 ?_
    refine callV_of (allIn_ok hf hb3 (fun x hx => by rw [← fr_get hip] at hx; have := hok.fr_lt hx; omega) (by have := hs.1; omega)) rfl ?_
    rintro _ w4 ⟨rfl, m2, rfl, hm2⟩
    have hall : m2 = true ↔ ∀ f ∈ fr p i, f ∈ l.take k := by
      rw [hm2, ← fr_get hip]
      refine ⟨fun h f hf => ?_, fun h f hf => ?_⟩
      · have := hok.fr_lt hf
        have h2 := h f hf
        rwa [show (f.toNat : Int) = f by omega] at h2
      · have := hok.fr_lt hf
        rw [show (f.toNat : Int) = f by omega]; exact h f hf
    simp only [go_sem]
    refine ⟨fun h => no _ e3 fun hd => by have := (hd k hk).2.2; rw [hi, Int.toNat_natCast, ← hall, h] at this; exact Bool.noConfusion this, fun hm2t => ?_⟩
    refine hb3.set (by omega) fun w5 C5 s5 hb5 => ?_
    refine bin_inc (by omega) (hK _ _ ⟨k + 1, rfl, by omega, Chg.ext (e3.then C5) fun j hj e => by omega, by have := E3.size; omega, ?_, fun j hj hjl => ?_⟩ (by simp [upTo, nthV, iOf]; omega))
    · have e : (fun j : Nat => (j : Int) ∈ l.take k ∨ j = i) = fun j : Nat => (j : Int) ∈ l.take (k + 1) := by
        funext j
        rw [take_snoc hk, List.mem_append, List.mem_singleton, hi]
        exact propext ⟨fun h => h.elim .inl fun h => .inr (by omega), fun h => h.elim .inl fun h => .inr (by omega)⟩
      rw [e] at hb5; exact hb5
    · by_cases e : j = k
      · subst e
        rw [hi]
        exact ⟨by omega, hnew, by rw [Int.toNat_natCast]; exact hall.1 (by simpa using hm2t)⟩
      · exact hin j (by omega) hjl
  · exact hR _ _ ⟨E2, by rw [decide_eq_true]; exact fun i hi => hin i (by omega) hi⟩
end Go.Proofs.Ytagejoclifgonaa
