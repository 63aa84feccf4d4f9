/- What is kept: the program's way with a stack, the reference's from the end. -/
import Derived.Test.YtmbfkhacejnnhaaNsList
namespace Go.Proofs.Ytmbfkhacejnnhaa
open Go Go.V

/-- How many of ten bits are not set. -/
noncomputable def unset (m : Nat) : Nat := (sel 10 fun i => m.testBit i = false).length
theorem unset_or {m i : Nat} (hi : i < 10) (h : m.testBit i = false) : unset (m ||| 2 ^ i) + 1 = unset m := by
  unfold unset
  have e : sel 10 (fun k => m.testBit k = false) = sel 10 fun k => (m ||| 2 ^ i).testBit k = false ∨ k = i := by
    refine sel_congr fun k _ => ?_
    rw [Nat.testBit_or, Nat.testBit_two_pow]
    by_cases e : k = i
    · subst e; simp [h]
    · have : ¬ i = k := fun h => e h.symm
      simp [e, this]
  rw [e, sel_add hi]
  rw [Nat.testBit_or, Nat.testBit_two_pow]; simp
def lenOf : Value → Nat | .slice _ n _ => n | _ => 0

theorem Own.pop {w : World} {lo : Nat} {a : Option Addr} {c n : Nat} {xs : List Int} {x : Int} (h : Own w lo T.int 1 (.slice a (n + 1) c) (n + 1) (ints (xs ++ [x]))) (hn : n = xs.length) : Own w lo T.int 1 (.slice a n c) n (ints xs) := by
  subst hn
  refine ⟨by simp [ints], ?_⟩
  rcases h.2 with ⟨_, h0⟩ | ⟨g, cap, cur, hv, hb, hg, hnc, hcm, hcs, htake⟩
  · simp at h0
  · simp only [Value.slice.injEq] at hv
    obtain ⟨rfl, _, rfl⟩ := hv
    refine .inr ⟨g, c, cur, rfl, hb, hg, by omega, hcm, hcs, ?_⟩
    have h1 : (cur.toList.take ((xs.length + 1) * 1)).take xs.length = (ints (xs ++ [x])).take xs.length := by rw [htake]
    rw [List.take_take, Nat.min_eq_left (by omega)] at h1
    rw [Nat.mul_one, h1]
    simp [ints]

noncomputable def keepO (p : List Nd) (l : List Int) : List Int := if KeepOk p l then keepL p l else []
theorem keepO_len (p : List Nd) (l : List Int) : (keepO p l).length ≤ p.length := by
  unfold keepO; split
  · exact sel_len
  · simp

/-- The state of the search: what is kept, and what is still on the stack. -/
structure Srch (p : List Nd) (l : List Int) (c : Nat → Prop) (st : List Int) : Prop where
  sound : ∀ j, c j → Rch p l j
  stk : ∀ x ∈ st, (0 ≤ x ∧ x < (p.length : Int)) ∧ Rch p l x.toNat
  need : ∀ j, c j → ∀ f ∈ fr p j, c f.toNat ∨ f ∈ st
  start : ∀ x ∈ l, c x.toNat ∨ x ∈ st

theorem Srch.done {p : List Nd} {l : List Int} {c : Nat → Prop} (h : Srch p l c []) (j : Nat) : c j ↔ Rch p l j := by
  refine ⟨h.sound j, fun hr => ?_⟩
  induction hr with
  | @start i hi => have := (h.start _ hi).resolve_right (by simp); simpa using this
  | @need i j _ hf ih => have := (h.need j ih _ hf).resolve_right (by simp); simpa using this
theorem Srch.push {p : List Nd} {l : List Int} {x : Int} {c : Nat → Prop} (h : Srch p l c []) (hx : 0 ≤ x ∧ x < (p.length : Int)) : Srch p (l ++ [x]) c [x] := by
  have hm : ∀ {j}, Rch p l j → Rch p (l ++ [x]) j := fun hr => hr.mono fun k hk => .start (by simp [hk])
  refine ⟨fun j hj => hm (h.sound j hj), fun y hy => ?_, fun j hj f hf => .inl ((h.need j hj f hf).resolve_right (by simp)), fun y hy => ?_⟩
  · simp at hy; subst hy
    refine ⟨hx, .start ?_⟩
    rw [show ((y.toNat : Nat) : Int) = y by omega]; simp
  · rcases List.mem_append.1 hy with hy | hy
    · exact .inl ((h.start y hy).resolve_right (by simp))
    · exact .inr hy
theorem Srch.skip {p : List Nd} {l st : List Int} {x : Int} {c : Nat → Prop} (h : Srch p l c (st ++ [x])) (hc : c x.toNat) : Srch p l c st := by
  refine ⟨h.sound, fun y hy => h.stk y (by simp [hy]), fun j hj f hf => ?_, fun y hy => ?_⟩
  · rcases h.need j hj f hf with h | h
    · exact .inl h
    · rcases List.mem_append.1 h with h | h
      · exact .inr h
      · simp at h; subst h; exact .inl hc
  · rcases h.start y hy with h | h
    · exact .inl h
    · rcases List.mem_append.1 h with h | h
      · exact .inr h
      · simp at h; subst h; exact .inl hc
theorem Srch.take {p : List Nd} (hp : PlanOk p) {l st : List Int} {i : Nat} {c : Nat → Prop} (h : Srch p l c (st ++ [(i : Int)])) : Srch p l (fun j => c j ∨ j = i) (st ++ fr p i) := by
  have hi := h.stk i (by simp)
  have hri : Rch p l i := by simpa using hi.2
  refine ⟨fun j hj => hj.elim (h.sound j) fun e => by rw [e]; exact hri, fun y hy => ?_, fun j hj f hf => ?_, fun y hy => ?_⟩
  · rcases List.mem_append.1 hy with hy | hy
    · exact h.stk y (by simp [hy])
    · have := hp.fr_lt hy
      refine ⟨by omega, .need hri ?_⟩
      rw [show ((y.toNat : Nat) : Int) = y by omega]; exact hy
  · rcases hj with hj | hj
    · rcases h.need j hj f hf with h | h
      · exact .inl (.inl h)
      · rcases List.mem_append.1 h with h | h
        · exact .inr (by simp [h])
        · simp at h; subst h; exact .inl (.inr (by simp))
    · subst hj; exact .inr (by simp [hf])
  · rcases h.start y hy with h | h
    · exact .inl (.inl h)
    · rcases List.mem_append.1 h with h | h
      · exact .inr (by simp [h])
      · simp at h; subst h; exact .inl (.inr (by simp))

theorem neededBy_ok {w : World} {v lv : Value} {p : List Nd} {l : List Int} (hp : PlanV w v p) (hok : PlanOk p) (hl : Ints w lv l) (hn : ∀ x ∈ l, 0 ≤ x ∧ x < (p.length : Int)) (hll : l.length ≤ 1099511627776) :
    Calls Try.prog N.impl_neededBy #[v, lv] w (Ret fun r w' => Ext w w' ∧ NSet r (Rch p l)) := by
  obtain ⟨la, lc, rfl, hlc, hlcell⟩ := hl.out
  refine ret_k fun R hR => c_impl_neededBy _ _ _ _ ?_
  have h10 := hok.len
  simp only [go_sem]
  refine loopV (fun s w' => ∃ (k : Nat) (m : Nat) (u : Value) (c : Nat → Prop), s = [.int .u16 m, u, .int .i64 k] ∧ k ≤ l.length ∧ Ext w w' ∧ Own w' w.heap.size T.int 1 u 0 (ints []) ∧ NSet (.int .u16 m) c ∧ Srch p (l.take k) c []) (upTo l.length 2)
    ⟨0, 0, _, _, rfl, by omega, Ext.refl _, own_nil, NSet.zero, ⟨fun _ h => h.elim, fun x hx => by simp at hx, fun _ h => h.elim, fun x hx => by simp at hx⟩⟩ ?_
  rintro s z w1 K ⟨k, m, u, c, rfl, hk, E1, ho1, hset, hs⟩ hK
  simp only [go_sem]
  refine ⟨fun h => ?_, fun h => ?_⟩
  · have hk : k < l.length := by omega
    refine idxLoad (hlcell.ext E1) rfl hk ?_
    refine app1_int (n := 0) (xs := []) sl_int el_int ho1 (by omega) E1.size fun v' w2 ho2 C2 => ?_
    have E2 := chg_own E1 ho1 C2 (Nat.le_refl _)
    have hs2 := hs.push (hn _ (List.getElem_mem hk))
    rw [← take_snoc hk] at hs2
    refine loopV (fun s w' => ∃ (m : Nat) (u : Value) (c : Nat → Prop) (st : List Int), s = [.int .u16 m, u] ∧ Ext w w' ∧ Own w' w.heap.size T.int 1 u st.length (ints st) ∧ st.length ≤ 1 + 2 * (10 - unset m) ∧ unset m ≤ 10 ∧ NSet (.int .u16 m) c ∧ Srch p (l.take (k + 1)) c st)
      (fun s _ => 3 * unset (iOf (nthV s 0)).toNat + lenOf (nthV s 1)) ⟨m, v', c, [l[k]], rfl, E2, by simpa using ho2, by simp, sel_len, hset, hs2⟩ ?_
    rintro s z w3 K' ⟨m, u, c, st, rfl, E3, ho3, hst, hun, hset, hs⟩ hK'
    have hun2 := hun
    obtain ⟨ua, uc, rfl, hucap, _, hucell⟩ := Own.cells ho3
    simp only [go_sem]
    refine ⟨fun hpos => ?_, fun hzero => ?_⟩
    · obtain ⟨st', x, rfl⟩ : ∃ st' x, st = st' ++ [x] := ⟨st.dropLast, st.getLast (List.ne_nil_of_length_pos (by omega)), (List.dropLast_concat_getLast (List.ne_nil_of_length_pos (by omega))).symm⟩
      have hx := hs.stk x (by simp)
      obtain ⟨i, rfl⟩ : ∃ i : Nat, x = (i : Int) := ⟨x.toNat, by omega⟩
      have el : ((st' ++ [(i : Int)]).length : Int) - 1 = (st'.length : Int) := by simp
      have el' : (st' ++ [(i : Int)]).length = st'.length + 1 := by simp
      rw [el'] at hst
      refine bin_sub ⟨by omega, by omega⟩ ?_
      rw [el]
      refine idxLoad hucell rfl (k := st'.length) (by simp) ?_
      have ex : (st' ++ [(i : Int)])[st'.length]'(by simp) = (i : Int) := by simp
      rw [ex]
      refine bin_sub ⟨by omega, by omega⟩ ?_
      rw [el]
      refine sliceHi (k := st'.length) (by omega) ?_
      rw [el'] at ho3
      have hpop := Own.pop ho3 rfl
      have hi : i < p.length := by omega
      refine callV_of (nsHas_ok hset (i := i) (by omega)) rfl ?_
      rintro _ w4 ⟨E4, b, rfl, hb⟩
      have hpop4 := Own.ext hpop E4
      have e4 := E3.trans E4
      simp only [go_sem]
      refine ⟨fun ht => hK' _ _ ⟨m, _, c, st', rfl, e4, hpop4, by omega, hun, hset, hs.skip (by simpa using hb.1 ht)⟩ (by simp [nthV, lenOf]), fun hf => ?_⟩
      refine callV_of (nsWith_ok hset (i := i) (by omega)) rfl ?_
      rintro _ w5 ⟨E5, m', hm', rfl, hset5⟩
      cases hm'
      have hnb : m.testBit i = false := by
        obtain ⟨m0, e0, _, h0⟩ := hset.out
        cases e0
        refine Bool.eq_false_iff.2 fun ht => ?_
        rw [hb.2 ((h0 i (by omega)).1 ht)] at hf; cases hf
      have hor := unset_or (by omega) hnb
      have e5 := e4.trans E5
      refine (hp.ext e5).idx hi fun b' o fv rv h0 h1 h2 hfv hrv hsml => ?_
      rw [← fr_get hi] at hfv
      simp only [go_sem]
      refine load_cell h1 ?_
      obtain ⟨fa, fc, rfl, _, hfcell⟩ := hfv.out
      have hfl := hok.fr_len i
      refine appendV_src sl_int el_int (Own.ext hpop4 E5) hfcell (by simp [ints]) ints_one (by omega) (by omega) e5.size fun v6 w6 ho6 C6 => ?_
      have ho6' : Own w6 w.heap.size T.int 1 v6 (st' ++ fr p i).length (ints (st' ++ fr p i)) := by simpa [ints] using ho6
      refine hK' _ _ ⟨m ||| 2 ^ i, v6, _, st' ++ fr p i, rfl, chg_own e5 (Own.ext hpop4 E5) C6 (Nat.le_refl _), ho6', by rw [List.length_append]; omega, by omega, hset5, hs.take hok⟩ ?_
      obtain ⟨a6, c6, rfl, _⟩ := Own.cells ho6'
      simp [nthV, iOf, lenOf]; omega
    · have hst0 : st = [] := List.eq_nil_of_length_eq_zero (by omega)
      subst hst0
      refine bin_inc (by omega) (hK _ _ ⟨k + 1, m, _, c, rfl, by omega, E3, ho3, hset, hs⟩ (by simp [upTo, nthV, iOf]; omega))
  · have hk : k = l.length := by omega
    subst hk
    rw [List.take_length] at hs
    exact hR _ _ ⟨E1, hset.congr fun i _ => hs.done i⟩

theorem implCutKeep_ok {w : World} {v lv : Value} {p : List Nd} {l : List Int} (hp : PlanV w v p) (hl : Ints w lv l) (hll : l.length ≤ 1099511627776) :
    Calls Try.prog N.impl_CutKeep #[v, lv] w (Ret fun r w' => ∃ u, r = .tuple #[u, .bool (decide (KeepOk p l))] ∧ Ext w w' ∧ FInts w' (Since w) u (keepO p l)) := by
  refine ret_k fun R hR => c_impl_CutKeep _ _ _ _ ?_
  have no : ∀ w', Ext w w' → ¬ KeepOk p l → R (.tuple #[.slice none 0 0, .bool false]) w' := fun w' hE hn => hR _ _ ⟨_, by rw [decide_eq_false hn], hE, by unfold keepO; rw [if_neg hn]; exact FInts.nil⟩
  refine callV_of (implPlanValid_ok hp) rfl ?_
  rintro _ w1 ⟨E1, rfl⟩
  simp only [go_sem]
  refine ⟨fun h => no _ E1 fun hd => h hd.1, fun hok => ?_⟩
  refine callV_of (allNodes_ok (hp.ext E1) (hl.ext E1) hll) rfl ?_
  rintro _ w2 ⟨E2, rfl⟩
  have e2 := E1.trans E2
  simp only [go_sem]
  refine ⟨fun h => no _ e2 fun hd => h hd.2, fun hn => ?_⟩
  have hK : KeepOk p l := ⟨hok, hn⟩
  refine callV_of (neededBy_ok (hp.ext e2) hok (hl.ext e2) hn hll) rfl ?_
  rintro _ w3 ⟨E3, hset⟩
  refine callV_of (nsList_ok hset) rfl fun u w4 ⟨E4, f4⟩ => ?_
  refine hR _ _ ⟨u, by rw [decide_eq_true hK], (e2.trans E3).trans E4, ?_⟩
  have e : keepO p l = sel 10 (Rch p l) := by
    unfold keepO; rw [if_pos hK]
    exact (sel_cut hok.len fun k hk hr => by have := hr.lt hok hn; omega).symm
  rw [e]
  exact f4.mono fun k _ hk => by have := (e2.trans E3).size; unfold Since at hk ⊢; omega

/-! ### The reference -/
/-- A slice of marks in a block of its own. -/
structure Flags (w : World) (b n : Nat) (c : Nat → Prop) : Prop where
  out : ∃ cur : Array Value, w.heap[b]? = some (.cells cur T.bool (0, 0)) ∧ cur.size = n ∧ ∀ i, i < n → ∃ m : Bool, cur[i]? = some (.bool m) ∧ (m = true ↔ c i)
theorem Flags.ext {w w' : World} {b n : Nat} {c : Nat → Prop} (h : Flags w b n c) (hc : Ext w w') : Flags w' b n c := by
  obtain ⟨cur, h1, h2⟩ := h.out
  exact ⟨cur, hc.at h1, h2⟩
theorem Flags.keep {w w' : World} {b n : Nat} {c : Nat → Prop} (h : Flags w b n c) {S : Nat → Prop} (hc : Chg S w w') (hs : ¬ S b) : Flags w' b n c := by
  obtain ⟨cur, h1, h2⟩ := h.out
  exact ⟨cur, hc.at h1 hs, h2⟩
theorem Flags.congr {w : World} {b n : Nat} {c d : Nat → Prop} (h : Flags w b n c) (e : ∀ i, i < n → (c i ↔ d i)) : Flags w b n d := by
  obtain ⟨cur, h1, h2, h3⟩ := h.out
  exact ⟨cur, h1, h2, fun i hi => by obtain ⟨m, hm, hc⟩ := h3 i hi; exact ⟨m, hm, hc.trans (e i hi)⟩⟩
theorem Flags.get {w : World} {b n i : Nat} {c : Nat → Prop} (h : Flags w b n c) (hi : i < n) {K : Value → Prop} (hK : ∀ m : Bool, (m = true ↔ c i) → K (.bool m)) :
    IdxV 1 (.slice (some ⟨b, 0, none⟩) n n) (.int .i64 i) fun t => LoadV false 1 t w K := by
  obtain ⟨cur, h1, h2, h3⟩ := h.out
  obtain ⟨m, hm, hc⟩ := h3 i hi
  refine ⟨by omega, by omega, ?_⟩
  simp only [addr_add, Int.toNat_natCast, Nat.mul_one, Nat.zero_add]
  exact load2 h1 hm (hK m hc)
theorem Flags.set {w : World} {b n i : Nat} {c : Nat → Prop} (h : Flags w b n c) (hi : i < n) {K : World → Prop} (hK : ∀ w', Chg (· = b) w w' → w'.heap.size = w.heap.size → Flags w' b n (fun j => c j ∨ j = i) → K w') :
    IdxV 1 (.slice (some ⟨b, 0, none⟩) n n) (.int .i64 i) fun t => StoreV 1 t (.bool true) w K := by
  obtain ⟨cur, h1, h2, h3⟩ := h.out
  refine ⟨by omega, by omega, ?_⟩
  simp only [addr_add, Int.toNat_natCast, Nat.mul_one, Nat.zero_add]
  refine store_at h1 rfl rfl (by omega) fun w' hp => hK w' hp.chg hp.size ⟨_, hp.here, by simp [h2], fun j hj => ?_⟩
  by_cases e : j = i
  · subst e
    exact ⟨true, by simp [h2, hj], by simp⟩
  · obtain ⟨m, hm, hc⟩ := h3 j hj
    exact ⟨m, by rw [Array.getElem?_setIfInBounds_ne (by omega)]; exact hm, by rw [hc]; simp [e]⟩
theorem Flags.new {w w' : World} {n : Nat} (hn : New w (.cells (rowOf #[.bool false] (n * 1)) T.bool (0, 0)) w') : Flags w' w.heap.size n fun _ => False :=
  ⟨_, hn.here, by simp [rowOf], fun i hi => ⟨false, by have : i % 1 = 0 := Nat.mod_one i; simp [rowOf, hi, this], by simp⟩⟩

theorem l3Needs_ok {w : World} {v lv : Value} {p : List Nd} {l : List Int} (hp : PlanV w v p) (hok : PlanOk p) (hl : Ints w lv l) (hn : ∀ x ∈ l, 0 ≤ x ∧ x < (p.length : Int)) (hll : l.length ≤ 1099511627776) :
    Calls Try.prog N.spec_l3Needs #[v, lv] w (Ret (NewInts w (keepL p l))) := by
  obtain ⟨la, lc, rfl, hlc, hlcell⟩ := hl.out
  refine ret_k fun R hR => c_spec_l3Needs _ _ _ _ ?_
  have h10 := hok.len
  have hlen : ∀ K, LenV v K = K (.int .i64 p.length) := fun K => hp.len
  simp only [hlen, go_sem]
  refine ⟨by omega, by omega, by omega, by omega, fun w1 hn1 => ?_⟩
  simp only [Int.toNat_natCast] at hn1 ⊢
  have z1 := hn1.size
  have extB : ∀ {w' w'' : World}, Ext w w' → Chg (· = w.heap.size) w' w'' → Ext w w'' := fun h1 h2 => Chg.ext (h1.then h2) fun k hk e => by omega
  refine loopV (fun s w' => ∃ k : Nat, s = [.int .i64 k] ∧ k ≤ l.length ∧ Ext w w' ∧ Flags w' w.heap.size p.length (fun i => (i : Int) ∈ l.take k)) (upTo l.length 0) ⟨0, rfl, by omega, hn1.ext, (Flags.new hn1).congr fun i _ => by simp⟩ ?_
  rintro s z w2 K ⟨k, rfl, hk, E2, hf2⟩ hK
  simp only [go_sem]
  refine ⟨fun h => ?_, fun h => ?_⟩
  · have hk : k < l.length := by omega
    refine idxLoad (hlcell.ext E2) rfl hk ?_
    have hx := hn _ (List.getElem_mem hk)
    obtain ⟨i, hi⟩ : ∃ i : Nat, l[k] = (i : Int) := ⟨l[k].toNat, by omega⟩
    rw [hi]
    refine hf2.set (by omega) fun w3 C3 s3 hf3 => ?_
    refine bin_inc (by omega) (hK _ _ ⟨k + 1, rfl, by omega, extB E2 C3, hf3.congr fun j _ => ?_⟩ (by simp [upTo, nthV, iOf]; omega))
    rw [take_snoc hk, List.mem_append, List.mem_singleton, hi]
    exact ⟨fun h => h.elim .inl fun e => .inr (by rw [e]), fun h => h.elim .inl fun e => .inr (by omega)⟩
  · rw [List.take_of_length_le (by omega)] at hf2
    refine bin_sub ⟨by omega, by omega⟩ ?_
    refine loopV (fun s w' => ∃ (m : Nat) (c : Nat → Prop), s = [.int .i64 ((m : Int) - 1)] ∧ m ≤ p.length ∧ Ext w w' ∧ Flags w' w.heap.size p.length c ∧ (∀ j, j < p.length → c j → Rch p l j) ∧ (∀ x ∈ l, c x.toNat) ∧ ∀ j, m ≤ j → j < p.length → c j → ∀ f ∈ fr p j, c f.toNat)
      (fun s _ => (iOf (nthV s 0) + 1).toNat) ⟨p.length, fun i => (i : Int) ∈ l, rfl, by omega, E2, hf2, fun j _ h => .start h, fun x hx => by have := hn x hx; show ((x.toNat : Nat) : Int) ∈ l; rw [show ((x.toNat : Nat) : Int) = x by omega]; exact hx, fun j h1 h2 => by omega⟩ ?_
    rintro s z w3 K' ⟨m, c, rfl, hm, E3, hf3, hsound, hstart, hneed⟩ hK'
    simp only [go_sem]
    refine ⟨fun hge => ?_, fun hlt => ?_⟩
    · obtain ⟨i, rfl⟩ : ∃ i, m = i + 1 := ⟨m - 1, by omega⟩
      have ei : ((i + 1 : Nat) : Int) - 1 = (i : Int) := by omega
      rw [ei]
      have hi : i < p.length := by omega
      refine loopV (fun s w' => ∃ (k : Nat) (c : Nat → Prop), s = [.int .i64 k] ∧ k ≤ (fr p i).length ∧ Ext w w' ∧ Flags w' w.heap.size p.length c ∧ (∀ j, j < p.length → c j → Rch p l j) ∧ (∀ x ∈ l, c x.toNat) ∧ (∀ j, i + 1 ≤ j → j < p.length → c j → ∀ f ∈ fr p j, c f.toNat) ∧ (c i → ∀ f ∈ (fr p i).take k, c f.toNat)) (upTo (fr p i).length 0)
        ⟨0, c, rfl, by omega, E3, hf3, hsound, hstart, hneed, fun _ f hf => by simp at hf⟩ ?_
      rintro s z w4 K'' ⟨k, c, rfl, hk, E4, hf4, hsound, hstart, hneed, hmine⟩ hK''
      have hfl := hok.fr_len i
      have nextI : (c i → ∀ f ∈ fr p i, c f.toNat) → BinV .sub (.int .i64 i) (.int .i64 1) fun t => K' [t] w4 := fun hall => by
        refine bin_sub ⟨by omega, by omega⟩ (hK' _ _ ⟨i, c, rfl, by omega, E4, hf4, hsound, hstart, fun j h1 h2 h3 => ?_⟩ (by simp [nthV, iOf]))
        by_cases e : j = i
        · subst e; exact hall h3
        · exact hneed j (by omega) h2 h3
      simp only [go_sem]
      refine (hp.ext E4).idx hi fun b' o fv rv h0 h1 h2 hfv hrv hsml => ?_
      rw [← fr_get hi] at hfv
      simp only [go_sem]
      refine load_cell h1 ?_
      rw [ints_len hfv]
      simp only [go_sem]
      refine ⟨fun hkl => ?_, fun hkl => nextI (by rw [List.take_of_length_le (by omega)] at hmine; exact hmine)⟩
      have hk : k < (fr p i).length := by omega
      refine hf4.get hi fun b hb => ?_
      simp only [go_sem]
      refine ⟨fun ht => ?_, fun hff => nextI fun hc => by rw [hb.2 hc] at hff; cases hff⟩
      refine (hp.ext E4).idx hi fun b' o fv rv h0 h1 h2 hfv hrv hsml => ?_
      rw [← fr_get hi] at hfv
      obtain ⟨fa, fc, rfl, _, hfcell⟩ := hfv.out
      simp only [go_sem]
      refine load_cell h1 ?_
      refine idxLoad hfcell rfl hk ?_
      have hflt := hok.fr_lt (List.getElem_mem hk)
      obtain ⟨f, hfe⟩ : ∃ f : Nat, (fr p i)[k] = (f : Int) := ⟨(fr p i)[k].toNat, by omega⟩
      rw [hfe] at hflt ⊢
      refine hf4.set (by omega) fun w5 C5 s5 hf5 => ?_
      refine bin_inc (by omega) (hK'' _ _ ⟨k + 1, fun j => c j ∨ j = f, rfl, by omega, extB E4 C5, hf5, fun j h1 h2 => ?_, fun x hx => .inl (hstart x hx), fun j h1 h2 h3 g hg => ?_, fun hc g hg => ?_⟩ (by simp [upTo, nthV, iOf]; omega))
      · rcases h2 with h2 | h2
        · exact hsound j h1 h2
        · subst h2; exact .need (hsound i hi (hb.1 ht)) (by rw [← hfe]; exact List.getElem_mem hk)
      · rcases h3 with h3 | h3
        · exact .inl (hneed j h1 h2 h3 g hg)
        · omega
      · rw [take_snoc hk, List.mem_append, List.mem_singleton, hfe] at hg
        rcases hg with hg | hg
        · exact .inl (hmine (hb.1 ht) g hg)
        · subst hg; exact .inr (by simp)
    · have hm0 : m = 0 := by omega
      subst hm0
      have hiff : ∀ j, j < p.length → (c j ↔ Rch p l j) := by
        intro j hj
        refine ⟨hsound j hj, fun hr => ?_⟩
        clear hlt
        induction hr with
        | @start i hi => have := hstart _ hi; simpa using this
        | @need i j' _ hf ih => have hl := hok.fr_lt hf; have := hneed j' (by omega) hl.2.2 (ih hl.2.2) _ hf; simpa using this
      refine ⟨_, rfl, fun w4 hn4 => ?_⟩
      have e4 := E3.trans hn4.ext
      refine loopV (fun s w' => ∃ (k : Nat) (u : Value), s = [u, .int .i64 k] ∧ k ≤ p.length ∧ Ext w3 w' ∧ Own w' w3.heap.size T.int 1 u (sel k (Rch p l)).length (ints (sel k (Rch p l)))) (upTo p.length 1)
        ⟨0, _, rfl, by omega, hn4.ext, Own.empty hn4 (Nat.le_refl _)⟩ ?_
      rintro s z w5 K'' ⟨k, u, rfl, hk, E5, ho5⟩ hK''
      have hsl := @sel_len k (Rch p l)
      simp only [go_sem]
      refine ⟨fun h => ?_, fun h => ?_⟩
      · have hk : k < p.length := by omega
        refine (hf3.ext E5).get hk fun b hb => ?_
        simp only [go_sem]
        refine ⟨fun ht => ?_, fun hff => ?_⟩
        · refine app1_int sl_int el_int ho5 (by omega) E5.size fun v' w6 ho6 C6 => ?_
          refine bin_inc (by omega) (hK'' _ _ ⟨k + 1, v', rfl, by omega, chg_own E5 ho5 C6 (Nat.le_refl _), ?_⟩ (by simp [upTo, nthV, iOf]; omega))
          rw [sel_yes ((hiff k hk).1 (hb.1 ht))]; simpa using ho6
        · refine bin_inc (by omega) (hK'' _ _ ⟨k + 1, u, rfl, by omega, E5, ?_⟩ (by simp [upTo, nthV, iOf]; omega))
          rw [sel_no fun hr => by rw [hb.2 ((hiff k hk).2 hr)] at hff; cases hff]; exact ho5
      · have hk : k = p.length := by omega
        subst hk
        exact hR _ _ ⟨E3.trans E5, (Own.fints ho5).mono fun j _ hj => by have := E3.size; unfold Since; omega⟩

theorem specCutKeep_ok {w : World} {v lv : Value} {p : List Nd} {l : List Int} (hp : PlanV w v p) (hl : Ints w lv l) (hll : l.length ≤ 1099511627776) :
    Calls Try.prog N.spec_CutKeep #[v, lv] w (Ret fun r w' => ∃ u, r = .tuple #[u, .bool (decide (KeepOk p l))] ∧ Ext w w' ∧ FInts w' (Since w) u (keepO p l)) := by
  have hlI := hl
  obtain ⟨la, lc, rfl, hlc, hlcell⟩ := hl.out
  refine ret_k fun R hR => c_spec_CutKeep _ _ _ _ ?_
  have hlen : ∀ K, LenV v K = K (.int .i64 p.length) := fun K => hp.len
  have hsm := hp.small
  have no : ∀ w' w'' u, Ext w w' → Ext w' w'' → ¬ KeepOk p l → R (.tuple #[.slice u 0 0, .bool false]) w'' := fun w' w'' u hE hE' hn => hR _ _ ⟨_, by rw [decide_eq_false hn], hE.trans hE', by unfold keepO; rw [if_neg hn]; exact FInts.nil⟩
  refine callV_of (specPlanValid_ok hp) rfl ?_
  rintro _ w1 ⟨E1, rfl⟩
  simp only [hlen, go_sem]
  refine ⟨fun h => ⟨_, rfl, fun w2 hn2 => no w1 _ _ E1 hn2.ext fun hd => h hd.1⟩, fun hok => ?_⟩
  refine loopV (fun s w' => ∃ k : Nat, s = [.int .i64 k] ∧ k ≤ l.length ∧ Ext w w' ∧ ∀ x ∈ l.take k, 0 ≤ x ∧ x < (p.length : Int)) (upTo l.length 0) ⟨0, rfl, by omega, E1, by simp⟩ ?_
  rintro s z w2 K ⟨k, rfl, hk, E2, hin⟩ hK
  simp only [go_sem]
  refine ⟨fun h => ?_, fun h => ?_⟩
  · have hk : k < l.length := by omega
    refine idxLoad (hlcell.ext E2) rfl hk ?_
    refine bin_sub ⟨by omega, by omega⟩ ?_
    refine callV_of (l6In_ok _ _ _) rfl ?_
    rintro _ w3 ⟨E3, rfl⟩
    simp only [go_sem]
    refine ⟨fun h => ⟨_, rfl, fun w4 hn4 => no w3 _ _ (E2.trans E3) hn4.ext fun hd => h (by have := hd.2 _ (List.getElem_mem hk); omega)⟩, fun h => ?_⟩
    refine bin_inc (by omega) (hK _ _ ⟨k + 1, rfl, by omega, E2.trans E3, fun x hx => ?_⟩ (by simp [upTo, nthV, iOf]; omega))
    rw [take_snoc hk, List.mem_append, List.mem_singleton] at hx
    exact hx.elim (hin x) fun e => by rw [e]; omega
  · rw [List.take_of_length_le (by omega)] at hin
    have hK' : KeepOk p l := ⟨hok, hin⟩
    refine callV_of (l3Needs_ok (hp.ext E2) hok (hlI.ext E2) hin hll) rfl fun u w3 ⟨E3, f3⟩ => ?_
    refine hR _ _ ⟨u, by rw [decide_eq_true hK'], E2.trans E3, ?_⟩
    unfold keepO; rw [if_pos hK']
    exact f3.mono fun j _ hj => by have := E2.size; unfold Since at hj ⊢; omega
end Go.Proofs.Ytmbfkhacejnnhaa
