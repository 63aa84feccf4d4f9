/- DequePush, DequePop, DequeSteal: the program's and the reference's. -/
import Derived.Test.YtinpkcjfnljigaaDeqValid
namespace Go.Proofs.Ytinpkcjfnljigaa
open Go Go.V

theorem ints_drop (xs : List Int) (k i : Nat) : (ints (xs.drop k))[i]? = (ints xs)[k + i]? := by
  simp only [ints, List.getElem?_map, List.getElem?_drop]
theorem Cells.from {w : World} {a a' : Option Addr} {xs : List Int} {k : Nat} (h : Cells w a (ints xs)) (ha : ∀ b off, a = some ⟨b, off, none⟩ → a' = some ⟨b, off + k, none⟩ ∨ k = xs.length) : Cells w a' (ints (xs.drop k)) := by
  intro i u hi
  rw [ints_drop] at hi
  obtain ⟨b, off, e, hcell⟩ := h (k + i) u hi
  have hlt := (List.getElem?_eq_some_iff.1 hi).1
  have hlt : k + i < xs.length := by simpa [ints] using hlt
  rcases ha b off e with h | h
  · exact ⟨b, off + k, h, by rw [Nat.add_assoc]; exact hcell⟩
  · omega
theorem Cells.upto {w : World} {a : Option Addr} {xs : List Int} (k : Nat) (h : Cells w a (ints xs)) : Cells w a (ints (xs.take k)) := by
  intro i u hi
  refine h i u ?_
  simp only [ints, List.map_take, List.getElem?_take] at hi
  split at hi
  · exact hi
  · cases hi
theorem Cells.lt {w : World} {a : Option Addr} {cs : List Value} (h : Cells w a cs) (hne : cs ≠ []) : ∀ b off, a = some ⟨b, off, none⟩ → b < w.heap.size := by
  intro b off ha
  obtain ⟨u, hu⟩ := List.exists_mem_of_ne_nil _ hne
  obtain ⟨i, hi, rfl⟩ := List.mem_iff_getElem.1 hu
  obtain ⟨b', off', e, hc⟩ := h i _ (List.getElem?_eq_getElem hi)
  rw [ha] at e; cases e
  exact World.block_lt_of_cell? w _ hc

/-- A fresh copy of a slice of integers. -/
theorem copy_new {w : World} {a : Option Addr} {n c : Nat} {xs : List Int} (h : Cells w a (ints xs)) (hn : n = xs.length) (hl : xs.length ≤ 1099511627776) {K : Value → World → Prop}
    (hK : ∀ v w', Own w' w.heap.size T.int 1 v xs.length (ints xs) → Ext w w' → K v w') :
    BSliceV T.int 1 0 #[.int .i64 0] [] w fun t w1 => AppendV Try.prog T.sl_int t (.slice a n c) w1 K := by
  subst hn
  refine ⟨_, rfl, fun w1 hn1 => ?_⟩
  have ho : Own w1 w.heap.size T.int 1 (.slice (some ⟨w.heap.size, 0, none⟩) 0 0) 0 (ints []) := Own.empty hn1 (Nat.le_refl _)
  refine appendV_src sl_int el_int ho (h.ext hn1.ext) (by simp [ints]) ints_one (by omega) (by omega) hn1.ext.size fun v w' ho' hc => ?_
  refine hK v w' (by simpa [ints] using ho') (Chg.ext (hn1.ext.then hc) fun k hk hb => ?_)
  have hb' : some w.heap.size = some k := hb
  cases hb'; omega
theorem copy_draw {S : Nat → Prop} {w : World} {a : Option Addr} {n c : Nat} {xs : List Int} (h : Cells w a (ints xs)) (hn : n = xs.length) (hl : xs.length ≤ 1099511627776) (hS : S w.heap.size) {K : Value → World → Prop}
    (hK : ∀ v w', Own w' w.heap.size T.int 1 v xs.length (ints xs) → Ext w w' → K v w') :
    BSliceV T.int 1 0 #[.int .i64 0] [] w fun t w1 => Chg S w w1 ∧ AppendV Try.prog T.sl_int t (.slice a n c) w1 fun t' w2 => Chg S w1 w2 ∧ K t' w2 := by
  subst hn
  refine ⟨_, rfl, fun w1 hn1 => ⟨hn1.ext.chg, ?_⟩⟩
  have ho : Own w1 w.heap.size T.int 1 (.slice (some ⟨w.heap.size, 0, none⟩) 0 0) 0 (ints []) := Own.empty hn1 (Nat.le_refl _)
  refine appendV_src sl_int el_int ho (h.ext hn1.ext) (by simp [ints]) ints_one (by omega) (by omega) hn1.ext.size fun v w' ho' hc => ⟨?_, ?_⟩
  · exact hc.mono fun k hk hb => by have hb' : some w.heap.size = some k := hb; cases hb'; exact hS
  · refine hK v w' (by simpa [ints] using ho') (Chg.ext (hn1.ext.then hc) fun k hk hb => ?_)
    have hb' : some w.heap.size = some k := hb
    cases hb'; omega

/-- The three results of pop and steal. -/
def Res3 (w : World) (ys : List Int) (at_ : Int) (ok : Bool) (r : Value) (w' : World) : Prop :=
  ∃ u, r = .tuple #[u, .int .i64 at_, .bool ok] ∧ NewInts w ys u w'
def Res2 (w : World) (ys : List Int) (ok : Bool) (r : Value) (w' : World) : Prop :=
  ∃ u, r = .tuple #[u, .bool ok] ∧ NewInts w ys u w'

def stealOf (xs : List Int) : List Int × Int × Bool := if DqOk xs ∧ xs ≠ [] then (xs.drop 1, xs.headD 0, true) else ([], 0, false)
def popOf (xs : List Int) : List Int × Int × Bool := if DqOk xs ∧ xs ≠ [] then (xs.take (xs.length - 1), xs.getLastD 0, true) else ([], 0, false)
def pushOf (xs : List Int) (x : Int) : List Int × Bool := if DqOk (xs ++ [x]) then (xs ++ [x], true) else ([], false)

theorem getElem_headD {xs : List Int} (h : 0 < xs.length) : xs[0] = xs.headD 0 := by
  cases xs with
  | nil => simp at h
  | cons x xs => rfl
theorem getElem_lastD {xs : List Int} (h : xs.length - 1 < xs.length) : xs[xs.length - 1] = xs.getLastD 0 := by
  have hne : xs ≠ [] := by rintro rfl; simp at h
  rw [List.getLastD_eq_getLast?, List.getLast?_eq_some_getLast hne, List.getLast_eq_getElem]
  rfl

theorem specDequeSteal_ok {w : World} {v : Value} {xs : List Int} (hx : Ints w v xs) (hl : xs.length ≤ 1099511627776) :
    Calls Try.prog N.spec_DequeSteal #[v] w (Ret (Res3 w (stealOf xs).1 (stealOf xs).2.1 (stealOf xs).2.2)) := by
  have hx0 := hx
  obtain ⟨a, c, rfl, hc, hx⟩ := hx.out
  refine ret_k fun R hR => c_spec_DequeSteal _ _ _ ?_
  refine callV_of (specDequeValid_ok hx0 hl) rfl ?_
  rintro _ w1 ⟨E1, rfl⟩
  simp only [go_sem]
  have no : ¬ (DqOk xs ∧ xs ≠ []) → BSliceV T.int 1 0 #[.int .i64 0] [] w1 fun t w2 => R (.tuple #[t, .int .i64 0, .bool false]) w2 := by
    intro h
    refine ⟨_, rfl, fun w2 hn => hR _ _ ?_⟩
    simp only [stealOf, if_neg h]
    exact ⟨_, rfl, E1.trans hn.ext, FInts.nil⟩
  refine ⟨fun h => no fun h' => h h'.1, fun hd => ⟨fun h => no fun h' => h'.2 (List.eq_nil_of_length_eq_zero (by omega)), fun hne => ?_⟩⟩
  have hpos : 0 < xs.length := by omega
  have hnil : xs ≠ [] := by rintro rfl; simp at hpos
  refine ⟨(w1.heap.size ≤ ·), fun w2 hs => ?_⟩
  have E2 := E1.trans hs.ext
  refine sliceLo (k := 1) (by omega) hc fun a' ha' => ?_
  refine idxLoadS (k := 0) (hx.ext E2) rfl hpos (fun b off hb h => ?_) ?_
  · have h' : w1.heap.size ≤ b := h
    have := Cells.lt (hx.ext E1) (by simpa [ints] using hnil) b off hb
    omega
  refine copy_draw (Cells.from (hx.ext E2) ha') (by simp) (by simp; omega) (by show w1.heap.size ≤ _; rw [hs.size]; exact Nat.le_refl _) fun v w3 ho E3 => hR _ _ ?_
  rw [stealOf, if_pos ⟨hd, hnil⟩, getElem_headD hpos]
  refine ⟨_, rfl, E2.trans E3, (Own.fints ho).mono fun b _ h => ?_⟩
  have := E2.size; have h' : w2.heap.size ≤ b := h
  show w.heap.size ≤ b
  omega

theorem specDequePop_ok {w : World} {v : Value} {xs : List Int} (hx : Ints w v xs) (hl : xs.length ≤ 1099511627776) :
    Calls Try.prog N.spec_DequePop #[v] w (Ret (Res3 w (popOf xs).1 (popOf xs).2.1 (popOf xs).2.2)) := by
  have hx0 := hx
  obtain ⟨a, c, rfl, hc, hx⟩ := hx.out
  refine ret_k fun R hR => c_spec_DequePop _ _ _ ?_
  simp only [go_sem]
  refine bin_sub ⟨by omega, by omega⟩ ?_
  refine callV_of (specDequeValid_ok hx0 hl) rfl ?_
  rintro _ w1 ⟨E1, rfl⟩
  simp only [go_sem]
  have no : ¬ (DqOk xs ∧ xs ≠ []) → BSliceV T.int 1 0 #[.int .i64 0] [] w1 fun t w2 => R (.tuple #[t, .int .i64 0, .bool false]) w2 := by
    intro h
    refine ⟨_, rfl, fun w2 hn => hR _ _ ?_⟩
    simp only [popOf, if_neg h]
    exact ⟨_, rfl, E1.trans hn.ext, FInts.nil⟩
  refine ⟨fun h => no fun h' => h h'.1, fun hd => ⟨fun h => no fun h' => h'.2 (List.eq_nil_of_length_eq_zero (by omega)), fun hne => ?_⟩⟩
  have hpos : 0 < xs.length := by omega
  have hnil : xs ≠ [] := by rintro rfl; simp at hpos
  have e1 : (xs.length : Int) - 1 = ((xs.length - 1 : Nat) : Int) := by omega
  rw [e1]
  refine ⟨(w1.heap.size ≤ ·), fun w2 hs => ?_⟩
  have E2 := E1.trans hs.ext
  refine sliceHi (by omega) ?_
  refine idxLoadS (k := xs.length - 1) (hx.ext E2) rfl (by omega) (fun b off hb h => ?_) ?_
  · have h' : w1.heap.size ≤ b := h
    have := Cells.lt (hx.ext E1) (by simpa [ints] using hnil) b off hb
    omega
  refine copy_draw (Cells.upto (xs.length - 1) (hx.ext E2)) (by simp) (by simp; omega) (by show w1.heap.size ≤ _; rw [hs.size]; exact Nat.le_refl _) fun v w3 ho E3 => hR _ _ ?_
  rw [popOf, if_pos ⟨hd, hnil⟩, getElem_lastD (by omega)]
  refine ⟨_, rfl, E2.trans E3, (Own.fints ho).mono fun b _ h => ?_⟩
  have := E2.size; have h' : w2.heap.size ≤ b := h
  show w.heap.size ≤ b
  omega

theorem specDequePush_ok {w : World} {v : Value} {xs : List Int} {x : Int} (hx : Ints w v xs) (hl : xs.length ≤ 1048576) :
    Calls Try.prog N.spec_DequePush #[v, .int .i64 x] w (Ret (Res2 w (pushOf xs x).1 (pushOf xs x).2)) := by
  have hx0 := hx
  obtain ⟨a, c, rfl, hc, hx⟩ := hx.out
  refine ret_k fun R hR => c_spec_DequePush _ _ _ _ ?_
  refine copy_new hx rfl (by omega) fun u w2 ho E2 => ?_
  refine app1_int sl_int el_int ho (by omega) E2.size fun u w4 ho4 C4 => ?_
  have E4 : Ext w w4 := chg_own E2 ho C4 (Nat.le_refl _)
  refine callV_of (specDequeValid_ok (Own.ints ho4) (by simp; omega)) rfl ?_
  rintro _ w5 ⟨E5, rfl⟩
  simp only [go_sem]
  refine ⟨fun h => ⟨_, rfl, fun w6 hn => hR _ _ ?_⟩, fun h => hR _ _ ?_⟩
  · rw [pushOf, if_neg h]
    exact ⟨_, rfl, (E4.trans E5).trans hn.ext, FInts.nil⟩
  · rw [pushOf, if_pos h]
    exact ⟨_, rfl, E4.trans E5, (Own.fints ho4).ext E5⟩

theorem FInts.from {w : World} {B : Nat → Prop} {a a' : Option Addr} {n c k : Nat} {xs : List Int} (h : FInts w B (.slice a n c) xs) (hk : k ≤ xs.length) (ha : ∀ b off, a = some ⟨b, off, none⟩ → a' = some ⟨b, off + k, none⟩ ∨ k = xs.length) :
    FInts w B (.slice a' (n - k) (c - k)) (xs.drop k) := by
  obtain ⟨a1, c1, hv, hc, hr⟩ := h.out
  cases hv
  refine ⟨a', c - k, by simp, by simp; omega, fun hne => ?_⟩
  have hlt : k < xs.length := by
    have : (xs.drop k).length ≠ 0 := fun h => hne (List.eq_nil_of_length_eq_zero h)
    simp at this; omega
  obtain ⟨b, off, cur, e, ha1, hB, hb, hsz, hx⟩ := hr (by rintro rfl; simp at hlt)
  refine ⟨b, off + k, cur, e, (ha b off ha1).resolve_right (by omega), hB, hb, by simp; omega, fun i x hi => ?_⟩
  rw [List.getElem?_drop] at hi
  rw [Nat.add_assoc]
  exact hx _ _ hi
theorem FInts.upto {w : World} {B : Nat → Prop} {a : Option Addr} {n c k : Nat} {xs : List Int} (h : FInts w B (.slice a n c) xs) (hk : k ≤ xs.length) : FInts w B (.slice a k c) (xs.take k) := by
  obtain ⟨a1, c1, hv, hc, hr⟩ := h.out
  cases hv
  refine ⟨a, c, by simp; omega, by simp; omega, fun hne => ?_⟩
  obtain ⟨b, off, cur, e, ha1, hB, hb, hsz, hx⟩ := hr (by rintro rfl; simp at hne)
  refine ⟨b, off, cur, e, ha1, hB, hb, by simp; omega, fun i x hi => ?_⟩
  rw [List.getElem?_take] at hi
  split at hi
  · exact hx _ _ hi
  · cases hi

theorem store_ptr1 {w : World} {b e : Nat} {old v : Value} {K : World → Prop} (hb : w.heap[b]? = some (.cells #[old] e (0, 0))) (hv : v.cells = #[v]) (h1 : v.oneCell' = true)
    (hK : ∀ w', Put w b (.cells #[v] e (0, 0)) w' → K w') : StoreV 1 (.pointer (some ⟨b, 0, none⟩)) v w K :=
  store_at hb hv h1 (by simp) fun w' hp => hK w' (by simpa using hp)

/-- What a method of the deque does to it. -/
def DqDone (w : World) (b e : Nat) (B : Nat → Prop) (ys : List Int) (r u : Value) (w' : World) : Prop :=
  u = r ∧ ∃ v', Put w b (.cells #[v'] e (0, 0)) w' ∧ FInts w' B v' ys

theorem dqSteal_ok {w : World} {b e : Nat} {v : Value} {B : Nat → Prop} {xs : List Int} (hb : w.heap[b]? = some (.cells #[v] e (0, 0))) (hx : FInts w B v xs) (hB : ¬ B b) (hpos : 0 < xs.length) :
    Calls Try.prog N.impl_deque_steal #[.pointer (some ⟨b, 0, none⟩)] w (Ret (DqDone w b e B (xs.drop 1) (.int .i64 xs[0]))) := by
  refine ret_k fun R hR => c_impl_deque_steal _ _ _ ?_
  obtain ⟨a, c, rfl, hc, hI⟩ := hx.ints.out
  simp only [go_sem]
  refine load_ptr1 hb ?_
  refine idxLoad (k := 0) hI rfl hpos ?_
  refine load_ptr1 hb ?_
  refine sliceLo (k := 1) (by omega) hc fun a' ha' => ?_
  refine store_ptr1 hb rfl rfl fun w1 hp => hR _ _ ⟨rfl, _, hp, ?_⟩
  exact (hx.from (by omega) ha').keep hp.chg fun k hk h => by have h' : k = b := h; subst h'; exact hB hk

theorem dqPop_ok {w : World} {b e : Nat} {v : Value} {B : Nat → Prop} {xs : List Int} (hb : w.heap[b]? = some (.cells #[v] e (0, 0))) (hx : FInts w B v xs) (hB : ¬ B b) (hpos : xs.length - 1 < xs.length) (hl : xs.length ≤ 1099511627776) :
    Calls Try.prog N.impl_deque_pop #[.pointer (some ⟨b, 0, none⟩)] w (Ret (DqDone w b e B (xs.take (xs.length - 1)) (.int .i64 xs[xs.length - 1]))) := by
  refine ret_k fun R hR => c_impl_deque_pop _ _ _ ?_
  obtain ⟨a, c, rfl, hc, hI⟩ := hx.ints.out
  simp only [go_sem]
  refine load_ptr1 hb ?_
  simp only [go_sem]
  refine bin_sub ⟨by omega, by omega⟩ ?_
  have e1 : (xs.length : Int) - 1 = ((xs.length - 1 : Nat) : Int) := by omega
  rw [e1]
  refine load_ptr1 hb ?_
  refine idxLoad hI rfl hpos ?_
  refine load_ptr1 hb ?_
  refine sliceHi (by omega) ?_
  refine store_ptr1 hb rfl rfl fun w1 hp => hR _ _ ⟨rfl, _, hp, ?_⟩
  exact (hx.upto (by omega)).keep hp.chg fun k hk h => by have h' : k = b := h; subst h'; exact hB hk

theorem implDequeSteal_ok {w : World} {v : Value} {xs : List Int} (hx : Ints w v xs) (hl : xs.length ≤ 1099511627776) :
    Calls Try.prog N.impl_DequeSteal #[v] w (Ret (Res3 w (stealOf xs).1 (stealOf xs).2.1 (stealOf xs).2.2)) := by
  have hx0 := hx
  obtain ⟨a, c, rfl, hc, hx⟩ := hx.out
  refine ret_k fun R hR => c_impl_DequeSteal _ _ _ ?_
  refine callV_of (implDequeValid_ok hx0 hl) rfl ?_
  rintro _ w1 ⟨E1, rfl⟩
  simp only [go_sem]
  have no : ¬ (DqOk xs ∧ xs ≠ []) → R (.tuple #[.slice none 0 0, .int .i64 0, .bool false]) w1 := fun h =>
    hR _ _ (by simp only [stealOf, if_neg h]; exact ⟨_, rfl, E1, FInts.nil⟩)
  refine ⟨fun h => no fun h' => h h'.1, fun hd => ⟨fun h => no fun h' => h'.2 (List.eq_nil_of_length_eq_zero (by omega)), fun hne => ?_⟩⟩
  have hpos : 0 < xs.length := by omega
  have hnil : xs ≠ [] := by rintro rfl; simp at hpos
  refine callV_of (dequeOf_ok (hx0.ext E1) hl) rfl ?_
  rintro _ w2 ⟨E2, u, rfl, ho⟩
  intro w3 hn3
  refine store_agg1 hn3.here (by obtain ⟨_, _, rfl, _⟩ := Own.cells ho; rfl) fun w4 hp4 => ?_
  have hE4 : Ext w2 w4 := Chg.ext (hn3.ext.then hp4.chg) fun n hn h => by have h' : n = w2.heap.size := h; omega
  have F := ((Own.fints ho).ext hE4)
  have F := ((Own.fints ho).mono (B' := Between w1 w2) fun b hb h => ⟨h, hb⟩).ext hE4
  have e1 := E1.size
  have e2 := E2.size
  refine callV_of (dqSteal_ok hp4.here F (fun h => by have := h.2; omega) hpos) rfl ?_
  rintro _ w5 ⟨rfl, u', hp5, F5⟩
  simp only [go_sem]
  refine load_ptr1 hp5.here (hR _ _ ?_)
  rw [stealOf, if_pos ⟨hd, hnil⟩, getElem_headD hpos]
  refine ⟨_, rfl, Chg.ext ((E1.trans (E2.trans hE4)).then hp5.chg) fun n hn h => by have h' : n = w2.heap.size := h; omega, F5.mono fun b hb h => ?_⟩
  have := h.1
  show w.heap.size ≤ b
  omega

theorem implDequePop_ok {w : World} {v : Value} {xs : List Int} (hx : Ints w v xs) (hl : xs.length ≤ 1099511627776) :
    Calls Try.prog N.impl_DequePop #[v] w (Ret (Res3 w (popOf xs).1 (popOf xs).2.1 (popOf xs).2.2)) := by
  have hx0 := hx
  obtain ⟨a, c, rfl, hc, hx⟩ := hx.out
  refine ret_k fun R hR => c_impl_DequePop _ _ _ ?_
  refine callV_of (implDequeValid_ok hx0 hl) rfl ?_
  rintro _ w1 ⟨E1, rfl⟩
  simp only [go_sem]
  have no : ¬ (DqOk xs ∧ xs ≠ []) → R (.tuple #[.slice none 0 0, .int .i64 0, .bool false]) w1 := fun h =>
    hR _ _ (by simp only [popOf, if_neg h]; exact ⟨_, rfl, E1, FInts.nil⟩)
  refine ⟨fun h => no fun h' => h h'.1, fun hd => ⟨fun h => no fun h' => h'.2 (List.eq_nil_of_length_eq_zero (by omega)), fun hne => ?_⟩⟩
  have hpos : 0 < xs.length := by omega
  have hnil : xs ≠ [] := by rintro rfl; simp at hpos
  refine callV_of (dequeOf_ok (hx0.ext E1) hl) rfl ?_
  rintro _ w2 ⟨E2, u, rfl, ho⟩
  intro w3 hn3
  refine store_agg1 hn3.here (by obtain ⟨_, _, rfl, _⟩ := Own.cells ho; rfl) fun w4 hp4 => ?_
  have hE4 : Ext w2 w4 := Chg.ext (hn3.ext.then hp4.chg) fun n hn h => by have h' : n = w2.heap.size := h; omega
  have F := ((Own.fints ho).mono (B' := Between w1 w2) fun b hb h => ⟨h, hb⟩).ext hE4
  have e1 := E1.size
  have e2 := E2.size
  refine callV_of (dqPop_ok hp4.here F (fun h => by have := h.2; omega) (by omega) hl) rfl ?_
  rintro _ w5 ⟨rfl, u', hp5, F5⟩
  simp only [go_sem]
  refine load_ptr1 hp5.here (hR _ _ ?_)
  rw [popOf, if_pos ⟨hd, hnil⟩, getElem_lastD (by omega)]
  refine ⟨_, rfl, Chg.ext ((E1.trans (E2.trans hE4)).then hp5.chg) fun n hn h => by have h' : n = w2.heap.size := h; omega, F5.mono fun b hb h => ?_⟩
  have := h.1
  show w.heap.size ≤ b
  omega

theorem DqOk.front {xs : List Int} {x : Int} (h : DqOk (xs ++ [x])) : DqOk xs :=
  ⟨by have := h.1; simp at this; omega, fun y hy => h.2.1 y (by simp [hy]), (List.nodup_append.1 h.2.2).1⟩

theorem DqOk.sub {xs ys : List Int} (h : DqOk xs) (hs : ys.Sublist xs) : DqOk ys :=
  ⟨by have := h.1; have := hs.length_le; omega, fun y hy => h.2.1 y (hs.subset hy), h.2.2.sublist hs⟩

theorem own_ne {w : World} {lo e e' size b : Nat} {v : Value} {n : Nat} {cs : List Value} {c : Array Value} (ho : Own w lo e size v n cs) (hb : w.heap[b]? = some (.cells c e' (0, 0))) (hne : e' ≠ e) : ∀ k, v.ownBlock = some k → k ≠ b := by
  rintro k hk rfl
  rcases ho.2 with ⟨rfl, _⟩ | ⟨g, cap, cur, rfl, _, hg, _⟩
  · simp [Value.ownBlock] at hk
  · simp [Value.ownBlock] at hk
    subst hk
    rw [hb] at hg
    simp at hg
    exact hne hg.2

theorem dqPush_ok {w : World} {b lo e : Nat} {v : Value} {xs : List Int} {x : Int} (hb : w.heap[b]? = some (.cells #[v] e (0, 0))) (ho : Own w lo T.int 1 v xs.length (ints xs)) (he : e ≠ T.int) (hlo : lo ≤ w.heap.size) (hl : xs.length ≤ 1099511627776) :
    Calls Try.prog N.impl_deque_push #[.pointer (some ⟨b, 0, none⟩), .int .i64 x] w (Ret fun _ w' => ∃ u, w'.heap[b]? = some (.cells #[u] e (0, 0)) ∧ Own w' lo T.int 1 u (xs.length + 1) (ints (xs ++ [x])) ∧ Chg (fun k => blkIs v k ∨ k = b) w w') := by
  refine ret_k fun R hR => c_impl_deque_push _ _ _ _ ?_
  simp only [go_sem]
  refine load_ptr1 hb ?_
  have hne := own_ne ho hb he
  refine app1_int sl_int el_int ho hl hlo fun u w1 ho1 C1 => ?_
  have hb1 := C1.at hb fun h => hne b h rfl
  have hne1 := own_ne ho1 hb1 he
  obtain ⟨a, c, rfl, _, _, _⟩ := Own.cells ho1
  refine store_ptr1 hb1 rfl rfl fun w2 hp => hR _ _ ⟨_, hp.here, Own.keep ho1 hp.chg fun k hk h => hne1 k hk h, ?_⟩
  exact C1.trans hp.chg (fun _ _ h => .inl h) (fun _ _ h => .inr h)

theorem implDequePush_ok {w : World} {v : Value} {xs : List Int} {x : Int} (hx : Ints w v xs) (hl : xs.length ≤ 1048576) :
    Calls Try.prog N.impl_DequePush #[v, .int .i64 x] w (Ret (Res2 w (pushOf xs x).1 (pushOf xs x).2)) := by
  have hx0 := hx
  refine ret_k fun R hR => c_impl_DequePush _ _ _ _ ?_
  refine callV_of (implDequeValid_ok hx0 (by omega)) rfl ?_
  rintro _ w1 ⟨E1, rfl⟩
  simp only [go_sem]
  have no : ∀ w', Ext w w' → ¬ DqOk (xs ++ [x]) → R (.tuple #[.slice none 0 0, .bool false]) w' := fun w' hE h =>
    hR _ _ (by rw [pushOf, if_neg h]; exact ⟨_, rfl, hE, FInts.nil⟩)
  refine ⟨fun h => no _ E1 fun h' => h h'.front, fun hd => ?_⟩
  refine callV_of (dequeOf_ok (hx0.ext E1) (by omega)) rfl ?_
  rintro _ w2 ⟨E2, u, rfl, ho⟩
  intro w3 hn3
  refine store_agg1 hn3.here (by obtain ⟨_, _, rfl, _⟩ := Own.cells ho; rfl) fun w4 hp4 => ?_
  have hE4 : Ext w2 w4 := Chg.ext (hn3.ext.then hp4.chg) fun n hn h => by have h' : n = w2.heap.size := h; omega
  have ho4 := Own.ext ho hE4
  have e1 := E1.size
  have e2 := E2.size
  have e4 := hE4.size
  refine callV_of (dqPush_ok hp4.here ho4 (by decide) (by omega) (by omega)) rfl ?_
  rintro _ w5 ⟨u', hb5, ho5, C5⟩
  have E5 : Ext w w5 := Chg.ext ((E1.trans (E2.trans hE4)).then C5) fun n hn h => by
    rcases h with h | h
    · have := (Own.lt ho4 (k := n) h).1; omega
    · omega
  simp only [go_sem]
  refine load_ptr1 hb5 ?_
  refine callV_of (implDequeValid_ok (Own.ints (by simpa using ho5)) (by simp; omega)) rfl ?_
  rintro _ w6 ⟨E6, rfl⟩
  simp only [go_sem]
  refine ⟨fun h => no _ (E5.trans E6) h, fun h => ?_⟩
  refine load_ptr1 (E6.at hb5) (hR _ _ ?_)
  rw [pushOf, if_pos h]
  refine ⟨_, rfl, E5.trans E6, ((Own.fints ho5).mono fun b _ h => ?_).ext E6⟩
  have h' : w1.heap.size ≤ b := h
  show w.heap.size ≤ b
  omega
end Go.Proofs.Ytinpkcjfnljigaa
