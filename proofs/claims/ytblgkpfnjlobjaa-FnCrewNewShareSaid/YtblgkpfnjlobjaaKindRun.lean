/- What can be done with rows: the program's way. -/
import Derived.Test.YtblgkpfnjlobjaaPlan0
import Derived.Test.YtblgkpfnjlobjaaCopy
import Derived.Test.YtblgkpfnjlobjaaCV
import Derived.Test.YtblgkpfnjlobjaaPart
namespace Go.Proofs.Ytblgkpfnjlobjaa
open Go Go.V

/-- The first k numbers of a list, then zeros. -/
def part (zs : List Int) (k : Nat) : List Int := zs.take k ++ List.replicate (zs.length - k) 0
theorem part_len {zs : List Int} {k : Nat} (h : k ≤ zs.length) : (part zs k).length = zs.length := by simp [part]; omega
theorem part_zero (zs : List Int) : part zs 0 = List.replicate zs.length 0 := by simp [part]
theorem part_all (zs : List Int) : part zs zs.length = zs := by simp [part]
theorem part_set {zs : List Int} {k : Nat} (h : k < zs.length) : (part zs k).set k zs[k] = part zs (k + 1) := by
  unfold part
  have hl : (zs.take k).length = k := by simp; omega
  rw [List.set_append_right _ _ (by omega), hl, Nat.sub_self]
  obtain ⟨m, hm⟩ : ∃ m, zs.length - k = m + 1 := ⟨zs.length - k - 1, by omega⟩
  have hm' : zs.length - (k + 1) = m := by omega
  rw [hm, hm', List.replicate_succ, List.set_cons_zero, take_snoc h, List.append_assoc]
  rfl
/-- A list of zeros is made. -/
theorem zeros {w w' : World} {n : Nat} (hn : New w (.cells (rowOf #[.int .i64 0] (n * 1)) T.int (0, 0)) w') : FInts w' (· = w.heap.size) (.slice (some ⟨w.heap.size, 0, none⟩) n n) (List.replicate n 0) := by
  refine ⟨some ⟨w.heap.size, 0, none⟩, n, by rw [List.length_replicate], by rw [List.length_replicate]; exact Nat.le_refl _, fun _ => ⟨_, 0, _, rfl, rfl, hn.here, by simp [rowOf], fun i x hi => ?_⟩⟩
  obtain ⟨hlt, rfl⟩ := List.getElem?_eq_some_iff.1 hi
  simp at hlt
  have : i % 1 = 0 := Nat.mod_one i
  simp [rowOf, hlt, this]
theorem tmod_emod {a : Int} (h : 0 ≤ a) : a.tmod 1009 = a % 1009 := Int.tmod_eq_emod_of_nonneg h
theorem row_at {xs : List Int} (h : RowOk xs) {i : Nat} (hi : i < xs.length) : 0 ≤ xs[i] ∧ xs[i] < 1009 := h.2 _ (List.getElem_mem hi)

/-- Two rows, place by place. -/
theorem join_ok {w : World} {u v f : Value} {xs ys : List Int} {g : Int → Int → Int} (hx : Ints w u xs) (hy : Ints w v ys) (h1 : RowOk xs) (h2 : RowOk ys) (hl : xs.length = ys.length)
    (hg : ∀ x y, 0 ≤ x → x < 1009 → 0 ≤ y → y < 1009 → 0 ≤ g x y) (hf : ∀ (w' : World) (x y : Int) (K : Value → World → Prop), 0 ≤ x → x < 1009 → 0 ≤ y → y < 1009 → (∀ w'', Ext w' w'' → K (.int .i64 (g x y)) w'') → CallFV Try.prog (okFn Try.prog) f [.int .i64 x, .int .i64 y] w' K) :
    Calls Try.prog N.impl_rowValues_join #[u, v, f] w (Ret fun r w' => ∃ z, r = .tuple #[z, .bool true] ∧ Ext w w' ∧ FInts w' (Since w) z (List.zipWith (fun x y => g x y % 1009) xs ys)) := by
  refine ret_k fun R hR => c_impl_rowValues_join _ _ _ _ _ ?_
  have hxl := h1.1
  have hyl := h2.1
  have l1 : ∀ K, LenV u K = K (.int .i64 xs.length) := fun K => ints_len hx
  have l2 : ∀ K, LenV v K = K (.int .i64 ys.length) := fun K => ints_len hy
  refine callV_of (rowsValid_ok hx (by omega)) rfl ?_
  rintro _ w1 ⟨E1, rfl⟩
  simp only [go_sem]
  refine ⟨fun h => absurd h1 h, fun _ => ?_⟩
  refine callV_of (rowsValid_ok (hy.ext E1) (by omega)) rfl ?_
  rintro _ w2 ⟨E2, rfl⟩
  have e2 := E1.trans E2
  simp only [l1, l2, go_sem]
  refine ⟨fun h => absurd h2 h, fun _ => ⟨fun h => absurd (by rw [hl]) h, fun _ => ?_⟩⟩
  refine ⟨by omega, by omega, by omega, by omega, fun w3 hn3 => ?_⟩
  simp only [Int.toNat_natCast] at hn3
  simp only [Int.toNat_natCast, go_sem]
  have z3 := hn3.size
  have z2 := e2.size
  have hz := zeros hn3
  have hzl : (List.zipWith (fun x y => g x y % 1009) xs ys).length = xs.length := by rw [List.length_zipWith]; omega
  refine loopV (fun s w' => ∃ k : Nat, s = [.int .i64 k] ∧ k ≤ xs.length ∧ Ext w w' ∧ w3.heap.size ≤ w'.heap.size ∧ FInts w' (· = w2.heap.size) (.slice (some ⟨w2.heap.size, 0, none⟩) xs.length xs.length) (part (List.zipWith (fun x y => g x y % 1009) xs ys) k)) (upTo xs.length 0)
    ⟨0, rfl, by omega, e2.trans hn3.ext, Nat.le_refl _, by rw [part_zero, hzl]; exact hz⟩ ?_
  rintro s z w4 K ⟨k, rfl, hk, E4, z4, f4⟩ hK
  simp only [go_sem]
  refine ⟨fun h => ?_, fun h => ?_⟩
  · have hk : k < xs.length := by omega
    have hky : k < ys.length := by omega
    refine Ints.loadI (hx.ext E4) hk ?_
    refine Ints.loadI (hy.ext E4) hky ?_
    have q1 := row_at h1 hk
    have q2 := row_at h2 hky
    refine hf _ _ _ _ q1.1 q1.2 q2.1 q2.2 fun w5 E5 => ?_
    refine bin_rem (by omega) ?_
    rw [tmod_emod (hg _ _ q1.1 q1.2 q2.1 q2.2)]
    refine (f4.ext E5).store (by rw [part_len (by omega), hzl]; exact hk) fun w6 C6 z6 f6 => ?_
    have hat : (List.zipWith (fun x y => g x y % 1009) xs ys)[k]'(by rw [hzl]; exact hk) = g xs[k] ys[k] % 1009 := by rw [List.getElem_zipWith]
    rw [← hat, part_set] at f6
    refine bin_inc (by omega) (hK _ _ ⟨k + 1, rfl, by omega, Chg.ext ((E4.trans E5).then C6) fun j hj e => by have e : j = w2.heap.size := e; omega, by have := E5.size; omega, f6⟩ (by simp [upTo, nthV, iOf]; omega))
  · have hk : k = xs.length := by omega
    subst hk
    rw [← hzl, part_all, hzl] at f4
    exact hR _ _ ⟨_, rfl, E4, f4.mono fun b _ hb => by unfold Since; have hb : b = w2.heap.size := hb; omega⟩

theorem okAdd : okFn Try.prog N.impl_RowAdd_1 = true := by kernel_rfl
theorem okTimes : okFn Try.prog N.impl_RowTimes_1 = true := by kernel_rfl
theorem implRowAdd_ok {w : World} {u v : Value} {xs ys : List Int} (hx : Ints w u xs) (hy : Ints w v ys) (h1 : RowOk xs) (h2 : RowOk ys) (hl : xs.length = ys.length) :
    Calls Try.prog N.impl_RowAdd #[u, v] w (Ret fun r w' => ∃ z, r = .tuple #[z, .bool true] ∧ Ext w w' ∧ FInts w' (Since w) z (addR xs ys)) := by
  refine ret_k fun R hR => c_impl_RowAdd _ _ _ _ ?_
  refine callV_of (join_ok (f := .func (.func N.impl_RowAdd_1) #[] #[]) (g := fun x y => x + y) hx hy h1 h2 hl (fun x y a _ b _ => by omega) fun w' x y K a b c d hK => ⟨okAdd, ?_⟩) rfl ?_
  · refine callV_of (ret_k (Q := fun r w'' => Ext w' w'' ∧ r = .int .i64 (x + y)) fun R hR => c_impl_RowAdd_1 _ _ _ _ (bin_add ⟨by omega, by omega⟩ (hR _ _ ⟨Ext.refl _, rfl⟩))) rfl ?_
    rintro _ w'' ⟨E, rfl⟩
    exact hK _ E
  · rintro _ w1 ⟨z, rfl, E1, f1⟩
    simp only [go_sem]
    exact hR _ _ ⟨z, rfl, E1, f1⟩
theorem implRowTimes_ok {w : World} {u v : Value} {xs ys : List Int} (hx : Ints w u xs) (hy : Ints w v ys) (h1 : RowOk xs) (h2 : RowOk ys) (hl : xs.length = ys.length) :
    Calls Try.prog N.impl_RowTimes #[u, v] w (Ret fun r w' => ∃ z, r = .tuple #[z, .bool true] ∧ Ext w w' ∧ FInts w' (Since w) z (mulR xs ys)) := by
  have hb : ∀ {x y : Int}, 0 ≤ x → x < 1009 → 0 ≤ y → y < 1009 → 0 ≤ x * y ∧ x * y ≤ 1018081 := fun {x y} a b c d => ⟨Int.mul_nonneg a c, by
    have h1 : x * y ≤ 1009 * y := Int.mul_le_mul_of_nonneg_right (by omega) c
    omega⟩
  refine ret_k fun R hR => c_impl_RowTimes _ _ _ _ ?_
  refine callV_of (join_ok (f := .func (.func N.impl_RowTimes_1) #[] #[]) (g := fun x y => x * y) hx hy h1 h2 hl (fun x y a b c d => (hb a b c d).1) fun w' x y K a b c d hK => ⟨okTimes, ?_⟩) rfl ?_
  · have := hb a b c d
    refine callV_of (ret_k (Q := fun r w'' => Ext w' w'' ∧ r = .int .i64 (x * y)) fun R hR => c_impl_RowTimes_1 _ _ _ _ (bin_mul ⟨by omega, by omega⟩ (hR _ _ ⟨Ext.refl _, rfl⟩))) rfl ?_
    rintro _ w'' ⟨E, rfl⟩
    exact hK _ E
  · rintro _ w1 ⟨z, rfl, E1, f1⟩
    simp only [go_sem]
    exact hR _ _ ⟨z, rfl, E1, f1⟩

/-- The sum of each beginning, in the middle of the way. -/
def sumAt (xs : List Int) (k : Nat) : Int := (xs.take k).foldl (fun a x => (a + x) % 1009) 0
theorem sumAt_succ {xs : List Int} {k : Nat} (h : k < xs.length) : sumAt xs (k + 1) = (sumAt xs k + xs[k]) % 1009 := by
  unfold sumAt; rw [take_snoc h, List.foldl_append]; rfl
theorem sumsGo_get : ∀ (xs : List Int) (a : Int) (k : Nat) (h : k < xs.length), (sumsGo a xs)[k]? = some ((xs.take (k + 1)).foldl (fun a x => (a + x) % 1009) a)
  | x :: xs, a, 0, _ => by simp [sumsGo]
  | x :: xs, a, k + 1, h => by
    simp only [sumsGo, List.getElem?_cons_succ, List.take_succ_cons, List.foldl_cons]
    exact sumsGo_get xs _ k (by simpa using h)
theorem sums_at {xs : List Int} {k : Nat} (h : k < xs.length) : (sumsGo 0 xs)[k]'(by rw [sumsGo_len]; exact h) = sumAt xs (k + 1) := by
  have := sumsGo_get xs 0 k h
  rw [List.getElem?_eq_getElem (by rw [sumsGo_len]; exact h)] at this
  exact Option.some.inj this
theorem sumAt_range (xs : List Int) (k : Nat) (_h : k ≤ xs.length) : 0 ≤ sumAt xs k ∧ sumAt xs k < 1009 := by
  cases k with
  | zero => simp [sumAt]
  | succ k => rw [sumAt_succ (by omega)]; omega
theorem implRowSums_ok {w : World} {v : Value} {xs : List Int} (hx : Ints w v xs) (h1 : RowOk xs) :
    Calls Try.prog N.impl_RowSums #[v] w (Ret fun r w' => ∃ z, r = .tuple #[z, .bool true] ∧ Ext w w' ∧ FInts w' (Since w) z (sumsGo 0 xs)) := by
  refine ret_k fun R hR => c_impl_RowSums _ _ _ ?_
  have hxl := h1.1
  refine callV_of (rowsValid_ok hx (by omega)) rfl ?_
  rintro _ w1 ⟨E1, rfl⟩
  simp only [go_sem]
  refine ⟨fun h => absurd h1 h, fun _ => ?_⟩
  have hx1 := hx.ext E1
  refine callV_of (ret_k (Q := fun r w' => Ext w1 w' ∧ FInts w' (Since w1) r (sumsGo 0 xs)) fun R hR => c_impl_rowValues_sums _ _ _ ?_) rfl ?_
  · have l1 : ∀ K, LenV v K = K (.int .i64 xs.length) := fun K => ints_len hx
    simp only [l1, go_sem]
    refine ⟨by omega, by omega, by omega, by omega, fun w3 hn3 => ?_⟩
    simp only [Int.toNat_natCast] at hn3
    simp only [Int.toNat_natCast, go_sem]
    have z3 := hn3.size
    have hz := zeros hn3
    have hzl := sumsGo_len 0 xs
    refine loopV (fun s w' => ∃ k : Nat, s = [.int .i64 (sumAt xs k), .int .i64 k] ∧ k ≤ xs.length ∧ Ext w1 w' ∧ FInts w' (· = w1.heap.size) (.slice (some ⟨w1.heap.size, 0, none⟩) xs.length xs.length) (part (sumsGo 0 xs) k)) (upTo xs.length 1)
      ⟨0, rfl, by omega, hn3.ext, by rw [part_zero, hzl]; exact hz⟩ ?_
    rintro s z w4 K ⟨k, rfl, hk, E4, f4⟩ hK
    simp only [go_sem]
    refine ⟨fun h => ?_, fun h => ?_⟩
    · have hk : k < xs.length := by omega
      refine Ints.loadI (hx1.ext E4) hk ?_
      have q1 := row_at h1 hk
      have q2 := sumAt_range xs k (by omega)
      refine bin_add ⟨by omega, by omega⟩ ?_
      refine bin_rem (by omega) ?_
      rw [tmod_emod (by omega), ← sumAt_succ hk]
      refine f4.store (by rw [part_len (by omega), hzl]; exact hk) fun w6 C6 z6 f6 => ?_
      rw [← sums_at hk, part_set] at f6
      refine bin_inc (by omega) (hK _ _ ⟨k + 1, rfl, by omega, Chg.ext (E4.then C6) fun j hj e => by have e : j = w1.heap.size := e; omega, f6⟩ (by simp [upTo, nthV, iOf]; omega))
    · have hk : k = xs.length := by omega
      subst hk
      rw [← hzl, part_all, hzl] at f4
      exact hR _ _ ⟨E4, f4.mono fun b _ hb => by unfold Since; have hb : b = w1.heap.size := hb; omega⟩
  · rintro z w2 ⟨E2, f2⟩
    exact hR _ _ ⟨z, rfl, E1.trans E2, f2.mono fun b _ hb => by have := E1.size; unfold Since at hb ⊢; omega⟩
end Go.Proofs.Ytblgkpfnjlobjaa

namespace Go.Proofs.Ytblgkpfnjlobjaa
open Go Go.V

theorem getD_at {l : List Int} {i : Nat} (h : i < l.length) : l.getD i 0 = l[i] := by rw [List.getD_eq_getElem?_getD, List.getElem?_eq_getElem h]; rfl
theorem getD_set {l : List Int} {i j : Nat} {x : Int} (h : i < l.length) : (l.set i x).getD j 0 = if i = j then x else l.getD j 0 := by
  by_cases e : i = j
  · subst e; rw [if_pos rfl, getD_at (by rw [List.length_set]; exact h)]; simp
  · rw [if_neg e, List.getD_eq_getElem?_getD, List.getElem?_set_ne e, List.getD_eq_getElem?_getD]
/-- Two places are exchanged. -/
def swapL (l : List Int) (i j : Nat) : List Int := (l.set i (l.getD j 0)).set j (l.getD i 0)
theorem swapL_len (l : List Int) (i j : Nat) : (swapL l i j).length = l.length := by simp [swapL]
theorem swapL_get {l : List Int} {i j k : Nat} (hi : i < l.length) (hj : j < l.length) : (swapL l i j).getD k 0 = if j = k then l.getD i 0 else if i = k then l.getD j 0 else l.getD k 0 := by
  unfold swapL
  rw [getD_set (by rw [List.length_set]; exact hj), getD_set hi]
theorem swapL_perm {l : List Int} {i j : Nat} (hi : i < l.length) (hj : j < l.length) : (swapL l i j).Perm l := by
  unfold swapL
  rw [getD_at hi, getD_at hj]
  exact List.set_set_perm hi hj
theorem ext_getD {l m : List Int} (h : l.length = m.length) (hh : ∀ i, i < l.length → l.getD i 0 = m.getD i 0) : l = m :=
  List.ext_getElem h fun i h1 h2 => by rw [← getD_at h1, ← getD_at h2]; exact hh i h1

theorem less_ok {w : World} (x y : Int) : Calls Try.prog N.cmp_Less #[.int .i64 x, .int .i64 y] w (Ret fun r w' => Ext w w' ∧ r = .bool (decide (x < y))) := by
  have nan : ∀ (w : World) (x : Int), Calls Try.prog N.cmp_isNaN #[.int .i64 x] w (Ret fun r w' => Ext w w' ∧ r = .bool false) := fun w x => by
    refine ret_k fun R hR => c_cmp_isNaN _ _ _ ?_
    simp only [go_sem]
    exact hR _ _ ⟨Ext.refl _, by simp⟩
  refine ret_k fun R hR => c_cmp_Less _ _ _ _ ?_
  refine callV_of (nan w x) rfl ?_
  rintro _ w1 ⟨E1, rfl⟩
  simp only [go_sem]
  exact ⟨fun h => (by cases h), fun _ => hR _ _ ⟨E1, rfl⟩⟩

theorem insertion_ok {w : World} {b : Nat} {v : Value} {xs : List Int} (hf : FInts w (· = b) v xs) (hl : xs.length ≤ 1000) :
    Calls Try.prog N.slices_insertionSortOrdered #[v, .int .i64 0, .int .i64 xs.length] w (Ret fun _ w' => Chg (· = b) w w' ∧ FInts w' (· = b) v (sortS xs)) := by
  refine ret_k fun R hR => c_slices_insertionSortOrdered _ _ _ _ _ ?_
  refine bin_add ⟨by omega, by omega⟩ ?_
  have e1 : (0 : Int) + 1 = ((1 : Nat) : Int) := rfl
  rw [e1]
  refine loopV (fun s w' => ∃ (i : Nat) (cur : List Int), s = [.int .i64 i] ∧ 1 ≤ i ∧ (i ≤ xs.length ∨ i = 1) ∧ cur.length = xs.length ∧ cur.Perm xs ∧ Chg (· = b) w w' ∧ FInts w' (· = b) v cur ∧ ∀ p q, p < q → q < i → q < xs.length → cur.getD p 0 ≤ cur.getD q 0) (upTo xs.length 0)
    ⟨1, xs, rfl, Nat.le_refl _, .inr rfl, rfl, .refl _, Chg.refl _ _, hf, fun p q h1 h2 => by omega⟩ ?_
  rintro s z w1 K ⟨i, cur, rfl, hi1, hil, hcl, hp, C1, f1, hs⟩ hK
  simp only [go_sem]
  refine ⟨fun h => ?_, fun h => ?_⟩
  · have hi : i < xs.length := by omega
    refine loopV (fun s w' => ∃ (j : Nat) (cur : List Int), s = [.int .i64 j] ∧ j ≤ i ∧ cur.length = xs.length ∧ cur.Perm xs ∧ Chg (· = b) w w' ∧ FInts w' (· = b) v cur ∧ (∀ p q, p < q → q ≤ i → p ≠ j → q ≠ j → cur.getD p 0 ≤ cur.getD q 0) ∧ ∀ q, j < q → q ≤ i → cur.getD j 0 ≤ cur.getD q 0) (fun s _ => (iOf (nthV s 0)).toNat)
      ⟨i, cur, rfl, Nat.le_refl _, hcl, hp, C1, f1, fun p q h1 h2 h3 h4 => hs p q h1 (by omega) (by omega), fun q h1 h2 => by omega⟩ ?_
    rintro s z w2 K' ⟨j, cur, rfl, hj, hcl, hp, C2, f2, hs1, hs2⟩ hK'
    have next : ∀ {w'}, Chg (· = b) w w' → FInts w' (· = b) v cur → (j = 0 ∨ cur.getD (j - 1) 0 ≤ cur.getD j 0) → BinV .add (.int .i64 i) (.int .i64 1) fun t => K [t] w' := fun {w'} hC hf hstop =>
      bin_inc (by omega) (hK _ _ ⟨i + 1, cur, rfl, by omega, .inl (by omega), hcl, hp, hC, hf, fun p q h1 h2 h3 => by
        by_cases ep : p = j
        · subst ep; exact hs2 q h1 (by omega)
        · by_cases eq : q = j
          · subst eq
            rcases hstop with h | h
            · omega
            · by_cases e : p = q - 1
              · rw [e]; exact h
              · exact Int.le_trans (hs1 p (q - 1) (by omega) (by omega) ep (by omega)) h
          · exact hs1 p q h1 (by omega) ep eq⟩ (by simp [upTo, nthV, iOf]; omega))
    refine draw_none fun w3 hs3 => ?_
    have f3 := f2.ext hs3.ext
    have C3 := C2.then hs3.ext
    simp only [go_sem]
    refine ⟨fun hpos => ?_, fun h0 => next C3 f3 (.inl (by omega))⟩
    obtain ⟨k, rfl⟩ : ∃ k, j = k + 1 := ⟨j - 1, by omega⟩
    have ek : ((k + 1 : Nat) : Int) - 1 = (k : Int) := by omega
    have hj' : k + 1 < cur.length := by omega
    have hk' : k < cur.length := by omega
    refine Ints.loadS f3.ints hj' (fun _ => id) ?_
    refine bin_sub ⟨by omega, by omega⟩ ?_
    rw [ek]
    refine Ints.loadS f3.ints hk' (fun _ => id) ?_
    refine callV_of (less_ok _ _) rfl ?_
    rintro _ w4 ⟨E4, rfl⟩
    refine ⟨E4, ?_⟩
    have f4 := f3.ext E4
    have C4 := C3.then E4
    simp only [go_sem]
    refine ⟨fun hlt => ?_, fun hge => next C4 f4 (.inr (by rw [Nat.add_sub_cancel, getD_at hk', getD_at hj']; omega))⟩
    refine ⟨fun c => c = b, fun w5 hs5 => ?_⟩
    have f5 := f4.ext hs5.ext
    refine bin_sub ⟨by omega, by omega⟩ ?_
    refine bin_sub ⟨by omega, by omega⟩ ?_
    rw [ek]
    refine Ints.loadS f5.ints hk' (fun _ => id) ?_
    refine Ints.loadS f5.ints hj' (fun _ => id) ?_
    refine f5.store hj' fun w6 C6 s6 f6 => ⟨C6, ?_⟩
    refine f6.store (by rw [List.length_set]; exact hk') fun w7 C7 s7 f7 => ?_
    have hsw : (cur.set (k + 1) cur[k]).set k cur[k + 1] = swapL cur (k + 1) k := by unfold swapL; rw [getD_at hk', getD_at hj']
    rw [hsw] at f7
    refine bin_sub ⟨by omega, by omega⟩ ?_
    rw [ek]
    have hlt' : cur.getD (k + 1) 0 < cur.getD k 0 := by rw [getD_at hk', getD_at hj']; exact hlt
    have g := fun m => swapL_get (l := cur) (k := m) hj' hk'
    refine hK' _ _ ⟨k, swapL cur (k + 1) k, rfl, by omega, by rw [swapL_len]; exact hcl, (swapL_perm hj' hk').trans hp, ((C4.then hs5.ext).andThen C6).andThen C7, f7, fun p q h1 h2 h3 h4 => ?_, fun q h1 h2 => ?_⟩ (by simp [nthV, iOf])
    · rw [g p, g q, if_neg (show ¬ k = p from fun e => h3 e.symm), if_neg (show ¬ k = q from fun e => h4 e.symm)]
      by_cases e1 : k + 1 = p
      · rw [if_pos e1]
        have hq : ¬ k + 1 = q := by omega
        rw [if_neg hq]
        exact hs1 k q (by omega) h2 (by omega) (by omega)
      · rw [if_neg e1]
        by_cases e2 : k + 1 = q
        · rw [if_pos e2]; exact hs1 p k (by omega) (by omega) (by omega) (by omega)
        · rw [if_neg e2]; exact hs1 p q h1 h2 (fun e => e1 e.symm) (fun e => e2 e.symm)
    · rw [g k, g q, if_pos rfl, if_neg (by omega)]
      by_cases e2 : k + 1 = q
      · rw [if_pos e2]; omega
      · rw [if_neg e2]; exact hs2 q (by omega) h2
  · have hsrt : cur.Pairwise (· ≤ ·) := by
      rw [List.pairwise_iff_getElem]
      intro p q h1 h2 h3
      rw [← getD_at h1, ← getD_at h2]
      exact hs p q h3 (by omega) (by omega)
    rw [sortS_uniq hp hsrt] at f1
    exact hR _ _ ⟨C1, f1⟩

theorem len64_ok {w : World} {n : Nat} (hn : n < 256) : Calls Try.prog N.math_bits_Len64 #[.int .u64 n] w (Ret fun r w' => Ext w w' ∧ ∃ m, r = .int .i64 m) := by
  refine ret_k fun R hR => c_math_bits_Len64 _ _ _ ?_
  simp only [go_sem]
  refine ⟨fun h => by omega, fun _ => ⟨fun h => by omega, fun _ => ⟨fun h => by omega, fun _ => ?_⟩⟩⟩
  have hw : IntKind.u8.wrap (n : Int) = n := by
    simp [IntKind.wrap, IntKind.bits, IntKind.signed]; omega
  refine ⟨hw, by omega, by omega, fun m => ?_⟩
  have hm := m.toNat_lt
  exact ⟨(in64 (by omega) (by omega)).inK, bin_add ⟨by omega, by omega⟩ (hR _ _ ⟨Ext.refl _, _, rfl⟩)⟩

theorem sort_ok {w : World} {b : Nat} {v : Value} {xs : List Int} (hf : FInts w (· = b) v xs) (hl : xs.length ≤ 12) :
    Calls Try.prog N.slices_Sort #[v] w (Ret fun _ w' => Chg (· = b) w w' ∧ FInts w' (· = b) v (sortS xs)) := by
  refine ret_k fun R hR => c_slices_Sort _ _ _ ?_
  have hlen : ∀ K, LenV v K = K (.int .i64 xs.length) := fun K => ints_len hf.ints
  simp only [hlen, go_sem]
  have hw : IntKind.u64.wrap (xs.length : Int) = xs.length := by
    simp [IntKind.wrap, IntKind.bits, IntKind.signed]; omega
  refine ⟨hw, ?_⟩
  refine callV_of (ret_k (Q := fun r w' => Ext w w' ∧ ∃ m, r = .int .i64 m) fun R hR => c_math_bits_Len _ _ _ (callV_of (len64_ok (by omega)) rfl fun r w' h => hR _ _ h)) rfl ?_
  rintro _ w1 ⟨E1, m, rfl⟩
  have f1 := hf.ext E1
  refine callV_of (ret_k (Q := fun _ w' => Chg (· = b) w1 w' ∧ FInts w' (· = b) v (sortS xs)) fun R hR => c_slices_pdqsortOrdered _ _ _ _ _ _ ?_) rfl fun _ w2 ⟨C2, f2⟩ => hR _ _ ⟨E1.then C2, f2⟩
  refine loopV (fun s w' => s = [.int .i64 0, .int .i64 xs.length, .int .i64 m, .bool true, .bool true] ∧ w' = w1) (fun _ _ => 0) ⟨rfl, rfl⟩ ?_
  rintro s z w2 K ⟨rfl, rfl⟩ hK
  simp only [go_sem]
  refine bin_sub ⟨by omega, by omega⟩ ?_
  simp only [go_sem]
  refine ⟨fun _ => ?_, fun h => absurd (by omega) h⟩
  exact callV_of (insertion_ok f1 (by omega)) rfl fun _ w3 h => hR _ _ h

theorem reverse_ok {w : World} {b : Nat} {v : Value} {xs : List Int} (hf : FInts w (· = b) v xs) (hl : xs.length ≤ 1000) :
    Calls Try.prog N.slices_Reverse #[v] w (Ret fun _ w' => Chg (· = b) w w' ∧ FInts w' (· = b) v xs.reverse) := by
  refine ret_k fun R hR => c_slices_Reverse _ _ _ ?_
  have hlen : ∀ K, LenV v K = K (.int .i64 xs.length) := fun K => ints_len hf.ints
  simp only [hlen, go_sem]
  refine bin_sub ⟨by omega, by omega⟩ ?_
  refine loopV (fun s w' => ∃ (i : Nat) (cur : List Int), s = [.int .i64 i, .int .i64 ((xs.length : Int) - 1 - i)] ∧ i ≤ xs.length ∧ cur.length = xs.length ∧ Chg (· = b) w w' ∧ FInts w' (· = b) v cur ∧ ∀ p, p < xs.length → cur.getD p 0 = if p < i ∨ xs.length - i ≤ p then xs.getD (xs.length - 1 - p) 0 else xs.getD p 0) (upTo xs.length 0)
    ⟨0, xs, by simp, by omega, rfl, Chg.refl _ _, hf, fun p hp => by rw [if_neg (by omega)]⟩ ?_
  rintro s z w1 K ⟨i, cur, rfl, hi, hcl, C1, f1, hs⟩ hK
  simp only [go_sem]
  refine ⟨fun h => ?_, fun h => ?_⟩
  · obtain ⟨j, hj⟩ : ∃ j : Nat, (xs.length : Int) - 1 - i = (j : Int) := ⟨xs.length - 1 - i, by omega⟩
    have hi' : i < cur.length := by omega
    have hj' : j < cur.length := by omega
    rw [hj]
    refine ⟨fun c => c = b, fun w2 hs2 => ?_⟩
    have f2 := f1.ext hs2.ext
    refine Ints.loadS f2.ints hj' (fun _ => id) ?_
    refine Ints.loadS f2.ints hi' (fun _ => id) ?_
    refine f2.store hi' fun w3 C3 s3 f3 => ⟨C3, ?_⟩
    refine f3.store (by rw [List.length_set]; exact hj') fun w4 C4 s4 f4 => ?_
    have hsw : (cur.set i cur[j]).set j cur[i] = swapL cur i j := by unfold swapL; rw [getD_at hi', getD_at hj']
    rw [hsw] at f4
    refine bin_inc (by omega) ?_
    refine bin_sub ⟨by omega, by omega⟩ ?_
    have ej : (j : Int) - 1 = (xs.length : Int) - 1 - (i + 1 : Nat) := by omega
    rw [ej]
    refine hK _ _ ⟨i + 1, swapL cur i j, rfl, by omega, by rw [swapL_len]; exact hcl, ((C1.then hs2.ext).andThen C3).andThen C4, f4, fun p hp => ?_⟩ (by simp [upTo, nthV, iOf]; omega)
    rw [swapL_get hi' hj']
    have hji : j = xs.length - 1 - i := by omega
    by_cases e1 : j = p
    · rw [if_pos e1, if_pos (by omega), hs i (by omega), if_neg (by omega)]
      congr 1; omega
    · rw [if_neg e1]
      by_cases e2 : i = p
      · rw [if_pos e2, if_pos (by omega), hs j (by omega), if_neg (by omega)]
        congr 1; omega
      · rw [if_neg e2, hs p hp]
        by_cases e3 : p < i ∨ xs.length - i ≤ p
        · rw [if_pos e3, if_pos (by omega)]
        · rw [if_neg e3, if_neg (by omega)]
  · have hrev : cur = xs.reverse := by
      refine ext_getD (by rw [List.length_reverse]; exact hcl) fun p hp => ?_
      have hp' : p < xs.length := by omega
      rw [hs p hp', getD_at (l := xs.reverse) (by rw [List.length_reverse]; exact hp'), List.getElem_reverse]
      by_cases e : p < i ∨ xs.length - i ≤ p
      · rw [if_pos e, getD_at (by omega)]
      · rw [if_neg e, getD_at hp']
        congr 1; omega
    rw [hrev] at f1
    exact hR _ _ ⟨C1, f1⟩
end Go.Proofs.Ytblgkpfnjlobjaa

namespace Go.Proofs.Ytblgkpfnjlobjaa
open Go Go.V

theorem sl_rv : Try.prog.underlying T.impl_rowValues = some (.slice T.int) := by kernel_rfl
theorem FInts.oneS {w w' : World} {v : Value} {xs : List Int} (h : FInts w' (Since w) v xs) : ∃ b, w.heap.size ≤ b ∧ FInts w' (· = b) v xs := by
  by_cases hne : xs = []
  · subst hne
    obtain ⟨a, c, hv, hc, _⟩ := h.out
    exact ⟨w.heap.size, Nat.le_refl _, a, c, hv, hc, fun h => absurd rfl h⟩
  · obtain ⟨b, hb, h1⟩ := FInts.one h
    exact ⟨b, (h1 hne).1, hb⟩
theorem copyRv {w : World} {v : Value} {xs : List Int} (hx : Ints w v xs) (hl : xs.length ≤ 1000) {K : Value → World → Prop} (hK : ∀ u w' b, Ext w w' → w.heap.size ≤ b → FInts w' (· = b) u xs → K u w') : AppendV Try.prog T.impl_rowValues (.slice none 0 0) v w K := by
  obtain ⟨a, c, rfl, hc, hx⟩ := hx.out
  refine appendV_src sl_rv el_int (lo := w.heap.size) (own_nil (lo := w.heap.size)) hx (by simp [ints]) ints_one (by omega) (by omega) (Nat.le_refl _) fun v' w' ho hC => ?_
  have ho' : Own w' w.heap.size T.int 1 v' (0 + xs.length) (ints xs) := by simpa [ints] using ho
  obtain ⟨b, hb, hf⟩ := FInts.oneS (w := w) (Own.fints ho')
  exact hK _ _ b (Chg.ext hC fun k _ h => (by cases h)) hb hf
theorem implRowSort_ok {w : World} {v : Value} {xs : List Int} (hx : Ints w v xs) (h1 : RowOk xs) :
    Calls Try.prog N.impl_RowSort #[v] w (Ret fun r w' => ∃ z, r = .tuple #[z, .bool true] ∧ Ext w w' ∧ FInts w' (Since w) z (sortS xs)) := by
  refine ret_k fun R hR => c_impl_RowSort _ _ _ ?_
  have hxl := h1.1
  refine callV_of (rowsValid_ok hx (by omega)) rfl ?_
  rintro _ w1 ⟨E1, rfl⟩
  simp only [go_sem]
  refine ⟨fun h => absurd h1 h, fun _ => ?_⟩
  refine callV_of (ret_k (Q := fun r w' => Ext w1 w' ∧ FInts w' (Since w1) r (sortS xs)) fun R hR => c_impl_rowValues_sorted _ _ _ ?_) rfl ?_
  · refine copyRv (hx.ext E1) (by omega) fun u w2 b E2 hb f2 => ?_
    refine callV_of (sort_ok f2 (by omega)) rfl fun _ w3 ⟨C3, f3⟩ => ?_
    exact hR _ _ ⟨Chg.ext (E2.then C3) fun j hj e => by have e : j = b := e; omega, f3.mono fun k _ e => by have e : k = b := e; unfold Since; omega⟩
  · rintro z w2 ⟨E2, f2⟩
    exact hR _ _ ⟨z, rfl, E1.trans E2, f2.mono fun b _ hb => by have := E1.size; unfold Since at hb ⊢; omega⟩
theorem implRowTurn_ok {w : World} {v : Value} {xs : List Int} (hx : Ints w v xs) (h1 : RowOk xs) :
    Calls Try.prog N.impl_RowTurn #[v] w (Ret fun r w' => ∃ z, r = .tuple #[z, .bool true] ∧ Ext w w' ∧ FInts w' (Since w) z xs.reverse) := by
  refine ret_k fun R hR => c_impl_RowTurn _ _ _ ?_
  have hxl := h1.1
  refine callV_of (rowsValid_ok hx (by omega)) rfl ?_
  rintro _ w1 ⟨E1, rfl⟩
  simp only [go_sem]
  refine ⟨fun h => absurd h1 h, fun _ => ?_⟩
  refine callV_of (ret_k (Q := fun r w' => Ext w1 w' ∧ FInts w' (Since w1) r xs.reverse) fun R hR => c_impl_rowValues_turned _ _ _ ?_) rfl ?_
  · refine copyRv (hx.ext E1) (by omega) fun u w2 b E2 hb f2 => ?_
    refine callV_of (reverse_ok f2 (by omega)) rfl fun _ w3 ⟨C3, f3⟩ => ?_
    exact hR _ _ ⟨Chg.ext (E2.then C3) fun j hj e => by have e : j = b := e; omega, f3.mono fun k _ e => by have e : k = b := e; unfold Since; omega⟩
  · rintro z w2 ⟨E2, f2⟩
    exact hR _ _ ⟨z, rfl, E1.trans E2, f2.mono fun b _ hb => by have := E1.size; unfold Since at hb ⊢; omega⟩

/-- A list of lists of numbers. -/
structure Lists (w : World) (v : Value) (ls : List (List Int)) : Prop where
  out : ∃ a c, v = .slice a ls.length c ∧ ls.length ≤ c ∧ ∀ i (h : i < ls.length), ∃ b off x, a = some ⟨b, off, none⟩ ∧ w.cell? ⟨b, off + i, none⟩ = some x ∧ Ints w x ls[i]
theorem Lists.ext {w w' : World} {v : Value} {ls : List (List Int)} (h : Lists w v ls) (hE : Ext w w') : Lists w' v ls := by
  obtain ⟨a, c, hv, hc, hh⟩ := h.out
  refine ⟨a, c, hv, hc, fun i hi => ?_⟩
  obtain ⟨b, off, x, ha, hx, hi⟩ := hh i hi
  exact ⟨b, off, x, ha, cell_keep hE hx id, hi.ext hE⟩
theorem Lists.len {w : World} {v : Value} {ls : List (List Int)} (h : Lists w v ls) {K : Value → Prop} : LenV v K = K (.int .i64 ls.length) := by
  obtain ⟨a, c, rfl, _⟩ := h.out; rfl
theorem Lists.load {w : World} {v : Value} {ls : List (List Int)} (h : Lists w v ls) {i : Nat} (hi : i < ls.length) {K : Value → Prop} (hK : ∀ x, Ints w x ls[i] → K x) : IdxV 1 v (.int .i64 i) fun t => LoadV false 1 t w K := by
  obtain ⟨a, c, rfl, hc, hh⟩ := h.out
  obtain ⟨b, off, x, rfl, hx, hxi⟩ := hh i hi
  refine ⟨by omega, by omega, ?_⟩
  simp only [addr_add, Int.toNat_natCast, Nat.mul_one]
  exact ⟨x, hx, hK x hxi⟩
theorem Lists.loadS {w : World} {v : Value} {ls : List (List Int)} (h : Lists w v ls) {i : Nat} (hi : i < ls.length) {S : Nat → Prop} (hS : ∀ b, ¬ S b) {K : Value → Prop} (hK : ∀ x, Ints w x ls[i] → K x) : IdxV 1 v (.int .i64 i) fun t => LoadS S false 1 t w K := by
  obtain ⟨a, c, rfl, hc, hh⟩ := h.out
  obtain ⟨b, off, x, rfl, hx, hxi⟩ := hh i hi
  refine ⟨by omega, by omega, ?_⟩
  simp only [addr_add, Int.toNat_natCast, Nat.mul_one]
  exact ⟨hS _, x, hx, hK x hxi⟩

theorem okRows : okFn Try.prog N.impl_RowAdd = true ∧ okFn Try.prog N.impl_RowTimes = true ∧ okFn Try.prog N.impl_RowSums = true ∧ okFn Try.prog N.impl_RowSort = true ∧ okFn Try.prog N.impl_RowTurn = true := ⟨by kernel_rfl, by kernel_rfl, by kernel_rfl, by kernel_rfl, by kernel_rfl⟩
end Go.Proofs.Ytblgkpfnjlobjaa

namespace Go.Proofs.Ytblgkpfnjlobjaa
open Go Go.V

theorem implKindRun_ok {w : World} {lv : Value} {k : Int} {rs : List (List Int)} {wd : Nat} (hl : Lists w lv rs) (hk : 1 ≤ k ∧ k ≤ 5) (hn : (rs.length : Int) = kneeds k) (hr : ∀ r ∈ rs, RowW wd r) :
    Calls Try.prog N.impl_KindRun #[.int .i64 k, lv] w (Ret fun r w' => ∃ z, r = .tuple #[z, .bool true] ∧ Ext w w' ∧ FInts w' (Since w) z (kOp k rs)) := by
  refine ret_k fun R hR => c_impl_KindRun _ _ _ _ ?_
  refine callV_of (workOf_ok k) rfl ?_
  rintro _ w1 ⟨E1, rfl⟩
  have hll : ∀ K, LenV lv K = K (.int .i64 rs.length) := fun K => hl.len
  refine kind_cases (k := k) (fun h => by omega) (fun h => ?_) (fun h => ?_) (fun h => ?_) (fun h => ?_) (fun h => ?_) (fun h => by omega)
  · subst h
    have h2 : rs.length = 2 := by
      have : kneeds 1 = 2 := by decide
      omega
    have r0 := hr _ (List.getElem_mem (show 0 < rs.length by omega))
    have r1 := hr _ (List.getElem_mem (show 1 < rs.length by omega))
    have hop : kOp 1 rs = addR rs[0] rs[1] := by
      simp only [kOp, List.getD_eq_getElem?_getD]
      rw [List.getElem?_eq_getElem (by omega), List.getElem?_eq_getElem (by omega)]
      rfl
    rw [hop] at hR
    refine ⟨fun _ => ?_, fun h => absurd rfl h⟩
    simp only [go_sem]
    refine ⟨fun _ => ?_, fun h => (by cases h)⟩
    refine box1 (x := .func (.func N.impl_RowAdd) #[] #[]) rfl rfl rfl fun w2 E2 hb2 z2 => ?_
    rw [hll, h2]
    refine load_all (vs := [.func (.func N.impl_RowAdd) #[] #[]]) hb2 ?_
    refine callV_of pairNeeds_ok rfl ?_
    rintro _ w3 ⟨E3, rfl⟩
    simp only [go_sem]
    refine ⟨fun _ => ?_, fun h => absurd rfl h⟩
    refine draw_none fun w4 hs4 => ?_
    have e4 := (E1.trans (E2.trans E3)).trans hs4.ext
    refine loadS2 (v := .func (.func N.impl_RowAdd) #[] #[]) (hs4.ext.at (E3.at hb2)) id rfl ?_
    refine (hl.ext e4).loadS (i := 0) (by omega) (fun _ => id) fun x hx => ?_
    refine (hl.ext e4).loadS (i := 1) (by omega) (fun _ => id) fun y hy => ?_
    refine ⟨okRows.1, ?_⟩
    refine callV_of (implRowAdd_ok hx hy r0.1 r1.1 (by rw [r0.2, r1.2])) rfl ?_
    rintro _ w5 ⟨zv, rfl, E5, f5⟩
    refine ⟨E5, ?_⟩
    simp only [go_sem]
    exact hR _ _ ⟨zv, rfl, e4.trans E5, f5.mono fun b _ hb => by have := e4.size; unfold Since at hb ⊢; omega⟩
  · subst h
    have h2 : rs.length = 2 := by
      have : kneeds 2 = 2 := by decide
      omega
    have r0 := hr _ (List.getElem_mem (show 0 < rs.length by omega))
    have r1 := hr _ (List.getElem_mem (show 1 < rs.length by omega))
    have hop : kOp 2 rs = mulR rs[0] rs[1] := by
      simp only [kOp, List.getD_eq_getElem?_getD]
      rw [List.getElem?_eq_getElem (by omega), List.getElem?_eq_getElem (by omega)]
      rfl
    rw [hop] at hR
    refine ⟨fun _ => ?_, fun h => absurd rfl h⟩
    simp only [go_sem]
    refine ⟨fun _ => ?_, fun h => (by cases h)⟩
    refine box1 (x := .func (.func N.impl_RowTimes) #[] #[]) rfl rfl rfl fun w2 E2 hb2 z2 => ?_
    rw [hll, h2]
    refine load_all (vs := [.func (.func N.impl_RowTimes) #[] #[]]) hb2 ?_
    refine callV_of pairNeeds_ok rfl ?_
    rintro _ w3 ⟨E3, rfl⟩
    simp only [go_sem]
    refine ⟨fun _ => ?_, fun h => absurd rfl h⟩
    refine draw_none fun w4 hs4 => ?_
    have e4 := (E1.trans (E2.trans E3)).trans hs4.ext
    refine loadS2 (v := .func (.func N.impl_RowTimes) #[] #[]) (hs4.ext.at (E3.at hb2)) id rfl ?_
    refine (hl.ext e4).loadS (i := 0) (by omega) (fun _ => id) fun x hx => ?_
    refine (hl.ext e4).loadS (i := 1) (by omega) (fun _ => id) fun y hy => ?_
    refine ⟨okRows.2.1, ?_⟩
    refine callV_of (implRowTimes_ok hx hy r0.1 r1.1 (by rw [r0.2, r1.2])) rfl ?_
    rintro _ w5 ⟨zv, rfl, E5, f5⟩
    refine ⟨E5, ?_⟩
    simp only [go_sem]
    exact hR _ _ ⟨zv, rfl, e4.trans E5, f5.mono fun b _ hb => by have := e4.size; unfold Since at hb ⊢; omega⟩
  · subst h
    have h1 : rs.length = 1 := by
      have : kneeds 3 = 1 := by decide
      omega
    have r0 := hr _ (List.getElem_mem (show 0 < rs.length by omega))
    have hop : kOp 3 rs = sumsGo 0 rs[0] := by
      simp only [kOp, List.getD_eq_getElem?_getD]
      rw [List.getElem?_eq_getElem (by omega)]
      rfl
    rw [hop] at hR
    refine ⟨fun h => absurd h (by decide), fun _ => ?_⟩
    simp only [go_sem]
    refine ⟨fun h => (by cases h), fun _ => ?_⟩
    refine ⟨fun _ => ?_, fun h => absurd rfl h⟩
    simp only [go_sem]
    refine ⟨fun _ => ?_, fun h => (by cases h)⟩
    refine box1 (x := .func (.func N.impl_RowSums) #[] #[]) rfl rfl rfl fun w2 E2 hb2 z2 => ?_
    rw [hll, h1]
    refine load_all (vs := [.func (.func N.impl_RowSums) #[] #[]]) hb2 ?_
    refine callV_of loneNeeds_ok rfl ?_
    rintro _ w3 ⟨E3, rfl⟩
    simp only [go_sem]
    refine ⟨fun _ => ?_, fun h => absurd rfl h⟩
    refine draw_none fun w4 hs4 => ?_
    have e4 := (E1.trans (E2.trans E3)).trans hs4.ext
    refine loadS2 (v := .func (.func N.impl_RowSums) #[] #[]) (hs4.ext.at (E3.at hb2)) id rfl ?_
    refine (hl.ext e4).loadS (i := 0) (by omega) (fun _ => id) fun x hx => ?_
    refine ⟨okRows.2.2.1, ?_⟩
    refine callV_of (implRowSums_ok hx r0.1) rfl ?_
    rintro _ w5 ⟨zv, rfl, E5, f5⟩
    refine ⟨E5, ?_⟩
    simp only [go_sem]
    exact hR _ _ ⟨zv, rfl, e4.trans E5, f5.mono fun b _ hb => by have := e4.size; unfold Since at hb ⊢; omega⟩
  · subst h
    have h1 : rs.length = 1 := by
      have : kneeds 4 = 1 := by decide
      omega
    have r0 := hr _ (List.getElem_mem (show 0 < rs.length by omega))
    have hop : kOp 4 rs = sortS rs[0] := by
      simp only [kOp, List.getD_eq_getElem?_getD]
      rw [List.getElem?_eq_getElem (by omega)]
      rfl
    rw [hop] at hR
    refine ⟨fun h => absurd h (by decide), fun _ => ?_⟩
    simp only [go_sem]
    refine ⟨fun h => (by cases h), fun _ => ?_⟩
    refine ⟨fun _ => ?_, fun h => absurd rfl h⟩
    simp only [go_sem]
    refine ⟨fun _ => ?_, fun h => (by cases h)⟩
    refine box1 (x := .func (.func N.impl_RowSort) #[] #[]) rfl rfl rfl fun w2 E2 hb2 z2 => ?_
    rw [hll, h1]
    refine load_all (vs := [.func (.func N.impl_RowSort) #[] #[]]) hb2 ?_
    refine callV_of loneNeeds_ok rfl ?_
    rintro _ w3 ⟨E3, rfl⟩
    simp only [go_sem]
    refine ⟨fun _ => ?_, fun h => absurd rfl h⟩
    refine draw_none fun w4 hs4 => ?_
    have e4 := (E1.trans (E2.trans E3)).trans hs4.ext
    refine loadS2 (v := .func (.func N.impl_RowSort) #[] #[]) (hs4.ext.at (E3.at hb2)) id rfl ?_
    refine (hl.ext e4).loadS (i := 0) (by omega) (fun _ => id) fun x hx => ?_
    refine ⟨okRows.2.2.2.1, ?_⟩
    refine callV_of (implRowSort_ok hx r0.1) rfl ?_
    rintro _ w5 ⟨zv, rfl, E5, f5⟩
    refine ⟨E5, ?_⟩
    simp only [go_sem]
    exact hR _ _ ⟨zv, rfl, e4.trans E5, f5.mono fun b _ hb => by have := e4.size; unfold Since at hb ⊢; omega⟩
  · subst h
    have h1 : rs.length = 1 := by
      have : kneeds 5 = 1 := by decide
      omega
    have r0 := hr _ (List.getElem_mem (show 0 < rs.length by omega))
    have hop : kOp 5 rs = rs[0].reverse := by
      simp only [kOp, List.getD_eq_getElem?_getD]
      rw [List.getElem?_eq_getElem (by omega)]
      rfl
    rw [hop] at hR
    refine ⟨fun h => absurd h (by decide), fun _ => ?_⟩
    simp only [go_sem]
    refine ⟨fun h => (by cases h), fun _ => ?_⟩
    refine ⟨fun _ => ?_, fun h => absurd rfl h⟩
    simp only [go_sem]
    refine ⟨fun _ => ?_, fun h => (by cases h)⟩
    refine box1 (x := .func (.func N.impl_RowTurn) #[] #[]) rfl rfl rfl fun w2 E2 hb2 z2 => ?_
    rw [hll, h1]
    refine load_all (vs := [.func (.func N.impl_RowTurn) #[] #[]]) hb2 ?_
    refine callV_of loneNeeds_ok rfl ?_
    rintro _ w3 ⟨E3, rfl⟩
    simp only [go_sem]
    refine ⟨fun _ => ?_, fun h => absurd rfl h⟩
    refine draw_none fun w4 hs4 => ?_
    have e4 := (E1.trans (E2.trans E3)).trans hs4.ext
    refine loadS2 (v := .func (.func N.impl_RowTurn) #[] #[]) (hs4.ext.at (E3.at hb2)) id rfl ?_
    refine (hl.ext e4).loadS (i := 0) (by omega) (fun _ => id) fun x hx => ?_
    refine ⟨okRows.2.2.2.2, ?_⟩
    refine callV_of (implRowTurn_ok hx r0.1) rfl ?_
    rintro _ w5 ⟨zv, rfl, E5, f5⟩
    refine ⟨E5, ?_⟩
    simp only [go_sem]
    exact hR _ _ ⟨zv, rfl, e4.trans E5, f5.mono fun b _ hb => by have := e4.size; unfold Since at hb ⊢; omega⟩
end Go.Proofs.Ytblgkpfnjlobjaa
