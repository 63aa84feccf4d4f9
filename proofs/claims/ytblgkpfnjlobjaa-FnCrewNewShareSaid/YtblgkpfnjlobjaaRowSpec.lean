/- What can be done with rows: the reference's way. -/
import Derived.Test.YtblgkpfnjlobjaaKindRun
import Derived.Test.YtblgkpfnjlobjaaPart
import Derived.Test.YtblgkpfnjlobjaaValues
import Derived.Test.YtblgkpfnjlobjaaCopy
namespace Go.Proofs.Ytblgkpfnjlobjaa
open Go Go.V

/-- A number is read of a list that was there before. -/
theorem Ints.loadOld {S : Nat → Prop} {w w' : World} {v : Value} {xs : List Int} (h : Ints w v xs) (hE : Ext w w') {q : Nat} (hq : q < xs.length) (hS : ∀ b, b < w.heap.size → ¬ S b) {K : Value → Prop} (hK : K (.int .i64 xs[q])) : IdxV 1 v (.int .i64 q) fun t => LoadS S false 1 t w' K := by
  obtain ⟨a, c, rfl, hc, hx⟩ := h.out
  refine idxLoadS (hx.ext hE) rfl hq (fun b off ha => ?_) hK
  obtain ⟨b', off', ha', hcell⟩ := hx q _ (ints_get hq)
  rw [ha] at ha'
  cases ha'
  exact hS _ (World.block_lt_of_cell? w _ hcell)

theorem l1Both_ok {w : World} {u v : Value} {xs ys : List Int} (hx : Ints w u xs) (hy : Ints w v ys) (h1 : RowOk xs) (h2 : RowOk ys) (hl : xs.length = ys.length) : Calls Try.prog N.spec_l1Both #[u, v] w (Ret fun r w' => Ext w w' ∧ r = .bool true) := by
  refine ret_k fun R hR => c_spec_l1Both _ _ _ _ ?_
  have hxl := h1.1
  have hyl := h2.1
  have l1 : ∀ K, LenV u K = K (.int .i64 xs.length) := fun K => ints_len hx
  have l2 : ∀ K, LenV v K = K (.int .i64 ys.length) := fun K => ints_len hy
  refine callV_of (specRowValid_ok hx (by omega)) rfl ?_
  rintro _ w1 ⟨E1, rfl⟩
  simp only [go_sem]
  refine ⟨fun _ => ?_, fun h => absurd h1 h⟩
  refine callV_of (specRowValid_ok (hy.ext E1) (by omega)) rfl ?_
  rintro _ w2 ⟨E2, rfl⟩
  simp only [l1, l2, go_sem]
  exact ⟨fun _ => hR _ _ ⟨E1.trans E2, by simp [hl]⟩, fun h => absurd h2 h⟩

/-- One number more is put behind a list in memory of one's own, in a region whose order is free. -/
theorem app_intS {w : World} {lo : Nat} {v : Value} {xs : List Int} {n : Nat} (hown : Own w lo T.int 1 v n (ints xs)) {x : Int} {zc : Value} (hn : n ≤ 1099511627776) (hlo : lo ≤ w.heap.size) {S : Nat → Prop} (hS : ∀ k, blkIs v k → S k)
    {K : Value → World → Prop} (hK : ∀ v' w', Own w' lo T.int 1 v' (n + 1) (ints (xs ++ [x])) → Chg (blkIs v) w w' → K v' w') :
    BSliceV T.int 1 1 #[zc] [(0, .int .i64 x)] w fun p w1 => Chg S w w1 ∧ AppendV Try.prog T.sl_int v p w1 fun v' w' => Chg S w1 w' ∧ K v' w' := by
  refine app1At sl_int el_int hown (news := [.int .i64 x]) rfl (fill_int rfl) rfl (by simp [Value.oneCell']) (by omega) (by omega) hlo hS fun v' w' ho hc _ => hK v' w' ?_ hc
  simpa [ints] using ho
theorem half {e size len : Nat} {zc : Array Value} {parts : List (Nat × Value)} {P : Program} {t : TypeId} {v : Value} {w : World} {S : Nat → Prop} {K : Value → World → Prop}
    (h : BSliceV e size len zc parts w fun p w1 => Chg S w w1 ∧ AppendV P t v p w1 fun v' w' => Chg S w1 w' ∧ K v' w') : BSliceV e size len zc parts w fun p w1 => Chg S w w1 ∧ AppendV P t v p w1 K := by
  obtain ⟨c, h1, h2⟩ := h
  refine ⟨c, h1, fun w1 hn => ?_⟩
  obtain ⟨h3, v', w', hr, _, hk⟩ := h2 w1 hn
  exact ⟨h3, v', w', hr, hk⟩

theorem specRowAdd_ok {w : World} {u v : Value} {xs ys : List Int} (hx : Ints w u xs) (hy : Ints w v ys) (h1 : RowOk xs) (h2 : RowOk ys) (hl : xs.length = ys.length) :
    Calls Try.prog N.spec_RowAdd #[u, v] w (Ret fun r w' => ∃ z, r = .tuple #[z, .bool true] ∧ Ext w w' ∧ FInts w' (Since w) z (addR xs ys)) := by
  refine ret_k fun R hR => c_spec_RowAdd _ _ _ _ ?_
  have hxl := h1.1
  have l1 : ∀ K, LenV u K = K (.int .i64 xs.length) := fun K => ints_len hx
  refine ⟨_, rfl, fun w1 hn1 => ?_⟩
  refine callV_of (l1Both_ok (hx.ext hn1.ext) (hy.ext hn1.ext) h1 h2 hl) rfl ?_
  rintro _ w2 ⟨E2, rfl⟩
  have e2 := hn1.ext.trans E2
  have z1 := hn1.size
  simp only [go_sem]
  refine ⟨fun h => (by cases h), fun _ => ?_⟩
  have hzl : (addR xs ys).length = xs.length := by unfold addR; rw [List.length_zipWith]; omega
  refine loopV (fun s w' => ∃ (k : Nat) (z : Value), s = [z, .int .i64 k] ∧ k ≤ xs.length ∧ Ext w w' ∧ w1.heap.size ≤ w'.heap.size ∧ Own w' w.heap.size T.int 1 z k (ints ((addR xs ys).take k))) (upTo xs.length 1)
    ⟨0, _, rfl, by omega, e2, E2.size, by simpa [ints] using Own.ext (Own.empty (lo := w.heap.size) hn1 (Nat.le_refl _)) E2⟩ ?_
  rintro s zz w3 K ⟨k, z, rfl, hk, E3, z3, ho3⟩ hK
  simp only [l1, go_sem]
  refine ⟨fun h => ?_, fun h => ?_⟩
  · have hk : k < xs.length := by omega
    have hky : k < ys.length := by omega
    refine ⟨fun b => w3.heap.size ≤ b ∨ blkIs z b, fun w4 hs4 => ?_⟩
    have hno : ∀ b, b < w.heap.size → ¬ (w3.heap.size ≤ b ∨ blkIs z b) := fun b hb h => by
      rcases h with h | h
      · omega
      · have := (Own.lt ho3 h).1; omega
    have q1 := row_at h1 hk
    have q2 := row_at h2 hky
    have e4 := E3.trans hs4.ext
    refine Ints.loadOld hx e4 hk hno ?_
    refine Ints.loadOld hy e4 hky hno ?_
    refine bin_add ⟨by omega, by omega⟩ ?_
    refine bin_rem (by omega) ?_
    rw [tmod_emod (by omega)]
    have ho4 := Own.ext ho3 hs4.ext
    have z4 : w4.heap.size = w3.heap.size := by rw [hs4.heap]
    refine app_intS ho4 (by omega) (by omega) (fun j hj => .inr hj) fun z' w5 ho5 C5 => ?_
    refine bin_inc (by omega) (hK _ _ ⟨k + 1, z', rfl, by omega, chg_own e4 ho4 C5 (Nat.le_refl _), by have := C5.size; omega, ?_⟩ (by simp [upTo, nthV, iOf]; omega))
    rw [take_snoc (by omega)]
    have : (addR xs ys)[k]'(by omega) = (xs[k] + ys[k]) % 1009 := by simp only [addR, List.getElem_zipWith]
    rw [this]; exact ho5
  · have hk : k = xs.length := by omega
    subst hk
    rw [← hzl, List.take_length] at ho3
    exact hR _ _ ⟨z, rfl, E3, Own.fints ho3⟩

theorem specRowTimes_ok {w : World} {u v : Value} {xs ys : List Int} (hx : Ints w u xs) (hy : Ints w v ys) (h1 : RowOk xs) (h2 : RowOk ys) (hl : xs.length = ys.length) :
    Calls Try.prog N.spec_RowTimes #[u, v] w (Ret fun r w' => ∃ z, r = .tuple #[z, .bool true] ∧ Ext w w' ∧ FInts w' (Since w) z (mulR xs ys)) := by
  have hb : ∀ {x y : Int}, 0 ≤ x → x < 1009 → 0 ≤ y → y < 1009 → 0 ≤ x * y ∧ x * y ≤ 1018081 := fun {x y} a b c d => ⟨Int.mul_nonneg a c, by
    have h1 : x * y ≤ 1009 * y := Int.mul_le_mul_of_nonneg_right (by omega) c
    omega⟩
  refine ret_k fun R hR => c_spec_RowTimes _ _ _ _ ?_
  have hxl := h1.1
  have l1 : ∀ K, LenV u K = K (.int .i64 xs.length) := fun K => ints_len hx
  refine ⟨_, rfl, fun w1 hn1 => ?_⟩
  refine callV_of (l1Both_ok (hx.ext hn1.ext) (hy.ext hn1.ext) h1 h2 hl) rfl ?_
  rintro _ w2 ⟨E2, rfl⟩
  have e2 := hn1.ext.trans E2
  have z1 := hn1.size
  simp only [go_sem]
  refine ⟨fun h => (by cases h), fun _ => ?_⟩
  have hzl : (mulR xs ys).length = xs.length := by unfold mulR; rw [List.length_zipWith]; omega
  refine loopV (fun s w' => ∃ (k : Nat) (z : Value), s = [z, .int .i64 k] ∧ k ≤ xs.length ∧ Ext w w' ∧ w1.heap.size ≤ w'.heap.size ∧ Own w' w.heap.size T.int 1 z k (ints ((mulR xs ys).take k))) (upTo xs.length 1)
    ⟨0, _, rfl, by omega, e2, E2.size, by simpa [ints] using Own.ext (Own.empty (lo := w.heap.size) hn1 (Nat.le_refl _)) E2⟩ ?_
  rintro s zz w3 K ⟨k, z, rfl, hk, E3, z3, ho3⟩ hK
  simp only [l1, go_sem]
  refine ⟨fun h => ?_, fun h => ?_⟩
  · have hk : k < xs.length := by omega
    have hky : k < ys.length := by omega
    refine ⟨fun b => w3.heap.size ≤ b ∨ blkIs z b, fun w4 hs4 => ?_⟩
    have hno : ∀ b, b < w.heap.size → ¬ (w3.heap.size ≤ b ∨ blkIs z b) := fun b hb h => by
      rcases h with h | h
      · omega
      · have := (Own.lt ho3 h).1; omega
    have q1 := row_at h1 hk
    have q2 := row_at h2 hky
    have e4 := E3.trans hs4.ext
    refine Ints.loadOld hx e4 hk hno ?_
    refine Ints.loadOld hy e4 hky hno ?_
    have hm := hb q1.1 q1.2 q2.1 q2.2
    refine bin_mul ⟨by omega, by omega⟩ ?_
    refine bin_rem (by omega) ?_
    rw [tmod_emod (by omega)]
    have ho4 := Own.ext ho3 hs4.ext
    have z4 : w4.heap.size = w3.heap.size := by rw [hs4.heap]
    refine app_intS ho4 (by omega) (by omega) (fun j hj => .inr hj) fun z' w5 ho5 C5 => ?_
    refine bin_inc (by omega) (hK _ _ ⟨k + 1, z', rfl, by omega, chg_own e4 ho4 C5 (Nat.le_refl _), by have := C5.size; omega, ?_⟩ (by simp [upTo, nthV, iOf]; omega))
    rw [take_snoc (by omega)]
    have : (mulR xs ys)[k]'(by omega) = (xs[k] * ys[k]) % 1009 := by simp only [mulR, List.getElem_zipWith]
    rw [this]; exact ho5
  · have hk : k = xs.length := by omega
    subst hk
    rw [← hzl, List.take_length] at ho3
    exact hR _ _ ⟨z, rfl, E3, Own.fints ho3⟩

theorem specRowSums_ok {w : World} {v : Value} {xs : List Int} (hx : Ints w v xs) (h1 : RowOk xs) :
    Calls Try.prog N.spec_RowSums #[v] w (Ret fun r w' => ∃ z, r = .tuple #[z, .bool true] ∧ Ext w w' ∧ FInts w' (Since w) z (sumsGo 0 xs)) := by
  refine ret_k fun R hR => c_spec_RowSums _ _ _ ?_
  have hxl := h1.1
  have l1 : ∀ K, LenV v K = K (.int .i64 xs.length) := fun K => ints_len hx
  refine ⟨_, rfl, fun w1 hn1 => ?_⟩
  refine callV_of (specRowValid_ok (hx.ext hn1.ext) (by omega)) rfl ?_
  rintro _ w2 ⟨E2, rfl⟩
  have e2 := hn1.ext.trans E2
  have z1 := hn1.size
  simp only [go_sem]
  refine ⟨fun h => absurd h1 h, fun _ => ?_⟩
  have hzl := sumsGo_len 0 xs
  refine loopV (fun s w' => ∃ (k : Nat) (z : Value), s = [z, .int .i64 (sumAt xs k), .int .i64 k] ∧ k ≤ xs.length ∧ Ext w w' ∧ w1.heap.size ≤ w'.heap.size ∧ Own w' w.heap.size T.int 1 z k (ints ((sumsGo 0 xs).take k))) (upTo xs.length 2)
    ⟨0, _, rfl, by omega, e2, E2.size, by simpa [ints] using Own.ext (Own.empty (lo := w.heap.size) hn1 (Nat.le_refl _)) E2⟩ ?_
  rintro s zz w3 K ⟨k, z, rfl, hk, E3, z3, ho3⟩ hK
  simp only [l1, go_sem]
  refine ⟨fun h => ?_, fun h => ?_⟩
  · have hk : k < xs.length := by omega
    refine Ints.loadI (hx.ext E3) hk ?_
    have q1 := row_at h1 hk
    have q2 := sumAt_range xs k (by omega)
    refine bin_add ⟨by omega, by omega⟩ ?_
    refine bin_rem (by omega) ?_
    rw [tmod_emod (by omega), ← sumAt_succ hk]
    refine app1_int sl_int el_int ho3 (by omega) (by have := e2.size; omega) fun z' w5 ho5 C5 => ?_
    refine bin_inc (by omega) (hK _ _ ⟨k + 1, z', rfl, by omega, chg_own E3 ho3 C5 (Nat.le_refl _), by have := C5.size; omega, ?_⟩ (by simp [upTo, nthV, iOf]; omega))
    rw [take_snoc (by omega), sums_at hk]
    exact ho5
  · have hk : k = xs.length := by omega
    subst hk
    rw [← hzl, List.take_length] at ho3
    exact hR _ _ ⟨z, rfl, E3, Own.fints ho3⟩

/-! ### Sorting by putting each where it belongs -/
theorem insS_end {x : Int} {l : List Int} (h : ∀ y ∈ l, ¬ x < y) : insS x l = l ++ [x] := by
  induction l with
  | nil => rfl
  | cons y ys ih =>
    unfold insS
    rw [if_neg (h y (by simp)), ih fun z hz => h z (by simp [hz])]; rfl
theorem insS_here {x y : Int} {l : List Int} (h : ∀ y ∈ l, ¬ x < y) (hy : x < y) : insS x (l ++ [y]) = l ++ [x, y] := by
  induction l with
  | nil => simp [insS, hy]
  | cons z l ih =>
    rw [List.cons_append]
    unfold insS
    rw [if_neg (h z (by simp)), ih fun a ha => h a (by simp [ha])]; rfl
theorem insS_past {x y : Int} {l : List Int} (h : ∃ y ∈ l, x < y) : insS x (l ++ [y]) = insS x l ++ [y] := by
  induction l with
  | nil => obtain ⟨_, hm, _⟩ := h; cases hm
  | cons z l ih =>
    rw [List.cons_append]
    unfold insS
    by_cases hz : x < z
    · rw [if_pos hz, if_pos hz]; rfl
    · rw [if_neg hz, if_neg hz, ih ?_]; · rfl
      obtain ⟨a, ha, hxa⟩ := h
      rcases List.mem_cons.1 ha with rfl | ha
      · exact absurd hxa hz
      · exact ⟨a, ha, hxa⟩

theorem l1Put_ok {w : World} {v : Value} {xs : List Int} (hx : Ints w v xs) (hl : xs.length ≤ 1000) (n : Int) :
    Calls Try.prog N.spec_l1Put #[v, .int .i64 n] w (Ret (NewInts w (insS n xs))) := by
  refine ret_k fun R hR => c_spec_l1Put _ _ _ _ ?_
  have l1 : ∀ K, LenV v K = K (.int .i64 xs.length) := fun K => ints_len hx
  refine ⟨_, rfl, fun w1 hn1 => ?_⟩
  have z1 := hn1.size
  refine loopV (fun s w' => ∃ (k : Nat) (z : Value) (b : Bool) (ys : List Int), s = [z, .bool b, .int .i64 k] ∧ k ≤ xs.length ∧ Ext w w' ∧ w1.heap.size ≤ w'.heap.size ∧ Own w' w.heap.size T.int 1 z ys.length (ints ys) ∧ ys.length ≤ k + 1 ∧
      (b = true → (∃ y ∈ xs.take k, n < y) ∧ ys = insS n (xs.take k)) ∧ (b = false → (∀ y ∈ xs.take k, ¬ n < y) ∧ ys = xs.take k)) (upTo xs.length 2)
    ⟨0, _, false, [], rfl, by omega, hn1.ext, Nat.le_refl _, (by simpa [ints] using Own.empty (lo := w.heap.size) hn1 (Nat.le_refl _)), (by simp), (fun h => by cases h), fun _ => ⟨by simp, by simp⟩⟩ ?_
  rintro s zz w3 K ⟨k, z, b, ys, rfl, hk, E3, z3, ho3, hyl, hb1, hb2⟩ hK
  have hlo := E3.size
  simp only [l1, go_sem]
  refine ⟨fun h => ?_, fun h => ?_⟩
  · have hk : k < xs.length := by omega
    refine ⟨fun hb => ?_, fun hb => ?_⟩
    · obtain ⟨hall, rfl⟩ := hb2 hb
      refine Ints.loadI (hx.ext E3) hk ?_
      simp only [go_sem]
      refine ⟨fun hlt => ?_, fun hge => ?_⟩
      · refine app1_int sl_int el_int ho3 (by omega) hlo fun z' w4 ho4 C4 => ?_
        have E4 := chg_own E3 ho3 C4 (Nat.le_refl _)
        have ho4' : Own w4 w.heap.size T.int 1 z' (xs.take k ++ [n]).length (ints (xs.take k ++ [n])) := by rw [List.length_append]; exact ho4
        have hl4 : (xs.take k ++ [n]).length ≤ k + 1 := by simp; omega
        refine Ints.loadI (hx.ext E4) hk ?_
        refine app1_int sl_int el_int ho4' (by omega) E4.size fun z2 w5 ho5 C5 => ?_
        have E5 := chg_own E4 ho4' C5 (Nat.le_refl _)
        refine bin_inc (by omega) (hK _ _ ⟨k + 1, z2, true, xs.take k ++ [n] ++ [xs[k]], rfl, by omega, E5, by have := C4.size; have := C5.size; omega, (by rw [List.length_append]; exact ho5), (by simp; omega), fun _ => ⟨⟨xs[k], ?_, hlt⟩, ?_⟩, fun h => (by cases h)⟩ (by simp [upTo, nthV, iOf]; omega))
        · rw [take_snoc hk]; exact List.mem_append_right _ (List.mem_singleton.2 rfl)
        · rw [take_snoc hk, insS_here hall hlt, List.append_assoc]; rfl
      · refine Ints.loadI (hx.ext E3) hk ?_
        refine app1_int sl_int el_int ho3 (by omega) hlo fun z' w4 ho4 C4 => ?_
        refine bin_inc (by omega) (hK _ _ ⟨k + 1, z', b, xs.take k ++ [xs[k]], rfl, by omega, chg_own E3 ho3 C4 (Nat.le_refl _), by have := C4.size; omega, (by rw [List.length_append]; exact ho4), (by simp; omega), (fun h => by rw [hb] at h; cases h), fun _ => ⟨fun y hy => ?_, ?_⟩⟩ (by simp [upTo, nthV, iOf]; omega))
        · rw [take_snoc hk, List.mem_append, List.mem_singleton] at hy
          rcases hy with hy | rfl
          · exact hall y hy
          · exact hge
        · rw [take_snoc hk]
    · obtain ⟨hex, rfl⟩ := hb1 hb
      refine Ints.loadI (hx.ext E3) hk ?_
      refine app1_int sl_int el_int ho3 (by omega) hlo fun z' w4 ho4 C4 => ?_
      refine bin_inc (by omega) (hK _ _ ⟨k + 1, z', b, insS n (xs.take k) ++ [xs[k]], rfl, by omega, chg_own E3 ho3 C4 (Nat.le_refl _), by have := C4.size; omega, (by rw [List.length_append]; exact ho4), (by rw [List.length_append]; simp; omega), fun _ => ⟨?_, ?_⟩, fun h => (by rw [hb] at h; cases h)⟩ (by simp [upTo, nthV, iOf]; omega))
      · obtain ⟨y, hy, hlt⟩ := hex
        exact ⟨y, by rw [take_snoc hk]; exact List.mem_append_left _ hy, hlt⟩
      · rw [take_snoc hk, insS_past hex]
  · have hk : k = xs.length := by omega
    subst hk
    rw [List.take_length] at hb1 hb2
    refine ⟨fun hb => ?_, fun hb => ?_⟩
    · obtain ⟨hall, rfl⟩ := hb2 hb
      refine app1_int sl_int el_int ho3 (by omega) hlo fun z' w4 ho4 C4 => ?_
      refine hR _ _ ⟨chg_own E3 ho3 C4 (Nat.le_refl _), ?_⟩
      rw [insS_end hall]
      exact Own.fints ho4
    · obtain ⟨_, rfl⟩ := hb1 hb
      exact hR _ _ ⟨E3, Own.fints ho3⟩

theorem specRowSort_ok {w : World} {v : Value} {xs : List Int} (hx : Ints w v xs) (h1 : RowOk xs) :
    Calls Try.prog N.spec_RowSort #[v] w (Ret fun r w' => ∃ z, r = .tuple #[z, .bool true] ∧ Ext w w' ∧ FInts w' (Since w) z (sortS xs)) := by
  refine ret_k fun R hR => c_spec_RowSort _ _ _ ?_
  have hxl := h1.1
  have l1 : ∀ K, LenV v K = K (.int .i64 xs.length) := fun K => ints_len hx
  refine ⟨_, rfl, fun w1 hn1 => ?_⟩
  refine callV_of (specRowValid_ok (hx.ext hn1.ext) (by omega)) rfl ?_
  rintro _ w2 ⟨E2, rfl⟩
  have e2 := hn1.ext.trans E2
  have z1 := hn1.size
  simp only [go_sem]
  refine ⟨fun h => absurd h1 h, fun _ => ?_⟩
  refine loopV (fun s w' => ∃ (k : Nat) (z : Value), s = [z, .int .i64 k] ∧ k ≤ xs.length ∧ Ext w w' ∧ FInts w' (Since w) z (sortS (xs.take k))) (upTo xs.length 1)
    ⟨0, _, rfl, by omega, e2, by rw [List.take_zero]; exact FInts.nil⟩ ?_
  rintro s zz w3 K ⟨k, z, rfl, hk, E3, f3⟩ hK
  simp only [l1, go_sem]
  refine ⟨fun h => ?_, fun h => ?_⟩
  · have hk : k < xs.length := by omega
    refine Ints.loadI (hx.ext E3) hk ?_
    have hsl := (sortS_spec (xs.take k)).1.length_eq
    rw [List.length_take] at hsl
    refine callV_of (l1Put_ok f3.ints (by omega) _) rfl fun u w4 ⟨E4, f4⟩ => ?_
    refine bin_inc (by omega) (hK _ _ ⟨k + 1, u, rfl, by omega, E3.trans E4, ?_⟩ (by simp [upTo, nthV, iOf]; omega))
    rw [take_snoc hk, sortS_snoc]
    exact f4.mono fun b _ hb => by have := E3.size; unfold Since at hb ⊢; omega
  · have hk : k = xs.length := by omega
    subst hk
    rw [List.take_length] at f3
    exact hR _ _ ⟨z, rfl, E3, f3⟩

theorem specRowTurn_ok {w : World} {v : Value} {xs : List Int} (hx : Ints w v xs) (h1 : RowOk xs) :
    Calls Try.prog N.spec_RowTurn #[v] w (Ret fun r w' => ∃ z, r = .tuple #[z, .bool true] ∧ Ext w w' ∧ FInts w' (Since w) z xs.reverse) := by
  refine ret_k fun R hR => c_spec_RowTurn _ _ _ ?_
  have hxl := h1.1
  have l1 : ∀ K, LenV v K = K (.int .i64 xs.length) := fun K => ints_len hx
  refine ⟨_, rfl, fun w1 hn1 => ?_⟩
  refine callV_of (specRowValid_ok (hx.ext hn1.ext) (by omega)) rfl ?_
  rintro _ w2 ⟨E2, rfl⟩
  have e2 := hn1.ext.trans E2
  have z1 := hn1.size
  simp only [l1, go_sem]
  refine ⟨fun h => absurd h1 h, fun _ => ?_⟩
  refine bin_sub ⟨by omega, by omega⟩ ?_
  have hrl : xs.reverse.length = xs.length := List.length_reverse
  refine loopV (fun s w' => ∃ (k : Nat) (z : Value), s = [z, .int .i64 ((xs.length : Int) - 1 - k)] ∧ k ≤ xs.length ∧ Ext w w' ∧ w1.heap.size ≤ w'.heap.size ∧ Own w' w.heap.size T.int 1 z k (ints (xs.reverse.take k))) (fun s _ => (iOf (nthV s 1) + 1).toNat)
    ⟨0, .slice (some ⟨w.heap.size, 0, none⟩) 0 0, by simp, by omega, e2, E2.size, by simpa [ints] using Own.ext (Own.empty (lo := w.heap.size) hn1 (Nat.le_refl _)) E2⟩ ?_
  rintro s zz w3 K ⟨k, z, rfl, hk, E3, z3, ho3⟩ hK
  simp only [go_sem]
  refine ⟨fun h => ?_, fun h => ?_⟩
  · have hk : k < xs.length := by omega
    have hq : ((xs.length : Int) - 1 - k) = ((xs.length - 1 - k : Nat) : Int) := by omega
    rw [hq]
    refine Ints.loadI (hx.ext E3) (q := xs.length - 1 - k) (by omega) ?_
    refine app1_int sl_int el_int ho3 (by omega) E3.size fun z' w4 ho4 C4 => ?_
    refine bin_sub ⟨by omega, by omega⟩ (hK _ _ ⟨k + 1, z', ?_, by omega, chg_own E3 ho3 C4 (Nat.le_refl _), by have := C4.size; omega, ?_⟩ (by simp [nthV, iOf]; omega))
    · congr 3; omega
    · rw [take_snoc (by omega)]
      have : xs.reverse[k]'(by omega) = xs[xs.length - 1 - k] := by rw [List.getElem_reverse]
      rw [this]; exact ho4
  · have hk : k = xs.length := by omega
    subst hk
    rw [← hrl, List.take_length, hrl] at ho3
    exact hR _ _ ⟨z, rfl, E3, Own.fints ho3⟩

theorem specKindRun_ok {w : World} {lv : Value} {k : Int} {rs : List (List Int)} {wd : Nat} (hl : Lists w lv rs) (hk : 1 ≤ k ∧ k ≤ 5) (hn : (rs.length : Int) = kneeds k) (hr : ∀ r ∈ rs, RowW wd r) :
    Calls Try.prog N.spec_KindRun #[.int .i64 k, lv] w (Ret fun r w' => ∃ z, r = .tuple #[z, .bool true] ∧ Ext w w' ∧ FInts w' (Since w) z (kOp k rs)) := by
  refine ret_k fun R hR => c_spec_KindRun _ _ _ _ ?_
  simp only [go_sem]
  refine ⟨fun h => by omega, fun _ => ?_⟩
  refine callV_of (specKindNeeds_ok k) rfl ?_
  rintro _ w1 ⟨E1, rfl⟩
  have hl1 := hl.ext E1
  have hll : ∀ K, LenV lv K = K (.int .i64 rs.length) := fun K => hl.len
  simp only [hll, go_sem]
  refine ⟨fun h => absurd hn.symm h, fun _ => ?_⟩
  have hn1 : 1 ≤ rs.length := by
    unfold kneeds at hn
    rw [if_pos (by omega), if_neg (by omega)] at hn
    split at hn <;> omega
  have r0 := hr _ (List.getElem_mem (show 0 < rs.length by omega))
  have g0 : rs.getD 0 [] = rs[0] := by rw [List.getD_eq_getElem?_getD, List.getElem?_eq_getElem (by omega)]; rfl
  have two : k = 1 ∨ k = 2 → rs.length = 2 := fun h => by
    unfold kneeds at hn
    rw [if_pos (by omega), if_neg (by omega), if_pos h] at hn
    omega
  have g1 : ∀ h : 1 < rs.length, rs.getD 1 [] = rs[1] := fun h => by rw [List.getD_eq_getElem?_getD, List.getElem?_eq_getElem (by omega)]; rfl
  have fin : ∀ {w2 : World} {z : Value} {zs : List Int}, Ext w1 w2 → FInts w2 (Since w1) z zs → zs = kOp k rs → R (.tuple #[z, .bool true]) w2 := fun E f e => hR _ _ ⟨_, rfl, E1.trans E, by rw [← e]; exact f.mono fun b _ hb => by have := E1.size; unfold Since at hb ⊢; omega⟩
  refine ⟨fun h => ?_, fun h1 => ⟨fun h => ?_, fun h2 => ⟨fun h => ?_, fun h3 => ⟨fun h => ?_, fun h4 => ?_⟩⟩⟩⟩
  · have h2 := two (.inl h)
    have r1 := hr _ (List.getElem_mem (show 1 < rs.length by omega))
    refine draw_none fun w2 hs2 => ?_
    refine (hl1.ext hs2.ext).loadS (i := 0) (by omega) (fun _ => id) fun x hx => ?_
    refine (hl1.ext hs2.ext).loadS (i := 1) (by omega) (fun _ => id) fun y hy => ?_
    refine callV_of (specRowAdd_ok hx hy r0.1 r1.1 (by rw [r0.2, r1.2])) rfl ?_
    rintro _ w3 ⟨zv, rfl, E3, f3⟩
    refine ⟨E3, ?_⟩
    simp only [go_sem]
    refine fin (hs2.ext.trans E3) (f3.mono fun b _ hb => by have := hs2.ext.size; unfold Since at hb ⊢; omega) ?_
    unfold kOp; rw [if_pos h, g0, g1 (by omega)]
  · have h2 := two (.inr h)
    have r1 := hr _ (List.getElem_mem (show 1 < rs.length by omega))
    refine draw_none fun w2 hs2 => ?_
    refine (hl1.ext hs2.ext).loadS (i := 0) (by omega) (fun _ => id) fun x hx => ?_
    refine (hl1.ext hs2.ext).loadS (i := 1) (by omega) (fun _ => id) fun y hy => ?_
    refine callV_of (specRowTimes_ok hx hy r0.1 r1.1 (by rw [r0.2, r1.2])) rfl ?_
    rintro _ w3 ⟨zv, rfl, E3, f3⟩
    refine ⟨E3, ?_⟩
    simp only [go_sem]
    refine fin (hs2.ext.trans E3) (f3.mono fun b _ hb => by have := hs2.ext.size; unfold Since at hb ⊢; omega) ?_
    unfold kOp; rw [if_neg h1, if_pos h, g0, g1 (by omega)]
  · refine hl1.load (i := 0) (by omega) fun x hx => ?_
    refine callV_of (specRowSums_ok hx r0.1) rfl ?_
    rintro _ w3 ⟨zv, rfl, E3, f3⟩
    simp only [go_sem]
    refine fin E3 f3 ?_
    unfold kOp; rw [if_neg h1, if_neg h2, if_pos h, g0]
  · refine hl1.load (i := 0) (by omega) fun x hx => ?_
    refine callV_of (specRowSort_ok hx r0.1) rfl ?_
    rintro _ w3 ⟨zv, rfl, E3, f3⟩
    simp only [go_sem]
    refine fin E3 f3 ?_
    unfold kOp; rw [if_neg h1, if_neg h2, if_neg h3, if_pos h, g0]
  · refine hl1.load (i := 0) (by omega) fun x hx => ?_
    refine callV_of (specRowTurn_ok hx r0.1) rfl ?_
    rintro _ w3 ⟨zv, rfl, E3, f3⟩
    simp only [go_sem]
    refine fin E3 f3 ?_
    unfold kOp; rw [if_neg h1, if_neg h2, if_neg h3, if_neg h4, g0]
end Go.Proofs.Ytblgkpfnjlobjaa

namespace Go.Proofs.Ytblgkpfnjlobjaa
open Go Go.V

theorem sl_sl : Try.prog.underlying T.sl_sl_int = some (.slice T.sl_int) := by kernel_rfl
theorem el_sl : ElemT Try.prog T.sl_int 1 24 (.slice none 0 0) := ⟨by kernel_rfl, rfl, by decide⟩

/-- A list of lists that grows: where its own array lies, and what its lists are. -/
structure GLists (w : World) (lo : Nat) (B : Nat → Prop) (v : Value) (ls : List (List Int)) : Prop where
  out : ∃ vs : List Value, Own w lo T.sl_int 1 v ls.length vs ∧ vs.length = ls.length ∧ ∀ i (h : i < ls.length) (h' : i < vs.length), FInts w B vs[i] ls[i]
theorem GLists.ext {w w' : World} {lo : Nat} {B : Nat → Prop} {v : Value} {ls : List (List Int)} (h : GLists w lo B v ls) (hE : Ext w w') : GLists w' lo B v ls := by
  obtain ⟨vs, ho, hl, hh⟩ := h.out
  exact ⟨vs, Own.ext ho hE, hl, fun i h h' => (hh i h h').ext hE⟩
theorem GLists.lists {w : World} {lo : Nat} {B : Nat → Prop} {v : Value} {ls : List (List Int)} (h : GLists w lo B v ls) : Lists w v ls := by
  obtain ⟨vs, ho, hl, hh⟩ := h.out
  obtain ⟨a, c, hv, hc, _, hcell⟩ := Own.cells ho
  refine ⟨a, c, hv, hc, fun i hi => ?_⟩
  obtain ⟨b, off, ha, hx⟩ := hcell i vs[i] (List.getElem?_eq_getElem (by omega))
  exact ⟨b, off, _, ha, hx, (hh i hi (by omega)).ints⟩
theorem GLists.lt {w : World} {lo k : Nat} {B : Nat → Prop} {v : Value} {ls : List (List Int)} (h : GLists w lo B v ls) (hk : blkIs v k) : lo ≤ k ∧ k < w.heap.size := by
  obtain ⟨vs, ho, _⟩ := h.out
  exact Own.lt ho hk
theorem GLists.nil {w w' : World} {lo : Nat} {B : Nat → Prop} {z : Array Value} (hn : New w (.cells (rowOf z (0 * 1)) T.sl_int (0, 0)) w') (hl : lo ≤ w.heap.size) : GLists w' lo B (.slice (some ⟨w.heap.size, 0, none⟩) 0 0) [] :=
  ⟨[], Own.empty hn hl, rfl, fun i hi => by simp at hi⟩
theorem GLists.nil0 {w : World} {lo : Nat} {B : Nat → Prop} : GLists w lo B (.slice none 0 0) [] := ⟨[], Own.nil, rfl, fun i hi => by simp at hi⟩
/-- Lists of numbers stay as they were when a slice of other things grows. -/
theorem FInts.besideT {w w' : World} {lo n e size : Nat} {B : Nat → Prop} {v u : Value} {xs : List Int} {cs : List Value} (h : FInts w B u xs) (ho : Own w lo e size v n cs) (he : T.int ≠ e) (hc : Chg (blkIs v) w w') : FInts w' B u xs := by
  obtain ⟨a, c, hv, hc', hr⟩ := h.out
  refine ⟨a, c, hv, hc', fun hne => ?_⟩
  obtain ⟨b, off, cur, ha, h1, hb, r⟩ := hr hne
  refine ⟨b, off, cur, ha, h1, hc.at hb fun hk => ?_, r⟩
  obtain ⟨cur', hb'⟩ := own_tagN ho hk
  rw [hb] at hb'
  cases hb'
  exact he rfl
theorem fill_one {x : Value} (h : x.cells = #[x]) {z : Value} : Instr.fill (fun i => some (i * 1, 1)) (rowOf #[z] (1 * 1)) [(0, x)] = some x.cells := fill_int h
/-- One list more. -/
theorem GLists.push {w : World} {lo : Nat} {B : Nat → Prop} {v : Value} {ls : List (List Int)} (h : GLists w lo B v ls) {x : Value} {xs : List Int} (hx : FInts w B x xs) (hn : ls.length ≤ 1048576) (hlo : lo ≤ w.heap.size) {zc : Value} {S : Nat → Prop} (hS : ∀ k, blkIs v k → S k) {K : Value → World → Prop}
    (hK : ∀ v' w', GLists w' lo B v' (ls ++ [xs]) → Chg (blkIs v) w w' → K v' w') :
    BSliceV T.sl_int 1 1 #[zc] [(0, x)] w fun p w1 => Chg S w w1 ∧ AppendV Try.prog T.sl_sl_int v p w1 fun v' w' => Chg S w1 w' ∧ K v' w' := by
  obtain ⟨vs, ho, hl, hh⟩ := h.out
  have hxc := hx.cellsV
  refine app1At sl_sl el_sl ho (news := [x]) (by rw [hxc.1]) (fill_one hxc.1) (by rw [hxc.1]; rfl) (by simpa using hxc.2) (by omega) (by omega) hlo hS fun v' w' ho' hc _ => hK v' w' ⟨vs ++ [x], by simpa using ho', by simp [hl], fun i hi hi' => ?_⟩ hc
  by_cases e : i = ls.length
  · subst e
    have e1 : (vs ++ [x])[ls.length]'hi' = x := by simp [← hl]
    have e2 : (ls ++ [xs])[ls.length]'hi = xs := by simp
    rw [e1, e2]
    exact hx.besideT ho (by decide) hc
  · have hi2 : i < ls.length := by simp at hi; omega
    rw [List.getElem_append_left hi2, List.getElem_append_left (by omega)]
    exact (hh i hi2 (by omega)).besideT ho (by decide) hc

/-- A list of lists that were there before grows. -/
structure HLists (w0 w : World) (lo : Nat) (v : Value) (ls : List (List Int)) : Prop where
  out : ∃ vs : List Value, Own w lo T.sl_int 1 v ls.length vs ∧ vs.length = ls.length ∧ ∀ i (h : i < ls.length) (h' : i < vs.length), Ints w0 vs[i] ls[i]
theorem HLists.lists {w0 w : World} {lo : Nat} {v : Value} {ls : List (List Int)} (h : HLists w0 w lo v ls) (hE : Ext w0 w) : Lists w v ls := by
  obtain ⟨vs, ho, hl, hh⟩ := h.out
  obtain ⟨a, c, hv, hc, _, hcell⟩ := Own.cells ho
  refine ⟨a, c, hv, hc, fun i hi => ?_⟩
  obtain ⟨b, off, ha, hx⟩ := hcell i vs[i] (List.getElem?_eq_getElem (by omega))
  exact ⟨b, off, _, ha, hx, (hh i hi (by omega)).ext hE⟩
theorem HLists.lt {w0 w : World} {lo k : Nat} {v : Value} {ls : List (List Int)} (h : HLists w0 w lo v ls) (hk : blkIs v k) : lo ≤ k ∧ k < w.heap.size := by
  obtain ⟨vs, ho, _⟩ := h.out
  exact Own.lt ho hk
theorem HLists.nil {w0 w w' : World} {lo : Nat} {z : Array Value} (hn : New w (.cells (rowOf z (0 * 1)) T.sl_int (0, 0)) w') (hl : lo ≤ w.heap.size) : HLists w0 w' lo (.slice (some ⟨w.heap.size, 0, none⟩) 0 0) [] :=
  ⟨[], Own.empty hn hl, rfl, fun i hi => by simp at hi⟩
theorem HLists.push {w0 w : World} {lo : Nat} {v : Value} {ls : List (List Int)} (h : HLists w0 w lo v ls) {x : Value} {xs : List Int} (hx : Ints w0 x xs) (hn : ls.length ≤ 1048576) (hlo : lo ≤ w.heap.size) {zc : Value} {S : Nat → Prop} (hS : ∀ k, blkIs v k → S k) {K : Value → World → Prop}
    (hK : ∀ v' w', HLists w0 w' lo v' (ls ++ [xs]) → Chg (blkIs v) w w' → K v' w') :
    BSliceV T.sl_int 1 1 #[zc] [(0, x)] w fun p w1 => Chg S w w1 ∧ AppendV Try.prog T.sl_sl_int v p w1 fun v' w' => Chg S w1 w' ∧ K v' w' := by
  obtain ⟨vs, ho, hl, hh⟩ := h.out
  have hxc := ints_cells hx
  refine app1At sl_sl el_sl ho (news := [x]) (by rw [hxc.1]) (fill_one hxc.1) (by rw [hxc.1]; rfl) (by simpa using hxc.2) (by omega) (by omega) hlo hS fun v' w' ho' hc _ => hK v' w' ⟨vs ++ [x], by simpa using ho', by simp [hl], fun i hi hi' => ?_⟩ hc
  by_cases e : i = ls.length
  · subst e
    have e1 : (vs ++ [x])[ls.length]'hi' = x := by simp [← hl]
    have e2 : (ls ++ [xs])[ls.length]'hi = xs := by simp
    rw [e1, e2]
    exact hx
  · have hi2 : i < ls.length := by simp at hi; omega
    rw [List.getElem_append_left hi2, List.getElem_append_left (by omega)]
    exact hh i hi2 (by omega)

theorem Lists.loadO {w w' : World} {v : Value} {ls : List (List Int)} (h : Lists w v ls) (hE : Ext w w') {i : Nat} (hi : i < ls.length) {K : Value → Prop} (hK : ∀ x, Ints w x ls[i] → K x) : IdxV 1 v (.int .i64 i) fun t => LoadV false 1 t w' K := by
  obtain ⟨a, c, rfl, hc, hh⟩ := h.out
  obtain ⟨b, off, x, rfl, hx, hxi⟩ := hh i hi
  refine ⟨by omega, by omega, ?_⟩
  simp only [addr_add, Int.toNat_natCast, Nat.mul_one]
  exact ⟨x, cell_keep hE hx id, hK x hxi⟩
/-- The row of a node, of the rows ahead of it. -/
theorem l4Step_ok {w : World} {xv rv : Value} {x : Nd} {ls : List (List Int)} {wd at_ : Nat} (hx : NdV w xv x) (hl : Lists w rv ls) (hfit : NdFits x at_) (hat : at_ ≤ ls.length) (hr : ∀ r ∈ ls, RowW wd r) :
    Calls Try.prog N.spec_l4Step #[xv, rv] w (Ret (NewInts w (opV x fun j => ls.getD j []))) := by
  obtain ⟨fv, ov, rfl, hf, ho, hs⟩ := hx.out
  refine ret_k fun R hR => c_spec_l4Step _ _ _ _ ?_
  intro w1 hn1
  have hb1 := new_rawI hf ho hn1
  have hfl := hfit.1
  have h2 := (kneeds_range x.kind).2
  simp only [go_sem]
  refine load2 (v := .int .i64 x.kind) hb1 rfl ?_
  simp only [go_sem]
  refine ⟨fun hk => ?_, fun hk => ?_⟩
  · refine ⟨_, rfl, fun w2 hn2 => ?_⟩
    have e2 := hn1.ext.trans hn2.ext
    refine load2 (v := ov) (hn2.ext.at hb1) rfl ?_
    have hrow : RowOk x.row := by have := hfit.2.2; rwa [if_pos hk] at this
    refine append_at (Own.empty hn2 (lo := w.heap.size) hn1.ext.size) (ho.ext e2) (by have := hrow.1; omega) e2.size fun u w3 ho3 C3 _ => ?_
    have hv : opV x (fun j => ls.getD j []) = x.row := opV_fixed hk
    refine hR _ _ ⟨?_, ?_⟩
    · exact Chg.ext (e2.then C3) fun k hk' e => by have e : some w1.heap.size = some k := e; cases e; have := hn1.size; omega
    · rw [hv]; exact Own.fints (by simpa using ho3)
  · refine ⟨_, rfl, fun w2 hn2 => ?_⟩
    have hkind : 1 ≤ x.kind ∧ x.kind ≤ 5 := by
      unfold kneeds at hfl
      split at hfl <;> omega
    refine loopV (fun s w' => ∃ (k : Nat) (u : Value), s = [u, .int .i64 k] ∧ k ≤ x.frm.length ∧ Ext w1 w' ∧ HLists w w' w1.heap.size u ((x.frm.take k).map fun f => ls.getD f.toNat [])) (upTo x.frm.length 1)
      ⟨0, _, rfl, by omega, hn2.ext, by simpa using HLists.nil hn2 (Nat.le_refl _)⟩ ?_
    rintro s z w3 K ⟨k, u, rfl, hk', E3, h3⟩ hK
    have hfl' : ∀ K, LenV fv K = K (.int .i64 x.frm.length) := fun K => ints_len hf
    have e3 := hn1.ext.trans E3
    have z3 := E3.size
    have hb3 := E3.at hb1
    refine load2 (v := fv) hb3 rfl ?_
    simp only [hfl', go_sem]
    refine ⟨fun h => ?_, fun h => ?_⟩
    · have hk' : k < x.frm.length := by omega
      refine load2 (v := fv) hb3 rfl ?_
      refine Ints.loadI (hf.ext e3) hk' ?_
      have hfr := hfit.2.1 _ (List.getElem_mem hk')
      obtain ⟨m, hm⟩ : ∃ m : Nat, x.frm[k] = (m : Int) := ⟨x.frm[k].toNat, by omega⟩
      have hml : m < ls.length := by omega
      rw [hm]
      refine Lists.loadO hl e3 hml fun xv hxv => ?_
      refine plainly (h3.push hxv (by rw [List.length_map, List.length_take]; have := hs.1; omega) (by omega) (fun _ h => h) fun u' w4 h4 C4 => ?_)
      refine bin_inc (by have := hs.1; omega) (hK _ _ ⟨k + 1, u', rfl, by omega, ?_, ?_⟩ (by simp [upTo, nthV, iOf]; omega))
      · exact Chg.ext (E3.then C4) fun j hj hb => by have := (h3.lt hb).1; omega
      · rw [take_snoc hk', List.map_append, hm]
        simpa [List.getD_eq_getElem?_getD, hml] using h4
    · have hk' : k = x.frm.length := by omega
      subst hk'
      rw [List.take_length] at h3
      refine load2 (v := .int .i64 x.kind) hb3 rfl ?_
      refine callV_of (specKindRun_ok (wd := wd) (h3.lists e3) hkind (by rw [List.length_map]; exact hfl) fun r hrm => ?_) rfl ?_
      · obtain ⟨f, hfm, rfl⟩ := List.mem_map.1 hrm
        have := hfit.2.1 f hfm
        rw [List.getD_eq_getElem?_getD, List.getElem?_eq_getElem (by omega)]
        exact hr _ (List.getElem_mem _)
      rintro _ w4 ⟨zv, rfl, E4, f4⟩
      simp only [go_sem]
      refine hR _ _ ⟨e3.trans E4, ?_⟩
      rw [opV_op hk]
      exact f4.mono fun b _ hb => by have := e3.size; unfold Since at hb ⊢; omega

theorem l4Values_ok {w : World} {v : Value} {p : List Nd} (hp : PlanV w v p) (hok : PlanOk p) : Calls Try.prog N.spec_l4Values #[v] w (Ret fun r w' => Ext w w' ∧ GLists w' w.heap.size (Since w) r (vals p)) := by
  refine ret_k fun R hR => c_spec_l4Values _ _ _ ?_
  have hlen : ∀ K, LenV v K = K (.int .i64 p.length) := fun K => hp.len
  have h10 := hok.len
  refine ⟨_, rfl, fun w1 hn1 => ?_⟩
  have z1 := hn1.size
  refine loopV (fun s w' => ∃ (k : Nat) (u : Value), s = [u, .int .i64 k] ∧ k ≤ p.length ∧ Ext w w' ∧ GLists w' w.heap.size (Since w) u (valGo p k)) (upTo p.length 1)
    ⟨0, _, rfl, by omega, hn1.ext, GLists.nil hn1 (Nat.le_refl _)⟩ ?_
  rintro s z w2 K ⟨k, u, rfl, hk, E2, h2⟩ hK
  simp only [hlen, go_sem]
  refine ⟨fun h => ?_, fun h => ?_⟩
  · have hk : k < p.length := by omega
    refine (hp.ext E2).load hk fun xv hxv => ?_
    have hfit := (hok.fits hk).1
    rw [nd_get hk] at hfit
    refine callV_of (l4Step_ok (wd := wide p) (at_ := k) hxv h2.lists hfit (by rw [valGo_len]; exact Nat.le_refl _) fun r hr => ?_) rfl fun x w3 ⟨E3, f3⟩ => ?_
    · obtain ⟨j, hj, rfl⟩ := List.mem_iff_getElem.1 hr
      have hjk : j < k := by rw [valGo_len] at hj; exact hj
      have := valGo_val (p := p) (k := k) (i := j) (by omega) hjk
      rw [List.getD_eq_getElem?_getD, List.getElem?_eq_getElem hj] at this
      have h3 : (valGo p k)[j] = val p j := by simpa using this
      rw [h3]; exact val_row hok (by omega)
    have e3 := E2.trans E3
    have z2 := E2.size
    refine plainly ((h2.ext E3).push (f3.mono fun b _ hb => by unfold Since at hb ⊢; omega) (by rw [valGo_len]; omega) e3.size (fun _ h => h) fun u' w4 h4 C4 => ?_)
    refine bin_inc (by omega) (hK _ _ ⟨k + 1, u', rfl, by omega, ?_, ?_⟩ (by simp [upTo, nthV, iOf]; omega))
    · exact Chg.ext (e3.then C4) fun j hj hb => by have := ((h2.ext E3).lt hb).1; omega
    · rw [valGo, nd_get hk]; exact h4
  · have hk : k = p.length := by omega
    subst hk
    exact hR _ _ ⟨E2, h2⟩
end Go.Proofs.Ytblgkpfnjlobjaa
