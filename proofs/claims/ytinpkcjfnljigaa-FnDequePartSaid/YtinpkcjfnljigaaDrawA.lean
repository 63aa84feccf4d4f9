/- Drawn counts and deques. -/
import Derived.Test.YtinpkcjfnljigaaReader
import Derived.Test.YtinpkcjfnljigaaCD
namespace Go.Proofs.Ytinpkcjfnljigaa
open Go Go.V

/-- Some short list of small numbers. -/
def SmallInts (xs : List Int) : Prop := xs.length ≤ 12 ∧ ∀ x ∈ xs, -1000 ≤ x ∧ x ≤ 1000

theorem pick_use {w : World} {rb p : Nat} {n : Int} {K : Value → World → Prop} (hr : Rdr w rb p) (hp : p ≤ 1099511627776) (hn : n ≤ 1099511627776)
    (hK : ∀ (m : Nat) w', ((m : Int) < n ∨ m = 0) → Chg (· = rb) w w' → w'.heap.size = w.heap.size → Rdr w' rb (p + 1) → K (.int .i64 m) w') :
    CallV Try.prog N.spec_l6Rd_pick [.pointer (some ⟨rb, 0, none⟩), .int .i64 n] w K := by
  refine callV_of (pick_ok hr hp hn) rfl ?_
  rintro v w' ⟨⟨m, rfl, hm⟩, h1, h2, h3⟩
  exact hK m w' hm h1 h2 h3

theorem Own.keepR {w w' : World} {lo e size : Nat} {v : Value} {n : Nat} {cs : List Value} (h : Own w lo e size v n cs) {rb : Nat} (hc : Chg (· = rb) w w') (hrb : rb < lo) : Own w' lo e size v n cs :=
  Own.keep h hc fun k hk he => by have := (Own.lt h hk).1; omega

theorem Rdr.own {w w' : World} {rb p : Nat} (h : Rdr w rb p) {lo e size : Nat} {v : Value} {n : Nat} {cs : List Value} (ho : Own w lo e size v n cs) (hc : Chg (blkIs v) w w') (hrb : rb < lo) : Rdr w' rb p :=
  h.keep hc fun k hk hb => by have := (Own.lt ho hb).1; omega

/-- A call that moves the reader at rb and lays a list. -/
def DrawnInts (w : World) (rb p c : Nat) (v : Value) (w' : World) : Prop :=
  Chg (· = rb) w w' ∧ (∃ q, q ≤ p + c ∧ Rdr w' rb q) ∧ ∃ xs, SmallInts xs ∧ FInts w' (Since w) v xs

theorem chg_own' {w0 w w' : World} {rb lo e size : Nat} {v : Value} {n : Nat} {cs : List Value} (h0 : Chg (· = rb) w0 w) (ho : Own w lo e size v n cs) (hc : Chg (blkIs v) w w') (hl : w0.heap.size ≤ lo) : Chg (· = rb) w0 w' :=
  Chg.trans h0 hc (fun _ _ h => h) fun k hk hb => by have := (Own.lt ho hb).1; omega

theorem bin_quo {m : Nat} {c : Int} {K : Value → Prop} (hc : 0 < c) (hm : m ≤ 1099511627776) (hK : ∀ q : Nat, (q : Int) = m / c → q ≤ m → K (.int .i64 q)) : BinV .quo (.int .i64 m) (.int .i64 c) K := by
  have h1 : (m : Int).tdiv c = m / c := Int.tdiv_eq_ediv_of_nonneg (by omega)
  have h2 : 0 ≤ (m : Int) / c := Int.ediv_nonneg (by omega) (by omega)
  have h3 : (m : Int) / c ≤ m := Int.ediv_le_self _ (by omega)
  refine ⟨rfl, by omega, (in64 (by omega) (by omega)).inK, ?_⟩
  have h4 : (m : Int).tdiv c = (((m : Int) / c).toNat : Int) := by omega
  rw [h4]
  exact hK _ (by omega) (by omega)

theorem drawCountsReady_ok {w : World} {v : Value} {bs : List Int} (hx : RowIn .u8 w v bs) :
    Calls Try.prog N.spec_DrawCountsReady #[v] w (Ret fun r w' => Ext w w' ∧ ∃ xs, SmallInts xs ∧ FInts w' (Since w) r xs) := by
  refine ret_k fun R hR => c_spec_DrawCountsReady _ _ _ ?_
  refine callV_of (l6Open_ok hx) rfl ?_
  rintro _ w1 ⟨rfl, E1, r1⟩
  have hlt := r1.lt
  refine ⟨_, rfl, fun w2 hn2 => ?_⟩
  refine pick_use (r1.ext hn2.ext) (by omega) (by omega) fun m w3 hm C3 s3 r3 => ?_
  have ho0 : Own w2 w1.heap.size T.int 1 (.slice (some ⟨w1.heap.size, 0, none⟩) 0 0) 0 (ints []) := Own.empty hn2 (Nat.le_refl _)
  have hE : ∀ {w'}, Chg (· = w.heap.size) w1 w' → Ext w w' := fun h => Chg.ext (E1.then h) fun n hn h => by omega
  refine loopV (fun s w' => ∃ (k : Nat) (xs : List Int) (u : Value) (q : Nat), s = [u, .int .i64 k] ∧ k ≤ m ∧ xs.length = k ∧ (∀ x ∈ xs, -1000 ≤ x ∧ x ≤ 1000) ∧ Chg (· = w.heap.size) w1 w' ∧ Own w' w1.heap.size T.int 1 u xs.length (ints xs) ∧ q ≤ 1 + 2 * k ∧ Rdr w' w.heap.size q)
    (upTo m 1) ⟨0, [], _, 1, rfl, by omega, rfl, by simp, hn2.ext.then C3, Own.keepR ho0 C3 hlt, by omega, r3⟩ ?_
  rintro s z w' K ⟨k, xs, u, q, rfl, hk, hl, hxs, hC, ho, hq, hr⟩ hK
  simp only [go_sem]
  refine ⟨fun h => ?_, fun h => ?_⟩
  · refine pick_use hr (by omega) (by omega) fun m1 w4 hm1 C4 s4 r4 => ?_
    refine pick_use r4 (by omega) (by omega) fun m2 w5 hm2 C5 s5 r5 => ?_
    refine bin_quo (by omega) (by omega) fun d hd hdm => ?_
    refine bin_mul ⟨by omega, by omega⟩ (bin_sub ⟨by omega, by omega⟩ ?_)
    have ho5 := Own.keepR (Own.keepR ho C4 hlt) C5 hlt
    refine app1_int sl_int el_int ho5 (by omega) (by have := hC.size; have := C4.size; have := C5.size; omega) fun v' w6 ho6 C6 => ?_
    refine bin_inc (by omega) (hK _ _ ⟨k + 1, xs ++ [_], v', q + 2, rfl, by omega, by simp [hl], ?_, chg_own' ((hC.andThen C4).andThen C5) ho5 C6 (Nat.le_refl _), by simpa using ho6, by omega, r5.own ho5 C6 hlt⟩ (by simp [upTo, nthV, iOf]; omega))
    intro x hx
    rcases List.mem_append.1 hx with hx | hx
    · exact hxs x hx
    · simp at hx; subst hx; omega
  · exact hR _ _ ⟨hE hC, xs, ⟨by omega, hxs⟩, (Own.fints ho).mono fun b _ hb => by have := E1.size; unfold Since; omega⟩

theorem rem_nat {m : Nat} {c : Int} {K : Value → Prop} (hc : 0 < c) (hK : ∀ q : Nat, (q : Int) < c → K (.int .i64 q)) : BinV .rem (.int .i64 m) (.int .i64 c) K := by
  obtain ⟨q, hq, hlt⟩ := tmod_in (show (0 : Int) ≤ m by omega) hc
  exact bin_rem (by omega) (by rw [hq]; exact hK q hlt)

theorem fill3 {x y z : Int} : Instr.fill (fun i => some (i * 1, 1)) (rowOf #[.int .i64 0] (3 * 1)) [(0, .int .i64 x), (1, .int .i64 y), (2, .int .i64 z)] = some #[.int .i64 x, .int .i64 y, .int .i64 z] := by
  simp [Instr.fill, rowOf, Value.cells]
  refine Array.ext (by simp) fun i hi _ => ?_
  simp at hi
  match i, hi with
  | 0, _ => simp
  | 1, _ => simp
  | 2, _ => simp

/-- One element of an owned slice is changed. -/
theorem Own.set {w w' : World} {lo : Nat} {e : Nat} {xs : List Int} {b c i : Nat} {cur : Array Value} {x : Int} (ho : Own w lo e 1 (.slice (some ⟨b, 0, none⟩) xs.length c) xs.length (ints xs)) (hcur : w.heap[b]? = some (.cells cur e (0, 0)))
    (hp : Put w b (.cells (cur.setIfInBounds i (.int .i64 x)) e (0, 0)) w') : Own w' lo e 1 (.slice (some ⟨b, 0, none⟩) xs.length c) xs.length (ints (xs.set i x)) := by
  refine ⟨by simp [ints], ?_⟩
  rcases ho.2 with ⟨h, _⟩ | ⟨g, cap, cur', hv, hb, hg, hnc, hcm, hcs, htake⟩
  · simp at h
  · simp only [Value.slice.injEq, Option.some.injEq, Addr.mk.injEq] at hv
    obtain ⟨⟨rfl, _⟩, _, rfl⟩ := hv
    rw [hcur] at hg
    cases hg
    refine .inr ⟨b, c, _, rfl, hb, hp.here, hnc, hcm, by simpa using hcs, ?_⟩
    rw [Array.toList_setIfInBounds, List.take_set, htake]
    simp [ints, List.map_set]

theorem l91Deque_ok {w : World} {rb p : Nat} (hr : Rdr w rb p) (hp : p ≤ 1000000) :
    Calls Try.prog N.spec_l91Deque #[.pointer (some ⟨rb, 0, none⟩)] w (Ret (DrawnInts w rb p 8)) := by
  refine ret_k fun R hR => c_spec_l91Deque _ _ _ ?_
  have hlt := hr.lt
  refine ⟨_, rfl, fun w1 hn1 => ?_⟩
  have ho0 : Own w1 w.heap.size T.int 1 (.slice (some ⟨w.heap.size, 0, none⟩) 0 0) 0 (ints []) := Own.empty hn1 (Nat.le_refl _)
  refine pick_use (hr.ext hn1.ext) (by omega) (by omega) fun m w2 hm C2 s2 r2 => ?_
  refine joinV (fun s w' => ∃ n : Nat, s = [.int .i64 n] ∧ n ≤ 10 ∧ Chg (· = rb) w w' ∧ Own w' w.heap.size T.int 1 (.slice (some ⟨w.heap.size, 0, none⟩) 0 0) 0 (ints []) ∧ Rdr w' rb (p + 2)) (fun K hK => ?_) ?_
  · refine pick_use r2 (by omega) (by omega) fun m3 w3 hm3 C3 s3 r3 => ?_
    have hb := ((hn1.ext.then C2).andThen C3)
    have ho := Own.keepR (Own.keepR ho0 C2 hlt) C3 hlt
    simp only [go_sem]
    exact ⟨fun _ => hK _ _ ⟨10, rfl, by omega, hb, ho, r3⟩, fun _ => hK _ _ ⟨m, rfl, by omega, hb, ho, r3⟩⟩
  rintro _ _ w3 ⟨n, rfl, hn, C3, ho3, r3⟩
  refine pick_use r3 (by omega) (by omega) fun at_ w4 hat C4 s4 r4 => ?_
  refine loopV (fun s w' => ∃ (k : Nat) (xs : List Int) (u : Value), s = [u, .int .i64 k] ∧ k ≤ n ∧ xs.length = k ∧ (∀ x ∈ xs, -1000 ≤ x ∧ x ≤ 1000) ∧ Chg (· = rb) w w' ∧ Own w' w.heap.size T.int 1 u xs.length (ints xs) ∧ Rdr w' rb (p + 3))
    (upTo n 1) ⟨0, [], _, rfl, by omega, rfl, by simp, C3.andThen C4, Own.keepR ho3 C4 hlt, r4⟩ ?_
  rintro s z w5 K ⟨k, xs, u, rfl, hk, hl, hxs, C5, ho5, r5⟩ hK
  simp only [go_sem]
  refine ⟨fun h => ?_, fun h => ?_⟩
  · refine bin_mul ⟨by omega, by omega⟩ (bin_add ⟨by omega, by omega⟩ ?_)
    have e : (at_ : Int) + 3 * (k : Int) = ((at_ + 3 * k : Nat) : Int) := by omega
    rw [e]
    refine rem_nat (by omega) fun q hq => ?_
    refine app1_int sl_int el_int ho5 (by omega) C5.size fun v' w6 ho6 C6 => ?_
    refine bin_inc (by omega) (hK _ _ ⟨k + 1, xs ++ [_], v', rfl, by omega, by simp [hl], ?_, chg_own' C5 ho5 C6 (Nat.le_refl _), by simpa using ho6, r5.own ho5 C6 hlt⟩ (by simp [upTo, nthV, iOf]; omega))
    intro x hx
    rcases List.mem_append.1 hx with hx | hx
    · exact hxs x hx
    · simp at hx; subst hx; omega
  · have done : ∀ {w' q}, Chg (· = rb) w w' → Own w' w.heap.size T.int 1 u xs.length (ints xs) → q ≤ p + 8 → Rdr w' rb q → R u w' := fun hC ho hq hr =>
      hR _ _ ⟨hC, ⟨_, hq, hr⟩, xs, ⟨by omega, hxs⟩, Own.fints ho⟩
    refine ⟨fun hpos => ?_, fun _ => done C5 ho5 (by omega) r5⟩
    refine pick_use r5 (by omega) (by omega) fun m7 w7 hm7 C7 s7 r7 => ?_
    have ho7 := Own.keepR ho5 C7 hlt
    simp only [go_sem]
    refine ⟨fun _ => ?_, fun _ => done (C5.andThen C7) ho7 (by omega) r7⟩
    obtain ⟨a, c, rfl, hcap, _, hcells⟩ := Own.cells ho7
    refine ⟨(· = rb), fun w8 hs => ?_⟩
    have ho8 := Own.ext ho7 hs.ext
    have r8 := r7.ext hs.ext
    have C8 := (C5.andThen C7).then hs.ext
    have hx0 := hxs xs[0] (List.getElem_mem _)
    -- the element is stored
    have store : ∀ {m q : Nat} {w' : World} {x : Int}, (m : Int) < n ∨ m = 0 → Chg (· = rb) w w' → Own w' w.heap.size T.int 1 (.slice a xs.length c) xs.length (ints xs) → q ≤ p + 8 → Rdr w' rb q → -1000 ≤ x → x ≤ 1000 →
        IdxV 1 (.slice a xs.length c) (.int .i64 m) fun t => StoreV 1 t (.int .i64 x) w' fun w'' => R (.slice a xs.length c) w'' := by
      intro m q w' x hm hC ho hq hr hx1 hx2
      rcases ho.2 with ⟨h, h0⟩ | ⟨g, cap, cur, hv, hb, hg, hnc, hcm, hcs, htake⟩
      · omega
      · simp only [Value.slice.injEq] at hv
        obtain ⟨rfl, _, rfl⟩ := hv
        refine ⟨by omega, by omega, ?_⟩
        simp only [addr_add, Int.toNat_natCast, Nat.mul_one, Nat.zero_add]
        refine store_at hg rfl rfl (by omega) fun w'' hp => ?_
        refine hR _ _ ⟨Chg.trans hC hp.chg (fun _ _ h => h) (fun k hk h => by have h' : k = g := h; omega), ⟨q, hq, hr.keep hp.chg fun k hk h => by have h' : k = g := h; omega⟩, xs.set m x, ⟨by simp; omega, ?_⟩, Own.fints (Own.set (by exact ho) hg hp)⟩
        intro y hy
        rcases List.mem_or_eq_of_mem_set hy with hy | hy
        · exact hxs y hy
        · subst hy; exact ⟨hx1, hx2⟩
    -- one of three numbers is taken
    have three : ∀ {w' : World} {b m : Nat} {K : Value → Prop}, w'.heap[b]? = some (.cells #[.int .i64 (-1), .int .i64 10, .int .i64 xs[0]] T.int (0, 0)) → b ≠ rb → (m : Int) < 3 ∨ m = 0 →
        (∀ x : Int, -1000 ≤ x → x ≤ 1000 → K (.int .i64 x)) → IdxV 1 (.slice (some ⟨b, 0, none⟩) 3 3) (.int .i64 m) fun t => LoadS (· = rb) false 1 t w' K := by
      intro w' b m K hb hne hm hK
      refine ⟨by omega, by omega, ?_⟩
      simp only [addr_add, Int.toNat_natCast, Nat.mul_one, Nat.zero_add]
      have hm3 : m = 0 ∨ m = 1 ∨ m = 2 := by omega
      rcases hm3 with rfl | rfl | rfl
      · exact loadS2 hb hne rfl (hK _ (by omega) (by omega))
      · exact loadS2 hb hne rfl (hK _ (by omega) (by omega))
      · exact loadS2 hb hne rfl (hK _ hx0.1 hx0.2)
    refine idxLoadS (hcells.ext hs.ext) rfl (k := 0) (by omega) (fun b off ha => ?_) ?_
    · subst ha
      rcases ho7.2 with ⟨h, h0⟩ | ⟨g, cap, cur, hv, hb, _⟩
      · simp at h
      · simp only [Value.slice.injEq, Option.some.injEq, Addr.mk.injEq] at hv
        obtain ⟨⟨rfl, _⟩, _⟩ := hv
        omega
    have hsz := C8.size
    refine ⟨?_, ?_⟩
    · refine pick_use r8 (by omega) (by omega) fun m9 w9 hm9 C9 s9 r9 => ⟨C9, ?_, ?_⟩
      · refine ⟨_, fill3, fun w10 hn10 => ⟨hn10.ext.chg, ?_⟩⟩
        refine pick_use (r9.ext hn10.ext) (by omega) (by omega) fun m11 w11 hm11 C11 s11 r11 => ⟨C11, ?_⟩
        refine three (C11.at hn10.here (by omega)) (by omega) hm11 fun x h1 h2 => ?_
        exact store (by omega) ((C8.andThen C9).andThen (hn10.ext.then C11)) (Own.keepR (Own.ext (Own.keepR ho8 C9 hlt) hn10.ext) C11 hlt) (by omega) r11 h1 h2
      · refine pick_use r9 (by omega) (by omega) fun m10 w10 hm10 C10 s10 r10 => ⟨C10, ?_⟩
        refine ⟨_, fill3, fun w11 hn11 => ⟨hn11.ext.chg, ?_⟩⟩
        refine three hn11.here (by omega) hm10 fun x h1 h2 => ?_
        exact store (by omega) (((C8.andThen C9).andThen C10).then hn11.ext) (Own.ext (Own.keepR (Own.keepR ho8 C9 hlt) C10 hlt) hn11.ext) (by omega) (r10.ext hn11.ext) h1 h2
    · refine ⟨_, fill3, fun w9 hn9 => ⟨hn9.ext.chg, ?_⟩⟩
      refine pick_use (r8.ext hn9.ext) (by omega) (by omega) fun m10 w10 hm10 C10 s10 r10 => ⟨C10, ?_⟩
      refine pick_use r10 (by omega) (by omega) fun m11 w11 hm11 C11 s11 r11 => ⟨C11, ?_⟩
      refine three (C11.at (C10.at hn9.here (by omega)) (by omega)) (by omega) hm11 fun x h1 h2 => ?_
      exact store (by omega) ((C8.andThen (hn9.ext.then C10)).andThen C11) (Own.keepR (Own.keepR (Own.ext ho8 hn9.ext) C10 hlt) C11 hlt) (by omega) r11 h1 h2
end Go.Proofs.Ytinpkcjfnljigaa
