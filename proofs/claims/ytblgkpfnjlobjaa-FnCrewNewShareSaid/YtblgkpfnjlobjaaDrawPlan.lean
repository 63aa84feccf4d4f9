/- Drawn inputs: what all draws have in common. -/
import Derived.Test.YtblgkpfnjlobjaaBasics
import Derived.Test.YtblgkpfnjlobjaaFam
import Derived.Test.YtblgkpfnjlobjaaPlan0
import Derived.Test.YtblgkpfnjlobjaaCA
namespace Go.Proofs.Ytblgkpfnjlobjaa
open Go Go.V

theorem pick_use {w : World} {rb p : Nat} {n : Int} {K : Value → World → Prop} (hr : Rdr w rb p) (hp : p ≤ 1099511627776) (hn : n ≤ 1099511627776)
    (hK : ∀ (m : Nat) w', ((m : Int) < n ∨ m = 0) → Chg (· = rb) w w' → w'.heap.size = w.heap.size → Rdr w' rb (p + 1) → K (.int .i64 m) w') :
    CallV Try.prog N.spec_l6Rd_pick [.pointer (some ⟨rb, 0, none⟩), .int .i64 n] w K := by
  refine callV_of (pick_ok hr hp hn) rfl ?_
  rintro v w' ⟨⟨m, rfl, hm⟩, h1, h2, h3⟩
  exact hK m w' hm h1 h2 h3

theorem Own.keepR {w w' : World} {lo e size : Nat} {v : Value} {n : Nat} {cs : List Value} (h : Own w lo e size v n cs) {rb : Nat} (hc : Chg (· = rb) w w') (hrb : rb < lo) : Own w' lo e size v n cs :=
  Own.keep h hc fun k hk he => by have := (Own.lt h hk).1; omega

theorem Rdr.own {w w' : World} {rb p : Nat} (h : Rdr w rb p) {lo e size : Nat} {v : Value} {n : Nat} {cs : List Value} (ho : Own w lo e size v n cs) (hc : Chg (blkIs v) w w') (hrb : rb < lo) : Rdr w' rb p :=
  h.keep hc fun k hk hb => by have := (Own.lt ho hb).1; omega

theorem chg_own' {w0 w w' : World} {rb lo e size : Nat} {v : Value} {n : Nat} {cs : List Value} (h0 : Chg (· = rb) w0 w) (ho : Own w lo e size v n cs) (hc : Chg (blkIs v) w w') (hl : w0.heap.size ≤ lo) : Chg (· = rb) w0 w' :=
  Chg.trans h0 hc (fun _ _ h => h) fun k hk hb => by have := (Own.lt ho hb).1; omega

theorem bin_quo {m : Nat} {c : Int} {K : Value → Prop} (hc : 0 < c) (hm : m ≤ 1099511627776) (hK : ∀ q : Nat, (q : Int) = m / c → q ≤ m → K (.int .i64 q)) : BinV .quo (.int .i64 m) (.int .i64 c) K := by
  have h1 : (m : Int).tdiv c = m / c := Int.tdiv_eq_ediv_of_nonneg (by omega)
  have h2 : 0 ≤ (m : Int) / c := Int.ediv_nonneg (by omega) (by omega)
  have h3 : (m : Int) / c ≤ m := Int.ediv_le_self _ (by omega)
  refine ⟨rfl, by omega, (in64 (by omega) (by omega)).inK, ?_⟩
  have h4 : (m : Int).tdiv c = (((m : Int) / c).toNat : Int) := by omega
  rw [h4]
  exact hK _ (by omega) (by omega)

theorem rem_nat {m : Nat} {c : Int} {K : Value → Prop} (hc : 0 < c) (hK : ∀ q : Nat, (q : Int) < c → K (.int .i64 q)) : BinV .rem (.int .i64 m) (.int .i64 c) K := by
  obtain ⟨q, hq, hlt⟩ := tmod_in (show (0 : Int) ≤ m by omega) hc
  exact bin_rem (by omega) (by rw [hq]; exact hK q hlt)

theorem fill3 {x y z : Int} : Instr.fill (fun i => some (i * 1, 1)) (rowOf #[.int .i64 0] (3 * 1)) [(0, .int .i64 x), (1, .int .i64 y), (2, .int .i64 z)] = some #[.int .i64 x, .int .i64 y, .int .i64 z] := by
  simp [Instr.fill, rowOf, Value.cells]
  refine Array.ext (by simp) fun i hi _ => ?_
  simp at hi
  match i, hi with
  | 0, _ => simp
  | 1, _ => simp
  | 2, _ => simp

theorem Own.set {w w' : World} {lo : Nat} {e : Nat} {xs : List Int} {b c i : Nat} {cur : Array Value} {x : Int} (ho : Own w lo e 1 (.slice (some ⟨b, 0, none⟩) xs.length c) xs.length (ints xs)) (hcur : w.heap[b]? = some (.cells cur e (0, 0)))
    (hp : Put w b (.cells (cur.setIfInBounds i (.int .i64 x)) e (0, 0)) w') : Own w' lo e 1 (.slice (some ⟨b, 0, none⟩) xs.length c) xs.length (ints (xs.set i x)) := by
  refine ⟨by simp [ints], ?_⟩
  rcases ho.2 with ⟨h, _⟩ | ⟨g, cap, cur', hv, hb, hg, hnc, hcm, hcs, htake⟩
  · simp at h
  · simp only [Value.slice.injEq, Option.some.injEq, Addr.mk.injEq] at hv
    obtain ⟨⟨rfl, _⟩, _, rfl⟩ := hv
    rw [hcur] at hg
    cases hg
    refine .inr ⟨b, c, _, rfl, hb, hp.here, hnc, hcm, by simpa using hcs, ?_⟩
    rw [Array.toList_setIfInBounds, List.take_set, htake]
    simp [ints, List.map_set]

theorem Same.refl (w : World) : Same w w := ⟨rfl, rfl, rfl, rfl⟩

theorem fill2 {x y : Int} : Instr.fill (fun i => some (i * 1, 1)) (rowOf #[.int .i64 0] (2 * 1)) [(0, .int .i64 x), (1, .int .i64 y)] = some #[.int .i64 x, .int .i64 y] := by
  simp [Instr.fill, rowOf, Value.cells]
  refine Array.ext (by simp) fun i hi _ => ?_
  simp at hi
  match i, hi with
  | 0, _ => simp
  | 1, _ => simp
theorem fill1 {x : Int} : Instr.fill (fun i => some (i * 1, 1)) (rowOf #[.int .i64 0] (1 * 1)) [(0, .int .i64 x)] = some #[.int .i64 x] := fill_int rfl

/-- One of two, or three, numbers is taken. -/
theorem two_of {w : World} {b m : Nat} {x y : Int} {e : Nat} {K : Value → Prop} (hb : w.heap[b]? = some (.cells #[.int .i64 x, .int .i64 y] e (0, 0))) (hm : (m : Int) < 2 ∨ m = 0) (hK : ∀ z, z = x ∨ z = y → K (.int .i64 z)) :
    IdxV 1 (.slice (some ⟨b, 0, none⟩) 2 2) (.int .i64 m) fun t => LoadV false 1 t w K := by
  refine ⟨by omega, by omega, ?_⟩
  simp only [addr_add, Int.toNat_natCast, Nat.mul_one, Nat.zero_add]
  have hm2 : m = 0 ∨ m = 1 := by omega
  rcases hm2 with rfl | rfl
  · exact load2 hb rfl (hK _ (.inl rfl))
  · exact load2 hb rfl (hK _ (.inr rfl))
theorem three_of {w : World} {b m : Nat} {x y z : Int} {e : Nat} {K : Value → Prop} (hb : w.heap[b]? = some (.cells #[.int .i64 x, .int .i64 y, .int .i64 z] e (0, 0))) (hm : (m : Int) < 3 ∨ m = 0) (hK : ∀ u, u = x ∨ u = y ∨ u = z → K (.int .i64 u)) :
    IdxV 1 (.slice (some ⟨b, 0, none⟩) 3 3) (.int .i64 m) fun t => LoadV false 1 t w K := by
  refine ⟨by omega, by omega, ?_⟩
  simp only [addr_add, Int.toNat_natCast, Nat.mul_one, Nat.zero_add]
  have hm3 : m = 0 ∨ m = 1 ∨ m = 2 := by omega
  rcases hm3 with rfl | rfl | rfl
  · exact load2 hb rfl (hK _ (.inl rfl))
  · exact load2 hb rfl (hK _ (.inr (.inl rfl)))
  · exact load2 hb rfl (hK _ (.inr (.inr rfl)))

/-- A cell of an owned list is stored. -/
theorem Own.store {w : World} {lo : Nat} {v : Value} {xs : List Int} (ho : Own w lo T.int 1 v xs.length (ints xs)) {m : Nat} (hm : m < xs.length) {x : Int} {K : World → Prop} (hK : ∀ w', Chg (blkIs v) w w' → w'.heap.size = w.heap.size → Own w' lo T.int 1 v xs.length (ints (xs.set m x)) → K w') :
    IdxV 1 v (.int .i64 m) fun t => StoreV 1 t (.int .i64 x) w K := by
  have ho' := ho
  rcases ho.2 with ⟨rfl, h0⟩ | ⟨g, cap, cur, rfl, hb, hg, hnc, hcm, hcs, htake⟩
  · omega
  · refine ⟨by omega, by omega, ?_⟩
    simp only [addr_add, Int.toNat_natCast, Nat.mul_one, Nat.zero_add]
    refine store_at hg rfl rfl (by omega) fun w'' hp => hK w'' (hp.chg.mono fun k _ e => by have e : k = g := e; subst e; rfl) hp.size (Own.set ho' hg hp)
/-- A cell of an owned list is read. -/
theorem Own.get {w : World} {lo : Nat} {v : Value} {xs : List Int} (ho : Own w lo T.int 1 v xs.length (ints xs)) {m : Nat} (hm : m < xs.length) {K : Value → Prop} (hK : K (.int .i64 xs[m])) : IdxV 1 v (.int .i64 m) fun t => LoadV false 1 t w K := by
  obtain ⟨a, c, rfl, _, _, hc⟩ := Own.cells ho
  exact idxLoad hc rfl hm hK
end Go.Proofs.Ytblgkpfnjlobjaa

namespace Go.Proofs.Ytblgkpfnjlobjaa
open Go Go.V

/-- A call that moves the reader at rb by c places at most. -/
structure Moves (w : World) (rb p c : Nat) (w' : World) : Prop where
  chg : Chg (· = rb) w w'
  rdr : ∃ q, q ≤ p + c ∧ Rdr w' rb q
theorem Moves.mono {w w' : World} {rb p c c' : Nat} (h : Moves w rb p c w') (hc : c ≤ c') : Moves w rb p c' w' := by
  obtain ⟨q, hq, hr⟩ := h.rdr
  exact ⟨h.chg, q, by omega, hr⟩

theorem l91Row_ok {w : World} {rb p n : Nat} (hr : Rdr w rb p) (hp : p ≤ 1000000) (hn : n ≤ 1000) :
    Calls Try.prog N.spec_l91Row #[.pointer (some ⟨rb, 0, none⟩), .int .i64 n] w (Ret fun r w' => Moves w rb p (3 * n + 3) w' ∧ ∃ xs, xs.length = n ∧ FInts w' (Since w) r xs) := by
  refine ret_k fun R hR => c_spec_l91Row _ _ _ _ ?_
  have hlt := hr.lt
  refine ⟨_, rfl, fun w1 hn1 => ?_⟩
  have ho0 : Own w1 w.heap.size T.int 1 (.slice (some ⟨w.heap.size, 0, none⟩) 0 0) 0 (ints []) := Own.empty hn1 (Nat.le_refl _)
  refine loopV (fun s w' => ∃ (k : Nat) (xs : List Int) (u : Value), s = [u, .int .i64 k] ∧ k ≤ n ∧ xs.length = k ∧ Chg (· = rb) w w' ∧ Own w' w.heap.size T.int 1 u xs.length (ints xs) ∧ Rdr w' rb (p + 3 * k))
    (upTo n 1) ⟨0, [], _, rfl, by omega, rfl, hn1.ext.chg, ho0, hr.ext hn1.ext⟩ ?_
  rintro s z w2 K ⟨k, xs, u, rfl, hk, hl, C2, ho2, r2⟩ hK
  simp only [go_sem]
  refine ⟨fun h => ?_, fun h => ?_⟩
  · refine pick_use r2 (by omega) (by omega) fun m3 w3 hm3 C3 s3 r3 => ?_
    refine pick_use r3 (by omega) (by omega) fun m4 w4 hm4 C4 s4 r4 => ?_
    refine ⟨_, fill2, fun w5 hn5 => ?_⟩
    refine pick_use (r4.ext hn5.ext) (by omega) (by omega) fun m6 w6 hm6 C6 s6 r6 => ?_
    have hsz := C2.size
    refine two_of (C6.at hn5.here (by omega)) hm6 fun x _ => ?_
    have C6' := ((C2.andThen C3).andThen C4).andThen (hn5.ext.then C6)
    have ho6 := Own.keepR (Own.ext (Own.keepR (Own.keepR ho2 C3 hlt) C4 hlt) hn5.ext) C6 hlt
    refine app1_int sl_int el_int ho6 (by omega) C6'.size fun v' w7 ho7 C7 => ?_
    refine bin_inc (by omega) (hK _ _ ⟨k + 1, xs ++ [_], v', rfl, by omega, by simp [hl], chg_own' C6' ho6 C7 (Nat.le_refl _), by simpa using ho7, ?_⟩ (by simp [upTo, nthV, iOf]; omega))
    have := r6.own ho6 C7 hlt
    rwa [show p + 3 * k + 1 + 1 + 1 = p + 3 * (k + 1) by omega] at this
  · have hk : k = n := by omega
    subst hk
    have done : ∀ {w' q ys}, Chg (· = rb) w w' → Own w' w.heap.size T.int 1 u ys.length (ints ys) → ys.length = k → q ≤ p + (3 * k + 3) → Rdr w' rb q → R u w' := fun hC ho hl hq hr =>
      hR _ _ ⟨⟨hC, _, hq, hr⟩, _, hl, Own.fints ho⟩
    refine ⟨fun hpos => ?_, fun _ => done C2 ho2 hl (by omega) r2⟩
    refine pick_use r2 (by omega) (by omega) fun m3 w3 hm3 C3 s3 r3 => ?_
    have ho3 := Own.keepR ho2 C3 hlt
    simp only [go_sem]
    refine ⟨fun _ => ?_, fun _ => done (C2.andThen C3) ho3 hl (by omega) r3⟩
    refine pick_use r3 (by omega) (by omega) fun m4 w4 hm4 C4 s4 r4 => ?_
    refine ⟨_, fill3, fun w5 hn5 => ?_⟩
    refine pick_use (r4.ext hn5.ext) (by omega) (by omega) fun m6 w6 hm6 C6 s6 r6 => ?_
    have hsz := ((C2.andThen C3).andThen C4).size
    refine three_of (C6.at hn5.here (by omega)) hm6 fun x _ => ?_
    have ho6 := Own.keepR (Own.ext (Own.keepR ho3 C4 hlt) hn5.ext) C6 hlt
    refine Own.store ho6 (m := m4) (by omega) fun w7 C7 s7 ho7 => ?_
    refine done (ys := xs.set m4 x) (chg_own' (((C2.andThen C3).andThen C4).andThen (hn5.ext.then C6)) ho6 C7 (Nat.le_refl _)) ?_ (by simp [hl]) (by omega) (r6.own ho6 C7 hlt)
    simpa using ho7

/-- A node's lists as cells of an aggregate. -/
structure LNode (w : World) (lo : Nat) (v : Value) (x : Nd) : Prop where
  out : ∃ fv rv, v = .agg #[.int .i64 x.kind, fv, rv] ∧ FInts w (lo ≤ ·) fv x.frm ∧ FInts w (lo ≤ ·) rv x.row ∧ x.frm.length ≤ 2 ∧ x.row.length ≤ 1000

theorem fill_node3 {x : Int} {f r : Value} (hf : f.cells = #[f]) (hr : r.cells = #[r]) : Instr.fill (fun i => ([(0, 1), (1, 1), (2, 1)] : List (Nat × Nat))[i]?) #[.int .i64 0, .slice none 0 0, .slice none 0 0] [(0, .int .i64 x), (1, f), (2, r)] = some #[.int .i64 x, f, r] := by
  have hi : (Value.int .i64 x).cells = #[.int .i64 x] := rfl
  simp [Instr.fill, hf, hr, hi]
theorem fill_node01 {x : Int} {f : Value} (hf : f.cells = #[f]) : Instr.fill (fun i => ([(0, 1), (1, 1), (2, 1)] : List (Nat × Nat))[i]?) #[.int .i64 0, .slice none 0 0, .slice none 0 0] [(0, .int .i64 x), (1, f)] = some #[.int .i64 x, f, .slice none 0 0] := by
  have hi : (Value.int .i64 x).cells = #[.int .i64 x] := rfl
  simp [Instr.fill, hf, hi]
theorem fill_node02 {x : Int} {r : Value} (hr : r.cells = #[r]) : Instr.fill (fun i => ([(0, 1), (1, 1), (2, 1)] : List (Nat × Nat))[i]?) #[.int .i64 0, .slice none 0 0, .slice none 0 0] [(0, .int .i64 x), (2, r)] = some #[.int .i64 x, .slice none 0 0, r] := by
  have hi : (Value.int .i64 x).cells = #[.int .i64 x] := rfl
  simp [Instr.fill, hr, hi]

/-- A node's variable is set whole. -/
theorem store_node {w : World} {b off : Nat} {cur : Array Value} {e : Nat} {k : Int} {f r : Value} (hb : w.heap[b]? = some (.cells cur e (0, 0))) (hf : f.cells = #[f] ∧ f.oneCell' = true) (hr : r.cells = #[r] ∧ r.oneCell' = true) (ho : off + 3 ≤ cur.size) {K : World → Prop}
    (hK : ∀ w', Put w b (.cells (((cur.setIfInBounds off (.int .i64 k)).setIfInBounds (off + 1) f).setIfInBounds (off + 1 + 1) r) e (0, 0)) w' → K w') : StoreV 3 (.pointer (some ⟨b, off, none⟩)) (.agg #[.int .i64 k, f, r]) w K := by
  refine ⟨cur, e, rfl, hb, rfl, ho, fun u hu => ?_, fun w' hp => hK w' (by simpa [Value.cells, splice] using hp)⟩
  simp [Value.cells] at hu
  rcases hu with rfl | rfl | rfl
  · rfl
  · exact hf.2
  · exact hr.2

theorem l91Node_ok {w : World} {rb p at_ wd : Nat} (hr : Rdr w rb p) (hp : p ≤ 900000) (hwd : wd ≤ 1000) (hat : at_ ≤ 1000) :
    Calls Try.prog N.spec_l91Node #[.pointer (some ⟨rb, 0, none⟩), .int .i64 at_, .int .i64 wd] w (Ret fun r w' => Moves w rb p (3 * wd + 6) w' ∧ ∃ x, LNode w' w.heap.size r x) := by
  refine ret_k fun R hR => c_spec_l91Node _ _ _ _ _ ?_
  have hlt := hr.lt
  intro w1 hn1
  have z1 := hn1.size
  refine pick_use (hr.ext hn1.ext) (by omega) (by omega) fun k w2 hk C2 s2 r2 => ?_
  refine ⟨_, rfl, fun w3 hn3 => ?_⟩
  refine ⟨_, rfl, fun w4 hn4 => ?_⟩
  have z3 := hn3.size
  have z4 := hn4.size
  refine ⟨_, fill_node3 rfl rfl, ?_⟩
  intro w5 hn5
  have z5 := hn5.size
  have ho3 : Own w3 w.heap.size T.int 1 (.slice (some ⟨w2.heap.size, 0, none⟩) 0 0) 0 (ints []) := Own.empty hn3 (by omega)
  refine store_node hn5.here ⟨rfl, rfl⟩ ⟨rfl, rfl⟩ (by simp [Value.cells]) fun w6 hp6 => ?_
  have s6 := hp6.size
  have C5 : Chg (· = rb) w w5 := ((hn1.ext.then C2).then hn3.ext).then (hn4.ext.trans hn5.ext)
  have C6 : Chg (· = rb) w w6 := Chg.trans C5 hp6.chg (fun _ _ h => h) fun j hj e => by have e : j = w4.heap.size := e; omega
  have ho6 := Own.keep (Own.ext ho3 (hn4.ext.trans hn5.ext)) hp6.chg fun j hj e => by
    have := (Own.lt ho3 hj).2; have e : j = w4.heap.size := e; omega
  have r6 := (r2.ext ((hn3.ext.trans hn4.ext).trans hn5.ext)).keep hp6.chg fun j hj e => by have e : j = w4.heap.size := e; omega
  have b1 : w6.heap[w.heap.size]? = some (.cells #[.int .i64 0, .slice none 0 0, .slice none 0 0] T.impl_Node (0, 0)) := by
    have h1 := C2.at hn1.here (by omega)
    exact hp6.chg.at (hn5.ext.at (hn4.ext.at (hn3.ext.at h1))) (by omega)
  -- the state from here on: the two variables, what node needs, its row
  have b6 : w6.heap[w4.heap.size]? = some (.cells #[.int .i64 (k : Int), .slice (some ⟨w2.heap.size, 0, none⟩) 0 0, .slice (some ⟨w3.heap.size, 0, none⟩) 0 0] T.impl_Node (0, 0)) := by
    have := hp6.here
    simpa [Value.cells] using this
  refine joinV (fun s w' => s = [] ∧ ∃ kk : Int, Chg (· = rb) w w' ∧ w6.heap.size ≤ w'.heap.size ∧ Own w' w.heap.size T.int 1 (.slice (some ⟨w2.heap.size, 0, none⟩) 0 0) 0 (ints []) ∧ Rdr w' rb (p + 1) ∧
      w'.heap[w.heap.size]? = some (.cells #[.int .i64 0, .slice none 0 0, .slice none 0 0] T.impl_Node (0, 0)) ∧
      w'.heap[w4.heap.size]? = some (.cells #[.int .i64 kk, .slice (some ⟨w2.heap.size, 0, none⟩) 0 0, .slice (some ⟨w3.heap.size, 0, none⟩) 0 0] T.impl_Node (0, 0))) (fun M hM => ?_) ?_
  · simp only [go_sem]
    refine ⟨fun _ => ?_, fun _ => hM _ _ ⟨rfl, k, C6, Nat.le_refl _, ho6, r6, b1, b6⟩⟩
    refine store_at b6 rfl rfl (by simp) fun w7 hp7 => hM _ _ ⟨rfl, 0, Chg.trans C6 hp7.chg (fun _ _ h => h) fun j hj e => by have e : j = w4.heap.size := e; omega, by have := hp7.size; omega, ?_, ?_, hp7.chg.at b1 (by omega), by simpa using hp7.here⟩
    · exact Own.keep ho6 hp7.chg fun j hj e => by cases hj; have e : w2.heap.size = w4.heap.size := e; omega
    · exact r6.keep hp7.chg fun j hj e => by have e : j = w4.heap.size := e; omega
  rintro _ _ w7 ⟨rfl, kk, C7, z7, ho7, r7, b17, b47⟩
  refine joinV (fun s w' => s = [] ∧ ∃ (row : List Int) (rv : Value) (q : Nat), Chg (· = rb) w w' ∧ w6.heap.size ≤ w'.heap.size ∧ Own w' w.heap.size T.int 1 (.slice (some ⟨w2.heap.size, 0, none⟩) 0 0) 0 (ints []) ∧ q ≤ p + 1 + (3 * wd + 3) ∧ Rdr w' rb q ∧
      w'.heap[w.heap.size]? = some (.cells #[.int .i64 0, .slice none 0 0, .slice none 0 0] T.impl_Node (0, 0)) ∧
      w'.heap[w4.heap.size]? = some (.cells #[.int .i64 kk, .slice (some ⟨w2.heap.size, 0, none⟩) 0 0, rv] T.impl_Node (0, 0)) ∧ FInts w' (fun b => w.heap.size ≤ b ∧ b ≠ w2.heap.size) rv row ∧ row.length ≤ 1000) (fun M hM => ?_) ?_
  · simp only [go_sem]
    refine load2 (v := .int .i64 kk) b47 rfl ?_
    simp only [go_sem]
    refine ⟨fun _ => ?_, fun _ => hM _ _ ⟨rfl, [], _, p + 1, C7, z7, ho7, by omega, r7, b17, b47, FInts.nil, by simp⟩⟩
    refine callV_of (l91Row_ok r7 (by omega) hwd) rfl ?_
    rintro rv w8 ⟨⟨C8, q, hq, r8⟩, row, hrow, hf8⟩
    refine store_at (C8.at b47 (by omega)) hf8.cellsV.1 hf8.cellsV.2 (by simp) fun w9 hp9 => ?_
    have z8 := C8.size
    have z9 := hp9.size
    refine hM _ _ ⟨rfl, row, rv, q, Chg.trans (C7.andThen C8) hp9.chg (fun _ _ h => h) fun j hj e => by have e : j = w4.heap.size := e; omega, by omega, ?_, by omega, ?_, ?_, by simpa using hp9.here, ?_, by omega⟩
    · exact Own.keep (Own.keepR ho7 C8 hlt) hp9.chg fun j hj e => by cases hj; have e : w2.heap.size = w4.heap.size := e; omega
    · exact r8.keep hp9.chg fun j hj e => by have e : j = w4.heap.size := e; omega
    · exact hp9.chg.at (C8.at b17 (by omega)) (by omega)
    · refine (hf8.keep hp9.chg fun j hj e => by have e : j = w4.heap.size := e; unfold Since at hj; omega).mono fun b _ hb => ?_
      unfold Since at hb; have := C7.size; omega
  rintro _ _ w8 ⟨rfl, row, rv, q, C8, z8, ho8, hq, r8, b18, b48, hrv8, hrl⟩
  refine loopV (fun s w' => ∃ (j : Nat) (frm : List Int) (fv : Value), s = [.int .i64 j] ∧ (j : Int) ≤ max (kneeds kk) 0 ∧ frm.length = j ∧ Chg (· = rb) w w' ∧ w6.heap.size ≤ w'.heap.size ∧ Own w' w.heap.size T.int 1 fv frm.length (ints frm) ∧ Rdr w' rb (q + j) ∧
      w'.heap[w.heap.size]? = some (.cells #[.int .i64 0, .slice none 0 0, .slice none 0 0] T.impl_Node (0, 0)) ∧
      w'.heap[w4.heap.size]? = some (.cells #[.int .i64 kk, fv, rv] T.impl_Node (0, 0)) ∧ FInts w' (fun b => w.heap.size ≤ b) rv row ∧ (∀ b, fv.ownBlock = some b → FInts w' (fun j => w.heap.size ≤ j ∧ j ≠ b) rv row)) (upTo 2 0)
    ⟨0, [], _, rfl, by omega, rfl, C8, z8, ho8, r8, b18, b48, hrv8.mono fun b _ h => h.1, fun b hb => by cases hb; exact hrv8⟩ ?_
  rintro s z w9 K ⟨j, frm, fv, rfl, hj, hfl, C9, z9, ho9, r9, b19, b49, hrv9, hdis9⟩ hK
  have hkn := kneeds_range kk
  simp only [go_sem]
  refine load2 (v := .int .i64 kk) b49 rfl ?_
  refine callV_of (specKindNeeds_ok kk) rfl ?_
  rintro _ w10 ⟨E10, rfl⟩
  have z10 := E10.size
  simp only [go_sem]
  refine ⟨fun h => ?_, fun h => ?_⟩
  · refine ⟨fun b => b = rb ∨ fv.ownBlock = some b, fun w11 hs11 => ?_⟩
    have E11 := E10.trans hs11.ext
    have z11 := hs11.size
    have b411 := E11.at b49
    have ho11 := Own.ext ho9 E11
    have hne4 : ∀ b, fv.ownBlock = some b → b ≠ w4.heap.size := fun b hb e => by
      obtain ⟨cur, hc⟩ := own_tagN ho9 hb
      rw [e, b49] at hc; cases hc
    refine loadS2 (v := fv) b411 (fun h => h.elim (fun e => by omega) fun h => hne4 _ h rfl) rfl ?_
    refine pick_use (r9.ext E11) (by omega) (by omega) fun m w12 hm C12 s12 r12 => ⟨C12.mono fun _ _ h => .inl h, ?_⟩
    have ho12 := Own.keepR ho11 C12 hlt
    refine ⟨_, fill_int rfl, fun w13 hn13 => ⟨hn13.ext.chg, ?_⟩⟩
    have z13 := hn13.size
    have ho13 := Own.ext ho12 hn13.ext
    refine appendV_own2 sl_int el_int ho13 [.int .i64 m] rfl (fun i u hi => ?_) (by simp [Value.oneCell']) (by omega) (by omega) (by have := C9.size; omega) fun v' w14 ho14 C14 hm14 => ?_
    · rw [addr_add, Nat.zero_add, cell_of_row w13 _ i _ _ (0, 0) hn13.here]
      match i with
      | 0 => simpa [Value.cells] using hi
      | i + 1 => simp at hi
    refine ⟨C14.mono fun _ _ h => .inr h, ?_⟩
    have z14 := C14.size
    have b414 : w14.heap[w4.heap.size]? = some (.cells #[.int .i64 kk, fv, rv] T.impl_Node (0, 0)) := C14.at (hn13.ext.at (C12.at b411 (by omega))) fun h => hne4 _ h rfl
    refine store_at b414 (own_slice ho14).1 (own_slice ho14).2 (by simp) fun w15 hp15 => ?_
    have z15 := hp15.size
    have C13 : Chg (· = rb) w9 w13 := (E11.then C12).then hn13.ext
    have hlt9 : ∀ b, fv.ownBlock = some b → w.heap.size ≤ b := fun b hb => (Own.lt ho9 hb).1
    have hnew4 : ∀ b, v'.ownBlock = some b → b ≠ w4.heap.size := fun b hb e => by
      obtain ⟨cur, hc⟩ := own_tagN ho14 hb
      rw [e, b414] at hc; cases hc
    have ho15 := Own.keep ho14 hp15.chg fun b hb e => hnew4 b hb e
    have hrv13 : ∀ B : Nat → Prop, (∀ b, B b → w.heap.size ≤ b) → FInts w9 B rv row → FInts w13 B rv row := fun B hB h => h.keep C13 fun b hb e => by have := hB b hb; have e : b = rb := e; omega
    have hrv14 : ∀ b, fv.ownBlock = some b → FInts w14 (fun j => w.heap.size ≤ j ∧ j ≠ b) rv row := fun b hb => (hrv13 _ (fun _ h => h.1) (hdis9 b hb)).keep C14 fun j hj h => by have h : fv.ownBlock = some j := h; rw [hb] at h; cases h; exact hj.2 rfl
    have hrv14q : FInts w14 (fun j => w.heap.size ≤ j ∧ j < w9.heap.size) rv row := by
      cases hb : fv.ownBlock with
      | none => exact (hrv13 (fun j => w.heap.size ≤ j ∧ j < w9.heap.size) (fun _ h => h.1) (hrv9.mono fun _ h1 h2 => ⟨h2, h1⟩)).keep C14 fun j hj h => by have h : fv.ownBlock = some j := h; rw [hb] at h; cases h
      | some b =>
        have h1 : FInts w9 (fun j => (w.heap.size ≤ j ∧ j < w9.heap.size) ∧ j ≠ b) rv row := (hdis9 b hb).mono fun _ h1 h2 => ⟨⟨h2.1, h1⟩, h2.2⟩
        exact ((hrv13 _ (fun _ h => h.1.1) h1).keep C14 fun j hj h => by have h : fv.ownBlock = some j := h; rw [hb] at h; cases h; exact hj.2 rfl).mono fun _ _ h => h.1
    have hrv14' : FInts w14 (fun j => w.heap.size ≤ j) rv row := hrv14q.mono fun _ _ h => h.1
    have z13' := C13.size
    have put4 : ∀ B : Nat → Prop, FInts w14 B rv row → FInts w15 B rv row := fun B h => by
      obtain ⟨a, c, hv, hc, hr⟩ := h.out
      refine ⟨a, c, hv, hc, fun hne => ?_⟩
      obtain ⟨b, off, cur, ha, h1, hb, rr⟩ := hr hne
      refine ⟨b, off, cur, ha, h1, hp15.chg.at hb fun e => ?_, rr⟩
      have e : b = w4.heap.size := e
      rw [e, b414] at hb; cases hb
    have hfs : (frm ++ [(m : Int)]).length = frm.length + 1 := by simp
    refine bin_inc (by omega) (hK _ _ ⟨j + 1, frm ++ [(m : Int)], v', rfl, by omega, by omega, ?_, by omega, ?_, ?_, ?_, by simpa using hp15.here, put4 _ hrv14', fun b hb => ?_⟩ (by simp [upTo, nthV, iOf]; omega))
    · refine Chg.trans (chg_own' (C9.andThen C13) ho13 C14 (Nat.le_refl _)) hp15.chg (fun _ _ h => h) fun b hb e => by have e : b = w4.heap.size := e; omega
    · simpa [ints] using ho15
    · have := ((r12.ext hn13.ext).own ho13 C14 hlt).keep hp15.chg fun b hb e => by have e : b = w4.heap.size := e; omega
      exact this
    · refine hp15.chg.at (C14.at (C13.at b19 (by omega)) fun h => ?_) (by omega)
      obtain ⟨cur, hc⟩ := own_tagN ho9 h
      rw [b19] at hc; cases hc
    · rcases hm14 b hb with h | h
      · exact put4 _ (hrv14 b h)
      · exact put4 _ (hrv14q.mono fun c _ hlo => ⟨hlo.1, by have := hlo.2; omega⟩)
  · have e10 := C9.then E10
    refine load_box (E10.at b49) ?_
    have b110 := E10.at b19
    refine store_node b110 (own_slice ho9) hrv9.cellsV (by simp) fun w11 hp11 => ?_
    have z11 := hp11.size
    refine load_box (by simpa using hp11.here) ?_
    refine hR _ _ ⟨⟨Chg.trans e10 hp11.chg (fun _ _ h => h) fun b hb e => by have e : b = w.heap.size := e; omega, q + j, by omega, ?_⟩, ⟨kk, frm, row⟩, fv, rv, rfl, ?_, ?_, by simp; omega, hrl⟩
    · exact (r9.ext E10).keep hp11.chg fun b hb e => by have e : b = w.heap.size := e; omega
    · refine Own.fints (Own.keep (Own.ext ho9 E10) hp11.chg fun b hb e => ?_)
      obtain ⟨cur, hc⟩ := own_tagN ho9 hb
      have e : b = w.heap.size := e
      rw [e, b19] at hc; cases hc
    · obtain ⟨a, c, hv, hc, hr⟩ := (hrv9.ext E10).out
      refine ⟨a, c, hv, hc, fun hne => ?_⟩
      obtain ⟨b, off, cur, ha, h1, hb, rr⟩ := hr hne
      refine ⟨b, off, cur, ha, h1, hp11.chg.at hb fun e => ?_, rr⟩
      have e : b = w.heap.size := e
      rw [e, b110] at hb; cases hb

theorem flatN_set {p : List Nd} {fv rv : Nat → Value} {i : Nat} {x : Nd} {f r : Value} (hp : i < p.length) : ∀ {n : Nat}, i < n → (((flatN p fv rv n).set (3 * i) (.int .i64 x.kind)).set (3 * i + 1) f).set (3 * i + 1 + 1) r = flatN (p.set i x) (setF fv i f) (setF rv i r) n := by
  intro n
  induction n with
  | zero => intro h; omega
  | succ n ih =>
    intro h
    have hl := flatN_len p fv rv n
    by_cases e : i = n
    · subst e
      rw [flatN, flatN, setF_same, setF_same, nd_set hp, if_pos rfl]
      rw [List.set_append_right _ _ (by omega), List.set_append_right _ _ (by omega), List.set_append_right _ _ (by omega), hl]
      rw [flatN_congr (q := p.set i x) (fv' := setF fv i f) (rv' := setF rv i r) fun j hj => ⟨by rw [nd_set hp, if_neg (by omega)], (setF_ne _ _ (by omega)).symm, (setF_ne _ _ (by omega)).symm⟩]
      rw [show 3 * i - 3 * i = 0 by omega, show 3 * i + 1 - 3 * i = 1 by omega, show 3 * i + 1 + 1 - 3 * i = 2 by omega]
      rfl
    · have := ih (by omega)
      rw [flatN, flatN, ← this, setF_ne _ _ (by omega : n ≠ i), setF_ne _ _ (by omega : n ≠ i), nd_set hp, if_neg (by omega)]
      rw [List.set_append_left _ _ (by omega), List.set_append_left _ _ (by simp; omega), List.set_append_left _ _ (by simp; omega)]

/-- A node of such a plan is replaced. -/
theorem DPlan.setNode {w : World} {lo : Nat} {v : Value} {p : List Nd} (h : DPlan w lo v p) {i : Nat} (hi : i < p.length) {x : Nd} {f r : Value} {k : Int} (hk : k = x.kind) (hf : FInts w (lo ≤ ·) f x.frm) (hr : FInts w (lo ≤ ·) r x.row) (hs : Sml x)
    {K : World → Prop} (hK : ∀ w', Chg (blkIs v) w w' → w'.heap.size = w.heap.size → DPlan w' lo v (p.set i x) → K w') :
    IdxV 3 v (.int .i64 i) fun t => StoreV 3 t (.agg #[.int .i64 k, f, r]) w K := by
  subst hk
  obtain ⟨fv, rv, ho, hl, hin⟩ := h.out
  have ho0 := ho
  rcases ho.2 with ⟨rfl, h0⟩ | ⟨g, cap, cur, rfl, hb, hg, hnc, hcm, hcs, htake⟩
  · omega
  · refine ⟨by omega, by omega, ?_⟩
    simp only [addr_add, Int.toNat_natCast, Nat.zero_add]
    refine store_node hg hf.cellsV hr.cellsV (by omega) fun w' hp => ?_
    have hc : Chg (blkIs (.slice (some ⟨g, 0, none⟩) p.length cap)) w w' := hp.chg.mono fun j _ e => by have e : j = g := e; subst e; rfl
    refine hK w' hc hp.size ⟨setF fv i f, setF rv i r, ⟨?_, .inr ⟨g, cap, _, by rw [List.length_set], hb, hp.here, by rw [List.length_set]; exact hnc, hcm, by simpa using hcs, ?_⟩⟩, by rw [List.length_set]; exact hl, fun j hj => ?_⟩
    · unfold flat; rw [flatN_len]; omega
    · rw [List.length_set, Array.toList_setIfInBounds, Array.toList_setIfInBounds, Array.toList_setIfInBounds, List.take_set, List.take_set, List.take_set, htake]
      unfold flat
      rw [List.length_set, ← flatN_set hi hi]
      rw [show i * 3 = 3 * i by omega]
    · rw [List.length_set] at hj
      rw [nd_set hi]
      by_cases e : j = i
      · subst e
        rw [if_pos rfl, setF_same, setF_same]
        exact ⟨hf.beside ho0 hc, hr.beside ho0 hc, hs⟩
      · rw [if_neg e, setF_ne _ _ e, setF_ne _ _ e]
        exact ⟨(hin j hj).1.beside ho0 hc, (hin j hj).2.1.beside ho0 hc, (hin j hj).2.2⟩

/-- A drawn plan. -/
structure DrawnPlan (w : World) (rb p c : Nat) (v : Value) (w' : World) : Prop where
  mv : Moves w rb p c w'
  pl : ∃ pl, DPlan w' w.heap.size v pl ∧ pl.length ≤ 11 ∧ ∀ x ∈ pl, x.frm.length ≤ 2 ∧ x.row.length ≤ 1000

theorem Rdr.dplan {w w' : World} {rb q lo : Nat} {v : Value} {p : List Nd} (h : Rdr w rb q) (hd : DPlan w lo v p) (hc : Chg (blkIs v) w w') (hrb : rb < lo) : Rdr w' rb q :=
  h.keep hc fun _ hk hb => by have := (hd.blk hb).1; omega
theorem chg_dplan {w0 w w' : World} {rb lo : Nat} {v : Value} {p : List Nd} (h0 : Chg (· = rb) w0 w) (hd : DPlan w lo v p) (hc : Chg (blkIs v) w w') (hl : w0.heap.size ≤ lo) : Chg (· = rb) w0 w' :=
  Chg.trans h0 hc (fun _ _ h => h) fun _ hk hb => by have := (hd.blk hb).1; omega

theorem l91Plan_ok {w : World} {rb p : Nat} (hr : Rdr w rb p) (hp : p ≤ 800000) :
    Calls Try.prog N.spec_l91Plan #[.pointer (some ⟨rb, 0, none⟩)] w (Ret (DrawnPlan w rb p 1000)) := by
  refine ret_k fun R hR => c_spec_l91Plan _ _ _ ?_
  have hlt := hr.lt
  refine ⟨_, rfl, fun w1 hn1 => ?_⟩
  have d1 : DPlan w1 w.heap.size (.slice (some ⟨w.heap.size, 0, none⟩) 0 0) [] := DPlan.nil hn1 (Nat.le_refl _)
  have keepR : ∀ {w w' : World} {lo : Nat} {v : Value} {pl : List Nd}, DPlan w lo v pl → Chg (· = rb) w w' → rb < lo → DPlan w' lo v pl := fun h hc hl => h.keep hc fun k hk e => by omega
  refine pick_use (hr.ext hn1.ext) (by omega) (by omega) fun wd w2 hwd C2 s2 r2 => ?_
  refine pick_use r2 (by omega) (by omega) fun m w3 hm C3 s3 r3 => ?_
  have C3' := (hn1.ext.then C2).andThen C3
  have d3 := keepR (keepR d1 C2 hlt) C3 hlt
  have e1 : (1 : Int) + (m : Int) = ((m + 1 : Nat) : Int) := by omega
  refine bin_add ⟨by omega, by omega⟩ ?_
  rw [e1]
  refine joinV (fun s w' => ∃ n : Nat, s = [.int .i64 n] ∧ n ≤ 11 ∧ Chg (· = rb) w w' ∧ DPlan w' w.heap.size (.slice (some ⟨w.heap.size, 0, none⟩) 0 0) [] ∧ ∃ q, q ≤ p + 4 ∧ Rdr w' rb q) (fun M hM => ?_) ?_
  · refine pick_use r3 (by omega) (by omega) fun m4 w4 hm4 C4 s4 r4 => ?_
    have C4' := C3'.andThen C4
    have d4 := keepR d3 C4 hlt
    simp only [go_sem]
    refine ⟨fun _ => ?_, fun _ => hM _ _ ⟨m + 1, rfl, by omega, C4', d4, _, by omega, r4⟩⟩
    refine ⟨_, fill3, fun w5 hn5 => ?_⟩
    refine pick_use (r4.ext hn5.ext) (by omega) (by omega) fun m6 w6 hm6 C6 s6 r6 => ?_
    have z4 := C4'.size
    refine three_of (C6.at hn5.here (by omega)) hm6 fun x hx => ?_
    have hx' : ∃ n : Nat, x = n ∧ n ≤ 11 := ⟨x.toNat, by omega, by omega⟩
    obtain ⟨n, rfl, hn⟩ := hx'
    exact hM _ _ ⟨n, rfl, hn, C4'.andThen (hn5.ext.then C6), keepR (d4.ext hn5.ext) C6 hlt, _, by omega, r6⟩
  rintro _ _ w4 ⟨n, rfl, hn, C4, d4, q4, hq4, r4⟩
  refine loopV (fun s w' => ∃ (k : Nat) (pl : List Nd) (u : Value) (q : Nat), s = [u, .int .i64 k] ∧ k ≤ n ∧ pl.length = k ∧ (∀ x ∈ pl, x.frm.length ≤ 2 ∧ x.row.length ≤ 1000) ∧ Chg (· = rb) w w' ∧ DPlan w' w.heap.size u pl ∧ q ≤ p + 4 + 20 * k ∧ Rdr w' rb q)
    (upTo n 1) ⟨0, [], _, q4, rfl, by omega, rfl, by simp, C4, d4, by omega, r4⟩ ?_
  rintro s z w5 K ⟨k, pl, u, q, rfl, hk, hl, hsm, C5, d5, hq, r5⟩ hK
  simp only [go_sem]
  refine ⟨fun h => ?_, fun h => ?_⟩
  · refine callV_of (l91Node_ok r5 (by omega) (by omega) (by omega)) rfl ?_
    rintro _ w6 ⟨⟨C6, q6, hq6, r6⟩, x, hx⟩
    obtain ⟨fv, rv, rfl, hfv, hrv, hf2, hr2⟩ := hx.out
    have z5 := C5.size
    have C6' := C5.andThen C6
    have d6 := keepR d5 C6 hlt
    refine d6.push rfl (hfv.mono fun _ _ h => by omega) (hrv.mono fun _ _ h => by omega) ⟨by omega, by omega⟩ (by omega) C6'.size fun v' w7 d7 C7 => ?_
    refine bin_inc (by omega) (hK _ _ ⟨k + 1, pl ++ [x], v', q6, rfl, by omega, by simp [hl], fun y hy => ?_, chg_dplan C6' d6 C7 (Nat.le_refl _), d7, by omega, r6.dplan d6 C7 hlt⟩ (by simp [upTo, nthV, iOf]; omega))
    rcases List.mem_append.1 hy with hy | hy
    · exact hsm y hy
    · simp at hy; subst hy; exact ⟨hf2, hr2⟩
  · have hk : k = n := by omega
    subst hk
    have z5 := C5.size
    have done : ∀ {w' q pl'}, Chg (· = rb) w w' → DPlan w' w.heap.size u pl' → pl'.length = k → (∀ x ∈ pl', x.frm.length ≤ 2 ∧ x.row.length ≤ 1000) → q ≤ p + 1000 → Rdr w' rb q → R u w' := fun hC hd hl hsm hq hr =>
      hR _ _ ⟨⟨hC, _, hq, hr⟩, _, hd, by omega, hsm⟩
    refine joinV (fun s w' => s = [] ∧ R u w') (fun M hM => ?_) ?_
    · refine ⟨fun hpos => ?_, fun _ => hM _ _ ⟨rfl, done C5 d5 hl hsm (by omega) r5⟩⟩
      refine pick_use r5 (by omega) (by omega) fun m6 w6 hm6 C6 s6 r6 => ?_
      have C6' := C5.andThen C6
      have d6 := keepR d5 C6 hlt
      have hset : ∀ x : Nd, x.frm.length ≤ 2 ∧ x.row.length ≤ 1000 → ∀ y ∈ pl.set (k - 1) x, y.frm.length ≤ 2 ∧ y.row.length ≤ 1000 := fun x hx y hy => by
        rcases List.mem_or_eq_of_mem_set hy with hy | rfl
        · exact hsm y hy
        · exact hx
      have ek : (k : Int) - 1 = ((k - 1 : Nat) : Int) := by omega
      simp only [go_sem]
      refine ⟨fun _ => ?_, fun _ => ⟨fun _ => ?_, fun _ => hM _ _ ⟨rfl, done C6' d6 hl hsm (by omega) r6⟩⟩⟩
      · refine bin_sub ⟨by omega, by omega⟩ (bin_sub ⟨by omega, by omega⟩ ?_)
        rw [ek]
        refine ⟨_, fill1, fun w7 hn7 => ?_⟩
        refine ⟨_, fill_node01 rfl, ?_⟩
        have z6 := C6'.size
        have hfi : FInts w7 (w.heap.size ≤ ·) (.slice (some ⟨w6.heap.size, 0, none⟩) 1 1) [((k - 1 : Nat) : Int)] := (Own.fints (Own.made (n := 1) hn7 (Nat.le_refl _) rfl (by decide))).mono fun _ _ h => by omega
        refine (d6.ext hn7.ext).setNode (x := ⟨4, [((k - 1 : Nat) : Int)], []⟩) (by omega) rfl hfi FInts.nil ⟨by simp, by simp⟩ fun w8 C8 s8 d8 => ?_
        exact hM _ _ ⟨rfl, done (chg_dplan (C6'.then hn7.ext) (d6.ext hn7.ext) C8 (Nat.le_refl _)) d8 (by simp [hl]) (hset _ ⟨by simp, by simp⟩) (by omega) ((r6.ext hn7.ext).dplan (d6.ext hn7.ext) C8 hlt)⟩
      · refine bin_sub ⟨by omega, by omega⟩ (bin_add ⟨by omega, by omega⟩ ?_)
        rw [ek, show (wd : Int) + 1 = ((wd + 1 : Nat) : Int) by omega]
        refine callV_of (l91Row_ok r6 (by omega) (by omega)) rfl ?_
        rintro rv w7 ⟨⟨C7, q7, hq7, r7⟩, row, hrl, hrv⟩
        refine ⟨_, fill_node02 hrv.cellsV.1, ?_⟩
        have z6 := C6'.size
        refine (keepR d6 C7 hlt).setNode (x := ⟨0, [], row⟩) (by omega) rfl FInts.nil (hrv.mono fun _ _ h => by unfold Since at h; omega) ⟨by simp, by simp; omega⟩ fun w8 C8 s8 d8 => ?_
        exact hM _ _ ⟨rfl, done (chg_dplan (C6'.andThen C7) (keepR d6 C7 hlt) C8 (Nat.le_refl _)) d8 (by simp [hl]) (hset _ ⟨by simp, by simp; omega⟩) (by omega) (r7.dplan (keepR d6 C7 hlt) C8 hlt)⟩
    rintro _ _ w6 ⟨rfl, h⟩
    exact h
end Go.Proofs.Ytblgkpfnjlobjaa

namespace Go.Proofs.Ytblgkpfnjlobjaa
open Go Go.V

theorem Moves.ext {w w1 w' : World} {p c : Nat} (hE : Ext w w1) (h : Moves w1 w.heap.size p c w') : Ext w w' := Chg.ext (hE.then h.chg) fun k hk e => by have e : k = w.heap.size := e; omega
theorem DPlan.keepR {w w' : World} {lo rb : Nat} {v : Value} {pl : List Nd} (h : DPlan w lo v pl) (hc : Chg (· = rb) w w') (hl : rb < lo) : DPlan w' lo v pl := h.keep hc fun k hk e => by omega

/-- A plan has been drawn out of a seed, and nothing else has happened. -/
structure Drawn (w : World) (v : Value) (w' : World) (p : List Nd) (lo : Nat) : Prop where
  ext : Ext w w'
  pl : DPlan w' lo v p
  lo : w.heap.size ≤ lo
  len : p.length ≤ 11
  sml : ∀ x ∈ p, x.frm.length ≤ 2 ∧ x.row.length ≤ 1000

/-- The reader is opened, and a plan drawn. -/
theorem draw_plan {w : World} {v : Value} {bs : List Int} (hx : RowIn .u8 w v bs) {K : Value → Value → World → Prop}
    (hK : ∀ u w' p q, Drawn w u w' p (w.heap.size + 1) → q ≤ 1000 → Rdr w' w.heap.size q → K (.pointer (some ⟨w.heap.size, 0, none⟩)) u w') :
    CallV Try.prog N.spec_l6Open [v] w fun t w1 => CallV Try.prog N.spec_l91Plan [t] w1 fun u w2 => K t u w2 := by
  refine callV_of (l6Open_ok hx) rfl ?_
  rintro _ w1 ⟨rfl, E1, r1⟩
  have hlt := r1.lt
  refine callV_of (l91Plan_ok r1 (by omega)) rfl ?_
  rintro u w2 ⟨⟨C2, q, hq, r2⟩, p, d2, hl, hs⟩
  obtain ⟨fv, rv, ho, hpl, hin⟩ := d2.out
  refine hK u w2 p q ⟨Chg.ext (E1.then C2) fun k hk e => by omega, ⟨fv, rv, Own.mono ho (by omega), hpl, fun i hi => ?_⟩, by omega, hl, hs⟩ (by omega) r2
  obtain ⟨h1, h2, h3⟩ := hin i hi
  exact ⟨h1.mono fun _ _ h => by omega, h2.mono fun _ _ h => by omega, h3⟩

theorem Drawn.move {w w' w'' : World} {v : Value} {p : List Nd} (h : Drawn w v w' p (w.heap.size + 1)) (hc : Chg (· = w.heap.size) w' w'') : Drawn w v w'' p (w.heap.size + 1) :=
  ⟨Chg.ext (h.ext.then hc) fun k hk e => by have e : k = w.heap.size := e; omega, h.pl.keepR hc (by omega), h.lo, h.len, h.sml⟩

end Go.Proofs.Ytblgkpfnjlobjaa
