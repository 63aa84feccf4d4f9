/- Drawn inputs: what all draws have in common. -/
import Derived.Test.YtpfabjjeacdikaaReader
namespace Go.Proofs.Ytpfabjjeacdikaa
open Go Go.V

theorem pick_use {w : World} {rb p : Nat} {n : Int} {K : Value → World → Prop} (hr : Rdr w rb p) (hp : p ≤ 1099511627776) (hn : n ≤ 1099511627776)
    (hK : ∀ (m : Nat) w', ((m : Int) < n ∨ m = 0) → Chg (· = rb) w w' → w'.heap.size = w.heap.size → Rdr w' rb (p + 1) → K (.int .i64 m) w') :
    CallV Try.prog N.spec_l6Rd_pick [.pointer (some ⟨rb, 0, none⟩), .int .i64 n] w K := by
  refine callV_of (pick_ok hr hp hn) rfl ?_
  rintro v w' ⟨⟨m, rfl, hm⟩, h1, h2, h3⟩
  exact hK m w' hm h1 h2 h3

theorem Own.keepR {w w' : World} {lo e size : Nat} {v : Value} {n : Nat} {cs : List Value} (h : Own w lo e size v n cs) {rb : Nat} (hc : Chg (· = rb) w w') (hrb : rb < lo) : Own w' lo e size v n cs :=
  Own.keep h hc fun k hk he => by have := (Own.lt h hk).1; omega

theorem Rdr.own {w w' : World} {rb p : Nat} (h : Rdr w rb p) {lo e size : Nat} {v : Value} {n : Nat} {cs : List Value} (ho : Own w lo e size v n cs) (hc : Chg (blkIs v) w w') (hrb : rb < lo) : Rdr w' rb p :=
  h.keep hc fun k hk hb => by have := (Own.lt ho hb).1; omega

theorem chg_own' {w0 w w' : World} {rb lo e size : Nat} {v : Value} {n : Nat} {cs : List Value} (h0 : Chg (· = rb) w0 w) (ho : Own w lo e size v n cs) (hc : Chg (blkIs v) w w') (hl : w0.heap.size ≤ lo) : Chg (· = rb) w0 w' :=
  Chg.trans h0 hc (fun _ _ h => h) fun k hk hb => by have := (Own.lt ho hb).1; omega

theorem bin_quo {m : Nat} {c : Int} {K : Value → Prop} (hc : 0 < c) (hm : m ≤ 1099511627776) (hK : ∀ q : Nat, (q : Int) = m / c → q ≤ m → K (.int .i64 q)) : BinV .quo (.int .i64 m) (.int .i64 c) K := by
  have h1 : (m : Int).tdiv c = m / c := Int.tdiv_eq_ediv_of_nonneg (by omega)
  have h2 : 0 ≤ (m : Int) / c := Int.ediv_nonneg (by omega) (by omega)
  have h3 : (m : Int) / c ≤ m := Int.ediv_le_self _ (by omega)
  refine ⟨rfl, by omega, (in64 (by omega) (by omega)).inK, ?_⟩
  have h4 : (m : Int).tdiv c = (((m : Int) / c).toNat : Int) := by omega
  rw [h4]
  exact hK _ (by omega) (by omega)

theorem rem_nat {m : Nat} {c : Int} {K : Value → Prop} (hc : 0 < c) (hK : ∀ q : Nat, (q : Int) < c → K (.int .i64 q)) : BinV .rem (.int .i64 m) (.int .i64 c) K := by
  obtain ⟨q, hq, hlt⟩ := tmod_in (show (0 : Int) ≤ m by omega) hc
  exact bin_rem (by omega) (by rw [hq]; exact hK q hlt)

theorem fill3 {x y z : Int} : Instr.fill (fun i => some (i * 1, 1)) (rowOf #[.int .i64 0] (3 * 1)) [(0, .int .i64 x), (1, .int .i64 y), (2, .int .i64 z)] = some #[.int .i64 x, .int .i64 y, .int .i64 z] := by
  simp [Instr.fill, rowOf, Value.cells]
  refine Array.ext (by simp) fun i hi _ => ?_
  simp at hi
  match i, hi with
  | 0, _ => simp
  | 1, _ => simp
  | 2, _ => simp

theorem Own.set {w w' : World} {lo : Nat} {e : Nat} {xs : List Int} {b c i : Nat} {cur : Array Value} {x : Int} (ho : Own w lo e 1 (.slice (some ⟨b, 0, none⟩) xs.length c) xs.length (ints xs)) (hcur : w.heap[b]? = some (.cells cur e (0, 0)))
    (hp : Put w b (.cells (cur.setIfInBounds i (.int .i64 x)) e (0, 0)) w') : Own w' lo e 1 (.slice (some ⟨b, 0, none⟩) xs.length c) xs.length (ints (xs.set i x)) := by
  refine ⟨by simp [ints], ?_⟩
  rcases ho.2 with ⟨h, _⟩ | ⟨g, cap, cur', hv, hb, hg, hnc, hcm, hcs, htake⟩
  · simp at h
  · simp only [Value.slice.injEq, Option.some.injEq, Addr.mk.injEq] at hv
    obtain ⟨⟨rfl, _⟩, _, rfl⟩ := hv
    rw [hcur] at hg
    cases hg
    refine .inr ⟨b, c, _, rfl, hb, hp.here, hnc, hcm, by simpa using hcs, ?_⟩
    rw [Array.toList_setIfInBounds, List.take_set, htake]
    simp [ints, List.map_set]

theorem Same.refl (w : World) : Same w w := ⟨rfl, rfl, rfl, rfl⟩

theorem fill2 {x y : Int} : Instr.fill (fun i => some (i * 1, 1)) (rowOf #[.int .i64 0] (2 * 1)) [(0, .int .i64 x), (1, .int .i64 y)] = some #[.int .i64 x, .int .i64 y] := by
  simp [Instr.fill, rowOf, Value.cells]
  refine Array.ext (by simp) fun i hi _ => ?_
  simp at hi
  match i, hi with
  | 0, _ => simp
  | 1, _ => simp
theorem fill1 {x : Int} : Instr.fill (fun i => some (i * 1, 1)) (rowOf #[.int .i64 0] (1 * 1)) [(0, .int .i64 x)] = some #[.int .i64 x] := fill_int rfl

/-- One of two, or three, numbers is taken. -/
theorem two_of {w : World} {b m : Nat} {x y : Int} {e : Nat} {K : Value → Prop} (hb : w.heap[b]? = some (.cells #[.int .i64 x, .int .i64 y] e (0, 0))) (hm : (m : Int) < 2 ∨ m = 0) (hK : ∀ z, z = x ∨ z = y → K (.int .i64 z)) :
    IdxV 1 (.slice (some ⟨b, 0, none⟩) 2 2) (.int .i64 m) fun t => LoadV false 1 t w K := by
  refine ⟨by omega, by omega, ?_⟩
  simp only [addr_add, Int.toNat_natCast, Nat.mul_one, Nat.zero_add]
  have hm2 : m = 0 ∨ m = 1 := by omega
  rcases hm2 with rfl | rfl
  · exact load2 hb rfl (hK _ (.inl rfl))
  · exact load2 hb rfl (hK _ (.inr rfl))
theorem three_of {w : World} {b m : Nat} {x y z : Int} {e : Nat} {K : Value → Prop} (hb : w.heap[b]? = some (.cells #[.int .i64 x, .int .i64 y, .int .i64 z] e (0, 0))) (hm : (m : Int) < 3 ∨ m = 0) (hK : ∀ u, u = x ∨ u = y ∨ u = z → K (.int .i64 u)) :
    IdxV 1 (.slice (some ⟨b, 0, none⟩) 3 3) (.int .i64 m) fun t => LoadV false 1 t w K := by
  refine ⟨by omega, by omega, ?_⟩
  simp only [addr_add, Int.toNat_natCast, Nat.mul_one, Nat.zero_add]
  have hm3 : m = 0 ∨ m = 1 ∨ m = 2 := by omega
  rcases hm3 with rfl | rfl | rfl
  · exact load2 hb rfl (hK _ (.inl rfl))
  · exact load2 hb rfl (hK _ (.inr (.inl rfl)))
  · exact load2 hb rfl (hK _ (.inr (.inr rfl)))

/-- A cell of an owned list is stored. -/
theorem Own.store {w : World} {lo : Nat} {v : Value} {xs : List Int} (ho : Own w lo T.int 1 v xs.length (ints xs)) {m : Nat} (hm : m < xs.length) {x : Int} {K : World → Prop} (hK : ∀ w', Chg (blkIs v) w w' → w'.heap.size = w.heap.size → Own w' lo T.int 1 v xs.length (ints (xs.set m x)) → K w') :
    IdxV 1 v (.int .i64 m) fun t => StoreV 1 t (.int .i64 x) w K := by
  have ho' := ho
  rcases ho.2 with ⟨rfl, h0⟩ | ⟨g, cap, cur, rfl, hb, hg, hnc, hcm, hcs, htake⟩
  · omega
  · refine ⟨by omega, by omega, ?_⟩
    simp only [addr_add, Int.toNat_natCast, Nat.mul_one, Nat.zero_add]
    refine store_at hg rfl rfl (by omega) fun w'' hp => hK w'' (hp.chg.mono fun k _ e => by have e : k = g := e; subst e; rfl) hp.size (Own.set ho' hg hp)
/-- A cell of an owned list is read. -/
theorem Own.get {w : World} {lo : Nat} {v : Value} {xs : List Int} (ho : Own w lo T.int 1 v xs.length (ints xs)) {m : Nat} (hm : m < xs.length) {K : Value → Prop} (hK : K (.int .i64 xs[m])) : IdxV 1 v (.int .i64 m) fun t => LoadV false 1 t w K := by
  obtain ⟨a, c, rfl, _, _, hc⟩ := Own.cells ho
  exact idxLoad hc rfl hm hK
end Go.Proofs.Ytpfabjjeacdikaa
