/- Drawn plans with lists of nodes. -/
import Derived.Test.YtblgkpfnjlobjaaDrawPlan
import Derived.Test.YtblgkpfnjlobjaaCN
namespace Go.Proofs.Ytblgkpfnjlobjaa
open Go Go.V

/-- A list has been drawn beside a plan. -/
structure DrawnList (w : World) (v u : Value) (w' : World) (p : List Nd) (xs : List Int) (lo : Nat) : Prop where
  d : Drawn w v w' p lo
  o : Ints w' u xs
  len : xs.length ≤ 5

/-- A list has been drawn beside a plan; the reader can go on. -/
structure DrawnR (w : World) (v u : Value) (w' : World) (p : List Nd) (xs : List Int) (lo q : Nat) : Prop where
  d : Drawn w v w' p lo
  lt : w.heap.size < lo
  o : FInts w' (lo ≤ ·) u xs
  len : xs.length ≤ 5
  r : Rdr w' w.heap.size q
  q : q ≤ 2000

theorem drawListR {w : World} {v : Value} {bs : List Int} (hx : RowIn .u8 w v bs) {K : Value → Value → World → Prop} (hK : ∀ t u w' p xs lo q, DrawnR w t u w' p xs lo q → K (.pointer (some ⟨w.heap.size, 0, none⟩)) (.tuple #[t, u]) w') :
    CallV Try.prog N.spec_l6Open [v] w fun t w1 => CallV Try.prog N.spec_l92List [t] w1 fun u w2 => K t u w2 := by
  refine callV_of (l6Open_ok hx) rfl ?_
  rintro _ w1 ⟨rfl, E1, r1⟩
  have hlt := r1.lt
  refine callV_of (ret_k (Q := fun r w' => K _ r w') fun R hR => c_spec_l92List _ _ _ ?_) rfl fun _ _ h => h
  refine callV_of (l91Plan_ok r1 (by omega)) rfl ?_
  rintro t w2 ⟨⟨C2, q2, hq2, r2⟩, p, d2, hl, hs⟩
  have z2 := C2.size
  have hlen : ∀ K, LenV t K = K (.int .i64 p.length) := fun K => d2.plan.len
  refine ⟨_, rfl, fun w3 hn3 => ?_⟩
  have z3 := hn3.size
  have ho3 : Own w3 w2.heap.size T.int 1 (.slice (some ⟨w2.heap.size, 0, none⟩) 0 0) 0 (ints []) := Own.empty hn3 (Nat.le_refl _)
  refine pick_use (r2.ext hn3.ext) (by omega) (by omega) fun m w4 hm C4 s4 r4 => ?_
  have fin : ∀ {w' : World} {u : Value} {xs : List Int} {q : Nat}, Chg (· = w.heap.size) w2 w' → Own w' w2.heap.size T.int 1 u xs.length (ints xs) → xs.length ≤ 5 → Rdr w' w.heap.size q → q ≤ 2000 → R (.tuple #[t, u]) w' := fun {w' u xs q} hC ho hxl hr hq => by
    refine hR _ _ (hK t u w' p xs w1.heap.size q ⟨⟨?_, d2.keepR hC hlt, E1.size, hl, hs⟩, hlt, (Own.fints ho).mono fun _ _ hb => by omega, hxl, hr, hq⟩)
    exact Chg.ext (E1.then (C2.andThen hC)) fun k hk e => by omega
  simp only [hlen]
  refine loopV (fun s w' => ∃ (k : Nat) (xs : List Int) (u : Value), s = [u, .int .i64 k] ∧ k ≤ m ∧ xs.length ≤ k ∧ Chg (· = w.heap.size) w2 w' ∧ Own w' w2.heap.size T.int 1 u xs.length (ints xs) ∧ ∃ q, q ≤ 1010 + k ∧ Rdr w' w.heap.size q) (upTo m 1)
    ⟨0, [], _, rfl, by omega, by simp, hn3.ext.then C4, Own.keepR ho3 C4 (by omega), _, by omega, r4⟩ ?_
  rintro s z w5 K' ⟨k, xs, u, rfl, hk, hxl, C5, ho5, q5, hq5, r5⟩ hK'
  have z5 := C5.size
  have last : CallV Try.prog N.spec_l6Rd_pick [.pointer (some ⟨w.heap.size, 0, none⟩), .int .i64 16] w5 fun t31 w_8 => BinV .eql t31 (.int .i64 0) fun t32 => SplitV t32
      (BSliceV T.int 1 2 #[.int .i64 0] [(0, .int .i64 (-1)), (1, .int .i64 p.length)] w_8 fun t36 w_9 => CallV Try.prog N.spec_l6Rd_pick [.pointer (some ⟨w.heap.size, 0, none⟩), .int .i64 2] w_9 fun t38 w_10 =>
        IdxV 1 t36 t38 fun t39 => LoadV false 1 t39 w_10 fun t40 => BSliceV T.int 1 1 #[.int .i64 0] [(0, t40)] w_10 fun t41 w_11 => AppendV Try.prog T.sl_int u t41 w_11 fun t42 w_12 => R (.tuple #[t, t42]) w_12)
      (R (.tuple #[t, u]) w_8) := by
    refine pick_use r5 (by omega) (by omega) fun m6 w6 hm6 C6 s6 r6 => ?_
    have C6' := C5.andThen C6
    have ho6 := Own.keepR ho5 C6 (by omega)
    simp only [go_sem]
    refine ⟨fun _ => ?_, fun _ => fin C6' ho6 (by omega) r6 (by omega)⟩
    refine ⟨_, fill2, fun w7 hn7 => ?_⟩
    refine pick_use (r6.ext hn7.ext) (by omega) (by omega) fun m8 w8 hm8 C8 s8 r8 => ?_
    have z6 := C6'.size
    refine two_of (C8.at hn7.here (by omega)) hm8 fun x _ => ?_
    have ho8 := Own.keepR (Own.ext ho6 hn7.ext) C8 (by omega)
    have C8' := C6'.andThen (hn7.ext.then C8)
    refine app1_int sl_int el_int ho8 (by omega) C8'.size fun v' w9 ho9 C9 => ?_
    refine fin (xs := xs ++ [x]) (Chg.trans C8' C9 (fun _ _ h => h) fun k _ hb => by have := (Own.lt ho8 hb).1; omega) (by simpa using ho9) (by simp; omega) (r8.own ho8 C9 (by omega)) (by omega)
  simp only [go_sem]
  refine ⟨fun h => ⟨fun hpos => ?_, fun _ => by simpa only [go_sem] using last⟩, fun _ => by simpa only [go_sem] using last⟩
  refine pick_use r5 (by omega) (by omega) fun m6 w6 hm6 C6 s6 r6 => ?_
  have C6' := C5.andThen C6
  have ho6 := Own.keepR ho5 C6 (by omega)
  refine app1_int sl_int el_int ho6 (by omega) C6'.size fun v' w7 ho7 C7 => ?_
  refine bin_inc (by omega) (hK' _ _ ⟨k + 1, xs ++ [(m6 : Int)], v', rfl, by omega, by simp; omega, Chg.trans C6' C7 (fun _ _ h => h) fun k _ hb => by have := (Own.lt ho6 hb).1; omega, by simpa using ho7, q5 + 1, by omega, r6.own ho6 C7 (by omega)⟩ (by simp [upTo, nthV, iOf]; omega))
theorem drawList {w : World} {v : Value} {bs : List Int} (hx : RowIn .u8 w v bs) {K : Value → World → Prop} (hK : ∀ t u w' p xs lo, DrawnList w t u w' p xs lo → K (.tuple #[t, u]) w') :
    CallV Try.prog N.spec_l6Open [v] w fun t w1 => CallV Try.prog N.spec_l92List [t] w1 K :=
  drawListR (K := fun _ r w' => K r w') hx fun t u w' p xs lo _ h => hK t u w' p xs lo ⟨h.d, h.o.ints, h.len⟩
end Go.Proofs.Ytblgkpfnjlobjaa
