/- Drawn plans with orders that were run and lists of rows that were lost. -/
import Derived.Test.YtagejoclifgonaaDrawO
import Derived.Test.YtagejoclifgonaaCL
namespace Go.Proofs.Ytagejoclifgonaa
open Go Go.V

/-- An order and a list have been drawn beside a plan. -/
structure DrawnLost (w : World) (v u g : Value) (w' : World) (p : List Nd) (ds ls : List Int) (lo : Nat) : Prop where
  d : Drawn w v w' p lo
  o : Ints w' u ds
  l : Ints w' g ls
  len : ds.length ≤ 11
  lenl : ls.length ≤ 11

theorem drawLost {w : World} {v : Value} {bs : List Int} (hx : RowIn .u8 w v bs) {K : Value → World → Prop} (hK : ∀ t u g w' p ds ls lo, DrawnLost w t u g w' p ds ls lo → K (.tuple #[t, u, g]) w') :
    CallV Try.prog N.spec_l6Open [v] w fun t w1 => CallV Try.prog N.spec_l92Lost [t] w1 K := by
  refine callV_of (l6Open_ok hx) rfl ?_
  rintro _ w1 ⟨rfl, E1, r1⟩
  have hlt := r1.lt
  refine callV_of (ret_k (Q := fun r w' => K r w') fun R hR => c_spec_l92Lost _ _ _ ?_) rfl fun _ _ h => h
  refine callV_of (l91Plan_ok r1 (by omega)) rfl ?_
  rintro t w2 ⟨⟨C2, q2, hq2, r2⟩, p, d2, hl, hs⟩
  have z2 := C2.size
  have hlen : ∀ K, LenV t K = K (.int .i64 p.length) := fun K => d2.plan.len
  refine callV_of (l91Order_ok r2 (by omega) d2 (by omega) hl) rfl ?_
  rintro u w3 ⟨⟨C3, q3, hq3, r3⟩, ds, hdl, ho⟩
  have z3 := C3.size
  have hulen : ∀ K, LenV u K = K (.int .i64 ds.length) := fun K => Own.lenN ho K
  simp only [hlen, hulen, go_sem]
  refine ⟨_, rfl, fun w4 hn4 => ?_⟩
  have ho4 : Own w4 w3.heap.size T.int 1 (.slice (some ⟨w3.heap.size, 0, none⟩) 0 0) 0 (ints []) := Own.empty hn4 (Nat.le_refl _)
  have fin : ∀ {w' : World} {S : Nat → Prop} {g : Value} {ds' ls : List Int}, Chg S w2 w' → (∀ k, S k → k = w.heap.size ∨ w2.heap.size ≤ k) → Ints w' u ds' → ds'.length = ds.length → Own w' w3.heap.size T.int 1 g ls.length (ints ls) → ls.length ≤ 11 → R (.tuple #[t, u, g]) w' := fun {w' S g ds' ls} hC hS hd hdl' hg hgl => by
    refine hR _ _ (hK t u g w' p ds' ls w1.heap.size ⟨⟨?_, ?_, E1.size, hl, hs⟩, hd, Own.ints hg, by omega, hgl⟩)
    · exact Chg.ext (E1.then (Chg.trans C2 hC (S'' := fun k => k = w.heap.size ∨ w2.heap.size ≤ k) (fun _ _ h => .inl h) fun k _ h => hS k h)) fun k hk e => by rcases e with e | e <;> omega
    · have hC' : Chg (· = w.heap.size) w2 w' := hC.mono fun k hk h => by rcases hS k h with e | e <;> omega
      exact d2.keepR hC' hlt
  refine loopV (fun s w' => ∃ (k : Nat) (xs : List Int) (g : Value), s = [g, .int .i64 k] ∧ k ≤ p.length ∧ xs.length ≤ k ∧ Chg (· = w.heap.size) w3 w' ∧ Own w' w3.heap.size T.int 1 g xs.length (ints xs) ∧ ∃ q, q ≤ 1020 + k ∧ Rdr w' w.heap.size q) (upTo p.length 1)
    ⟨0, [], _, rfl, by omega, by simp, hn4.ext.chg, ho4, _, by omega, r3.ext hn4.ext⟩ ?_
  rintro s z w5 K' ⟨k, xs, g, rfl, hk, hxl, C5, ho5, q5, hq5, r5⟩ hK'
  have z5 := C5.size
  simp only [go_sem]
  refine ⟨fun h => ?_, fun h => ?_⟩
  · refine pick_use r5 (by omega) (by omega) fun m6 w6 hm6 C6 s6 r6 => ?_
    have C6' := C5.andThen C6
    have ho6 := Own.keepR ho5 C6 (by omega)
    simp only [go_sem]
    refine ⟨fun _ => ?_, fun _ => ?_⟩
    · refine app1_int sl_int el_int ho6 (by omega) C6'.size fun v' w7 ho7 C7 => ?_
      exact bin_inc (by omega) (hK' _ _ ⟨k + 1, xs ++ [(k : Int)], v', rfl, by omega, by simp; omega, Chg.trans C6' C7 (fun _ _ h => h) fun j _ hb => by have := (Own.lt ho6 hb).1; omega, by simpa using ho7, q5 + 1, by omega, r6.own ho6 C7 (by omega)⟩ (by simp [upTo, nthV, iOf]; omega))
    · exact bin_inc (by omega) (hK' _ _ ⟨k + 1, xs, g, rfl, by omega, by omega, C6', ho6, q5 + 1, by omega, r6⟩ (by simp [upTo, nthV, iOf]; omega))
  · have plain : ∀ {w'}, Chg (· = w.heap.size) w3 w' → Own w' w3.heap.size T.int 1 g xs.length (ints xs) → R (.tuple #[t, u, g]) w' := fun {w'} hC hg =>
      fin (S := fun k => k = w.heap.size) (C3.andThen hC) (fun _ h => .inl h) (Own.ints (Own.keepR ho hC (by omega))) rfl hg (by omega)
    refine ⟨fun h1 => ?_, fun _ => plain C5 ho5⟩
    refine pick_use r5 (by omega) (by omega) fun m6 w6 hm6 C6 s6 r6 => ?_
    have C6' := C5.andThen C6
    have ho6 := Own.keepR ho5 C6 (by omega)
    simp only [go_sem]
    refine ⟨fun _ => ?_, fun _ => plain C6' ho6⟩
    have hou := Own.keepR ho C6' (by omega)
    refine Own.get hou (m := 0) (by omega) ?_
    refine Own.store hou (m := 1) (by omega) fun w7 C7 s7 ho7 => ?_
    have hul : ∀ k, blkIs u k → w2.heap.size ≤ k ∧ k < w3.heap.size := fun k hk => Own.lt ho hk
    refine fin (S := fun k => k = w.heap.size ∨ w2.heap.size ≤ k) (Chg.trans (C3.andThen C6') C7 (fun _ _ h => .inl h) fun k _ hk => .inr (hul k hk).1) (fun _ h => h) (ds' := ds.set 1 ds[0]) ?_ (by simp) (Own.keep ho6 C7 fun k hk hb => ?_) (by omega)
    · have ho7' : Own w7 w2.heap.size T.int 1 u ds.length (ints (ds.set 1 ds[0])) := ho7
      exact Own.ints ho7'
    · have := (hul k hb).2; have := (Own.lt ho6 hk).1; omega
end Go.Proofs.Ytagejoclifgonaa
