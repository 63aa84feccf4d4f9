/- Drawn plans with orders. -/
import Derived.Test.YtpfabjjeacdikaaDrawO
namespace Go.Proofs.Ytpfabjjeacdikaa
open Go Go.V

/-- An order has been drawn beside a plan. -/
structure DrawnOrd (w : World) (v u : Value) (w' : World) (p : List Nd) (xs : List Int) (lo lo' : Nat) : Prop where
  d : Drawn w v w' p lo
  o : Own w' lo' T.int 1 u xs.length (ints xs)
  lo' : w.heap.size ≤ lo'
  len : xs.length ≤ 11

theorem drawOrderFits_ok {w : World} {v : Value} {bs : List Int} (hx : RowIn .u8 w v bs) :
    Calls Try.prog N.spec_DrawOrderFits #[v] w (Ret fun r w' => ∃ t u p xs lo lo', r = .tuple #[t, u] ∧ DrawnOrd w t u w' p xs lo lo') := by
  refine ret_k fun R hR => c_spec_DrawOrderFits _ _ _ ?_
  refine draw_plan hx fun t w1 p q hd hq hr => ?_
  refine callV_of (l91Order_ok hr (by omega) hd.pl (by omega) hd.len) rfl ?_
  rintro u w2 ⟨⟨C2, q2, hq2, r2⟩, xs, hxl, ho2⟩
  have z1 := hd.ext.size
  have d2 := hd.move C2
  have fin : ∀ {w' : World} {ys : List Int}, Drawn w t w' p (w.heap.size + 1) → Own w' w1.heap.size T.int 1 u ys.length (ints ys) → ys.length ≤ 11 → R (.tuple #[t, u]) w' := fun h1 h2 h3 =>
    hR _ _ ⟨t, u, p, _, _, _, rfl, h1, h2, by omega, h3⟩
  rw [Own.lenN ho2]
  simp only [go_sem]
  refine ⟨fun h1 => ?_, fun _ => fin d2 ho2 hxl⟩
  refine pick_use r2 (by omega) (by omega) fun m3 w3 hm3 C3 s3 r3 => ?_
  have hrb : w.heap.size < w1.heap.size := hr.lt
  have d3 := d2.move C3
  have ho3 := Own.keepR ho2 C3 hrb
  simp only [go_sem]
  refine ⟨fun _ => ?_, fun _ => fin d3 ho3 hxl⟩
  rw [Own.lenN ho3]
  refine bin_sub ⟨by omega, by omega⟩ ?_
  refine pick_use r3 (by omega) (by omega) fun m4 w4 hm4 C4 s4 r4 => ?_
  have d4 := d3.move C4
  have ho4 := Own.keepR ho3 C4 hrb
  refine bin_add ⟨by omega, by omega⟩ ?_
  have e1 : (1 : Int) + (m4 : Int) = ((m4 + 1 : Nat) : Int) := by omega
  rw [e1]
  refine Own.get ho4 (m := m4 + 1) (by omega) ?_
  refine bin_sub ⟨by omega, by omega⟩ ?_
  have e2 : ((m4 + 1 : Nat) : Int) - 1 = (m4 : Int) := by omega
  rw [e2]
  refine Own.get ho4 (m := m4) (by omega) ?_
  refine Own.store ho4 (m := m4 + 1) (by omega) fun w5 C5 s5 ho5 => ?_
  refine bin_sub ⟨by omega, by omega⟩ ?_
  rw [e2]
  have hset : Own w5 w1.heap.size T.int 1 u (xs.set (m4 + 1) xs[m4]).length (ints (xs.set (m4 + 1) xs[m4])) := by rw [List.length_set]; exact ho5
  have dkeep : ∀ {w' w'' : World} {ys : List Int}, Drawn w t w' p (w.heap.size + 1) → Ext w1 w' ∨ True → Own w' w1.heap.size T.int 1 u ys.length (ints ys) → Chg (blkIs u) w' w'' → DPlan w1 (w.heap.size + 1) t p → Chg (· = w.heap.size) w1 w' → Drawn w t w'' p (w.heap.size + 1) := fun h1 _ h2 h3 h4 h5 => by
    have hc : Chg (· = w.heap.size) w1 _ := Chg.trans h5 h3 (fun _ _ h => h) fun k hk hb => by have := (Own.lt h2 hb).1; omega
    exact hd.move hc
  have C4' := (C2.andThen C3).andThen C4
  have d5 := dkeep d4 (.inr trivial) ho4 C5 hd.pl C4'
  have C5' : Chg (· = w.heap.size) w1 w5 := Chg.trans C4' C5 (fun _ _ h => h) fun k hk hb => by have := (Own.lt ho4 hb).1; omega
  refine Own.store hset (m := m4) (by rw [List.length_set]; omega) fun w6 C6 s6 ho6 => ?_
  refine fin (ys := (xs.set (m4 + 1) xs[m4]).set m4 xs[m4 + 1]) (dkeep d5 (.inr trivial) hset C6 hd.pl C5') (by rw [List.length_set]; exact ho6) (by simp; exact hxl)
end Go.Proofs.Ytpfabjjeacdikaa
