/- Drawn orders. -/
import Derived.Test.YtagejoclifgonaaDrawB
import Derived.Test.YtagejoclifgonaaCT
import Derived.Test.YtagejoclifgonaaReady0
namespace Go.Proofs.Ytagejoclifgonaa
open Go Go.V

theorem l91Order_ok {w : World} {rb p lo : Nat} {v : Value} {pl : List Nd} (hr : Rdr w rb p) (hp : p ≤ 500000) (hd : DPlan w lo v pl) (hlo : rb < lo) (hl : pl.length ≤ 11) :
    Calls Try.prog N.spec_l91Order #[.pointer (some ⟨rb, 0, none⟩), v] w (Ret fun r w' => Moves w rb p 20 w' ∧ ∃ xs, xs.length ≤ 11 ∧ Own w' w.heap.size T.int 1 r xs.length (ints xs)) := by
  refine ret_k fun R hR => c_spec_l91Order _ _ _ _ ?_
  have hlt := hr.lt
  have hlen : ∀ K, LenV v K = K (.int .i64 pl.length) := fun K => hd.plan.len
  refine ⟨_, rfl, fun w1 hn1 => ?_⟩
  have ho1 : Own w1 w.heap.size T.int 1 (.slice (some ⟨w.heap.size, 0, none⟩) 0 0) 0 (ints []) := Own.empty hn1 (Nat.le_refl _)
  simp only [hlen]
  refine bin_add ⟨by omega, by omega⟩ ?_
  refine pick_use (hr.ext hn1.ext) (by omega) (by omega) fun m2 w2 hm2 C2 s2 r2 => ?_
  refine pick_use r2 (by omega) (by omega) fun m3 w3 hm3 C3 s3 r3 => ?_
  have C3' := (hn1.ext.then C2).andThen C3
  have ho3 := Own.keepR (Own.keepR ho1 C2 hlt) C3 hlt
  -- one round, in any world
  have round : ∀ (n k : Nat) (xs : List Int) (u : Value) (w4 : World) (K : List Value → World → Prop), n ≤ 11 → k < n → xs.length ≤ k → Chg (· = rb) w w4 → Own w4 w.heap.size T.int 1 u xs.length (ints xs) → Rdr w4 rb (p + 2 + k) ∨ (∃ q, q ≤ p + 2 + k ∧ Rdr w4 rb q) →
      (∀ u' xs' w', xs'.length ≤ k + 1 → Chg (· = rb) w w' → Own w' w.heap.size T.int 1 u' xs'.length (ints xs') → (∃ q, q ≤ p + 2 + (k + 1) ∧ Rdr w' rb q) → K [u', .int .i64 (k + 1 : Nat)] w') →
      CallV Try.prog N.spec_ReadyOf [v, u] w4 fun t27 w5 => LenV t27 fun t29 => BinV .gtr t29 (.int .i64 0) fun t30 => SplitV t30
        (LenV t27 fun t35 => CallV Try.prog N.spec_l6Rd_pick [.pointer (some ⟨rb, 0, none⟩), t35] w5 fun t36 w6 => IdxV 1 t27 t36 fun t37 => LoadV false 1 t37 w6 fun t38 =>
          BSliceV T.int 1 1 #[.int .i64 0] [(0, t38)] w6 fun t39 w7 => AppendV Try.prog T.sl_int u t39 w7 fun t40 w8 => BinV .add (.int .i64 k) (.int .i64 1) fun t24 => K [t40, t24] w8)
        (BinV .add (.int .i64 k) (.int .i64 1) fun t24 => K [u, t24] w5) := by
    intro n k xs u w4 K hn hk hxl C4 ho4 hr4 hK
    obtain ⟨q4, hq4, r4⟩ : ∃ q, q ≤ p + 2 + k ∧ Rdr w4 rb q := hr4.elim (fun h => ⟨_, Nat.le_refl _, h⟩) id
    have d4 := hd.keepR C4 hlo
    refine callV_of (specReadyOf_ok d4.plan (Own.ints ho4) (by omega)) rfl fun t27 w5 ⟨E5, f5⟩ => ?_
    have hrl : (if PlanOk pl then readyL pl xs else []).length ≤ pl.length := by
      split
      · exact sel_len
      · simp
    obtain ⟨ra, rc, rfl, hrc, hrcell⟩ := f5.ints.out
    have C5 := C4.then E5
    have ho5 := Own.ext ho4 E5
    simp only [go_sem]
    refine ⟨fun hpos => ?_, fun _ => bin_inc (by omega) (hK u xs w5 (by omega) C5 ho5 ⟨q4, by omega, r4.ext E5⟩)⟩
    refine pick_use (r4.ext E5) (by omega) (by omega) fun m6 w6 hm6 C6 s6 r6 => ?_
    have hlt6 : m6 < (if PlanOk pl then readyL pl xs else []).length := by omega
    have hrcell6 : Cells w6 ra (ints (if PlanOk pl then readyL pl xs else [])) := by
      have f6 := f5.keep C6 fun j hj e => by unfold Since at hj; have := C4.size; have := E5.size; have e : j = rb := e; have := r4.lt; omega
      obtain ⟨a', c', hv', _, h'⟩ := f6.ints.out
      cases hv'; exact h'
    refine idxLoad hrcell6 rfl hlt6 ?_
    have C6' := C5.andThen C6
    have ho6 := Own.keepR ho5 C6 hlt
    refine app1_int sl_int el_int ho6 (by omega) C6'.size fun v' w7 ho7 C7 => ?_
    refine bin_inc (by omega) (hK v' (xs ++ [(if PlanOk pl then readyL pl xs else [])[m6]]) w7 (by simp; omega) (chg_own' C6' ho6 C7 (Nat.le_refl _)) (by simpa using ho7) ⟨q4 + 1, by omega, r6.own ho6 C7 hlt⟩)
  have done : ∀ {u : Value} {xs : List Int} {w' : World} {k : Nat}, k ≤ 11 → xs.length ≤ k → Chg (· = rb) w w' → Own w' w.heap.size T.int 1 u xs.length (ints xs) → (∃ q, q ≤ p + 2 + k ∧ Rdr w' rb q) → R u w' := fun hk hl hC ho ⟨q, hq, hr⟩ =>
    hR _ _ ⟨⟨hC, q, by omega, hr⟩, _, by omega, ho⟩
  simp only [go_sem]
  refine ⟨fun _ => ?_, fun _ => ?_⟩
  · refine loopV (fun s w' => ∃ (k : Nat) (xs : List Int) (u : Value), s = [u, .int .i64 k] ∧ k ≤ pl.length ∧ xs.length ≤ k ∧ Chg (· = rb) w w' ∧ Own w' w.heap.size T.int 1 u xs.length (ints xs) ∧ ∃ q, q ≤ p + 2 + k ∧ Rdr w' rb q) (upTo pl.length 1)
      ⟨0, [], _, rfl, by omega, by simp, C3', ho3, _, by omega, r3⟩ ?_
    rintro s z w4 K ⟨k, xs, u, rfl, hk, hxl, C4, ho4, hr4⟩ hK
    simp only [go_sem]
    refine ⟨fun h => ?_, fun h => done (by omega) hxl C4 ho4 hr4⟩
    have := round pl.length k xs u w4 K hl (by omega) hxl C4 ho4 (.inr hr4) fun u' xs' w' h1 h2 h3 h4 => hK _ _ ⟨k + 1, xs', u', rfl, by omega, h1, h2, h3, h4⟩ (by simp [upTo, nthV, iOf]; omega)
    simpa only [go_sem] using this
  · have hm2' : m2 ≤ 11 := by omega
    refine loopV (fun s w' => ∃ (k : Nat) (xs : List Int) (u : Value), s = [u, .int .i64 k] ∧ k ≤ m2 ∧ xs.length ≤ k ∧ Chg (· = rb) w w' ∧ Own w' w.heap.size T.int 1 u xs.length (ints xs) ∧ ∃ q, q ≤ p + 2 + k ∧ Rdr w' rb q) (upTo m2 1)
      ⟨0, [], _, rfl, by omega, by simp, C3', ho3, _, by omega, r3⟩ ?_
    rintro s z w4 K ⟨k, xs, u, rfl, hk, hxl, C4, ho4, hr4⟩ hK
    simp only [go_sem]
    refine ⟨fun h => ?_, fun h => done (by omega) hxl C4 ho4 hr4⟩
    have := round m2 k xs u w4 K hm2' (by omega) hxl C4 ho4 (.inr hr4) fun u' xs' w' h1 h2 h3 h4 => hK _ _ ⟨k + 1, xs', u', rfl, by omega, h1, h2, h3, h4⟩ (by simp [upTo, nthV, iOf]; omega)
    simpa only [go_sem] using this

end Go.Proofs.Ytagejoclifgonaa
