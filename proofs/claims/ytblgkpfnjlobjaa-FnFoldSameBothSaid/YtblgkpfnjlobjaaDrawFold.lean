/- Drawn for folding. -/
import Derived.Test.YtblgkpfnjlobjaaDrawL
import Derived.Test.YtblgkpfnjlobjaaFoldS
namespace Go.Proofs.Ytblgkpfnjlobjaa
open Go Go.V

theorem drawFoldNode {w : World} {v : Value} {bs : List Int} (hx : RowIn .u8 w v bs) {K : Value → World → Prop} (hK : ∀ t a w' p lo, Drawn w t w' p lo → K (.tuple #[t, .int .i64 a]) w') : CallV Try.prog N.spec_DrawFoldNode [v] w K := by
  refine callV_of (ret_k (Q := fun r w' => K r w') fun R hR => c_spec_DrawFoldNode _ _ _ ?_) rfl fun _ _ h => h
  refine callV_of (l6Open_ok hx) rfl ?_
  rintro _ w1 ⟨rfl, E1, r1⟩
  have hlt := r1.lt
  refine callV_of (ret_k (Q := fun r w' => ∃ t a p lo, r = .tuple #[t, .int .i64 a] ∧ Drawn w t w' p lo) fun R hR => c_spec_l91At _ _ _ ?_) rfl ?_
  · refine callV_of (l91Plan_ok r1 (by omega)) rfl ?_
    rintro t w2 ⟨⟨C2, q2, hq2, r2⟩, p, d2, hl, hs⟩
    have hlen : ∀ K, LenV t K = K (.int .i64 p.length) := fun K => d2.plan.len
    rw [hlen]
    refine bin_add ⟨by omega, by omega⟩ ?_
    refine pick_use r2 (by omega) (by omega) fun m w3 hm C3 s3 r3 => ?_
    refine pick_use r3 (by omega) (by omega) fun m4 w4 hm4 C4 s4 r4 => ?_
    refine bin_quo (by omega) (by omega) fun d hdq hdm => ?_
    refine bin_sub ⟨by omega, by omega⟩ (hR _ _ ⟨t, _, p, w1.heap.size, rfl, ?_⟩)
    have C24 := C3.andThen C4
    exact ⟨Chg.ext (E1.then (C2.andThen C24)) fun k hk e => by omega, d2.keepR C24 hlt, E1.size, hl, hs⟩
  · rintro _ w2 ⟨t, a, p, lo, rfl, hd⟩
    simp only [go_sem]
    exact hR _ _ (hK t a w2 p lo hd)
theorem drawFoldAll {w : World} {v : Value} {bs : List Int} (hx : RowIn .u8 w v bs) {K : Value → World → Prop} (hK : ∀ t u w' p xs lo, DrawnList w t u w' p xs lo → K (.tuple #[t, u]) w') : CallV Try.prog N.spec_DrawFoldAll [v] w K := by
  refine callV_of (ret_k (Q := fun r w' => K r w') fun R hR => c_spec_DrawFoldAll _ _ _ ?_) rfl fun _ _ h => h
  refine drawList hx fun t u w' p xs lo hd => ?_
  simp only [go_sem]
  exact hR _ _ (hK _ _ _ _ _ _ hd)
theorem drawFoldSame {w : World} {v : Value} {bs : List Int} (hx : RowIn .u8 w v bs) {K : Value → World → Prop} (hK : ∀ t u w' p q, PlanV w' t p → PlanV w' u q → Ext w w' → K (.tuple #[t, u]) w') : CallV Try.prog N.spec_DrawFoldSame [v] w K := by
  refine callV_of (ret_k (Q := fun r w' => K r w') fun R hR => c_spec_DrawFoldSame _ _ _ ?_) rfl fun _ _ h => h
  refine drawListR (K := fun r x w' => _) hx fun t u w1 p xs lo q hd => ?_
  simp only [go_sem]
  have hp := hd.d.pl.plan
  have hlt := hd.lt
  have hlen := hd.len
  have hq := hd.q
  have hlo := hd.r.lt
  refine callV_of (specFoldAll_ok hp hd.o.ints (by omega)) rfl ?_
  rintro _ w2 ⟨x, rfl, E2, d2⟩
  simp only [go_sem]
  have z2 := E2.size
  have r2 := hd.r.ext E2
  have hpl : ∀ {w2 : World}, Chg (· = w.heap.size) w1 w2 → PlanV w2 t p ∧ Ext w w2 := fun hC => ⟨(hd.d.pl.keepR hC hlt).plan, Chg.ext (hd.d.ext.then hC) fun k hk e => by have e : k = w.heap.size := e; omega⟩
  have last : ∀ {w3 : World} {q : Nat}, Chg (· = w.heap.size) w1 w3 → Rdr w3 w.heap.size q → q ≤ 10000 → CallV Try.prog N.spec_l91Plan [.pointer (some ⟨w.heap.size, 0, none⟩)] w3 fun t32 w_6 => R (.tuple #[t, t32]) w_6 := fun hC hr hq => by
    refine callV_of (l91Plan_ok hr (by omega)) rfl ?_
    rintro u' w4 ⟨⟨C4, q4, hq4, r4⟩, p', d4, _, _⟩
    have := hpl (hC.andThen C4)
    exact hR _ _ (hK t u' w4 p p' this.1 d4.plan this.2)
  refine ⟨fun hk => ?_, fun _ => last E2.chg r2 (by omega)⟩
  refine pick_use r2 (by omega) (by omega) fun m w3 hm C3 s3 r3 => ?_
  have C13 := E2.chg.andThen C3
  simp only [go_sem]
  refine ⟨fun _ => ?_, fun _ => last C13 r3 (by omega)⟩
  have := hpl C13
  exact hR _ _ (hK t x w3 p (foldO p xs) this.1 (d2.keepR C3 (by omega)).plan this.2)
end Go.Proofs.Ytblgkpfnjlobjaa
