/- What the laws of the first ones have in common. -/
import Derived.Test.YtmbfkhacejnnhaaDrawTwice
import Derived.Test.YtmbfkhacejnnhaaFirstS
namespace Go.Proofs.Ytmbfkhacejnnhaa
open Go Go.V

theorem drawShareFirst {w : World} {v : Value} {bs : List Int} (hx : RowIn .u8 w v bs) {K : Value → World → Prop} (hK : ∀ t w' p lo, Drawn w t w' p lo → K t w') : CallV Try.prog N.spec_DrawShareFirst [v] w K := by
  refine callV_of (ret_k (Q := fun r w' => K r w') fun R hR => c_spec_DrawShareFirst _ _ _ ?_) rfl fun _ _ h => h
  exact drawTwice hx fun t w' p lo hd => hR _ _ (hK _ _ _ _ hd)

theorem first_pre {w : World} {v : Value} {bs : List Int} (hx : RowIn .u8 w v bs) {R : Value → World → Prop} (hR : ∀ w', Ext w w' → R (.bool true) w') {rest : Value → Value → World → Prop}
    (hrest : ∀ t g w' p, PlanV w' t p → PlanOk p → 0 < p.length → Ints w' g (firstO p) → Ext w w' → rest t g w') :
    LenV v fun n => BinV .gtr n (.int .i64 1048576) fun c => SplitV c (R (.bool true) w)
      (CallV Try.prog N.spec_DrawShareFirst [v] w fun t w1 => CallV Try.prog N.impl_ShareFirst [t] w1 fun g w2 => CallV Try.prog N.spec_ShareFirst [t] w2 fun g' w3 =>
        CallV Try.prog N.laws_sameRow [g, g'] w3 fun s w4 => NotV s fun s => SplitV s
          (CallV Try.prog N.laws_sameRow [g, g'] w4 R)
          (LenV g' fun n => BinV .eql n (.int .i64 0) fun e => SplitV e (CallV Try.prog N.laws_sameRow [g, g'] w4 R) (rest t g w4))) := by
  obtain ⟨a, c, hv, hc, _⟩ := hx.out
  have e0 : LenV v = LenV (.slice a bs.length c) := by rw [hv]
  rw [e0]
  simp only [go_sem]
  refine ⟨fun _ => hR _ (Ext.refl _), fun hlen => ?_⟩
  refine drawShareFirst hx fun t w1 p lo hdr => ?_
  have hp := hdr.pl.plan
  have hpl := hdr.len
  have hz := firstO_len p
  refine callV_of (implShareFirst_ok hp) rfl fun g w2 ⟨E2, f2⟩ => ?_
  refine callV_of (specShareFirst_ok (hp.ext E2)) rfl fun g' w3 ⟨E3, f3⟩ => ?_
  have e3 := (hdr.ext.trans E2).trans E3
  refine callV_of (sameRow_ok (f2.ext E3).ints f3.ints (by omega)) rfl fun t4 w4 ⟨E4, h4⟩ => ?_
  subst h4
  have e4 := e3.trans E4
  have hgl : ∀ K, LenV g' K = K (.int .i64 (firstO p).length) := fun K => ints_len f3.ints
  simp only [hgl, go_sem]
  refine ⟨fun h => by simp at h, fun _ => ⟨fun _ => ?_, fun hne => ?_⟩⟩
  · refine callV_of (sameRow_ok ((f2.ext E3).ext E4).ints (f3.ext E4).ints (by omega)) rfl fun t5 w5 ⟨E5, h5⟩ => ?_
    subst h5
    have := hR _ (e4.trans E5)
    simpa using this
  · have hok : PlanOk p := Classical.byContradiction fun h => hne (by rw [firstO_no h]; rfl)
    exact hrest t g w4 p (hp.ext (E2.trans (E3.trans E4))) hok (by have := (firstO_is hok).len; omega) ((f2.ext E3).ext E4).ints e4
end Go.Proofs.Ytmbfkhacejnnhaa
