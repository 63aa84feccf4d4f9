/- What the laws of lost rows have in common: a draw, both answers, and the three questions before the law's own. -/
import Derived.Test.YtagejoclifgonaaDrawLost
import Derived.Test.YtagejoclifgonaaSame
import Derived.Test.YtagejoclifgonaaExact
namespace Go.Proofs.Ytagejoclifgonaa
open Go Go.V

theorem lose_pre {w : World} {v : Value} {bs : List Int} (hx : RowIn .u8 w v bs) {R : Value → World → Prop} (hR : ∀ w', Ext w w' → R (.bool true) w') {fd fi fs : FuncId} {rest : Value → Value → Value → Value → World → Prop}
    (hd : ∀ {K : Value → World → Prop}, (∀ t u g w' p ds ls lo, DrawnLost w t u g w' p ds ls lo → K (.tuple #[t, u, g]) w') → CallV Try.prog fd [v] w K)
    (ok : List Nd → List Int → Bool) (xs : List Nd → List Int → List Int → List Int) (hxs : ∀ {p ds ls}, p.length ≤ 11 → ds.length ≤ 11 → (xs p ds ls).length ≤ 11)
    (hi : ∀ {w t d l p ds ls}, PlanV w t p → Ints w d ds → Ints w l ls → ds.length ≤ 11 → ls.length ≤ 11 → Calls Try.prog fi #[t, d, l] w (Ret fun r w' => ∃ u, r = .tuple #[u, .bool (ok p ds)] ∧ Ext w w' ∧ FInts w' (Since w) u (xs p ds ls)))
    (hs : ∀ {w t d l p ds ls}, PlanV w t p → Ints w d ds → Ints w l ls → ds.length ≤ 11 → ls.length ≤ 11 → Calls Try.prog fs #[t, d, l] w (Ret fun r w' => ∃ u, r = .tuple #[u, .bool (ok p ds)] ∧ Ext w w' ∧ FInts w' (Since w) u (xs p ds ls)))
    (hrest : ∀ t d l g w' p ds ls, PlanV w' t p → p.length ≤ 11 → Ints w' d ds → Ints w' l ls → Ints w' g (xs p ds ls) → Ext w w' → ok p ds = true → ds.length ≤ 11 → ls.length ≤ 11 → rest t d l g w') :
    LenV v fun n => BinV .gtr n (.int .i64 1048576) fun c => SplitV c (R (.bool true) w)
      (CallV Try.prog fd [v] w fun x w1 => ExtractV x 0 fun t => ExtractV x 1 fun d => ExtractV x 2 fun l =>
        CallV Try.prog fi [t, d, l] w1 fun y w2 => ExtractV y 0 fun g => ExtractV y 1 fun a =>
        CallV Try.prog fs [t, d, l] w2 fun z w3 => ExtractV z 0 fun h => ExtractV z 1 fun b =>
        BoolV .neq a b fun e => SplitV e
          (BoolV .eql a b fun e => SplitV e (CallV Try.prog N.laws_sameRow [g, h] w3 R) (R (.bool false) w3))
          (CallV Try.prog N.laws_sameRow [g, h] w3 fun s w4 => NotV s fun s => SplitV s
            (BoolV .eql a b fun e => SplitV e (CallV Try.prog N.laws_sameRow [g, h] w4 R) (R (.bool false) w4))
            (NotV a fun a' => SplitV a'
              (BoolV .eql a b fun e => SplitV e (CallV Try.prog N.laws_sameRow [g, h] w4 R) (R (.bool false) w4))
              (rest t d l g w4)))) := by
  obtain ⟨a, c, hv, hc, _⟩ := hx.out
  have e0 : LenV v = LenV (.slice a bs.length c) := by rw [hv]
  rw [e0]
  simp only [go_sem]
  refine ⟨fun _ => hR _ (Ext.refl _), fun hlen => ?_⟩
  refine hd fun t d l w1 p ds ls lo hdr => ?_
  have hp := hdr.d.pl.plan
  have hxl := hxs (ls := ls) hdr.d.len hdr.len
  have hd1 := hdr.len
  have hd2 := hdr.lenl
  have hpl := hdr.d.len
  simp only [go_sem]
  refine callV_of (hi hp hdr.o hdr.l hdr.len hdr.lenl) rfl ?_
  rintro _ w2 ⟨g, rfl, E2, f2⟩
  simp only [go_sem]
  refine callV_of (hs (hp.ext E2) (hdr.o.ext E2) (hdr.l.ext E2) hdr.len hdr.lenl) rfl ?_
  rintro _ w3 ⟨s, rfl, E3, f3⟩
  have e3 := (hdr.d.ext.trans E2).trans E3
  simp only [go_sem]
  refine ⟨fun h => by simp at h, fun _ => ?_⟩
  refine callV_of (sameRow_ok (f2.ext E3).ints f3.ints (by omega)) rfl fun t4 w4 ⟨E4, h4⟩ => ?_
  subst h4
  have e4 := e3.trans E4
  simp only [go_sem]
  refine ⟨fun h => by simp at h, fun _ => ⟨fun _ => ⟨fun _ => ?_, fun h => by simp at h⟩, fun hK => ?_⟩⟩
  · refine callV_of (sameRow_ok ((f2.ext E3).ext E4).ints (f3.ext E4).ints (by omega)) rfl fun t5 w5 ⟨E5, h5⟩ => ?_
    subst h5
    have := hR _ (e4.trans E5)
    simpa using this
  · exact hrest t d l g w4 p ds ls (((hp.ext E2).ext E3).ext E4) hpl (((hdr.o.ext E2).ext E3).ext E4) (((hdr.l.ext E2).ext E3).ext E4) ((f2.ext E3).ext E4).ints e4 (by simpa using hK) hd1 hd2
end Go.Proofs.Ytagejoclifgonaa
