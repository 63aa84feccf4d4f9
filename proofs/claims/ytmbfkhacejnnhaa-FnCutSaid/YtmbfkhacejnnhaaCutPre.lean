/- What the laws of cut plans have in common: a draw, both answers, and the questions before the law's own. -/
import Derived.Test.YtmbfkhacejnnhaaDrawL
import Derived.Test.YtmbfkhacejnnhaaCutS
import Derived.Test.YtmbfkhacejnnhaaSamePlan
namespace Go.Proofs.Ytmbfkhacejnnhaa
open Go Go.V

theorem drawPlanCut {w : World} {v : Value} {bs : List Int} (hx : RowIn .u8 w v bs) {K : Value → World → Prop} (hK : ∀ t u w' p xs lo, DrawnList w t u w' p xs lo → K (.tuple #[t, u]) w') : CallV Try.prog N.spec_DrawPlanCut [v] w K := by
  refine callV_of (ret_k (Q := fun r w' => K r w') fun R hR => c_spec_DrawPlanCut _ _ _ ?_) rfl fun _ _ h => h
  refine drawList hx fun t u w' p xs lo hd => ?_
  simp only [go_sem]
  exact hR _ _ (hK _ _ _ _ _ _ hd)

theorem cut_pre {w : World} {v : Value} {bs : List Int} (hx : RowIn .u8 w v bs) {R : Value → World → Prop} (hR : ∀ w', Ext w w' → R (.bool true) w') {rest : Value → Value → Value → Value → World → Prop}
    (hrest : ∀ t l g n w' p ls, PlanV w' t p → p.length ≤ 10 → Ints w' l ls → ls.length ≤ 5 → KeepOk p ls → PlanV w' g (subP p (Rch p ls) id) → Ints w' n (cutTo (Rch p ls) p.length) → Ext w w' → rest t l g n w') :
    LenV v fun n => BinV .gtr n (.int .i64 1048576) fun c => SplitV c (R (.bool true) w)
      (CallV Try.prog N.spec_DrawPlanCut [v] w fun x w1 => ExtractV x 0 fun t => ExtractV x 1 fun l =>
        CallV Try.prog N.impl_PlanCut [t, l] w1 fun y w2 => ExtractV y 0 fun g => ExtractV y 1 fun n => ExtractV y 2 fun a =>
        CallV Try.prog N.spec_PlanCut [t, l] w2 fun z w3 => ExtractV z 0 fun g' => ExtractV z 1 fun n' => ExtractV z 2 fun b =>
        BoolV .neq a b fun e => SplitV e
          (BoolV .eql a b fun e => SplitV e (CallV Try.prog N.laws_sameRow [n, n'] w3 fun s w4 => SplitV s (CallV Try.prog N.laws_samePlan [g, g'] w4 R) (R (.bool false) w4)) (R (.bool false) w3))
          (CallV Try.prog N.laws_sameRow [n, n'] w3 fun s w4 => NotV s fun s => SplitV s
            (BoolV .eql a b fun e => SplitV e (CallV Try.prog N.laws_sameRow [n, n'] w4 fun s w5 => SplitV s (CallV Try.prog N.laws_samePlan [g, g'] w5 R) (R (.bool false) w5)) (R (.bool false) w4))
            (CallV Try.prog N.laws_samePlan [g, g'] w4 fun s w5 => NotV s fun s => SplitV s
              (BoolV .eql a b fun e => SplitV e (CallV Try.prog N.laws_sameRow [n, n'] w5 fun s w6 => SplitV s (CallV Try.prog N.laws_samePlan [g, g'] w6 R) (R (.bool false) w6)) (R (.bool false) w5))
              (NotV a fun a' => SplitV a'
                (BoolV .eql a b fun e => SplitV e (CallV Try.prog N.laws_sameRow [n, n'] w5 fun s w6 => SplitV s (CallV Try.prog N.laws_samePlan [g, g'] w6 R) (R (.bool false) w6)) (R (.bool false) w5))
                (rest t l g n w5))))) := by
  obtain ⟨a, c, hv, hc, _⟩ := hx.out
  have e0 : LenV v = LenV (.slice a bs.length c) := by rw [hv]
  rw [e0]
  simp only [go_sem]
  refine ⟨fun _ => hR _ (Ext.refl _), fun hlen => ?_⟩
  refine drawPlanCut hx fun t l w1 p ls lo hdr => ?_
  have hp := hdr.d.pl.plan
  have hl := hdr.o
  have hll := hdr.len
  have hpl := hdr.d.len
  have hz := cutT_len p ls
  simp only [go_sem]
  refine callV_of (implPlanCut_ok hp hl (by omega)) rfl ?_
  rintro _ w2 ⟨g, n, k2, rfl, E2, f2, n2⟩
  simp only [go_sem]
  refine callV_of (specPlanCut_ok (hp.ext E2) (hl.ext E2) (by omega)) rfl ?_
  rintro _ w3 ⟨g', n', rfl, E3, f3, n3⟩
  have e3 := (hdr.d.ext.trans E2).trans E3
  have f2 := (f2.ext E3).plan
  have f3 := f3.plan
  have n2 := (n2.ext E3).ints
  have n3 := n3.ints
  simp only [go_sem]
  refine ⟨fun h => by simp at h, fun _ => ?_⟩
  refine callV_of (sameRow_ok n2 n3 (by omega)) rfl fun t4 w4 ⟨E4, h4⟩ => ?_
  subst h4
  have e4 := e3.trans E4
  simp only [go_sem]
  refine ⟨fun h => by simp at h, fun _ => ?_⟩
  refine callV_of (samePlan_ok (f2.ext E4) (f3.ext E4)) rfl fun t5 w5 ⟨E5, h5⟩ => ?_
  subst h5
  have e5 := e4.trans E5
  have E35 := E4.trans E5
  simp only [go_sem]
  refine ⟨fun h => by simp at h, fun _ => ⟨fun _ => ⟨fun _ => ?_, fun h => by simp at h⟩, fun hK => ?_⟩⟩
  · refine callV_of (sameRow_ok (n2.ext E35) (n3.ext E35) (by omega)) rfl fun t6 w6 ⟨E6, h6⟩ => ?_
    subst h6
    simp only [go_sem]
    refine ⟨fun _ => ?_, fun h => by simp at h⟩
    refine callV_of (samePlan_ok (f2.ext (E35.trans E6)) (f3.ext (E35.trans E6))) rfl fun t7 w7 ⟨E7, h7⟩ => ?_
    subst h7
    have := hR _ ((e5.trans E6).trans E7)
    simpa using this
  · have hK : KeepOk p ls := by simpa using hK
    have hcP : cutP p ls = subP p (Rch p ls) id := by unfold cutP; rw [if_pos hK]
    have hcT : cutT p ls = cutTo (Rch p ls) p.length := by unfold cutT; rw [if_pos hK]
    rw [hcP] at f2
    rw [hcT] at n2
    exact hrest t l g n w5 p ls (hp.ext (E2.trans (E3.trans E35))) hK.1.len (hl.ext (E2.trans (E3.trans E35))) hll hK (f2.ext E35) (n2.ext E35) e5
end Go.Proofs.Ytmbfkhacejnnhaa
