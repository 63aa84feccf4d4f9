/-
The program's FoldSame returns what the reference's returns, for all arguments: the law FnExactFoldSame returns true, and writes nothing that was there.
No condition.
-/
import Derived.Test.YtblgkpfnjlobjaaExact
import Derived.Test.YtblgkpfnjlobjaaFoldS
import Derived.Test.YtblgkpfnjlobjaaCFnExactFoldSame
namespace Go.Proofs.Ytblgkpfnjlobjaa
open Go Go.V

set_option maxHeartbeats 1600000 in
theorem exactFoldSame_ok {w : World} {vp1 : Value} {p1 : List Nd} {vp2 : Value} {p2 : List Nd} (hp1 : PlanRaw w vp1 p1) (hp2 : PlanRaw w vp2 p2) : Calls Try.prog N.laws_FnExactFoldSame #[vp1, vp2] w (Ret fun r w' => Ext w w' ∧ r = .bool true) := by
  refine ret_k fun R hR => c_laws_FnExactFoldSame _ _ _ _ ?_
  have e0 : Ext w w := Ext.refl _
  refine callV_of (szNodeS_ok (hp1.ext e0) (by omega) (by omega)) rfl ?_
  rintro _ w1 ⟨E1, mp1, rfl, mp10, mp11, qp1⟩
  have e0 := e0.trans E1
  have z1 := E1.size
  simp only [go_sem]
  refine ⟨fun _ => hR _ _ ⟨e0, rfl⟩, fun sp1 => ?_⟩
  obtain ⟨qp1, qp1'⟩ := qp1 (by omega)
  have ofp1 := offP_le (p := p1) (j := p1.length) fun i hi => by rw [nd_get hi]; exact qp1' _ (List.getElem_mem hi)
  have qp1 := hp1.plan qp1 qp1'
  refine callV_of (szNodeS_ok (hp2.ext e0) (by omega) (by omega)) rfl ?_
  rintro _ w2 ⟨E2, mp2, rfl, mp20, mp21, qp2⟩
  have e0 := e0.trans E2
  have z2 := E2.size
  simp only [go_sem]
  refine ⟨fun _ => hR _ _ ⟨e0, rfl⟩, fun sp2 => ?_⟩
  obtain ⟨qp2, qp2'⟩ := qp2 (by omega)
  have ofp2 := offP_le (p := p2) (j := p2.length) fun i hi => by rw [nd_get hi]; exact qp2' _ (List.getElem_mem hi)
  have qp2 := hp2.plan qp2 qp2'
  have z0 := e0.size
  refine callV_of (toNodeS_ok (qp1.ext e0)) rfl fun xsp1 w3 ⟨E3, sp1⟩ => ?_
  have e0 := e0.trans E3
  have z3 := E3.size
  have sp1 := sp1.mono (B' := Between w2 w3) fun _ hb h => ⟨h, hb⟩
  refine callV_of (toNodeS_ok (qp2.ext e0)) rfl fun xsp2 w4 ⟨E4, sp2⟩ => ?_
  have e0 := e0.trans E4
  have sp1 := sp1.ext E4
  have z4 := E4.size
  have sp2 := sp2.mono (B' := Between w3 w4) fun _ hb h => ⟨h, hb⟩
  refine callV_of (specFoldSame_ok sp1.plan sp2.plan ) rfl ?_
  rintro _ w5 ⟨E5, rfl⟩
  have e0 := e0.trans E5
  have sp1 := sp1.ext E5
  have sp2 := sp2.ext E5
  have z5 := E5.size
  try simp only [go_sem]
  have es : Ext w5 w5 := Ext.refl _
  have zs := e0.size
  refine callV_of (toNodeS_ok (qp1.ext e0)) rfl fun xap1 w6 ⟨E6, ap1⟩ => ?_
  have e0 := e0.trans E6
  have es := es.trans E6
  have z6 := E6.size
  have ap1 := ap1.mono (B' := Between w5 w6) fun _ hb h => ⟨h, hb⟩
  refine callV_of (toNodeS_ok (qp2.ext e0)) rfl fun xap2 w7 ⟨E7, ap2⟩ => ?_
  have e0 := e0.trans E7
  have es := es.trans E7
  have ap1 := ap1.ext E7
  have z7 := E7.size
  have ap2 := ap2.mono (B' := Between w6 w7) fun _ hb h => ⟨h, hb⟩
  refine callV_of (implFoldSame_ok ap1.plan ap2.plan ) rfl ?_
  rintro _ w8 ⟨E8, rfl⟩
  have e0 := e0.trans E8
  have es := es.trans E8
  have ap1 := ap1.ext E8
  have ap2 := ap2.ext E8
  have z8 := E8.size
  try simp only [go_sem]
  try simp only [go_sem]
  refine ⟨fun h => by simp at h, fun _ => ?_⟩
  refine callV_of (toNodeS_ok (qp1.ext e0)) rfl fun xyp1 w9 ⟨E9, yp1⟩ => ?_
  have e0 := e0.trans E9
  have es := es.trans E9
  have ap1 := ap1.ext E9
  have ap2 := ap2.ext E9
  have z9 := E9.size
  have yp1 := yp1.mono (B' := Between w8 w9) fun _ hb h => ⟨h, hb⟩
  refine callV_of (eqNodeS_ok ap1.plan yp1.plan) rfl ?_
  rintro _ w10 ⟨E10, rfl⟩
  have e0 := e0.trans E10
  have es := es.trans E10
  have ap1 := ap1.ext E10
  have ap2 := ap2.ext E10
  have z10 := E10.size
  try simp only [go_sem]
  refine ⟨fun h => by simp at h, fun _ => ?_⟩
  refine callV_of (toNodeS_ok (qp2.ext e0)) rfl fun xyp2 w11 ⟨E11, yp2⟩ => ?_
  have e0 := e0.trans E11
  have es := es.trans E11
  have ap1 := ap1.ext E11
  have ap2 := ap2.ext E11
  have z11 := E11.size
  have yp2 := yp2.mono (B' := Between w10 w11) fun _ hb h => ⟨h, hb⟩
  refine callV_of (eqNodeS_ok ap2.plan yp2.plan) rfl ?_
  rintro _ w12 ⟨E12, rfl⟩
  have e0 := e0.trans E12
  have es := es.trans E12
  have ap1 := ap1.ext E12
  have ap2 := ap2.ext E12
  have z12 := E12.size
  try simp only [go_sem]
  refine ⟨fun h => by simp at h, fun _ => ?_⟩
  exact hR _ _ ⟨e0, rfl⟩
end Go.Proofs.Ytblgkpfnjlobjaa
