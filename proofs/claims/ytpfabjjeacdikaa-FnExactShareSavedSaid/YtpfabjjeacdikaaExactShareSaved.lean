/-
The program's ShareSaved returns what the reference's returns, for all arguments: the law FnExactShareSaved returns true, and writes nothing that was there.
No condition.
-/
import Derived.Test.YtpfabjjeacdikaaExact
import Derived.Test.YtpfabjjeacdikaaSaved
import Derived.Test.YtpfabjjeacdikaaCFnExactShareSaved
namespace Go.Proofs.Ytpfabjjeacdikaa
open Go Go.V

set_option maxHeartbeats 1600000 in
theorem exactShareSaved_ok {w : World} {vp : Value} {p : List Nd} (hp : PlanRaw w vp p) : Calls Try.prog N.laws_FnExactShareSaved #[vp] w (Ret fun r w' => Ext w w' ∧ r = .bool true) := by
  refine ret_k fun R hR => c_laws_FnExactShareSaved _ _ _ ?_
  have e0 : Ext w w := Ext.refl _
  refine callV_of (szNodeS_ok (hp.ext e0) (by omega) (by omega)) rfl ?_
  rintro _ w1 ⟨E1, mp, rfl, mp0, mp1, qp⟩
  have e0 := e0.trans E1
  have z1 := E1.size
  simp only [go_sem]
  refine ⟨fun _ => hR _ _ ⟨e0, rfl⟩, fun sp => ?_⟩
  obtain ⟨qp, qp'⟩ := qp (by omega)
  have ofp := offP_le (p := p) (j := p.length) fun i hi => by rw [nd_get hi]; exact qp' _ (List.getElem_mem hi)
  have qp := hp.plan qp qp'
  have z0 := e0.size
  refine callV_of (toNodeS_ok (qp.ext e0)) rfl fun xsp w2 ⟨E2, sp⟩ => ?_
  have e0 := e0.trans E2
  have z2 := E2.size
  have sp := sp.mono (B' := Between w1 w2) fun _ hb h => ⟨h, hb⟩
  refine callV_of (specShareSaved_ok sp.plan ) rfl ?_
  rintro _ w3 ⟨E3, rfl⟩
  have e0 := e0.trans E3
  have sp := sp.ext E3
  have z3 := E3.size
  try simp only [go_sem]
  have es : Ext w3 w3 := Ext.refl _
  have zs := e0.size
  refine callV_of (toNodeS_ok (qp.ext e0)) rfl fun xap w4 ⟨E4, ap⟩ => ?_
  have e0 := e0.trans E4
  have es := es.trans E4
  have z4 := E4.size
  have ap := ap.mono (B' := Between w3 w4) fun _ hb h => ⟨h, hb⟩
  refine callV_of (implShareSaved_ok ap.plan ) rfl ?_
  rintro _ w5 ⟨E5, rfl⟩
  have e0 := e0.trans E5
  have es := es.trans E5
  have ap := ap.ext E5
  have z5 := E5.size
  try simp only [go_sem]
  try simp only [go_sem]
  refine ⟨fun h => by simp at h, fun _ => ?_⟩
  refine callV_of (toNodeS_ok (qp.ext e0)) rfl fun xyp w6 ⟨E6, yp⟩ => ?_
  have e0 := e0.trans E6
  have es := es.trans E6
  have ap := ap.ext E6
  have z6 := E6.size
  have yp := yp.mono (B' := Between w5 w6) fun _ hb h => ⟨h, hb⟩
  refine callV_of (eqNodeS_ok ap.plan yp.plan) rfl ?_
  rintro _ w7 ⟨E7, rfl⟩
  have e0 := e0.trans E7
  have es := es.trans E7
  have ap := ap.ext E7
  have z7 := E7.size
  try simp only [go_sem]
  refine ⟨fun h => by simp at h, fun _ => ?_⟩
  exact hR _ _ ⟨e0, rfl⟩
end Go.Proofs.Ytpfabjjeacdikaa
