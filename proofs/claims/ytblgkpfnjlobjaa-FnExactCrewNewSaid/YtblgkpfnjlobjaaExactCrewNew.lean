/-
The program's CrewNew returns what the reference's returns, for all arguments: the law FnExactCrewNew returns true, and writes nothing that was there.
No condition.
-/
import Derived.Test.YtblgkpfnjlobjaaExact
import Derived.Test.YtblgkpfnjlobjaaCrewS
import Derived.Test.YtblgkpfnjlobjaaCFnExactCrewNew
namespace Go.Proofs.Ytblgkpfnjlobjaa
open Go Go.V

set_option maxHeartbeats 1600000 in
theorem exactCrewNew_ok {w : World} {vp : Value} {p : List Nd} {n : Int} (hp : PlanRaw w vp p) (hn : -9223372036854775808 ≤ n ∧ n ≤ 9223372036854775807) : Calls Try.prog N.laws_FnExactCrewNew #[vp, .int .i64 n] w (Ret fun r w' => Ext w w' ∧ r = .bool true) := by
  refine ret_k fun R hR => c_laws_FnExactCrewNew _ _ _ _ ?_
  have e0 : Ext w w := Ext.refl _
  refine callV_of (szNodeS_ok (hp.ext e0) (by omega) (by omega)) rfl ?_
  rintro _ w1 ⟨E1, mp, rfl, mp0, mp1, qp⟩
  have e0 := e0.trans E1
  have z1 := E1.size
  simp only [go_sem]
  refine ⟨fun _ => hR _ _ ⟨e0, rfl⟩, fun sp => ?_⟩
  obtain ⟨qp, qp'⟩ := qp (by omega)
  have ofp := offP_le (p := p) (j := p.length) fun i hi => by rw [nd_get hi]; exact qp' _ (List.getElem_mem hi)
  have qp := hp.plan qp qp'
  have z0 := e0.size
  refine callV_of (toNodeS_ok (qp.ext e0)) rfl fun xsp w2 ⟨E2, sp⟩ => ?_
  have e0 := e0.trans E2
  have z2 := E2.size
  have sp := sp.mono (B' := Between w1 w2) fun _ hb h => ⟨h, hb⟩
  refine callV_of (specCrewNew_ok sp.plan n ) rfl ?_
  rintro _ w3 ⟨xr0, rfl, E3, r0⟩
  have e0 := e0.trans E3
  have sp := sp.ext E3
  have z3 := E3.size
  try simp only [go_sem]
  refine crew_var r0 fun w4 E4 vr0 lr0 => ?_
  have e0 := e0.trans E4
  have sp := sp.ext E4
  have z4 := E4.size
  have r0 := r0.ext E4
  try simp only [go_sem]
  have es : Ext w4 w4 := Ext.refl _
  have zs := e0.size
  refine callV_of (toNodeS_ok (qp.ext e0)) rfl fun xap w5 ⟨E5, ap⟩ => ?_
  have e0 := e0.trans E5
  have es := es.trans E5
  have vr0 := vr0.ext E5
  have z5 := E5.size
  have ap := ap.mono (B' := Between w4 w5) fun _ hb h => ⟨h, hb⟩
  refine callV_of (implCrewNew_ok ap.plan n ) rfl ?_
  rintro _ w6 ⟨xg0, rfl, E6, g0⟩
  have e0 := e0.trans E6
  have es := es.trans E6
  have vr0 := vr0.ext E6
  have ap := ap.ext E6
  have z6 := E6.size
  have g0 := g0.mono (B' := Between w5 w6) fun _ hb h => ⟨h, hb⟩
  try simp only [go_sem]
  refine crew_var g0.crew fun w7 E7 vg0 lg0 => ?_
  have e0 := e0.trans E7
  have es := es.trans E7
  have vr0 := vr0.ext E7
  have ap := ap.ext E7
  have g0 := g0.ext E7
  have z7 := E7.size
  try simp only [go_sem]
  refine vg0.load (vr0.load ?_)
  refine callV_of (eqCrew_ok g0.crew (r0.ext es)) rfl ?_
  rintro _ w8 ⟨E8, rfl⟩
  have e0 := e0.trans E8
  have es := es.trans E8
  have vr0 := vr0.ext E8
  have ap := ap.ext E8
  have g0 := g0.ext E8
  have vg0 := vg0.ext E8
  have z8 := E8.size
  try simp only [go_sem]
  refine ⟨fun h => by simp at h, fun _ => ?_⟩
  try simp only [go_sem]
  refine ⟨fun h => by simp at h, fun _ => ?_⟩
  refine callV_of (toNodeS_ok (qp.ext e0)) rfl fun xyp w9 ⟨E9, yp⟩ => ?_
  have e0 := e0.trans E9
  have es := es.trans E9
  have vr0 := vr0.ext E9
  have ap := ap.ext E9
  have g0 := g0.ext E9
  have vg0 := vg0.ext E9
  have z9 := E9.size
  have yp := yp.mono (B' := Between w8 w9) fun _ hb h => ⟨h, hb⟩
  refine callV_of (eqNodeS_ok ap.plan yp.plan) rfl ?_
  rintro _ w10 ⟨E10, rfl⟩
  have e0 := e0.trans E10
  have es := es.trans E10
  have vr0 := vr0.ext E10
  have ap := ap.ext E10
  have g0 := g0.ext E10
  have vg0 := vg0.ext E10
  have z10 := E10.size
  try simp only [go_sem]
  refine ⟨fun h => by simp at h, fun _ => ?_⟩
  refine callV_of (markNodeS_ok (k := 1) ap (by omega)) rfl ?_
  rintro _ w11 ⟨rfl, C11, z11, ap⟩
  have e0 := Chg.ext (e0.then C11) fun k hk h => by obtain ⟨h1, h2⟩ := h; omega
  have es := Chg.ext (es.then C11) fun k hk h => by obtain ⟨h1, h2⟩ := h; omega
  have vr0 := vr0.keep C11 fun h => by obtain ⟨h1, h2⟩ := h; omega
  have g0 := g0.keep C11 fun k _ h1 h2 => by obtain ⟨h1, h3⟩ := h1; obtain ⟨h2, h4⟩ := h2; omega
  have vg0 := vg0.keep C11 fun h => by obtain ⟨h1, h2⟩ := h; omega
  try simp only [go_sem]
  refine ⟨fun h => absurd h (by omega), fun _ => ?_⟩
  refine vg0.load (vr0.load ?_)
  refine callV_of (eqCrew_ok g0.crew (r0.ext es)) rfl ?_
  rintro _ w12 ⟨E12, rfl⟩
  have e0 := e0.trans E12
  have es := es.trans E12
  have vr0 := vr0.ext E12
  have g0 := g0.ext E12
  have vg0 := vg0.ext E12
  have z12 := E12.size
  try simp only [go_sem]
  refine ⟨fun h => by simp at h, fun _ => ?_⟩
  try simp only [go_sem]
  refine ⟨fun h => by simp at h, fun _ => ?_⟩
  refine vg0.load ?_
  refine callV_of (markCrew_ok (k := 1) g0 (by omega)) rfl ?_
  rintro _ w13 ⟨rfl, C13, z13, g0⟩
  have e0 := Chg.ext (e0.then C13) fun k hk h => by obtain ⟨h1, h2⟩ := h; omega
  have es := Chg.ext (es.then C13) fun k hk h => by obtain ⟨h1, h2⟩ := h; omega
  have vr0 := vr0.keep C13 fun h => by obtain ⟨h1, h2⟩ := h; omega
  have vg0 := vg0.keep C13 fun h => by obtain ⟨h1, h2⟩ := h; omega
  refine vg0.load ?_
  refine callV_of (heldCrew_ok (k := 1) (c := crewO p n) g0.crew (crewO_sml p n) (by omega)) rfl ?_
  rintro _ w14 ⟨rfl, E14⟩
  have e0 := e0.trans E14
  have es := es.trans E14
  have vr0 := vr0.ext E14
  have vg0 := vg0.ext E14
  have g0 := g0.ext E14
  have z14 := E14.size
  try simp only [go_sem]
  refine ⟨fun h => absurd h (by omega), fun _ => ?_⟩
  try simp only [go_sem]
  refine ⟨fun h => by simp at h, fun _ => ?_⟩
  refine callV_of (toNodeS_ok (qp.ext e0)) rfl fun xup w15 ⟨E15, up⟩ => ?_
  have e0 := e0.trans E15
  have es := es.trans E15
  have vr0 := vr0.ext E15
  have vg0 := vg0.ext E15
  have g0 := g0.ext E15
  have z15 := E15.size
  have up := up.mono (B' := Between w14 w15) fun _ hb h => ⟨h, hb⟩
  refine callV_of (implCrewNew_ok up.plan n ) rfl ?_
  rintro _ w16 ⟨xk0, rfl, E16, k0⟩
  have e0 := e0.trans E16
  have es := es.trans E16
  have vr0 := vr0.ext E16
  have vg0 := vg0.ext E16
  have g0 := g0.ext E16
  have up := up.ext E16
  have z16 := E16.size
  have k0 := k0.mono (B' := Between w15 w16) fun _ hb h => ⟨h, hb⟩
  try simp only [go_sem]
  refine crew_var k0.crew fun w17 E17 vk0 lk0 => ?_
  have e0 := e0.trans E17
  have es := es.trans E17
  have vr0 := vr0.ext E17
  have vg0 := vg0.ext E17
  have g0 := g0.ext E17
  have up := up.ext E17
  have k0 := k0.ext E17
  have z17 := E17.size
  try simp only [go_sem]
  refine vk0.load (vr0.load ?_)
  refine callV_of (eqCrew_ok k0.crew (r0.ext es)) rfl ?_
  rintro _ w18 ⟨E18, rfl⟩
  have e0 := e0.trans E18
  have es := es.trans E18
  have vr0 := vr0.ext E18
  have vg0 := vg0.ext E18
  have g0 := g0.ext E18
  have k0 := k0.ext E18
  have vk0 := vk0.ext E18
  have z18 := E18.size
  try simp only [go_sem]
  refine ⟨fun h => by simp at h, fun _ => ?_⟩
  try simp only [go_sem]
  refine ⟨fun h => by simp at h, fun _ => ?_⟩
  refine vg0.load ?_
  refine callV_of (heldCrew_ok (k := 1) (c := crewO p n) g0.crew (crewO_sml p n) (by omega)) rfl ?_
  rintro _ w19 ⟨rfl, E19⟩
  have e0 := e0.trans E19
  have es := es.trans E19
  have vr0 := vr0.ext E19
  have vg0 := vg0.ext E19
  have g0 := g0.ext E19
  have z19 := E19.size
  try simp only [go_sem]
  refine ⟨fun h => absurd h (by omega), fun _ => ?_⟩
  try simp only [go_sem]
  refine ⟨fun h => by simp at h, fun _ => ?_⟩
  exact hR _ _ ⟨e0, rfl⟩
end Go.Proofs.Ytblgkpfnjlobjaa
