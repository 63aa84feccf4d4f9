/-
The program's PlanShare returns what the reference's returns, for all arguments: the law FnExactPlanShare returns true, and writes nothing that was there.
No condition.
-/
import Derived.Test.YtokfjjjfecblgaaExact
import Derived.Test.YtokfjjjfecblgaaShareS
import Derived.Test.YtokfjjjfecblgaaHeld
import Derived.Test.YtokfjjjfecblgaaCFnExactPlanShare
namespace Go.Proofs.Ytokfjjjfecblgaa
open Go Go.V

set_option maxHeartbeats 1600000 in
theorem exactPlanShare_ok {w : World} {vp : Value} {p : List Nd} (hp : PlanRaw w vp p) : Calls Try.prog N.laws_FnExactPlanShare #[vp] w (Ret fun r w' => Ext w w' ∧ r = .bool true) := by
  refine ret_k fun R hR => c_laws_FnExactPlanShare _ _ _ ?_
  have e0 : Ext w w := Ext.refl _
  refine callV_of (szNodeS_ok (hp.ext e0) (by omega) (by omega)) rfl ?_
  rintro _ w1 ⟨E1, mp, rfl, mp0, mp1, qp⟩
  have e0 := e0.trans E1
  have z1 := E1.size
  simp only [go_sem]
  refine ⟨fun _ => hR _ _ ⟨e0, rfl⟩, fun sp => ?_⟩
  obtain ⟨qp, qp'⟩ := qp (by omega)
  have ofp := offP_le (p := p) (j := p.length) fun i hi => by rw [nd_get hi]; exact qp' _ (List.getElem_mem hi)
  have qp := hp.plan qp qp'
  have hz := shareN_len p
  have hz2 := shareO_len p
  have hpl := qp.small
  have z0 := e0.size
  refine callV_of (toNodeS_ok (qp.ext e0)) rfl fun xsp w2 ⟨E2, sp⟩ => ?_
  have e0 := e0.trans E2
  have z2 := E2.size
  have sp := sp.mono (B' := Between w1 w2) fun _ hb h => ⟨h, hb⟩
  refine callV_of (specPlanShare_ok sp.plan ) rfl ?_
  rintro _ w3 ⟨xr0, xr1, rfl, E3, r0, r1⟩
  have e0 := e0.trans E3
  have sp := sp.ext E3
  have z3 := E3.size
  have r0 := r0.plan
  have r1 := r1.ints
  try simp only [go_sem]
  have es : Ext w3 w3 := Ext.refl _
  have zs := e0.size
  refine callV_of (toNodeS_ok (qp.ext e0)) rfl fun xap w4 ⟨E4, ap⟩ => ?_
  have e0 := e0.trans E4
  have es := es.trans E4
  have z4 := E4.size
  have ap := ap.mono (B' := Between w3 w4) fun _ hb h => ⟨h, hb⟩
  refine callV_of (implPlanShare_ok ap.plan ) rfl ?_
  rintro _ w5 ⟨xg0, xg1, bg, rfl, E5, g0, g1⟩
  have e0 := e0.trans E5
  have es := es.trans E5
  have ap := ap.ext E5
  have z5 := E5.size
  have g0 := g0.mono (B' := fun b => (w4.heap.size ≤ b ∧ b < w5.heap.size) ∧ b ≠ bg) fun _ hb h => ⟨⟨h.1, hb⟩, h.2⟩
  have smg0 : ∀ i, i < (shareO p).length → Sml (nd (shareO p) i) := fun i hi => g0.sml hi
  have ofg0 := offP_le (p := shareO p) (j := (shareO p).length) smg0
  have lng0 := g0.plan.small
  have g1 := g1.mono (B' := fun b => (w4.heap.size ≤ b ∧ b < w5.heap.size) ∧ b = bg) fun _ hb h => ⟨⟨h.1, hb⟩, h.2⟩
  try simp only [go_sem]
  refine callV_of (eqNodeS_ok g0.plan (r0.ext es)) rfl ?_
  rintro _ w6 ⟨E6, rfl⟩
  have e0 := e0.trans E6
  have es := es.trans E6
  have ap := ap.ext E6
  have g0 := g0.ext E6
  have g1 := g1.ext E6
  have z6 := E6.size
  try simp only [go_sem]
  refine ⟨fun h => by simp at h, fun _ => ?_⟩
  refine callV_of (eqIntS_ok g1.ints (r1.ext es) (by omega)) rfl ?_
  rintro _ w7 ⟨E7, rfl⟩
  have e0 := e0.trans E7
  have es := es.trans E7
  have ap := ap.ext E7
  have g0 := g0.ext E7
  have g1 := g1.ext E7
  have z7 := E7.size
  try simp only [go_sem]
  refine ⟨fun h => by simp at h, fun _ => ?_⟩
  try simp only [go_sem]
  refine ⟨fun h => by simp at h, fun _ => ?_⟩
  refine callV_of (toNodeS_ok (qp.ext e0)) rfl fun xyp w8 ⟨E8, yp⟩ => ?_
  have e0 := e0.trans E8
  have es := es.trans E8
  have ap := ap.ext E8
  have g0 := g0.ext E8
  have g1 := g1.ext E8
  have z8 := E8.size
  have yp := yp.mono (B' := Between w7 w8) fun _ hb h => ⟨h, hb⟩
  refine callV_of (eqNodeS_ok ap.plan yp.plan) rfl ?_
  rintro _ w9 ⟨E9, rfl⟩
  have e0 := e0.trans E9
  have es := es.trans E9
  have ap := ap.ext E9
  have g0 := g0.ext E9
  have g1 := g1.ext E9
  have z9 := E9.size
  try simp only [go_sem]
  refine ⟨fun h => by simp at h, fun _ => ?_⟩
  refine callV_of (markNodeS_ok (k := 1) ap (by omega)) rfl ?_
  rintro _ w10 ⟨rfl, C10, z10, ap⟩
  have e0 := Chg.ext (e0.then C10) fun k hk h => by obtain ⟨h1, h2⟩ := h; omega
  have es := Chg.ext (es.then C10) fun k hk h => by obtain ⟨h1, h2⟩ := h; omega
  have g0 := g0.keep C10 fun k _ h1 h2 => by obtain ⟨h1, h3⟩ := h1; obtain ⟨h2, h4⟩ := h2; omega
  have g1 := g1.keep C10 fun k h1 h2 => by obtain ⟨h1, h3⟩ := h1; obtain ⟨h2, h4⟩ := h2; omega
  try simp only [go_sem]
  refine ⟨fun h => absurd h (by omega), fun _ => ?_⟩
  refine callV_of (eqNodeS_ok g0.plan (r0.ext es)) rfl ?_
  rintro _ w11 ⟨E11, rfl⟩
  have e0 := e0.trans E11
  have es := es.trans E11
  have g0 := g0.ext E11
  have g1 := g1.ext E11
  have z11 := E11.size
  try simp only [go_sem]
  refine ⟨fun h => by simp at h, fun _ => ?_⟩
  refine callV_of (eqIntS_ok g1.ints (r1.ext es) (by omega)) rfl ?_
  rintro _ w12 ⟨E12, rfl⟩
  have e0 := e0.trans E12
  have es := es.trans E12
  have g0 := g0.ext E12
  have g1 := g1.ext E12
  have z12 := E12.size
  try simp only [go_sem]
  refine ⟨fun h => by simp at h, fun _ => ?_⟩
  try simp only [go_sem]
  refine ⟨fun h => by simp at h, fun _ => ?_⟩
  refine callV_of (markNodeS_ok (k := 1) g0 (by omega)) rfl ?_
  rintro _ w13 ⟨rfl, C13, z13, g0⟩
  have e0 := Chg.ext (e0.then C13) fun k hk h => by obtain ⟨h1, h2⟩ := h; omega
  have es := Chg.ext (es.then C13) fun k hk h => by obtain ⟨h1, h2⟩ := h; omega
  have g1 := g1.keep C13 fun k h1 h2 => by obtain ⟨h1, h3⟩ := h1; obtain ⟨h2, h4⟩ := h2; omega
  refine callV_of (markIntS_ok (k := 1 + offP (shareO p) (shareO p).length) g1 (by omega)) rfl ?_
  rintro _ w14 ⟨rfl, C14, z14, g1⟩
  have e0 := Chg.ext (e0.then C14) fun k hk h => by obtain ⟨h1, h2⟩ := h; omega
  have es := Chg.ext (es.then C14) fun k hk h => by obtain ⟨h1, h2⟩ := h; omega
  have g0 := g0.keep C14 fun k _ h1 h2 => by obtain ⟨h1, h3⟩ := h1; obtain ⟨h2, h4⟩ := h2; omega
  refine callV_of (heldNodeS_ok (k := 1) (p := shareO p) g0.plan smg0 (by omega)) rfl ?_
  rintro _ w15 ⟨rfl, E15⟩
  have e0 := e0.trans E15
  have es := es.trans E15
  have g0 := g0.ext E15
  have g1 := g1.ext E15
  have z15 := E15.size
  try simp only [go_sem]
  refine ⟨fun h => absurd h (by omega), fun _ => ?_⟩
  refine callV_of (heldIntS_ok (k := 1 + offP (shareO p) (shareO p).length) g1.ints (by omega)) rfl ?_
  rintro _ w16 ⟨rfl, E16⟩
  have e0 := e0.trans E16
  have es := es.trans E16
  have g0 := g0.ext E16
  have g1 := g1.ext E16
  have z16 := E16.size
  try simp only [go_sem]
  refine ⟨fun h => absurd h (by omega), fun _ => ?_⟩
  try simp only [go_sem]
  refine ⟨fun h => by simp at h, fun _ => ?_⟩
  refine callV_of (toNodeS_ok (qp.ext e0)) rfl fun xup w17 ⟨E17, up⟩ => ?_
  have e0 := e0.trans E17
  have es := es.trans E17
  have g0 := g0.ext E17
  have g1 := g1.ext E17
  have z17 := E17.size
  have up := up.mono (B' := Between w16 w17) fun _ hb h => ⟨h, hb⟩
  refine callV_of (implPlanShare_ok up.plan ) rfl ?_
  rintro _ w18 ⟨xk0, xk1, bk, rfl, E18, k0, k1⟩
  have e0 := e0.trans E18
  have es := es.trans E18
  have g0 := g0.ext E18
  have g1 := g1.ext E18
  have up := up.ext E18
  have z18 := E18.size
  have k0 := k0.mono (B' := fun b => (w17.heap.size ≤ b ∧ b < w18.heap.size) ∧ b ≠ bk) fun _ hb h => ⟨⟨h.1, hb⟩, h.2⟩
  have k1 := k1.mono (B' := fun b => (w17.heap.size ≤ b ∧ b < w18.heap.size) ∧ b = bk) fun _ hb h => ⟨⟨h.1, hb⟩, h.2⟩
  try simp only [go_sem]
  refine callV_of (eqNodeS_ok k0.plan (r0.ext es)) rfl ?_
  rintro _ w19 ⟨E19, rfl⟩
  have e0 := e0.trans E19
  have es := es.trans E19
  have g0 := g0.ext E19
  have g1 := g1.ext E19
  have k0 := k0.ext E19
  have k1 := k1.ext E19
  have z19 := E19.size
  try simp only [go_sem]
  refine ⟨fun h => by simp at h, fun _ => ?_⟩
  refine callV_of (eqIntS_ok k1.ints (r1.ext es) (by omega)) rfl ?_
  rintro _ w20 ⟨E20, rfl⟩
  have e0 := e0.trans E20
  have es := es.trans E20
  have g0 := g0.ext E20
  have g1 := g1.ext E20
  have k0 := k0.ext E20
  have k1 := k1.ext E20
  have z20 := E20.size
  try simp only [go_sem]
  refine ⟨fun h => by simp at h, fun _ => ?_⟩
  try simp only [go_sem]
  refine ⟨fun h => by simp at h, fun _ => ?_⟩
  refine callV_of (heldNodeS_ok (k := 1) (p := shareO p) g0.plan smg0 (by omega)) rfl ?_
  rintro _ w21 ⟨rfl, E21⟩
  have e0 := e0.trans E21
  have es := es.trans E21
  have g0 := g0.ext E21
  have g1 := g1.ext E21
  have z21 := E21.size
  try simp only [go_sem]
  refine ⟨fun h => absurd h (by omega), fun _ => ?_⟩
  refine callV_of (heldIntS_ok (k := 1 + offP (shareO p) (shareO p).length) g1.ints (by omega)) rfl ?_
  rintro _ w22 ⟨rfl, E22⟩
  have e0 := e0.trans E22
  have es := es.trans E22
  have g0 := g0.ext E22
  have g1 := g1.ext E22
  have z22 := E22.size
  try simp only [go_sem]
  refine ⟨fun h => absurd h (by omega), fun _ => ?_⟩
  try simp only [go_sem]
  refine ⟨fun h => by simp at h, fun _ => ?_⟩
  exact hR _ _ ⟨e0, rfl⟩
end Go.Proofs.Ytokfjjjfecblgaa
