/-
The program's PlanCut returns what the reference's returns, for all arguments: the law FnExactPlanCut returns true, and writes nothing that was there.
No condition.
-/
import Derived.Test.YtokfjjjfecblgaaExact
import Derived.Test.YtokfjjjfecblgaaCutS
import Derived.Test.YtokfjjjfecblgaaHeld
import Derived.Test.YtokfjjjfecblgaaCFnExactPlanCut
namespace Go.Proofs.Ytokfjjjfecblgaa
open Go Go.V

set_option maxHeartbeats 1600000 in
theorem exactPlanCut_ok {w : World} {vp : Value} {p : List Nd} {vl : Value} {l : List Int} (hp : PlanRaw w vp p) (hl : Ints w vl l) : Calls Try.prog N.laws_FnExactPlanCut #[vp, vl] w (Ret fun r w' => Ext w w' ∧ r = .bool true) := by
  refine ret_k fun R hR => c_laws_FnExactPlanCut _ _ _ _ ?_
  have e0 : Ext w w := Ext.refl _
  have lenl : ∀ K, LenV vl K = K (.int .i64 l.length) := fun K => ints_len hl
  simp only [lenl, go_sem]
  refine ⟨fun _ => hR _ _ ⟨e0, rfl⟩, fun hll => ?_⟩
  refine callV_of (szNodeS_ok (hp.ext e0) (by omega) (by omega)) rfl ?_
  rintro _ w1 ⟨E1, mp, rfl, mp0, mp1, qp⟩
  have e0 := e0.trans E1
  have z1 := E1.size
  simp only [go_sem]
  refine ⟨fun _ => hR _ _ ⟨e0, rfl⟩, fun sp => ?_⟩
  obtain ⟨qp, qp'⟩ := qp (by omega)
  have ofp := offP_le (p := p) (j := p.length) fun i hi => by rw [nd_get hi]; exact qp' _ (List.getElem_mem hi)
  have qp := hp.plan qp qp'
  have hz := cutT_len p l
  have hz2 := cutP_len p l
  have hpl := qp.small
  have z0 := e0.size
  refine callV_of (toNodeS_ok (qp.ext e0)) rfl fun xsp w2 ⟨E2, sp⟩ => ?_
  have e0 := e0.trans E2
  have z2 := E2.size
  have sp := sp.mono (B' := Between w1 w2) fun _ hb h => ⟨h, hb⟩
  refine callV_of (toIntS_ok (hl.ext e0) (by omega)) rfl fun xsl w3 ⟨E3, sl⟩ => ?_
  have e0 := e0.trans E3
  have sp := sp.ext E3
  have z3 := E3.size
  have sl := sl.mono (B' := Between w2 w3) fun _ hb h => ⟨h, hb⟩
  refine callV_of (specPlanCut_ok sp.plan sl.ints (by omega)) rfl ?_
  rintro _ w4 ⟨xr0, xr1, rfl, E4, r0, r1⟩
  have e0 := e0.trans E4
  have sp := sp.ext E4
  have sl := sl.ext E4
  have z4 := E4.size
  have r0 := r0.plan
  have r1 := r1.ints
  try simp only [go_sem]
  have es : Ext w4 w4 := Ext.refl _
  have zs := e0.size
  refine callV_of (toNodeS_ok (qp.ext e0)) rfl fun xap w5 ⟨E5, ap⟩ => ?_
  have e0 := e0.trans E5
  have es := es.trans E5
  have z5 := E5.size
  have ap := ap.mono (B' := Between w4 w5) fun _ hb h => ⟨h, hb⟩
  refine callV_of (toIntS_ok (hl.ext e0) (by omega)) rfl fun xal w6 ⟨E6, al⟩ => ?_
  have e0 := e0.trans E6
  have es := es.trans E6
  have ap := ap.ext E6
  have z6 := E6.size
  have al := al.mono (B' := Between w5 w6) fun _ hb h => ⟨h, hb⟩
  refine callV_of (implPlanCut_ok ap.plan al.ints (by omega)) rfl ?_
  rintro _ w7 ⟨xg0, xg1, bg, rfl, E7, g0, g1⟩
  have e0 := e0.trans E7
  have es := es.trans E7
  have ap := ap.ext E7
  have al := al.ext E7
  have z7 := E7.size
  have g0 := g0.mono (B' := fun b => (w6.heap.size ≤ b ∧ b < w7.heap.size) ∧ b ≠ bg) fun _ hb h => ⟨⟨h.1, hb⟩, h.2⟩
  have smg0 : ∀ i, i < (cutP p l).length → Sml (nd (cutP p l) i) := fun i hi => g0.sml hi
  have ofg0 := offP_le (p := cutP p l) (j := (cutP p l).length) smg0
  have lng0 := g0.plan.small
  have g1 := g1.mono (B' := fun b => (w6.heap.size ≤ b ∧ b < w7.heap.size) ∧ b = bg) fun _ hb h => ⟨⟨h.1, hb⟩, h.2⟩
  try simp only [go_sem]
  refine callV_of (eqNodeS_ok g0.plan (r0.ext es)) rfl ?_
  rintro _ w8 ⟨E8, rfl⟩
  have e0 := e0.trans E8
  have es := es.trans E8
  have ap := ap.ext E8
  have al := al.ext E8
  have g0 := g0.ext E8
  have g1 := g1.ext E8
  have z8 := E8.size
  try simp only [go_sem]
  refine ⟨fun h => by simp at h, fun _ => ?_⟩
  refine callV_of (eqIntS_ok g1.ints (r1.ext es) (by omega)) rfl ?_
  rintro _ w9 ⟨E9, rfl⟩
  have e0 := e0.trans E9
  have es := es.trans E9
  have ap := ap.ext E9
  have al := al.ext E9
  have g0 := g0.ext E9
  have g1 := g1.ext E9
  have z9 := E9.size
  try simp only [go_sem]
  refine ⟨fun h => by simp at h, fun _ => ?_⟩
  try simp only [go_sem]
  refine ⟨fun h => by simp at h, fun _ => ?_⟩
  refine callV_of (toNodeS_ok (qp.ext e0)) rfl fun xyp w10 ⟨E10, yp⟩ => ?_
  have e0 := e0.trans E10
  have es := es.trans E10
  have ap := ap.ext E10
  have al := al.ext E10
  have g0 := g0.ext E10
  have g1 := g1.ext E10
  have z10 := E10.size
  have yp := yp.mono (B' := Between w9 w10) fun _ hb h => ⟨h, hb⟩
  refine callV_of (eqNodeS_ok ap.plan yp.plan) rfl ?_
  rintro _ w11 ⟨E11, rfl⟩
  have e0 := e0.trans E11
  have es := es.trans E11
  have ap := ap.ext E11
  have al := al.ext E11
  have g0 := g0.ext E11
  have g1 := g1.ext E11
  have z11 := E11.size
  try simp only [go_sem]
  refine ⟨fun h => by simp at h, fun _ => ?_⟩
  refine callV_of (toIntS_ok (hl.ext e0) (by omega)) rfl fun xyl w12 ⟨E12, yl⟩ => ?_
  have e0 := e0.trans E12
  have es := es.trans E12
  have ap := ap.ext E12
  have al := al.ext E12
  have g0 := g0.ext E12
  have g1 := g1.ext E12
  have z12 := E12.size
  have yl := yl.mono (B' := Between w11 w12) fun _ hb h => ⟨h, hb⟩
  refine callV_of (eqIntS_ok al.ints yl.ints (by omega)) rfl ?_
  rintro _ w13 ⟨E13, rfl⟩
  have e0 := e0.trans E13
  have es := es.trans E13
  have ap := ap.ext E13
  have al := al.ext E13
  have g0 := g0.ext E13
  have g1 := g1.ext E13
  have z13 := E13.size
  try simp only [go_sem]
  refine ⟨fun h => by simp at h, fun _ => ?_⟩
  refine callV_of (markNodeS_ok (k := 1) ap (by omega)) rfl ?_
  rintro _ w14 ⟨rfl, C14, z14, ap⟩
  have e0 := Chg.ext (e0.then C14) fun k hk h => by obtain ⟨h1, h2⟩ := h; omega
  have es := Chg.ext (es.then C14) fun k hk h => by obtain ⟨h1, h2⟩ := h; omega
  have al := al.keep C14 fun k h1 h2 => by obtain ⟨h1, h3⟩ := h1; obtain ⟨h2, h4⟩ := h2; omega
  have g0 := g0.keep C14 fun k _ h1 h2 => by obtain ⟨h1, h3⟩ := h1; obtain ⟨h2, h4⟩ := h2; omega
  have g1 := g1.keep C14 fun k h1 h2 => by obtain ⟨h1, h3⟩ := h1; obtain ⟨h2, h4⟩ := h2; omega
  refine callV_of (markIntS_ok (k := 1 + offP (p) (p).length) al (by omega)) rfl ?_
  rintro _ w15 ⟨rfl, C15, z15, al⟩
  have e0 := Chg.ext (e0.then C15) fun k hk h => by obtain ⟨h1, h2⟩ := h; omega
  have es := Chg.ext (es.then C15) fun k hk h => by obtain ⟨h1, h2⟩ := h; omega
  have g0 := g0.keep C15 fun k _ h1 h2 => by obtain ⟨h1, h3⟩ := h1; obtain ⟨h2, h4⟩ := h2; omega
  have g1 := g1.keep C15 fun k h1 h2 => by obtain ⟨h1, h3⟩ := h1; obtain ⟨h2, h4⟩ := h2; omega
  have ap := ap.keep C15 fun k _ h1 h2 => by obtain ⟨h1, h3⟩ := h1; obtain ⟨h2, h4⟩ := h2; omega
  try simp only [go_sem]
  refine ⟨fun h => absurd h (by omega), fun _ => ?_⟩
  refine callV_of (eqNodeS_ok g0.plan (r0.ext es)) rfl ?_
  rintro _ w16 ⟨E16, rfl⟩
  have e0 := e0.trans E16
  have es := es.trans E16
  have g0 := g0.ext E16
  have g1 := g1.ext E16
  have z16 := E16.size
  try simp only [go_sem]
  refine ⟨fun h => by simp at h, fun _ => ?_⟩
  refine callV_of (eqIntS_ok g1.ints (r1.ext es) (by omega)) rfl ?_
  rintro _ w17 ⟨E17, rfl⟩
  have e0 := e0.trans E17
  have es := es.trans E17
  have g0 := g0.ext E17
  have g1 := g1.ext E17
  have z17 := E17.size
  try simp only [go_sem]
  refine ⟨fun h => by simp at h, fun _ => ?_⟩
  try simp only [go_sem]
  refine ⟨fun h => by simp at h, fun _ => ?_⟩
  refine callV_of (markNodeS_ok (k := 1) g0 (by omega)) rfl ?_
  rintro _ w18 ⟨rfl, C18, z18, g0⟩
  have e0 := Chg.ext (e0.then C18) fun k hk h => by obtain ⟨h1, h2⟩ := h; omega
  have es := Chg.ext (es.then C18) fun k hk h => by obtain ⟨h1, h2⟩ := h; omega
  have g1 := g1.keep C18 fun k h1 h2 => by obtain ⟨h1, h3⟩ := h1; obtain ⟨h2, h4⟩ := h2; omega
  refine callV_of (markIntS_ok (k := 1 + offP (cutP p l) (cutP p l).length) g1 (by omega)) rfl ?_
  rintro _ w19 ⟨rfl, C19, z19, g1⟩
  have e0 := Chg.ext (e0.then C19) fun k hk h => by obtain ⟨h1, h2⟩ := h; omega
  have es := Chg.ext (es.then C19) fun k hk h => by obtain ⟨h1, h2⟩ := h; omega
  have g0 := g0.keep C19 fun k _ h1 h2 => by obtain ⟨h1, h3⟩ := h1; obtain ⟨h2, h4⟩ := h2; omega
  refine callV_of (heldNodeS_ok (k := 1) (p := cutP p l) g0.plan smg0 (by omega)) rfl ?_
  rintro _ w20 ⟨rfl, E20⟩
  have e0 := e0.trans E20
  have es := es.trans E20
  have g0 := g0.ext E20
  have g1 := g1.ext E20
  have z20 := E20.size
  try simp only [go_sem]
  refine ⟨fun h => absurd h (by omega), fun _ => ?_⟩
  refine callV_of (heldIntS_ok (k := 1 + offP (cutP p l) (cutP p l).length) g1.ints (by omega)) rfl ?_
  rintro _ w21 ⟨rfl, E21⟩
  have e0 := e0.trans E21
  have es := es.trans E21
  have g0 := g0.ext E21
  have g1 := g1.ext E21
  have z21 := E21.size
  try simp only [go_sem]
  refine ⟨fun h => absurd h (by omega), fun _ => ?_⟩
  try simp only [go_sem]
  refine ⟨fun h => by simp at h, fun _ => ?_⟩
  refine callV_of (toNodeS_ok (qp.ext e0)) rfl fun xup w22 ⟨E22, up⟩ => ?_
  have e0 := e0.trans E22
  have es := es.trans E22
  have g0 := g0.ext E22
  have g1 := g1.ext E22
  have z22 := E22.size
  have up := up.mono (B' := Between w21 w22) fun _ hb h => ⟨h, hb⟩
  refine callV_of (toIntS_ok (hl.ext e0) (by omega)) rfl fun xul w23 ⟨E23, ul⟩ => ?_
  have e0 := e0.trans E23
  have es := es.trans E23
  have g0 := g0.ext E23
  have g1 := g1.ext E23
  have up := up.ext E23
  have z23 := E23.size
  have ul := ul.mono (B' := Between w22 w23) fun _ hb h => ⟨h, hb⟩
  refine callV_of (implPlanCut_ok up.plan ul.ints (by omega)) rfl ?_
  rintro _ w24 ⟨xk0, xk1, bk, rfl, E24, k0, k1⟩
  have e0 := e0.trans E24
  have es := es.trans E24
  have g0 := g0.ext E24
  have g1 := g1.ext E24
  have up := up.ext E24
  have ul := ul.ext E24
  have z24 := E24.size
  have k0 := k0.mono (B' := fun b => (w23.heap.size ≤ b ∧ b < w24.heap.size) ∧ b ≠ bk) fun _ hb h => ⟨⟨h.1, hb⟩, h.2⟩
  have k1 := k1.mono (B' := fun b => (w23.heap.size ≤ b ∧ b < w24.heap.size) ∧ b = bk) fun _ hb h => ⟨⟨h.1, hb⟩, h.2⟩
  try simp only [go_sem]
  refine callV_of (eqNodeS_ok k0.plan (r0.ext es)) rfl ?_
  rintro _ w25 ⟨E25, rfl⟩
  have e0 := e0.trans E25
  have es := es.trans E25
  have g0 := g0.ext E25
  have g1 := g1.ext E25
  have k0 := k0.ext E25
  have k1 := k1.ext E25
  have z25 := E25.size
  try simp only [go_sem]
  refine ⟨fun h => by simp at h, fun _ => ?_⟩
  refine callV_of (eqIntS_ok k1.ints (r1.ext es) (by omega)) rfl ?_
  rintro _ w26 ⟨E26, rfl⟩
  have e0 := e0.trans E26
  have es := es.trans E26
  have g0 := g0.ext E26
  have g1 := g1.ext E26
  have k0 := k0.ext E26
  have k1 := k1.ext E26
  have z26 := E26.size
  try simp only [go_sem]
  refine ⟨fun h => by simp at h, fun _ => ?_⟩
  try simp only [go_sem]
  refine ⟨fun h => by simp at h, fun _ => ?_⟩
  refine callV_of (heldNodeS_ok (k := 1) (p := cutP p l) g0.plan smg0 (by omega)) rfl ?_
  rintro _ w27 ⟨rfl, E27⟩
  have e0 := e0.trans E27
  have es := es.trans E27
  have g0 := g0.ext E27
  have g1 := g1.ext E27
  have z27 := E27.size
  try simp only [go_sem]
  refine ⟨fun h => absurd h (by omega), fun _ => ?_⟩
  refine callV_of (heldIntS_ok (k := 1 + offP (cutP p l) (cutP p l).length) g1.ints (by omega)) rfl ?_
  rintro _ w28 ⟨rfl, E28⟩
  have e0 := e0.trans E28
  have es := es.trans E28
  have g0 := g0.ext E28
  have g1 := g1.ext E28
  have z28 := E28.size
  try simp only [go_sem]
  refine ⟨fun h => absurd h (by omega), fun _ => ?_⟩
  try simp only [go_sem]
  refine ⟨fun h => by simp at h, fun _ => ?_⟩
  exact hR _ _ ⟨e0, rfl⟩
end Go.Proofs.Ytokfjjjfecblgaa
