/-
The program's LoseAgain returns what the reference's returns, for all arguments: the law FnExactLoseAgain returns true, and writes nothing that was there.
No condition.
-/
import Derived.Test.YtokfjjjfecblgaaExact
import Derived.Test.YtokfjjjfecblgaaLose
import Derived.Test.YtokfjjjfecblgaaCFnExactLoseAgain
namespace Go.Proofs.Ytokfjjjfecblgaa
open Go Go.V

set_option maxHeartbeats 1600000 in
theorem exactLoseAgain_ok {w : World} {vp : Value} {p : List Nd} {vl1 : Value} {l1 : List Int} {vl2 : Value} {l2 : List Int} (hp : PlanRaw w vp p) (hl1 : Ints w vl1 l1) (hl2 : Ints w vl2 l2) : Calls Try.prog N.laws_FnExactLoseAgain #[vp, vl1, vl2] w (Ret fun r w' => Ext w w' ∧ r = .bool true) := by
  refine ret_k fun R hR => c_laws_FnExactLoseAgain _ _ _ _ _ ?_
  have e0 : Ext w w := Ext.refl _
  have lenl1 : ∀ K, LenV vl1 K = K (.int .i64 l1.length) := fun K => ints_len hl1
  have lenl2 : ∀ K, LenV vl2 K = K (.int .i64 l2.length) := fun K => ints_len hl2
  simp only [lenl1, lenl2, go_sem]
  refine ⟨fun _ => hR _ _ ⟨e0, rfl⟩, fun hll1 => ?_⟩
  refine ⟨fun _ => hR _ _ ⟨e0, rfl⟩, fun hll2 => ?_⟩
  refine callV_of (szNodeS_ok (hp.ext e0) (by omega) (by omega)) rfl ?_
  rintro _ w1 ⟨E1, mp, rfl, mp0, mp1, qp⟩
  have e0 := e0.trans E1
  have z1 := E1.size
  simp only [go_sem]
  refine ⟨fun _ => hR _ _ ⟨e0, rfl⟩, fun sp => ?_⟩
  obtain ⟨qp, qp'⟩ := qp (by omega)
  have ofp := offP_le (p := p) (j := p.length) fun i hi => by rw [nd_get hi]; exact qp' _ (List.getElem_mem hi)
  have qp := hp.plan qp qp'
  have hz := staysO_len p l1 l2
  have hpl := qp.small
  have z0 := e0.size
  refine callV_of (toNodeS_ok (qp.ext e0)) rfl fun xsp w2 ⟨E2, sp⟩ => ?_
  have e0 := e0.trans E2
  have z2 := E2.size
  have sp := sp.mono (B' := Between w1 w2) fun _ hb h => ⟨h, hb⟩
  refine callV_of (toIntS_ok (hl1.ext e0) (by omega)) rfl fun xsl1 w3 ⟨E3, sl1⟩ => ?_
  have e0 := e0.trans E3
  have sp := sp.ext E3
  have z3 := E3.size
  have sl1 := sl1.mono (B' := Between w2 w3) fun _ hb h => ⟨h, hb⟩
  refine callV_of (toIntS_ok (hl2.ext e0) (by omega)) rfl fun xsl2 w4 ⟨E4, sl2⟩ => ?_
  have e0 := e0.trans E4
  have sp := sp.ext E4
  have sl1 := sl1.ext E4
  have z4 := E4.size
  have sl2 := sl2.mono (B' := Between w3 w4) fun _ hb h => ⟨h, hb⟩
  refine callV_of (specLoseAgain_ok sp.plan sl1.ints sl2.ints (by omega) (by omega)) rfl ?_
  rintro _ w5 ⟨xr0, rfl, E5, r0⟩
  have e0 := e0.trans E5
  have sp := sp.ext E5
  have sl1 := sl1.ext E5
  have sl2 := sl2.ext E5
  have z5 := E5.size
  have r0 := r0.ints
  try simp only [go_sem]
  have es : Ext w5 w5 := Ext.refl _
  have zs := e0.size
  refine callV_of (toNodeS_ok (qp.ext e0)) rfl fun xap w6 ⟨E6, ap⟩ => ?_
  have e0 := e0.trans E6
  have es := es.trans E6
  have z6 := E6.size
  have ap := ap.mono (B' := Between w5 w6) fun _ hb h => ⟨h, hb⟩
  refine callV_of (toIntS_ok (hl1.ext e0) (by omega)) rfl fun xal1 w7 ⟨E7, al1⟩ => ?_
  have e0 := e0.trans E7
  have es := es.trans E7
  have ap := ap.ext E7
  have z7 := E7.size
  have al1 := al1.mono (B' := Between w6 w7) fun _ hb h => ⟨h, hb⟩
  refine callV_of (toIntS_ok (hl2.ext e0) (by omega)) rfl fun xal2 w8 ⟨E8, al2⟩ => ?_
  have e0 := e0.trans E8
  have es := es.trans E8
  have ap := ap.ext E8
  have al1 := al1.ext E8
  have z8 := E8.size
  have al2 := al2.mono (B' := Between w7 w8) fun _ hb h => ⟨h, hb⟩
  refine callV_of (implLoseAgain_ok ap.plan al1.ints al2.ints (by omega) (by omega)) rfl ?_
  rintro _ w9 ⟨xg0, rfl, E9, g0⟩
  have e0 := e0.trans E9
  have es := es.trans E9
  have ap := ap.ext E9
  have al1 := al1.ext E9
  have al2 := al2.ext E9
  have z9 := E9.size
  have g0 := g0.mono (B' := Between w8 w9) fun _ hb h => ⟨h, hb⟩
  try simp only [go_sem]
  refine callV_of (eqIntS_ok g0.ints (r0.ext es) (by omega)) rfl ?_
  rintro _ w10 ⟨E10, rfl⟩
  have e0 := e0.trans E10
  have es := es.trans E10
  have ap := ap.ext E10
  have al1 := al1.ext E10
  have al2 := al2.ext E10
  have g0 := g0.ext E10
  have z10 := E10.size
  try simp only [go_sem]
  refine ⟨fun h => by simp at h, fun _ => ?_⟩
  try simp only [go_sem]
  refine ⟨fun h => by simp at h, fun _ => ?_⟩
  refine callV_of (toNodeS_ok (qp.ext e0)) rfl fun xyp w11 ⟨E11, yp⟩ => ?_
  have e0 := e0.trans E11
  have es := es.trans E11
  have ap := ap.ext E11
  have al1 := al1.ext E11
  have al2 := al2.ext E11
  have g0 := g0.ext E11
  have z11 := E11.size
  have yp := yp.mono (B' := Between w10 w11) fun _ hb h => ⟨h, hb⟩
  refine callV_of (eqNodeS_ok ap.plan yp.plan) rfl ?_
  rintro _ w12 ⟨E12, rfl⟩
  have e0 := e0.trans E12
  have es := es.trans E12
  have ap := ap.ext E12
  have al1 := al1.ext E12
  have al2 := al2.ext E12
  have g0 := g0.ext E12
  have z12 := E12.size
  try simp only [go_sem]
  refine ⟨fun h => by simp at h, fun _ => ?_⟩
  refine callV_of (toIntS_ok (hl1.ext e0) (by omega)) rfl fun xyl1 w13 ⟨E13, yl1⟩ => ?_
  have e0 := e0.trans E13
  have es := es.trans E13
  have ap := ap.ext E13
  have al1 := al1.ext E13
  have al2 := al2.ext E13
  have g0 := g0.ext E13
  have z13 := E13.size
  have yl1 := yl1.mono (B' := Between w12 w13) fun _ hb h => ⟨h, hb⟩
  refine callV_of (eqIntS_ok al1.ints yl1.ints (by omega)) rfl ?_
  rintro _ w14 ⟨E14, rfl⟩
  have e0 := e0.trans E14
  have es := es.trans E14
  have ap := ap.ext E14
  have al1 := al1.ext E14
  have al2 := al2.ext E14
  have g0 := g0.ext E14
  have z14 := E14.size
  try simp only [go_sem]
  refine ⟨fun h => by simp at h, fun _ => ?_⟩
  refine callV_of (toIntS_ok (hl2.ext e0) (by omega)) rfl fun xyl2 w15 ⟨E15, yl2⟩ => ?_
  have e0 := e0.trans E15
  have es := es.trans E15
  have ap := ap.ext E15
  have al1 := al1.ext E15
  have al2 := al2.ext E15
  have g0 := g0.ext E15
  have z15 := E15.size
  have yl2 := yl2.mono (B' := Between w14 w15) fun _ hb h => ⟨h, hb⟩
  refine callV_of (eqIntS_ok al2.ints yl2.ints (by omega)) rfl ?_
  rintro _ w16 ⟨E16, rfl⟩
  have e0 := e0.trans E16
  have es := es.trans E16
  have ap := ap.ext E16
  have al1 := al1.ext E16
  have al2 := al2.ext E16
  have g0 := g0.ext E16
  have z16 := E16.size
  try simp only [go_sem]
  refine ⟨fun h => by simp at h, fun _ => ?_⟩
  refine callV_of (markNodeS_ok (k := 1) ap (by omega)) rfl ?_
  rintro _ w17 ⟨rfl, C17, z17, ap⟩
  have e0 := Chg.ext (e0.then C17) fun k hk h => by obtain ⟨h1, h2⟩ := h; omega
  have es := Chg.ext (es.then C17) fun k hk h => by obtain ⟨h1, h2⟩ := h; omega
  have al1 := al1.keep C17 fun k h1 h2 => by obtain ⟨h1, h3⟩ := h1; obtain ⟨h2, h4⟩ := h2; omega
  have al2 := al2.keep C17 fun k h1 h2 => by obtain ⟨h1, h3⟩ := h1; obtain ⟨h2, h4⟩ := h2; omega
  have g0 := g0.keep C17 fun k h1 h2 => by obtain ⟨h1, h3⟩ := h1; obtain ⟨h2, h4⟩ := h2; omega
  refine callV_of (markIntS_ok (k := 1 + offP (p) (p).length) al1 (by omega)) rfl ?_
  rintro _ w18 ⟨rfl, C18, z18, al1⟩
  have e0 := Chg.ext (e0.then C18) fun k hk h => by obtain ⟨h1, h2⟩ := h; omega
  have es := Chg.ext (es.then C18) fun k hk h => by obtain ⟨h1, h2⟩ := h; omega
  have al2 := al2.keep C18 fun k h1 h2 => by obtain ⟨h1, h3⟩ := h1; obtain ⟨h2, h4⟩ := h2; omega
  have g0 := g0.keep C18 fun k h1 h2 => by obtain ⟨h1, h3⟩ := h1; obtain ⟨h2, h4⟩ := h2; omega
  have ap := ap.keep C18 fun k _ h1 h2 => by obtain ⟨h1, h3⟩ := h1; obtain ⟨h2, h4⟩ := h2; omega
  refine callV_of (markIntS_ok (k := 1 + offP (p) (p).length + (l1).length) al2 (by omega)) rfl ?_
  rintro _ w19 ⟨rfl, C19, z19, al2⟩
  have e0 := Chg.ext (e0.then C19) fun k hk h => by obtain ⟨h1, h2⟩ := h; omega
  have es := Chg.ext (es.then C19) fun k hk h => by obtain ⟨h1, h2⟩ := h; omega
  have g0 := g0.keep C19 fun k h1 h2 => by obtain ⟨h1, h3⟩ := h1; obtain ⟨h2, h4⟩ := h2; omega
  have ap := ap.keep C19 fun k _ h1 h2 => by obtain ⟨h1, h3⟩ := h1; obtain ⟨h2, h4⟩ := h2; omega
  have al1 := al1.keep C19 fun k h1 h2 => by obtain ⟨h1, h3⟩ := h1; obtain ⟨h2, h4⟩ := h2; omega
  try simp only [go_sem]
  refine ⟨fun h => absurd h (by omega), fun _ => ?_⟩
  refine callV_of (eqIntS_ok g0.ints (r0.ext es) (by omega)) rfl ?_
  rintro _ w20 ⟨E20, rfl⟩
  have e0 := e0.trans E20
  have es := es.trans E20
  have g0 := g0.ext E20
  have z20 := E20.size
  try simp only [go_sem]
  refine ⟨fun h => by simp at h, fun _ => ?_⟩
  try simp only [go_sem]
  refine ⟨fun h => by simp at h, fun _ => ?_⟩
  refine callV_of (markIntS_ok (k := 1) g0 (by omega)) rfl ?_
  rintro _ w21 ⟨rfl, C21, z21, g0⟩
  have e0 := Chg.ext (e0.then C21) fun k hk h => by obtain ⟨h1, h2⟩ := h; omega
  have es := Chg.ext (es.then C21) fun k hk h => by obtain ⟨h1, h2⟩ := h; omega
  refine callV_of (heldIntS_ok (k := 1) g0.ints (by omega)) rfl ?_
  rintro _ w22 ⟨rfl, E22⟩
  have e0 := e0.trans E22
  have es := es.trans E22
  have g0 := g0.ext E22
  have z22 := E22.size
  try simp only [go_sem]
  refine ⟨fun h => absurd h (by omega), fun _ => ?_⟩
  try simp only [go_sem]
  refine ⟨fun h => by simp at h, fun _ => ?_⟩
  refine callV_of (toNodeS_ok (qp.ext e0)) rfl fun xup w23 ⟨E23, up⟩ => ?_
  have e0 := e0.trans E23
  have es := es.trans E23
  have g0 := g0.ext E23
  have z23 := E23.size
  have up := up.mono (B' := Between w22 w23) fun _ hb h => ⟨h, hb⟩
  refine callV_of (toIntS_ok (hl1.ext e0) (by omega)) rfl fun xul1 w24 ⟨E24, ul1⟩ => ?_
  have e0 := e0.trans E24
  have es := es.trans E24
  have g0 := g0.ext E24
  have up := up.ext E24
  have z24 := E24.size
  have ul1 := ul1.mono (B' := Between w23 w24) fun _ hb h => ⟨h, hb⟩
  refine callV_of (toIntS_ok (hl2.ext e0) (by omega)) rfl fun xul2 w25 ⟨E25, ul2⟩ => ?_
  have e0 := e0.trans E25
  have es := es.trans E25
  have g0 := g0.ext E25
  have up := up.ext E25
  have ul1 := ul1.ext E25
  have z25 := E25.size
  have ul2 := ul2.mono (B' := Between w24 w25) fun _ hb h => ⟨h, hb⟩
  refine callV_of (implLoseAgain_ok up.plan ul1.ints ul2.ints (by omega) (by omega)) rfl ?_
  rintro _ w26 ⟨xk0, rfl, E26, k0⟩
  have e0 := e0.trans E26
  have es := es.trans E26
  have g0 := g0.ext E26
  have up := up.ext E26
  have ul1 := ul1.ext E26
  have ul2 := ul2.ext E26
  have z26 := E26.size
  have k0 := k0.mono (B' := Between w25 w26) fun _ hb h => ⟨h, hb⟩
  try simp only [go_sem]
  refine callV_of (eqIntS_ok k0.ints (r0.ext es) (by omega)) rfl ?_
  rintro _ w27 ⟨E27, rfl⟩
  have e0 := e0.trans E27
  have es := es.trans E27
  have g0 := g0.ext E27
  have k0 := k0.ext E27
  have z27 := E27.size
  try simp only [go_sem]
  refine ⟨fun h => by simp at h, fun _ => ?_⟩
  try simp only [go_sem]
  refine ⟨fun h => by simp at h, fun _ => ?_⟩
  refine callV_of (heldIntS_ok (k := 1) g0.ints (by omega)) rfl ?_
  rintro _ w28 ⟨rfl, E28⟩
  have e0 := e0.trans E28
  have es := es.trans E28
  have g0 := g0.ext E28
  have z28 := E28.size
  try simp only [go_sem]
  refine ⟨fun h => absurd h (by omega), fun _ => ?_⟩
  try simp only [go_sem]
  refine ⟨fun h => by simp at h, fun _ => ?_⟩
  exact hR _ _ ⟨e0, rfl⟩
end Go.Proofs.Ytokfjjjfecblgaa
