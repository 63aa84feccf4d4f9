/-
The program's FoldAll returns what the reference's returns, for all arguments: the law FnExactFoldAll returns true, and writes nothing that was there.
No condition.
-/
import Derived.Test.YtblgkpfnjlobjaaExact
import Derived.Test.YtblgkpfnjlobjaaFoldS
import Derived.Test.YtblgkpfnjlobjaaHeld
import Derived.Test.YtblgkpfnjlobjaaCFnExactFoldAll
namespace Go.Proofs.Ytblgkpfnjlobjaa
open Go Go.V

set_option maxHeartbeats 1600000 in
theorem exactFoldAll_ok {w : World} {vp : Value} {p : List Nd} {vl : Value} {l : List Int} (hp : PlanRaw w vp p) (hl : Ints w vl l) : Calls Try.prog N.laws_FnExactFoldAll #[vp, vl] w (Ret fun r w' => Ext w w' ∧ r = .bool true) := by
  refine ret_k fun R hR => c_laws_FnExactFoldAll _ _ _ _ ?_
  have e0 : Ext w w := Ext.refl _
  have lenl : ∀ K, LenV vl K = K (.int .i64 l.length) := fun K => ints_len hl
  simp only [lenl, go_sem]
  refine ⟨fun _ => hR _ _ ⟨e0, rfl⟩, fun hll => ?_⟩
  refine callV_of (szNodeS_ok (hp.ext e0) (by omega) (by omega)) rfl ?_
  rintro _ w1 ⟨E1, mp, rfl, mp0, mp1, qp⟩
  have e0 := e0.trans E1
  have z1 := E1.size
  simp only [go_sem]
  refine ⟨fun _ => hR _ _ ⟨e0, rfl⟩, fun sp => ?_⟩
  obtain ⟨qp, qp'⟩ := qp (by omega)
  have ofp := offP_le (p := p) (j := p.length) fun i hi => by rw [nd_get hi]; exact qp' _ (List.getElem_mem hi)
  have qp := hp.plan qp qp'
  have hz := foldO_len p l
  have hpl := qp.small
  have z0 := e0.size
  refine callV_of (toNodeS_ok (qp.ext e0)) rfl fun xsp w2 ⟨E2, sp⟩ => ?_
  have e0 := e0.trans E2
  have z2 := E2.size
  have sp := sp.mono (B' := Between w1 w2) fun _ hb h => ⟨h, hb⟩
  refine callV_of (toIntS_ok (hl.ext e0) (by omega)) rfl fun xsl w3 ⟨E3, sl⟩ => ?_
  have e0 := e0.trans E3
  have sp := sp.ext E3
  have z3 := E3.size
  have sl := sl.mono (B' := Between w2 w3) fun _ hb h => ⟨h, hb⟩
  refine callV_of (specFoldAll_ok sp.plan sl.ints (by omega)) rfl ?_
  rintro _ w4 ⟨xr0, rfl, E4, r0⟩
  have e0 := e0.trans E4
  have sp := sp.ext E4
  have sl := sl.ext E4
  have z4 := E4.size
  have r0 := r0.plan
  try simp only [go_sem]
  have es : Ext w4 w4 := Ext.refl _
  have zs := e0.size
  refine callV_of (toNodeS_ok (qp.ext e0)) rfl fun xap w5 ⟨E5, ap⟩ => ?_
  have e0 := e0.trans E5
  have es := es.trans E5
  have z5 := E5.size
  have ap := ap.mono (B' := Between w4 w5) fun _ hb h => ⟨h, hb⟩
  refine callV_of (toIntS_ok (hl.ext e0) (by omega)) rfl fun xal w6 ⟨E6, al⟩ => ?_
  have e0 := e0.trans E6
  have es := es.trans E6
  have ap := ap.ext E6
  have z6 := E6.size
  have al := al.mono (B' := Between w5 w6) fun _ hb h => ⟨h, hb⟩
  refine callV_of (implFoldAll_ok ap.plan al.ints (by omega)) rfl ?_
  rintro _ w7 ⟨xg0, rfl, E7, g0⟩
  have e0 := e0.trans E7
  have es := es.trans E7
  have ap := ap.ext E7
  have al := al.ext E7
  have z7 := E7.size
  have g0 := g0.mono (B' := Between w6 w7) fun _ hb h => ⟨h, hb⟩
  have smg0 : ∀ i, i < (foldO p l).length → Sml (nd (foldO p l) i) := fun i hi => g0.sml hi
  have ofg0 := offP_le (p := foldO p l) (j := (foldO p l).length) smg0
  have lng0 := g0.plan.small
  try simp only [go_sem]
  refine callV_of (eqNodeS_ok g0.plan (r0.ext es)) rfl ?_
  rintro _ w8 ⟨E8, rfl⟩
  have e0 := e0.trans E8
  have es := es.trans E8
  have ap := ap.ext E8
  have al := al.ext E8
  have g0 := g0.ext E8
  have z8 := E8.size
  try simp only [go_sem]
  refine ⟨fun h => by simp at h, fun _ => ?_⟩
  try simp only [go_sem]
  refine ⟨fun h => by simp at h, fun _ => ?_⟩
  refine callV_of (toNodeS_ok (qp.ext e0)) rfl fun xyp w9 ⟨E9, yp⟩ => ?_
  have e0 := e0.trans E9
  have es := es.trans E9
  have ap := ap.ext E9
  have al := al.ext E9
  have g0 := g0.ext E9
  have z9 := E9.size
  have yp := yp.mono (B' := Between w8 w9) fun _ hb h => ⟨h, hb⟩
  refine callV_of (eqNodeS_ok ap.plan yp.plan) rfl ?_
  rintro _ w10 ⟨E10, rfl⟩
  have e0 := e0.trans E10
  have es := es.trans E10
  have ap := ap.ext E10
  have al := al.ext E10
  have g0 := g0.ext E10
  have z10 := E10.size
  try simp only [go_sem]
  refine ⟨fun h => by simp at h, fun _ => ?_⟩
  refine callV_of (toIntS_ok (hl.ext e0) (by omega)) rfl fun xyl w11 ⟨E11, yl⟩ => ?_
  have e0 := e0.trans E11
  have es := es.trans E11
  have ap := ap.ext E11
  have al := al.ext E11
  have g0 := g0.ext E11
  have z11 := E11.size
  have yl := yl.mono (B' := Between w10 w11) fun _ hb h => ⟨h, hb⟩
  refine callV_of (eqIntS_ok al.ints yl.ints (by omega)) rfl ?_
  rintro _ w12 ⟨E12, rfl⟩
  have e0 := e0.trans E12
  have es := es.trans E12
  have ap := ap.ext E12
  have al := al.ext E12
  have g0 := g0.ext E12
  have z12 := E12.size
  try simp only [go_sem]
  refine ⟨fun h => by simp at h, fun _ => ?_⟩
  refine callV_of (markNodeS_ok (k := 1) ap (by omega)) rfl ?_
  rintro _ w13 ⟨rfl, C13, z13, ap⟩
  have e0 := Chg.ext (e0.then C13) fun k hk h => by obtain ⟨h1, h2⟩ := h; omega
  have es := Chg.ext (es.then C13) fun k hk h => by obtain ⟨h1, h2⟩ := h; omega
  have al := al.keep C13 fun k h1 h2 => by obtain ⟨h1, h3⟩ := h1; obtain ⟨h2, h4⟩ := h2; omega
  have g0 := g0.keep C13 fun k _ h1 h2 => by obtain ⟨h1, h3⟩ := h1; obtain ⟨h2, h4⟩ := h2; omega
  refine callV_of (markIntS_ok (k := 1 + offP (p) (p).length) al (by omega)) rfl ?_
  rintro _ w14 ⟨rfl, C14, z14, al⟩
  have e0 := Chg.ext (e0.then C14) fun k hk h => by obtain ⟨h1, h2⟩ := h; omega
  have es := Chg.ext (es.then C14) fun k hk h => by obtain ⟨h1, h2⟩ := h; omega
  have g0 := g0.keep C14 fun k _ h1 h2 => by obtain ⟨h1, h3⟩ := h1; obtain ⟨h2, h4⟩ := h2; omega
  have ap := ap.keep C14 fun k _ h1 h2 => by obtain ⟨h1, h3⟩ := h1; obtain ⟨h2, h4⟩ := h2; omega
  try simp only [go_sem]
  refine ⟨fun h => absurd h (by omega), fun _ => ?_⟩
  refine callV_of (eqNodeS_ok g0.plan (r0.ext es)) rfl ?_
  rintro _ w15 ⟨E15, rfl⟩
  have e0 := e0.trans E15
  have es := es.trans E15
  have g0 := g0.ext E15
  have z15 := E15.size
  try simp only [go_sem]
  refine ⟨fun h => by simp at h, fun _ => ?_⟩
  try simp only [go_sem]
  refine ⟨fun h => by simp at h, fun _ => ?_⟩
  refine callV_of (markNodeS_ok (k := 1) g0 (by omega)) rfl ?_
  rintro _ w16 ⟨rfl, C16, z16, g0⟩
  have e0 := Chg.ext (e0.then C16) fun k hk h => by obtain ⟨h1, h2⟩ := h; omega
  have es := Chg.ext (es.then C16) fun k hk h => by obtain ⟨h1, h2⟩ := h; omega
  refine callV_of (heldNodeS_ok (k := 1) (p := foldO p l) g0.plan smg0 (by omega)) rfl ?_
  rintro _ w17 ⟨rfl, E17⟩
  have e0 := e0.trans E17
  have es := es.trans E17
  have g0 := g0.ext E17
  have z17 := E17.size
  try simp only [go_sem]
  refine ⟨fun h => absurd h (by omega), fun _ => ?_⟩
  try simp only [go_sem]
  refine ⟨fun h => by simp at h, fun _ => ?_⟩
  refine callV_of (toNodeS_ok (qp.ext e0)) rfl fun xup w18 ⟨E18, up⟩ => ?_
  have e0 := e0.trans E18
  have es := es.trans E18
  have g0 := g0.ext E18
  have z18 := E18.size
  have up := up.mono (B' := Between w17 w18) fun _ hb h => ⟨h, hb⟩
  refine callV_of (toIntS_ok (hl.ext e0) (by omega)) rfl fun xul w19 ⟨E19, ul⟩ => ?_
  have e0 := e0.trans E19
  have es := es.trans E19
  have g0 := g0.ext E19
  have up := up.ext E19
  have z19 := E19.size
  have ul := ul.mono (B' := Between w18 w19) fun _ hb h => ⟨h, hb⟩
  refine callV_of (implFoldAll_ok up.plan ul.ints (by omega)) rfl ?_
  rintro _ w20 ⟨xk0, rfl, E20, k0⟩
  have e0 := e0.trans E20
  have es := es.trans E20
  have g0 := g0.ext E20
  have up := up.ext E20
  have ul := ul.ext E20
  have z20 := E20.size
  have k0 := k0.mono (B' := Between w19 w20) fun _ hb h => ⟨h, hb⟩
  try simp only [go_sem]
  refine callV_of (eqNodeS_ok k0.plan (r0.ext es)) rfl ?_
  rintro _ w21 ⟨E21, rfl⟩
  have e0 := e0.trans E21
  have es := es.trans E21
  have g0 := g0.ext E21
  have k0 := k0.ext E21
  have z21 := E21.size
  try simp only [go_sem]
  refine ⟨fun h => by simp at h, fun _ => ?_⟩
  try simp only [go_sem]
  refine ⟨fun h => by simp at h, fun _ => ?_⟩
  refine callV_of (heldNodeS_ok (k := 1) (p := foldO p l) g0.plan smg0 (by omega)) rfl ?_
  rintro _ w22 ⟨rfl, E22⟩
  have e0 := e0.trans E22
  have es := es.trans E22
  have g0 := g0.ext E22
  have z22 := E22.size
  try simp only [go_sem]
  refine ⟨fun h => absurd h (by omega), fun _ => ?_⟩
  try simp only [go_sem]
  refine ⟨fun h => by simp at h, fun _ => ?_⟩
  exact hR _ _ ⟨e0, rfl⟩
end Go.Proofs.Ytblgkpfnjlobjaa
