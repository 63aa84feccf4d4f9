/-
The program's FoldNode returns what the reference's returns, for all arguments: the law FnExactFoldNode returns true, and writes nothing that was there.
No condition.
-/
import Derived.Test.YtblgkpfnjlobjaaExact
import Derived.Test.YtblgkpfnjlobjaaFoldS
import Derived.Test.YtblgkpfnjlobjaaHeld
import Derived.Test.YtblgkpfnjlobjaaCFnExactFoldNode
namespace Go.Proofs.Ytblgkpfnjlobjaa
open Go Go.V

set_option maxHeartbeats 1600000 in
theorem exactFoldNode_ok {w : World} {vp : Value} {p : List Nd} {n : Int} (hp : PlanRaw w vp p) (hn : -9223372036854775808 ≤ n ∧ n ≤ 9223372036854775807) : Calls Try.prog N.laws_FnExactFoldNode #[vp, .int .i64 n] w (Ret fun r w' => Ext w w' ∧ r = .bool true) := by
  refine ret_k fun R hR => c_laws_FnExactFoldNode _ _ _ _ ?_
  have e0 : Ext w w := Ext.refl _
  refine callV_of (szNodeS_ok (hp.ext e0) (by omega) (by omega)) rfl ?_
  rintro _ w1 ⟨E1, mp, rfl, mp0, mp1, qp⟩
  have e0 := e0.trans E1
  have z1 := E1.size
  simp only [go_sem]
  refine ⟨fun _ => hR _ _ ⟨e0, rfl⟩, fun sp => ?_⟩
  obtain ⟨qp, qp'⟩ := qp (by omega)
  have ofp := offP_le (p := p) (j := p.length) fun i hi => by rw [nd_get hi]; exact qp' _ (List.getElem_mem hi)
  have qp := hp.plan qp qp'
  have hz := foldO_len p [n]
  have hpl := qp.small
  have z0 := e0.size
  refine callV_of (toNodeS_ok (qp.ext e0)) rfl fun xsp w2 ⟨E2, sp⟩ => ?_
  have e0 := e0.trans E2
  have z2 := E2.size
  have sp := sp.mono (B' := Between w1 w2) fun _ hb h => ⟨h, hb⟩
  refine callV_of (specFoldNode_ok sp.plan n ) rfl ?_
  rintro _ w3 ⟨xr0, rfl, E3, r0⟩
  have e0 := e0.trans E3
  have sp := sp.ext E3
  have z3 := E3.size
  have r0 := r0.plan
  try simp only [go_sem]
  have es : Ext w3 w3 := Ext.refl _
  have zs := e0.size
  refine callV_of (toNodeS_ok (qp.ext e0)) rfl fun xap w4 ⟨E4, ap⟩ => ?_
  have e0 := e0.trans E4
  have es := es.trans E4
  have z4 := E4.size
  have ap := ap.mono (B' := Between w3 w4) fun _ hb h => ⟨h, hb⟩
  refine callV_of (implFoldNode_ok ap.plan n ) rfl ?_
  rintro _ w5 ⟨xg0, rfl, E5, g0⟩
  have e0 := e0.trans E5
  have es := es.trans E5
  have ap := ap.ext E5
  have z5 := E5.size
  have g0 := g0.mono (B' := Between w4 w5) fun _ hb h => ⟨h, hb⟩
  have smg0 : ∀ i, i < (foldO p [n]).length → Sml (nd (foldO p [n]) i) := fun i hi => g0.sml hi
  have ofg0 := offP_le (p := foldO p [n]) (j := (foldO p [n]).length) smg0
  have lng0 := g0.plan.small
  try simp only [go_sem]
  refine callV_of (eqNodeS_ok g0.plan (r0.ext es)) rfl ?_
  rintro _ w6 ⟨E6, rfl⟩
  have e0 := e0.trans E6
  have es := es.trans E6
  have ap := ap.ext E6
  have g0 := g0.ext E6
  have z6 := E6.size
  try simp only [go_sem]
  refine ⟨fun h => by simp at h, fun _ => ?_⟩
  try simp only [go_sem]
  refine ⟨fun h => by simp at h, fun _ => ?_⟩
  refine callV_of (toNodeS_ok (qp.ext e0)) rfl fun xyp w7 ⟨E7, yp⟩ => ?_
  have e0 := e0.trans E7
  have es := es.trans E7
  have ap := ap.ext E7
  have g0 := g0.ext E7
  have z7 := E7.size
  have yp := yp.mono (B' := Between w6 w7) fun _ hb h => ⟨h, hb⟩
  refine callV_of (eqNodeS_ok ap.plan yp.plan) rfl ?_
  rintro _ w8 ⟨E8, rfl⟩
  have e0 := e0.trans E8
  have es := es.trans E8
  have ap := ap.ext E8
  have g0 := g0.ext E8
  have z8 := E8.size
  try simp only [go_sem]
  refine ⟨fun h => by simp at h, fun _ => ?_⟩
  refine callV_of (markNodeS_ok (k := 1) ap (by omega)) rfl ?_
  rintro _ w9 ⟨rfl, C9, z9, ap⟩
  have e0 := Chg.ext (e0.then C9) fun k hk h => by obtain ⟨h1, h2⟩ := h; omega
  have es := Chg.ext (es.then C9) fun k hk h => by obtain ⟨h1, h2⟩ := h; omega
  have g0 := g0.keep C9 fun k _ h1 h2 => by obtain ⟨h1, h3⟩ := h1; obtain ⟨h2, h4⟩ := h2; omega
  try simp only [go_sem]
  refine ⟨fun h => absurd h (by omega), fun _ => ?_⟩
  refine callV_of (eqNodeS_ok g0.plan (r0.ext es)) rfl ?_
  rintro _ w10 ⟨E10, rfl⟩
  have e0 := e0.trans E10
  have es := es.trans E10
  have g0 := g0.ext E10
  have z10 := E10.size
  try simp only [go_sem]
  refine ⟨fun h => by simp at h, fun _ => ?_⟩
  try simp only [go_sem]
  refine ⟨fun h => by simp at h, fun _ => ?_⟩
  refine callV_of (markNodeS_ok (k := 1) g0 (by omega)) rfl ?_
  rintro _ w11 ⟨rfl, C11, z11, g0⟩
  have e0 := Chg.ext (e0.then C11) fun k hk h => by obtain ⟨h1, h2⟩ := h; omega
  have es := Chg.ext (es.then C11) fun k hk h => by obtain ⟨h1, h2⟩ := h; omega
  refine callV_of (heldNodeS_ok (k := 1) (p := foldO p [n]) g0.plan smg0 (by omega)) rfl ?_
  rintro _ w12 ⟨rfl, E12⟩
  have e0 := e0.trans E12
  have es := es.trans E12
  have g0 := g0.ext E12
  have z12 := E12.size
  try simp only [go_sem]
  refine ⟨fun h => absurd h (by omega), fun _ => ?_⟩
  try simp only [go_sem]
  refine ⟨fun h => by simp at h, fun _ => ?_⟩
  refine callV_of (toNodeS_ok (qp.ext e0)) rfl fun xup w13 ⟨E13, up⟩ => ?_
  have e0 := e0.trans E13
  have es := es.trans E13
  have g0 := g0.ext E13
  have z13 := E13.size
  have up := up.mono (B' := Between w12 w13) fun _ hb h => ⟨h, hb⟩
  refine callV_of (implFoldNode_ok up.plan n ) rfl ?_
  rintro _ w14 ⟨xk0, rfl, E14, k0⟩
  have e0 := e0.trans E14
  have es := es.trans E14
  have g0 := g0.ext E14
  have up := up.ext E14
  have z14 := E14.size
  have k0 := k0.mono (B' := Between w13 w14) fun _ hb h => ⟨h, hb⟩
  try simp only [go_sem]
  refine callV_of (eqNodeS_ok k0.plan (r0.ext es)) rfl ?_
  rintro _ w15 ⟨E15, rfl⟩
  have e0 := e0.trans E15
  have es := es.trans E15
  have g0 := g0.ext E15
  have k0 := k0.ext E15
  have z15 := E15.size
  try simp only [go_sem]
  refine ⟨fun h => by simp at h, fun _ => ?_⟩
  try simp only [go_sem]
  refine ⟨fun h => by simp at h, fun _ => ?_⟩
  refine callV_of (heldNodeS_ok (k := 1) (p := foldO p [n]) g0.plan smg0 (by omega)) rfl ?_
  rintro _ w16 ⟨rfl, E16⟩
  have e0 := e0.trans E16
  have es := es.trans E16
  have g0 := g0.ext E16
  have z16 := E16.size
  try simp only [go_sem]
  refine ⟨fun h => absurd h (by omega), fun _ => ?_⟩
  try simp only [go_sem]
  refine ⟨fun h => by simp at h, fun _ => ?_⟩
  exact hR _ _ ⟨e0, rfl⟩
end Go.Proofs.Ytblgkpfnjlobjaa
