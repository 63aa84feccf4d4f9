/-
The program's DequePop returns what the reference's returns, for all arguments: the law FnExactDequePop returns true at every slice of integers, and writes nothing that was there.
No condition.
-/
import Derived.Test.YtinpkcjfnljigaaDeqApi
import Derived.Test.YtinpkcjfnljigaaCounts
import Derived.Test.YtinpkcjfnljigaaCFnExactDequePop
namespace Go.Proofs.Ytinpkcjfnljigaa
open Go Go.V

theorem exactDequePop_ok {w : World} {v : Value} {xs : List Int} (hx : RowIn .i64 w v xs) : Calls Try.prog N.laws_FnExactDequePop #[v] w (Ret fun r w' => Ext w w' ∧ r = .bool true) := by
  replace hx := hx.ints
  obtain ⟨a, c, hv, hc, _⟩ := hx.out
  refine ret_k fun R hR => c_laws_FnExactDequePop _ _ _ ?_
  have e0 : LenV v = LenV (.slice a xs.length c) := by rw [hv]
  rw [e0]
  simp only [go_sem]
  refine ⟨fun _ => hR _ _ ⟨Ext.refl _, rfl⟩, fun hlen => ?_⟩
  have hz : (popOf xs).1.length ≤ xs.length := by
    unfold popOf; split <;> simp
  refine callV_of (toIntS_ok hx (by omega)) rfl fun t14 w1 ⟨E1, f14⟩ => ?_
  refine callV_of (specDequePop_ok f14.ints (by omega)) rfl ?_
  rintro _ w2 ⟨t15, rfl, E2, f15⟩
  simp only [go_sem]
  have F15 := f15.mono (B' := Between w1 w2) fun b hb h => ⟨h, hb⟩
  have e2 := E1.trans E2
  refine callV_of (toIntS_ok (hx.ext e2) (by omega)) rfl fun t17 w3 ⟨E3, f17⟩ => ?_
  have F17 := f17.mono (B' := Between w2 w3) fun b hb h => ⟨h, hb⟩
  have e3 := e2.trans E3
  refine callV_of (implDequePop_ok f17.ints (by omega)) rfl ?_
  rintro _ w4 ⟨t19, rfl, E4, f19⟩
  simp only [go_sem]
  have e4 := e3.trans E4
  have G15 := (F15.ext E3).ext E4
  have G17 := F17.ext E4
  refine callV_of (eqIntS_ok f19.ints G15.ints (by omega)) rfl fun t22 w5 ⟨E5, h22⟩ => ?_
  subst h22
  simp only [go_sem]
  refine ⟨fun h => by simp at h, fun _ => ⟨fun h => absurd rfl h, fun _ => ⟨fun h => by simp at h, fun _ => ?_⟩⟩⟩
  have e5 := e4.trans E5
  refine callV_of (toIntS_ok (hx.ext e5) (by omega)) rfl fun t26 w6 ⟨E6, f26⟩ => ?_
  have e6 := e5.trans E6
  refine callV_of (eqIntS_ok ((G17.ext E5).ext E6).ints f26.ints (by omega)) rfl fun t27 w7 ⟨E7, h27⟩ => ?_
  subst h27
  simp only [go_sem]
  refine ⟨fun h => by simp at h, fun _ => ?_⟩
  have K17 := ((G17.ext E5).ext E6).ext E7
  refine callV_of (markIntS_ok (k := 1) K17 (by omega)) rfl fun t31 w8 ⟨h31, C8, s8, _⟩ => ?_
  subst h31
  simp only [go_sem]
  refine ⟨fun h => absurd h (by omega), fun _ => ?_⟩
  have e8 : Ext w w8 := Chg.ext ((e6.trans E7).then C8) fun n hn h => by have := h.1; have := e2.size; omega
  have K19 := (((f19.mono (B' := Between w3 w4) fun b hb h => ⟨h, hb⟩).ext E5).ext E6).ext E7
  have L19 := K19.keep C8 fun k h1 h2 => by have := h1.1; have := h2.2; omega
  have L15 := (((G15.ext E5).ext E6).ext E7).keep C8 fun k h1 h2 => by have := h1.2; have := h2.1; omega
  refine callV_of (eqIntS_ok L19.ints L15.ints (by omega)) rfl fun t37 w9 ⟨E9, h37⟩ => ?_
  subst h37
  simp only [go_sem]
  refine ⟨fun h => by simp at h, fun _ => ⟨fun h => absurd rfl h, fun _ => ⟨fun h => by simp at h, fun _ => ?_⟩⟩⟩
  refine callV_of (markIntS_ok (k := 1) (L19.ext E9) (by omega)) rfl fun t42 w10 ⟨h42, C10, s10, f10⟩ => ?_
  subst h42
  have e10 : Ext w w10 := Chg.ext ((e8.trans E9).then C10) fun n hn h => by have := h.1; have := e3.size; omega
  have L15' := (L15.ext E9).keep C10 fun k h1 h2 => by have := h1.2; have := h2.1; have := E3.size; omega
  refine callV_of (heldIntS_ok f10.ints (by omega)) rfl fun t45 w11 ⟨h45, E11⟩ => ?_
  subst h45
  simp only [go_sem]
  refine ⟨fun h => absurd h (by omega), fun _ => ⟨fun h => by simp at h, fun _ => ?_⟩⟩
  have e11 := e10.trans E11
  refine callV_of (toIntS_ok (hx.ext e11) (by omega)) rfl fun t52 w12 ⟨E12, f52⟩ => ?_
  refine callV_of (implDequePop_ok f52.ints (by omega)) rfl ?_
  rintro _ w13 ⟨t53, rfl, E13, f53⟩
  simp only [go_sem]
  have L15'' := ((L15'.ext E11).ext E12).ext E13
  refine callV_of (eqIntS_ok f53.ints L15''.ints (by omega)) rfl fun t56 w14 ⟨E14, h56⟩ => ?_
  subst h56
  simp only [go_sem]
  refine ⟨fun h => by simp at h, fun _ => ⟨fun h => absurd rfl h, fun _ => ⟨fun h => by simp at h, fun _ => ?_⟩⟩⟩
  refine callV_of (heldIntS_ok ((((f10.ext E11).ext E12).ext E13).ext E14).ints (by omega)) rfl fun t60 w15 ⟨h60, E15⟩ => ?_
  subst h60
  simp only [go_sem]
  refine ⟨fun h => absurd h (by omega), fun _ => ⟨fun h => by simp at h, fun _ => ?_⟩⟩
  exact hR _ _ ⟨(((e11.trans E12).trans E13).trans E14).trans E15, rfl⟩
end Go.Proofs.Ytinpkcjfnljigaa
