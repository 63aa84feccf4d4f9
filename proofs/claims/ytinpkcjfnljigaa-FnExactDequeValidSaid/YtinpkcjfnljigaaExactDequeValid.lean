/-
The program's DequeValid returns what the reference's returns, for all arguments: the law FnExactDequeValid returns true at every slice of integers, and writes nothing that was there.
No condition.
-/
import Derived.Test.YtinpkcjfnljigaaDeqValid
import Derived.Test.YtinpkcjfnljigaaCFnExactDequeValid
namespace Go.Proofs.Ytinpkcjfnljigaa
open Go Go.V

theorem exactDequeValid_ok {w : World} {v : Value} {xs : List Int} (hx : RowIn .i64 w v xs) : Calls Try.prog N.laws_FnExactDequeValid #[v] w (Ret fun r w' => Ext w w' ∧ r = .bool true) := by
  replace hx := hx.ints
  obtain ⟨a, c, hv, hc, _⟩ := hx.out
  refine ret_k fun R hR => c_laws_FnExactDequeValid _ _ _ ?_
  have e0 : LenV v = LenV (.slice a xs.length c) := by rw [hv]
  rw [e0]
  simp only [go_sem]
  refine ⟨fun _ => hR _ _ ⟨Ext.refl _, rfl⟩, fun hlen => ?_⟩
  refine callV_of (toIntS_ok hx (by omega)) rfl fun t10 w1 ⟨E1, f10⟩ => ?_
  refine callV_of (specDequeValid_ok f10.ints (by omega)) rfl fun t11 w2 ⟨E2, h11⟩ => ?_
  subst h11
  have e2 := E1.trans E2
  refine callV_of (toIntS_ok (hx.ext e2) (by omega)) rfl fun t13 w3 ⟨E3, f13⟩ => ?_
  have e3 := e2.trans E3
  refine callV_of (implDequeValid_ok f13.ints (by omega)) rfl fun t15 w4 ⟨E4, h15⟩ => ?_
  subst h15
  have e4 := e3.trans E4
  simp only [go_sem]
  refine ⟨fun h => by simp at h, fun _ => ?_⟩
  refine callV_of (toIntS_ok (hx.ext e4) (by omega)) rfl fun t21 w5 ⟨E5, f21⟩ => ?_
  refine callV_of (eqIntS_ok ((f13.ext E4).ext E5).ints f21.ints (by omega)) rfl fun t22 w6 ⟨E6, h22⟩ => ?_
  subst h22
  simp only [go_sem]
  exact ⟨fun h => by simp at h, fun _ => hR _ _ ⟨(e4.trans E5).trans E6, rfl⟩⟩
end Go.Proofs.Ytinpkcjfnljigaa
