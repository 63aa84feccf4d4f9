/-
What was pushed is popped: the law FnPush returns true at every seed, and writes nothing that was there.
No condition.
-/
import Derived.Test.YtinpkcjfnljigaaDrawDeque
import Derived.Test.YtinpkcjfnljigaaDeqApi
import Derived.Test.YtinpkcjfnljigaaCounts
import Derived.Test.YtinpkcjfnljigaaCFnPush
namespace Go.Proofs.Ytinpkcjfnljigaa
open Go Go.V

theorem fnPush_ok {w : World} {v : Value} {bs : List Int} (hx : RowIn .u8 w v bs) : Calls Try.prog N.laws_FnPush #[v] w (Ret fun r w' => Ext w w' ∧ r = .bool true) := by
  obtain ⟨a, c, hv, hc, _⟩ := hx.out
  refine ret_k fun R hR => c_laws_FnPush _ _ _ ?_
  have e0 : LenV v = LenV (.slice a bs.length c) := by rw [hv]
  rw [e0]
  simp only [go_sem]
  refine ⟨fun _ => hR _ _ ⟨Ext.refl _, rfl⟩, fun hlen => ?_⟩
  refine callV_of (drawDequePush_ok hx) rfl ?_
  rintro _ w1 ⟨E1, t18, xs, x, rfl, hs, f18, hx1, hx2⟩
  have hs1 := hs.1
  simp only [go_sem]
  refine callV_of (implDequePush_ok (x := x) f18.ints (by omega)) rfl ?_
  rintro _ w2 ⟨t24, rfl, E2, f24⟩
  simp only [go_sem]
  refine callV_of (specDequePush_ok (x := x) (f18.ext E2).ints (by omega)) rfl ?_
  rintro _ w3 ⟨t30, rfl, E3, f30⟩
  simp only [go_sem]
  have e3 := (E1.trans E2).trans E3
  have F24 := f24.ext E3
  have F18 := (f18.ext E2).ext E3
  have hlen' : (pushOf xs x).1.length ≤ 13 := by
    unfold pushOf; split <;> simp; omega
  refine ⟨fun h => by simp at h, fun _ => ?_⟩
  refine callV_of (sameRow_ok F24.ints f30.ints (by omega)) rfl fun t38 w5 ⟨E5, h38⟩ => ?_
  subst h38
  simp only [go_sem]
  refine ⟨fun h => by simp at h, fun _ => ?_⟩
  have e5 := e3.trans E5
  by_cases hd : DqOk (xs ++ [x])
  · have hp : pushOf xs x = (xs ++ [x], true) := if_pos hd
    rw [hp] at F24 ⊢
    simp only [go_sem]
    refine ⟨fun h => by simp at h, fun _ => ?_⟩
    refine callV_of (implDequePop_ok (F24.ext E5).ints (by simp; omega)) rfl ?_
    rintro _ w8 ⟨t56, rfl, E8, f56⟩
    have hpop : popOf (xs ++ [x]) = (xs, x, true) := by simp [popOf, hd]
    rw [hpop] at f56 ⊢
    simp only [go_sem]
    refine callV_of (implDequeValid_ok ((F24.ext E5).ext E8).ints (by simp; omega)) rfl ?_
    rintro _ w9 ⟨E9, rfl⟩
    simp only [go_sem]
    refine ⟨fun _ => ⟨fun _ => ⟨fun _ => ?_, fun h => absurd trivial h⟩, fun h => by simp at h⟩, fun h => absurd hd h⟩
    refine callV_of (sameRow_ok (f56.ext E9).ints (((F18.ext E5).ext E8).ext E9).ints (by show xs.length < _; omega)) rfl fun t72 w10 ⟨E10, h72⟩ => ?_
    subst h72
    exact hR _ _ ⟨((e5.trans E8).trans E9).trans E10, by simp⟩
  · have hp : pushOf xs x = ([], false) := if_neg hd
    rw [hp] at F24 f30 ⊢
    simp only [go_sem]
    refine ⟨fun _ => ⟨fun _ => ?_, fun h => by simp at h⟩, fun h => by simp at h⟩
    refine callV_of (sameRow_ok (F24.ext E5).ints (f30.ext E5).ints (by simp)) rfl fun t51 w6 ⟨E6, h51⟩ => ?_
    subst h51
    exact hR _ _ ⟨e5.trans E6, by simp⟩
end Go.Proofs.Ytinpkcjfnljigaa
