/-
A node is there once: the law FnPushOnce returns true at every seed, and writes nothing that was there.
No condition.
-/
import Derived.Test.YtinpkcjfnljigaaDrawDeque
import Derived.Test.YtinpkcjfnljigaaDeqApi
import Derived.Test.YtinpkcjfnljigaaCounts
import Derived.Test.YtinpkcjfnljigaaCFnPushOnce
namespace Go.Proofs.Ytinpkcjfnljigaa
open Go Go.V

theorem fnPushOnce_ok {w : World} {v : Value} {bs : List Int} (hx : RowIn .u8 w v bs) : Calls Try.prog N.laws_FnPushOnce #[v] w (Ret fun r w' => Ext w w' ∧ r = .bool true) := by
  obtain ⟨a, c, hv, hc, _⟩ := hx.out
  refine ret_k fun R hR => c_laws_FnPushOnce _ _ _ ?_
  have e0 : LenV v = LenV (.slice a bs.length c) := by rw [hv]
  rw [e0]
  simp only [go_sem]
  refine ⟨fun _ => hR _ _ ⟨Ext.refl _, rfl⟩, fun hlen => ?_⟩
  refine callV_of (drawDequePush_ok hx) rfl ?_
  rintro _ w1 ⟨E1, t0, xs, x, rfl, hs, f0, hx1, hx2⟩
  have hs1 := hs.1
  simp only [go_sem]
  refine callV_of (implDequePush_ok (x := x) f0.ints (by omega)) rfl ?_
  rintro _ w2 ⟨t1, rfl, E2, f1⟩
  simp only [go_sem]
  refine callV_of (specDequePush_ok (x := x) (f0.ext E2).ints (by omega)) rfl ?_
  rintro _ w3 ⟨t2, rfl, E3, f2⟩
  simp only [go_sem]
  have e3 := (E1.trans E2).trans E3
  have hlen' : (pushOf xs x).1.length ≤ 13 := by
    unfold pushOf; split <;> simp; omega
  refine ⟨fun h => by simp at h, fun _ => ?_⟩
  refine callV_of (sameRow_ok (f1.ext E3).ints f2.ints (by omega)) rfl fun t3 w5 ⟨E5, h3⟩ => ?_
  subst h3
  simp only [go_sem]
  refine ⟨fun h => by simp at h, fun _ => ?_⟩
  have e5 := e3.trans E5
  have F1 := (f1.ext E3).ext E5
  have F0 := ((f0.ext E2).ext E3).ext E5
  have f2 := f2.ext E5
  by_cases hd : DqOk (xs ++ [x])
  · have hp : pushOf xs x = (xs ++ [x], true) := if_pos hd
    rw [hp] at F1 ⊢
    simp only [go_sem]
    refine ⟨fun h => by simp at h, fun _ => ?_⟩
    refine callV_of (implDequePush_ok (x := x) F1.ints (by simp; omega)) rfl ?_
    rintro _ w6 ⟨t6, rfl, E6, f6⟩
    have hno : ¬ DqOk (xs ++ [x] ++ [x]) := fun h => by
      have := (List.nodup_append.1 h.2.2).2.2 x (by simp) x (by simp)
      exact this rfl
    have hpush : pushOf (xs ++ [x]) x = ([], false) := if_neg hno
    rw [hpush] at f6 ⊢
    obtain ⟨a0, c0, rfl, _, _⟩ := F0.ints.out
    obtain ⟨a1, c1, rfl, _, _⟩ := F1.ints.out
    simp only [go_sem]
    refine ⟨fun _ => ?_, fun h => by simp at h⟩
    refine bin_add ⟨by omega, by omega⟩ ?_
    simp only [go_sem]
    exact hR _ _ ⟨e5.trans E6, by simp⟩
  · have hp : pushOf xs x = ([], false) := if_neg hd
    rw [hp] at F1 f2 ⊢
    simp only [go_sem]
    refine ⟨fun _ => ⟨fun _ => ?_, fun h => by simp at h⟩, fun h => by simp at h⟩
    refine callV_of (sameRow_ok F1.ints f2.ints (by simp)) rfl fun t51 w6 ⟨E6, h51⟩ => ?_
    subst h51
    exact hR _ _ ⟨e5.trans E6, by simp⟩
end Go.Proofs.Ytinpkcjfnljigaa
