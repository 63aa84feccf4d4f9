/-
What was pushed is stolen last: the law FnPushSteal returns true at every seed, and writes nothing that was there.
No condition.
-/
import Derived.Test.YtinpkcjfnljigaaDrawDeque
import Derived.Test.YtinpkcjfnljigaaDeqApi
import Derived.Test.YtinpkcjfnljigaaCounts
import Derived.Test.YtinpkcjfnljigaaCFnPushSteal
namespace Go.Proofs.Ytinpkcjfnljigaa
open Go Go.V

theorem fnPushSteal_ok {w : World} {v : Value} {bs : List Int} (hx : RowIn .u8 w v bs) : Calls Try.prog N.laws_FnPushSteal #[v] w (Ret fun r w' => Ext w w' ∧ r = .bool true) := by
  obtain ⟨a, c, hv, hc, _⟩ := hx.out
  refine ret_k fun R hR => c_laws_FnPushSteal _ _ _ ?_
  have e0 : LenV v = LenV (.slice a bs.length c) := by rw [hv]
  rw [e0]
  simp only [go_sem]
  refine ⟨fun _ => hR _ _ ⟨Ext.refl _, rfl⟩, fun hlen => ?_⟩
  refine callV_of (drawDequePush_ok hx) rfl ?_
  rintro _ w1 ⟨E1, t0, xs, x, rfl, hs, f0, hx1, hx2⟩
  have hs1 := hs.1
  simp only [go_sem]
  refine callV_of (implDequePush_ok (x := x) f0.ints (by omega)) rfl ?_
  rintro _ w2 ⟨t1, rfl, E2, f1⟩
  simp only [go_sem]
  refine callV_of (specDequePush_ok (x := x) (f0.ext E2).ints (by omega)) rfl ?_
  rintro _ w3 ⟨t2, rfl, E3, f2⟩
  simp only [go_sem]
  have e3 := (E1.trans E2).trans E3
  have hlen' : (pushOf xs x).1.length ≤ 13 := by
    unfold pushOf; split <;> simp; omega
  refine ⟨fun h => by simp at h, fun _ => ?_⟩
  refine callV_of (sameRow_ok (f1.ext E3).ints f2.ints (by omega)) rfl fun t3 w5 ⟨E5, h3⟩ => ?_
  subst h3
  simp only [go_sem]
  refine ⟨fun h => by simp at h, fun _ => ?_⟩
  have e5 := e3.trans E5
  have F1 := (f1.ext E3).ext E5
  have F0 := ((f0.ext E2).ext E3).ext E5
  have f2 := f2.ext E5
  by_cases hd : DqOk (xs ++ [x])
  · have hp : pushOf xs x = (xs ++ [x], true) := if_pos hd
    rw [hp] at F1 ⊢
    simp only [go_sem]
    refine ⟨fun h => by simp at h, fun _ => ?_⟩
    obtain ⟨a0, c0, rfl, hc0, I0⟩ := F0.ints.out
    refine loopV (fun s w' => ∃ (k : Nat) (u : Value), s = [u, .int .i64 k] ∧ k ≤ xs.length + 1 ∧ Ext w5 w' ∧ Ints w' u ((xs ++ [x]).drop k)) (upTo (xs.length + 1) 1) ⟨0, _, rfl, by omega, Ext.refl _, by simpa using F1.ints⟩ ?_
    rintro s z w6 K ⟨k, u, rfl, hk, E6, f6⟩ hK
    simp only [go_sem]
    refine ⟨fun hk1 => ?_, fun hk1 => ?_⟩
    · have hk1 : k < (xs ++ [x]).length := by simp; omega
      refine callV_of (implDequeSteal_ok f6 (by simp; omega)) rfl ?_
      rintro _ w7 ⟨t7, rfl, E7, f7⟩
      have hdk : DqOk ((xs ++ [x]).drop k) := hd.sub (List.drop_sublist _ _)
      have hst : stealOf ((xs ++ [x]).drop k) = ((xs ++ [x]).drop (k + 1), (xs ++ [x])[k], true) := by
        rw [stealOf, if_pos ⟨hdk, by rw [ne_eq, List.drop_eq_nil_iff]; omega⟩]
        rw [List.drop_drop]
        rw [List.drop_eq_getElem_cons hk1]
        rfl
      rw [hst] at f7 ⊢
      simp only [go_sem]
      have next : ∀ w', w' = w7 → K [t7, .int .i64 (k + 1 : Nat)] w' := fun w' e => by
        subst e
        exact hK _ _ ⟨k + 1, _, rfl, by simp at hk1; omega, E6.trans E7, f7.ints⟩ (by simp [upTo, nthV, iOf]; simp at hk1; omega)
      refine ⟨fun h => by simp at h, fun _ => ⟨fun hlt => ?_, fun hge => ?_⟩⟩
      · have hlt : k < xs.length := by omega
        refine idxLoad (I0.ext (E6.trans E7)) rfl hlt ?_
        simp only [go_sem]
        refine ⟨fun h => absurd (List.getElem_append_left hlt) h, fun _ => ⟨fun h => by omega, fun _ => ?_⟩⟩
        exact bin_inc (by omega) (next _ rfl)
      · have he : k = xs.length := by simp at hk1; omega
        subst he
        refine ⟨fun _ => ⟨fun h => absurd (by simp) h, fun _ => ?_⟩, fun h => absurd rfl h⟩
        exact bin_inc (by omega) (next _ rfl)
    · have he : k = xs.length + 1 := by omega
      subst he
      rw [List.drop_of_length_le (by simp)] at f6
      obtain ⟨a6, c6, rfl, _, _⟩ := f6.out
      simp only [go_sem]
      exact hR _ _ ⟨e5.trans E6, by simp⟩
  · have hp : pushOf xs x = ([], false) := if_neg hd
    rw [hp] at F1 f2 ⊢
    simp only [go_sem]
    refine ⟨fun _ => ⟨fun _ => ?_, fun h => by simp at h⟩, fun h => by simp at h⟩
    refine callV_of (sameRow_ok F1.ints f2.ints (by simp)) rfl fun t51 w6 ⟨E6, h51⟩ => ?_
    subst h51
    exact hR _ _ ⟨e5.trans E6, by simp⟩
end Go.Proofs.Ytinpkcjfnljigaa
