/-
Who steals takes the oldest node: the law FnSteal returns true at every seed, and writes nothing that was there.
No condition.
-/
import Derived.Test.YtinpkcjfnljigaaDrawDeque
import Derived.Test.YtinpkcjfnljigaaDeqApi
import Derived.Test.YtinpkcjfnljigaaCounts
import Derived.Test.YtinpkcjfnljigaaCFnSteal
namespace Go.Proofs.Ytinpkcjfnljigaa
open Go Go.V

theorem fnSteal_ok {w : World} {v : Value} {bs : List Int} (hx : RowIn .u8 w v bs) : Calls Try.prog N.laws_FnSteal #[v] w (Ret fun r w' => Ext w w' ∧ r = .bool true) := by
  obtain ⟨a, c, hv, hc, _⟩ := hx.out
  refine ret_k fun R hR => c_laws_FnSteal _ _ _ ?_
  have e0 : LenV v = LenV (.slice a bs.length c) := by rw [hv]
  rw [e0]
  simp only [go_sem]
  refine ⟨fun _ => hR _ _ ⟨Ext.refl _, rfl⟩, fun hlen => ?_⟩
  refine callV_of (drawDequeSteal_ok hx) rfl ?_
  rintro t0 w1 ⟨E1, xs, hs, f0⟩
  have hs1 := hs.1
  have I := implDequeSteal_ok f0.ints (by omega)
  refine callV_of I rfl ?_
  rintro _ w2 ⟨t1, rfl, E2, f1⟩
  simp only [go_sem]
  refine callV_of (specDequeSteal_ok (f0.ext E2).ints (by omega)) rfl ?_
  rintro _ w3 ⟨t2, rfl, E3, f2⟩
  simp only [go_sem]
  have e3 := (E1.trans E2).trans E3
  have F1 := f1.ext E3
  have F0 := (f0.ext E2).ext E3
  have hlen' : (stealOf xs).1.length ≤ 13 := by
    unfold stealOf; split <;> simp; omega
  refine ⟨fun h => by simp at h, fun _ => ⟨fun h => absurd rfl h, fun _ => ?_⟩⟩
  refine callV_of (sameRow_ok F1.ints f2.ints (by omega)) rfl fun t3 w5 ⟨E5, h3⟩ => ?_
  subst h3
  simp only [go_sem]
  refine ⟨fun h => by simp at h, fun _ => ?_⟩
  have e5 := e3.trans E5
  have F0 := F0.ext E5
  have F1 := F1.ext E5
  have f2 := f2.ext E5
  have hdec : Decidable (DqOk xs ∧ xs ≠ []) := inferInstance
  by_cases hd : DqOk xs ∧ xs ≠ []
  · have hp : stealOf xs = (xs.drop 1, xs.headD 0, true) := if_pos hd
    rw [hp] at F1 ⊢
    simp only [go_sem]
    refine ⟨fun h => by simp at h, fun _ => ?_⟩
    have hpos : 0 < xs.length := List.length_pos_iff.2 hd.2
    obtain ⟨a0, c0, rfl, hc0, I0⟩ := F0.ints.out
    refine idxLoad (k := 0) I0 rfl hpos ?_
    simp only [go_sem]
    refine ⟨fun _ => ?_, fun h => absurd (getElem_headD hpos).symm h⟩
    refine sliceLo (k := 1) (by omega) hc0 fun a' ha' => ?_
    have G := FInts.from F0 (k := 1) (by omega) ha'
    refine callV_of (sameRow_ok F1.ints G.ints (by simp; omega)) rfl fun t6 w6 ⟨E6, h6⟩ => ?_
    subst h6
    simp only [go_sem]
    refine ⟨fun _ => ?_, fun h => by simp at h⟩
    refine callV_of (implDequeValid_ok (F1.ext E6).ints (by simp; omega)) rfl ?_
    rintro _ w7 ⟨E7, rfl⟩
    have hd' : DqOk (xs.drop 1) := hd.1.sub (List.drop_sublist _ _)
    exact hR _ _ ⟨(e5.trans E6).trans E7, by rw [decide_eq_true hd']⟩
  · have hp : stealOf xs = ([], 0, false) := if_neg hd
    rw [hp] at F1 f2 ⊢
    simp only [go_sem]
    refine ⟨fun _ => ⟨fun _ => ⟨fun _ => ?_, fun h => absurd trivial h⟩, fun h => by simp at h⟩, fun h => by simp at h⟩
    refine callV_of (sameRow_ok F1.ints f2.ints (by simp)) rfl fun t51 w6 ⟨E6, h51⟩ => ?_
    subst h51
    exact hR _ _ ⟨e5.trans E6, by simp⟩
end Go.Proofs.Ytinpkcjfnljigaa
