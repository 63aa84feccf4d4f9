/-
From both ends different nodes are taken: the law FnStealPop returns true at every seed, and writes nothing that was there.
No condition.
-/
import Derived.Test.YtinpkcjfnljigaaDrawDeque
import Derived.Test.YtinpkcjfnljigaaDeqApi
import Derived.Test.YtinpkcjfnljigaaCounts
import Derived.Test.YtinpkcjfnljigaaCFnStealPop
namespace Go.Proofs.Ytinpkcjfnljigaa
open Go Go.V

theorem fnStealPop_ok {w : World} {v : Value} {bs : List Int} (hx : RowIn .u8 w v bs) : Calls Try.prog N.laws_FnStealPop #[v] w (Ret fun r w' => Ext w w' ∧ r = .bool true) := by
  obtain ⟨a, c, hv, hc, _⟩ := hx.out
  refine ret_k fun R hR => c_laws_FnStealPop _ _ _ ?_
  have e0 : LenV v = LenV (.slice a bs.length c) := by rw [hv]
  rw [e0]
  simp only [go_sem]
  refine ⟨fun _ => hR _ _ ⟨Ext.refl _, rfl⟩, fun hlen => ?_⟩
  refine callV_of (drawDequeSteal_ok hx) rfl ?_
  rintro t0 w1 ⟨E1, xs, hs, f0⟩
  have hs1 := hs.1
  have I := implDequeSteal_ok f0.ints (by omega)
  refine callV_of I rfl ?_
  rintro _ w2 ⟨t1, rfl, E2, f1⟩
  simp only [go_sem]
  refine callV_of (specDequeSteal_ok (f0.ext E2).ints (by omega)) rfl ?_
  rintro _ w3 ⟨t2, rfl, E3, f2⟩
  simp only [go_sem]
  have e3 := (E1.trans E2).trans E3
  have F1 := f1.ext E3
  have F0 := (f0.ext E2).ext E3
  have hlen' : (stealOf xs).1.length ≤ 13 := by
    unfold stealOf; split <;> simp; omega
  refine ⟨fun h => by simp at h, fun _ => ⟨fun h => absurd rfl h, fun _ => ?_⟩⟩
  refine callV_of (sameRow_ok F1.ints f2.ints (by omega)) rfl fun t3 w5 ⟨E5, h3⟩ => ?_
  subst h3
  simp only [go_sem]
  refine ⟨fun h => by simp at h, fun _ => ?_⟩
  have e5 := e3.trans E5
  have F0 := F0.ext E5
  have F1 := F1.ext E5
  have f2 := f2.ext E5
  have hdec : Decidable (DqOk xs ∧ xs ≠ []) := inferInstance
  by_cases hd : DqOk xs ∧ xs ≠ []
  · have hp : stealOf xs = (xs.drop 1, xs.headD 0, true) := if_pos hd
    rw [hp] at F1 f2 ⊢
    simp only [go_sem]
    refine ⟨fun h => by simp at h, fun _ => ?_⟩
    have hpos : 0 < xs.length := List.length_pos_iff.2 hd.2
    obtain ⟨a0, c0, rfl, hc0, I0⟩ := F0.ints.out
    simp only [go_sem]
    refine ⟨fun _ => ⟨fun _ => ⟨fun _ => ?_, fun h => absurd trivial h⟩, fun h => by simp at h⟩, fun h1 => ?_⟩
    · refine callV_of (sameRow_ok F1.ints f2.ints (by simp; omega)) rfl fun t51 w6 ⟨E6, h51⟩ => ?_
      subst h51
      exact hR _ _ ⟨e5.trans E6, by simp⟩
    have htwo : 2 ≤ xs.length := by omega
    -- first, then middle, then last
    obtain ⟨x, ms, y, rfl⟩ : ∃ x ms y, xs = x :: (ms ++ [y]) := by
      match xs, htwo with
      | x :: z :: zs, _ =>
        refine ⟨x, (z :: zs).dropLast, (z :: zs).getLast (by simp), ?_⟩
        rw [List.dropLast_concat_getLast]
    have hl2 : ms.length ≤ 10 := by simp at hs1; omega
    have hd1 : DqOk (ms ++ [y]) := hd.1.sub (List.sublist_cons_self _ _)
    have hd2 : DqOk (x :: ms) := hd.1.sub (by rw [List.cons_sublist_cons]; exact List.sublist_append_left _ _)
    have hxy : x ≠ y := by have := (List.nodup_cons.1 hd.1.2.2).1; rintro rfl; simp at this
    simp only [List.drop_succ_cons, List.drop_zero] at F1
    refine callV_of (implDequePop_ok F1.ints (by simp; omega)) rfl ?_
    rintro _ w6 ⟨t6, rfl, E6, f6⟩
    have hp1 : popOf (ms ++ [y]) = (ms, y, true) := by simp [popOf, hd1]
    rw [hp1] at f6 ⊢
    simp only [go_sem]
    refine callV_of (implDequePop_ok (F0.ext E6).ints (by simp; omega)) rfl ?_
    rintro _ w7 ⟨t7, rfl, E7, f7⟩
    have hp2 : popOf (x :: (ms ++ [y])) = (x :: ms, y, true) := by
      have e : x :: (ms ++ [y]) = (x :: ms) ++ [y] := rfl
      rw [popOf, if_pos hd, e]
      have hg : ((x :: ms) ++ [y]).getLastD 0 = y := by rw [List.getLastD_eq_getLast?, List.getLast?_concat]; rfl
      exact Prod.ext (List.take_left' (by simp)) (Prod.ext hg rfl)
    rw [hp2] at f7 ⊢
    simp only [go_sem]
    refine callV_of (implDequeSteal_ok f7.ints (by simp; omega)) rfl ?_
    rintro _ w8 ⟨t8, rfl, E8, f8⟩
    have hp3 : stealOf (x :: ms) = (ms, x, true) := by simp [stealOf, hd2]
    rw [hp3] at f8 ⊢
    simp only [go_sem]
    refine ⟨fun _ => ⟨fun _ => ⟨fun _ => ⟨fun _ => ⟨fun _ => ⟨fun _ => ?_, ?_⟩, ?_⟩, ?_⟩, ?_⟩, ?_⟩, ?_⟩
    · refine callV_of (sameRow_ok ((f6.ext E7).ext E8).ints f8.ints (by show ms.length < _; omega)) rfl fun t72 w9 ⟨E9, h72⟩ => ?_
      subst h72
      exact hR _ _ ⟨(((e5.trans E6).trans E7).trans E8).trans E9, by simp⟩
    · intro h; exact absurd (Ne.symm hxy) h
    · intro h; simp at h
    · intro h; exact absurd trivial h
    · intro h; simp at h
    · intro h; simp at h
    · intro h; simp at h
  · have hp : stealOf xs = ([], 0, false) := if_neg hd
    rw [hp] at F1 f2 ⊢
    simp only [go_sem]
    refine ⟨fun _ => ⟨fun _ => ⟨fun _ => ?_, fun h => absurd trivial h⟩, fun h => by simp at h⟩, fun h => by simp at h⟩
    refine callV_of (sameRow_ok F1.ints f2.ints (by simp)) rfl fun t51 w6 ⟨E6, h51⟩ => ?_
    subst h51
    exact hR _ _ ⟨e5.trans E6, by simp⟩
end Go.Proofs.Ytinpkcjfnljigaa
