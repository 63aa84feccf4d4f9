/-
Who needs nobody is ready: the law FnCountsReady returns true at every seed, and writes nothing that was there.
No condition.
-/
import Derived.Test.YtinpkcjfnljigaaDrawA
import Derived.Test.YtinpkcjfnljigaaCounts
import Derived.Test.YtinpkcjfnljigaaCFnCountsReady
namespace Go.Proofs.Ytinpkcjfnljigaa
open Go Go.V

theorem zerosTo_prefix (xs : List Int) {k n : Nat} (h : k ≤ n) : zerosTo xs k <+: zerosTo xs n := by
  obtain ⟨m, rfl⟩ := Nat.exists_eq_add_of_le h
  refine ⟨((List.range m).map (k + ·)).filter (fun (i : Nat) => xs.getD i 1 = 0) |>.map fun (i : Nat) => (i : Int), ?_⟩
  simp only [zerosTo, List.range_add, List.filter_append, List.map_append]

theorem fnCountsReady_ok {w : World} {v : Value} {bs : List Int} (hx : RowIn .u8 w v bs) : Calls Try.prog N.laws_FnCountsReady #[v] w (Ret fun r w' => Ext w w' ∧ r = .bool true) := by
  obtain ⟨a, c, hv, hc, _⟩ := hx.out
  refine ret_k fun R hR => c_laws_FnCountsReady _ _ _ ?_
  have e0 : LenV v = LenV (.slice a bs.length c) := by rw [hv]
  rw [e0]
  simp only [go_sem]
  refine ⟨fun _ => hR _ _ ⟨Ext.refl _, rfl⟩, fun hlen => ?_⟩
  refine callV_of (drawCountsReady_ok hx) rfl fun t12 w1 ⟨E1, xs, hs, f12⟩ => ?_
  have hz : (zeros xs).length ≤ xs.length := zerosTo_length _ _
  have hs1 := hs.1
  refine callV_of (implCountsReady_ok f12.ints (by omega)) rfl fun t14 w2 ⟨E2, f14⟩ => ?_
  refine callV_of (specCountsReady_ok (f12.ext E2).ints (by omega)) rfl fun t16 w3 ⟨E3, f16⟩ => ?_
  refine callV_of (sameRow_ok (f14.ext E3).ints f16.ints (by omega)) rfl fun t19 w4 ⟨E4, h19⟩ => ?_
  subst h19
  simp only [go_sem]
  refine ⟨fun h => by simp at h, fun _ => ?_⟩
  have e4 := ((E1.trans E2).trans E3).trans E4
  obtain ⟨a1, c1, rfl, hc1, I12⟩ := ((((f12.ext E2).ext E3).ext E4).ints).out
  obtain ⟨a2, c2, rfl, hc2, I14⟩ := (((f14.ext E3).ext E4).ints).out
  refine loopV (fun s w' => ∃ k : Nat, s = [.int .i64 (zerosTo xs k).length, .int .i64 k] ∧ k ≤ xs.length ∧ w' = w4) (upTo xs.length 1) ⟨0, rfl, by omega, rfl⟩ ?_
  rintro s z _ K ⟨k, rfl, hk, rfl⟩ hK
  simp only [go_sem]
  refine ⟨fun h => ?_, fun h => ?_⟩
  · have hk : k < xs.length := by omega
    have hsucc := zerosTo_succ xs hk
    have hzk := zerosTo_length xs k
    refine idxLoad I12 rfl hk ?_
    simp only [go_sem]
    refine ⟨fun h0 => ?_, fun h0 => ?_⟩
    · rw [if_pos h0] at hsucc
      have hpre : zerosTo xs (k + 1) <+: zeros xs := zerosTo_prefix xs (by omega)
      obtain ⟨rest, hrest⟩ := hpre
      rw [hsucc, List.append_assoc] at hrest
      have hlt : (zerosTo xs k).length < (zeros xs).length := by rw [← hrest]; simp
      have hget : (zeros xs)[(zerosTo xs k).length] = k := by
        simp only [← hrest]
        rw [List.getElem_append_right (Nat.le_refl _)]
        simp
      refine ⟨fun h => by omega, fun _ => ?_⟩
      refine idxLoad I14 rfl hlt ?_
      rw [hget]
      simp only [go_sem]
      refine ⟨fun h => by simp at h, fun _ => ?_⟩
      refine bin_inc (by omega) (bin_inc (by omega) (hK _ _ ⟨k + 1, ?_, by omega, rfl⟩ (by simp [upTo, nthV, iOf]; omega)))
      rw [hsucc]; simp
    · rw [if_neg h0] at hsucc
      refine bin_inc (by omega) (hK _ _ ⟨k + 1, ?_, by omega, rfl⟩ (by simp [upTo, nthV, iOf]; omega))
      rw [hsucc]; simp
  · have hk : k = xs.length := by omega
    subst hk
    exact hR _ _ ⟨e4, by simp [zeros]⟩
end Go.Proofs.Ytinpkcjfnljigaa
