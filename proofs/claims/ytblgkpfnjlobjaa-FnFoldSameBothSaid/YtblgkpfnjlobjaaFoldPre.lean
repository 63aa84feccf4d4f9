/- What the laws of folding have in common. -/
import Derived.Test.YtblgkpfnjlobjaaDrawFold
import Derived.Test.YtblgkpfnjlobjaaSamePlan
namespace Go.Proofs.Ytblgkpfnjlobjaa
open Go Go.V

theorem foldO_yes {p : List Nd} {l : List Int} (h : KeepOk p l) : foldO p l = foldP p fun i => (i : Int) ∈ l := by unfold foldO; rw [if_pos h]
theorem fold_eq {w1 : World} {t y : Value} {g s : FuncId} {q : List Nd} {ok : Prop} [Decidable ok] (himpl : Calls Try.prog g #[t, y] w1 (Ret fun r w' => ∃ u, r = .tuple #[u, .bool (decide ok)] ∧ Ext w1 w' ∧ FPlan w' (Since w1) u q))
    (hspec : ∀ w2, Ext w1 w2 → Calls Try.prog s #[t, y] w2 (Ret fun r w' => ∃ u, r = .tuple #[u, .bool (decide ok)] ∧ Ext w2 w' ∧ DPlan w' w2.heap.size u q)) {R : Value → World → Prop} (hR : ∀ w', Ext w1 w' → R (.bool true) w')
    {rest : Value → World → Prop} (hrest : ∀ u w', ok → PlanV w' u q → Ext w1 w' → rest u w') :
    CallV Try.prog g [t, y] w1 fun x w2 => ExtractV x 0 fun a => ExtractV x 1 fun b => CallV Try.prog s [t, y] w2 fun z w3 => ExtractV z 0 fun a' => ExtractV z 1 fun b' =>
      BoolV .neq b b' fun e => SplitV e
        (BoolV .eql b b' fun e => SplitV e (CallV Try.prog N.laws_samePlan [a, a'] w3 fun t w4 => R t w4) (R (.bool false) w3))
        (CallV Try.prog N.laws_samePlan [a, a'] w3 fun s w4 => NotV s fun s => SplitV s
          (BoolV .eql b b' fun e => SplitV e (CallV Try.prog N.laws_samePlan [a, a'] w4 fun t w5 => R t w5) (R (.bool false) w4))
          (NotV b fun nb => SplitV nb
            (BoolV .eql b b' fun e => SplitV e (CallV Try.prog N.laws_samePlan [a, a'] w4 fun t w5 => R t w5) (R (.bool false) w4))
            (rest a w4))) := by
  refine callV_of himpl rfl ?_
  rintro _ w2 ⟨u, rfl, E2, f2⟩
  simp only [go_sem]
  refine callV_of (hspec w2 E2) rfl ?_
  rintro _ w3 ⟨u', rfl, E3, d3⟩
  have hu := (f2.ext E3).plan
  have hu' := d3.plan
  have e3 := E2.trans E3
  simp only [go_sem]
  refine ⟨fun h => by simp at h, fun _ => ?_⟩
  refine callV_of (samePlan_ok hu hu') rfl ?_
  rintro _ w4 ⟨E4, rfl⟩
  have e4 := e3.trans E4
  simp only [go_sem]
  refine ⟨fun h => by simp at h, fun _ => ⟨fun _ => ⟨fun _ => ?_, fun h => by simp at h⟩, fun hk => hrest u w4 (by simpa using hk) (hu.ext E4) e4⟩⟩
  refine callV_of (samePlan_ok (hu.ext E4) (hu'.ext E4)) rfl ?_
  rintro _ w5 ⟨E5, rfl⟩
  have := hR _ (e4.trans E5)
  simpa using this

theorem implValueOf_ok {w : World} {v : Value} {p : List Nd} (hp : PlanV w v p) (hok : PlanOk p) {i : Nat} (hi : i < p.length) :
    Calls Try.prog N.impl_ValueOf #[v, .int .i64 i] w (Ret fun r w' => ∃ u, r = .tuple #[u, .bool true] ∧ Ext w w' ∧ Ints w' u (val p i)) := by
  refine ret_k fun R hR => c_impl_ValueOf _ _ _ _ ?_
  refine callV_of (implValuesOf_ok hp) rfl ?_
  rintro _ w1 ⟨u, rfl, E1, hls⟩
  simp only [go_sem]
  refine ⟨fun h => absurd hok h, fun _ => ?_⟩
  have hvo : valsO p = vals p := by unfold valsO; rw [if_pos hok]
  rw [hvo] at hls
  refine callV_of (isNode_ok (hp.ext E1) _) rfl ?_
  rintro _ w2 ⟨E2, rfl⟩
  simp only [go_sem]
  refine ⟨fun h => absurd ⟨by omega, by omega⟩ h, fun _ => ?_⟩
  refine (hls.ext E2).load (i := i) (by rw [vals_len]; exact hi) fun y hy => ?_
  rw [vals_at hi] at hy
  exact hR _ _ ⟨y, rfl, E1.trans E2, hy⟩
end Go.Proofs.Ytblgkpfnjlobjaa
