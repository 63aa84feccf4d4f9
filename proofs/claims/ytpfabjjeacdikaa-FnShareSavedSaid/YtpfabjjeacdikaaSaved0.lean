/- How many nodes need not be done: the program's way. -/
import Derived.Test.YtpfabjjeacdikaaShare
namespace Go.Proofs.Ytpfabjjeacdikaa
open Go Go.V

noncomputable def savedO (p : List Nd) : Int := if PlanOk p then (p.length : Int) - (shareO p).length else -1
theorem savedO_range (p : List Nd) : -1 ≤ savedO p ∧ savedO p ≤ p.length := by
  unfold savedO; have := shareO_len p; split <;> omega
theorem implShareSaved_ok {w : World} {v : Value} {p : List Nd} (hp : PlanV w v p) : Calls Try.prog N.impl_ShareSaved #[v] w (Ret fun r w' => Ext w w' ∧ r = .int .i64 (savedO p)) := by
  refine ret_k fun R hR => c_impl_ShareSaved _ _ _ ?_
  have hlen : ∀ K, LenV v K = K (.int .i64 p.length) := fun K => hp.len
  have hpl := hp.small
  have hsl := shareO_len p
  refine callV_of (implPlanShare_ok hp) rfl ?_
  rintro _ w1 ⟨u, n, k, rfl, E1, f1, _⟩
  have hul : ∀ K, LenV u K = K (.int .i64 (shareO p).length) := fun K => f1.plan.len
  simp only [hlen, hul, go_sem]
  refine ⟨fun h => hR _ _ ⟨E1, by unfold savedO; rw [if_neg h]⟩, fun hok => ?_⟩
  exact bin_sub ⟨by omega, by omega⟩ (hR _ _ ⟨E1, by unfold savedO; rw [if_pos hok]⟩)
end Go.Proofs.Ytpfabjjeacdikaa
