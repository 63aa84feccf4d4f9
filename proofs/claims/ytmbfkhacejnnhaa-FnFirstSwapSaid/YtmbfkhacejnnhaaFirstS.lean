/- ShareFirst of the reference. -/
import Derived.Test.YtmbfkhacejnnhaaFirst
namespace Go.Proofs.Ytmbfkhacejnnhaa
open Go Go.V
theorem specShareFirst_ok {w : World} {v : Value} {p : List Nd} (hp : PlanV w v p) : Calls Try.prog N.spec_ShareFirst #[v] w (Ret (NewInts w (firstO p))) := by
  refine ret_k fun R hR => c_spec_ShareFirst _ _ _ ?_
  refine callV_of (specPlanValid_ok hp) rfl ?_
  rintro _ w1 ⟨E1, rfl⟩
  simp only [go_sem]
  refine ⟨fun h => ⟨_, rfl, fun w2 hn2 => hR _ _ ⟨E1.trans hn2.ext, by rw [firstO_no h]; exact FInts.nil⟩⟩, fun hok => ?_⟩
  refine callV_of (l22First_ok (hp.ext E1) hok) rfl fun u w2 ⟨E2, f2⟩ => ?_
  exact hR _ _ ⟨E1.trans E2, f2.mono fun b _ hb => by have := E1.size; unfold Since at hb ⊢; omega⟩
end Go.Proofs.Ytmbfkhacejnnhaa
