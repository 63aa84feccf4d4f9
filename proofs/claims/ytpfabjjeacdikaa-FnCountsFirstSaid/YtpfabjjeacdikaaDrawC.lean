/- A drawn plan alone. -/
import Derived.Test.YtpfabjjeacdikaaDrawB
namespace Go.Proofs.Ytpfabjjeacdikaa
open Go Go.V

theorem drawCountsOf_ok {w : World} {v : Value} {bs : List Int} (hx : RowIn .u8 w v bs) : Calls Try.prog N.spec_DrawCountsOf #[v] w (Ret fun r w' => ∃ p lo, Drawn w r w' p lo) := by
  refine ret_k fun R hR => c_spec_DrawCountsOf _ _ _ ?_
  exact draw_plan hx fun u w' p q hd _ _ => hR _ _ ⟨p, _, hd⟩

end Go.Proofs.Ytpfabjjeacdikaa
