/- Drawn for keeping. -/
import Derived.Test.YtpfabjjeacdikaaDrawL
namespace Go.Proofs.Ytpfabjjeacdikaa
open Go Go.V
theorem drawCutKeep_ok {w : World} {v : Value} {bs : List Int} (hx : RowIn .u8 w v bs) : Calls Try.prog N.spec_DrawCutKeep #[v] w (Ret fun r w' => ∃ t u p xs lo, r = .tuple #[t, u] ∧ DrawnList w t u w' p xs lo) := by
  refine ret_k fun R hR => c_spec_DrawCutKeep _ _ _ ?_
  refine drawList hx fun t u w' p xs lo hd => ?_
  simp only [go_sem]
  exact hR _ _ ⟨t, u, p, xs, lo, rfl, hd⟩
end Go.Proofs.Ytpfabjjeacdikaa
