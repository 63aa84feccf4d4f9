/- Drawn for the loss of rows. -/
import Derived.Test.YtagejoclifgonaaDrawLost
namespace Go.Proofs.Ytagejoclifgonaa
open Go Go.V
theorem drawLoseAgain {w : World} {v : Value} {bs : List Int} (hx : RowIn .u8 w v bs) {K : Value → World → Prop} (hK : ∀ t u g w' p ds ls lo, DrawnLost w t u g w' p ds ls lo → K (.tuple #[t, u, g]) w') : CallV Try.prog N.spec_DrawLoseAgain [v] w K := by
  refine callV_of (ret_k (Q := fun r w' => K r w') fun R hR => c_spec_DrawLoseAgain _ _ _ ?_) rfl fun _ _ h => h
  refine drawLost hx fun t u g w' p ds ls lo hd => ?_
  simp only [go_sem]
  exact hR _ _ (hK _ _ _ _ _ _ _ _ hd)
end Go.Proofs.Ytagejoclifgonaa
