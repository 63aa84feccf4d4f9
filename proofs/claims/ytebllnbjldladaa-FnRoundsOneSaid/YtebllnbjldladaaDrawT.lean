/- Drawn for schedules. -/
import Derived.Test.YtebllnbjldladaaDrawW
namespace Go.Proofs.Ytebllnbjldladaa
open Go Go.V

theorem drawScheduleTurns_ok {w : World} {v : Value} {bs : List Int} (hx : RowIn .u8 w v bs) :
    Calls Try.prog N.spec_DrawScheduleTurns #[v] w (Ret fun r w' => ∃ (u : Value) (n : Int) (p : List Nd) (lo : Nat), r = .tuple #[u, .int .i64 n] ∧ Drawn w u w' p lo ∧ -100 ≤ n ∧ n ≤ 100) := by
  refine ret_k fun R hR => c_spec_DrawScheduleTurns _ _ _ ?_
  refine callV_of (drawCrewNew_ok hx) rfl ?_
  rintro _ w1 ⟨u, n, p, lo, rfl, hd, h1, h2⟩
  simp only [go_sem]
  exact hR _ _ ⟨u, n, p, lo, rfl, hd, h1, h2⟩

end Go.Proofs.Ytebllnbjldladaa
