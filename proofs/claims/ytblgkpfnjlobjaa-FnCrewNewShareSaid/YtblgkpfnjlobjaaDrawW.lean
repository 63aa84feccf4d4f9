/- A drawn plan and a number of workers. -/
import Derived.Test.YtblgkpfnjlobjaaDrawPlan
import Derived.Test.YtblgkpfnjlobjaaCT
namespace Go.Proofs.Ytblgkpfnjlobjaa
open Go Go.V

theorem drawCrewNew_ok {w : World} {v : Value} {bs : List Int} (hx : RowIn .u8 w v bs) :
    Calls Try.prog N.spec_DrawCrewNew #[v] w (Ret fun r w' => ∃ (u : Value) (n : Int) (p : List Nd) (lo : Nat), r = .tuple #[u, .int .i64 n] ∧ Drawn w u w' p lo ∧ -100 ≤ n ∧ n ≤ 100) := by
  refine ret_k fun R hR => c_spec_DrawCrewNew _ _ _ ?_
  refine draw_plan hx fun u w1 p q hd hq hr => ?_
  refine pick_use hr (by omega) (by omega) fun m w2 hm C2 s2 r2 => ?_
  refine bin_add ⟨by omega, by omega⟩ ?_
  refine pick_use r2 (by omega) (by omega) fun m3 w3 hm3 C3 s3 r3 => ?_
  refine bin_quo (by omega) (by omega) fun d hdq hdm => ?_
  refine bin_mul ⟨by omega, by omega⟩ (bin_sub ⟨by omega, by omega⟩ ?_)
  exact hR _ _ ⟨u, _, p, _, rfl, (hd.move C2).move C3, by omega, by omega⟩

end Go.Proofs.Ytblgkpfnjlobjaa
