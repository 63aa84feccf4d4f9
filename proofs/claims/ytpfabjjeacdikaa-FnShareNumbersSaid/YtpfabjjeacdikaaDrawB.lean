/- Drawn plans, numbers of workers, orders. -/
import Derived.Test.YtpfabjjeacdikaaDrawPlan
namespace Go.Proofs.Ytpfabjjeacdikaa
open Go Go.V

theorem Moves.ext {w w1 w' : World} {p c : Nat} (hE : Ext w w1) (h : Moves w1 w.heap.size p c w') : Ext w w' := Chg.ext (hE.then h.chg) fun k hk e => by have e : k = w.heap.size := e; omega
theorem DPlan.keepR {w w' : World} {lo rb : Nat} {v : Value} {pl : List Nd} (h : DPlan w lo v pl) (hc : Chg (· = rb) w w') (hl : rb < lo) : DPlan w' lo v pl := h.keep hc fun k hk e => by omega

/-- A plan has been drawn out of a seed, and nothing else has happened. -/
structure Drawn (w : World) (v : Value) (w' : World) (p : List Nd) (lo : Nat) : Prop where
  ext : Ext w w'
  pl : DPlan w' lo v p
  lo : w.heap.size ≤ lo
  len : p.length ≤ 11
  sml : ∀ x ∈ p, x.frm.length ≤ 2 ∧ x.row.length ≤ 1000

/-- The reader is opened, and a plan drawn. -/
theorem draw_plan {w : World} {v : Value} {bs : List Int} (hx : RowIn .u8 w v bs) {K : Value → Value → World → Prop}
    (hK : ∀ u w' p q, Drawn w u w' p (w.heap.size + 1) → q ≤ 1000 → Rdr w' w.heap.size q → K (.pointer (some ⟨w.heap.size, 0, none⟩)) u w') :
    CallV Try.prog N.spec_l6Open [v] w fun t w1 => CallV Try.prog N.spec_l91Plan [t] w1 fun u w2 => K t u w2 := by
  refine callV_of (l6Open_ok hx) rfl ?_
  rintro _ w1 ⟨rfl, E1, r1⟩
  have hlt := r1.lt
  refine callV_of (l91Plan_ok r1 (by omega)) rfl ?_
  rintro u w2 ⟨⟨C2, q, hq, r2⟩, p, d2, hl, hs⟩
  obtain ⟨fv, rv, ho, hpl, hin⟩ := d2.out
  refine hK u w2 p q ⟨Chg.ext (E1.then C2) fun k hk e => by omega, ⟨fv, rv, Own.mono ho (by omega), hpl, fun i hi => ?_⟩, by omega, hl, hs⟩ (by omega) r2
  obtain ⟨h1, h2, h3⟩ := hin i hi
  exact ⟨h1.mono fun _ _ h => by omega, h2.mono fun _ _ h => by omega, h3⟩

theorem Drawn.move {w w' w'' : World} {v : Value} {p : List Nd} (h : Drawn w v w' p (w.heap.size + 1)) (hc : Chg (· = w.heap.size) w' w'') : Drawn w v w'' p (w.heap.size + 1) :=
  ⟨Chg.ext (h.ext.then hc) fun k hk e => by have e : k = w.heap.size := e; omega, h.pl.keepR hc (by omega), h.lo, h.len, h.sml⟩

end Go.Proofs.Ytpfabjjeacdikaa
