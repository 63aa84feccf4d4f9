/- Plans that grow, each list in a block of its own. -/
import Derived.Test.YtpfabjjeacdikaaAt
namespace Go.Proofs.Ytpfabjjeacdikaa
open Go Go.V

/-- Plans grow node by node. -/
structure Grow (w : World) (lo lo' : Nat) (v : Value) (p : List Nd) : Prop where
  out : ∃ bs fv rv, Own w lo T.impl_Node 3 v p.length (flat p fv rv) ∧ Inner w (lo' ≤ ·) p bs fv rv
theorem Grow.ext {w w' : World} {lo lo' : Nat} {v : Value} {p : List Nd} (h : Grow w lo lo' v p) (hc : Ext w w') : Grow w' lo lo' v p := by
  obtain ⟨bs, fv, rv, ho, hi⟩ := h.out
  exact ⟨bs, fv, rv, Own.ext ho hc, hi.ext hc⟩
theorem Grow.keep {w w' : World} {lo lo' : Nat} {v : Value} {p : List Nd} (h : Grow w lo lo' v p) {S : Nat → Prop} (hc : Chg S w w') (hs : ∀ k, k < w.heap.size → lo' ≤ k → ¬ S k) (hv : ∀ k, v.ownBlock = some k → ¬ S k) : Grow w' lo lo' v p := by
  obtain ⟨bs, fv, rv, ho, hi⟩ := h.out
  exact ⟨bs, fv, rv, Own.keep ho hc hv, hi.keep hc fun s hs' hne => hs _ (hi.lt hs' hne).1 (hi.inB s hs' hne)⟩
theorem Grow.fplan {w : World} {lo lo' : Nat} {v : Value} {p : List Nd} (h : Grow w lo lo' v p) (hl : p.length ≤ 1048576) (hlo : lo ≤ lo') : FPlan w (lo ≤ ·) v p := by
  obtain ⟨bs, fv, rv, ho, hi⟩ := h.out
  exact FPlan.of_own ho (hi.mono fun b _ hb => by omega) hl fun b hb => hb
theorem Grow.blk {w : World} {lo lo' k : Nat} {v : Value} {p : List Nd} (h : Grow w lo lo' v p) (hk : v.ownBlock = some k) : lo ≤ k ∧ k < w.heap.size ∧ ∃ cur, w.heap[k]? = some (.cells cur T.impl_Node (0, 0)) := by
  obtain ⟨bs, fv, rv, ho, hi⟩ := h.out
  have := Own.lt ho hk
  exact ⟨this.1, this.2, own_tagN ho hk⟩
/-- A node whose lists came after w is appended. -/
theorem Grow.push {w w' : World} {lo lo' : Nat} {v : Value} {p : List Nd} (h : Grow w lo lo' v p) (hE : Ext w w') {x : Nd} {f r : Value} {b1 b2 : Nat} {k : Int} (hk : k = x.kind) (hf : FInts w' (· = b1) f x.frm) (hr : FInts w' (· = b2) r x.row)
    (h1 : x.frm ≠ [] → w.heap.size ≤ b1) (h2 : x.row ≠ [] → w.heap.size ≤ b2) (h3 : x.frm ≠ [] → x.row ≠ [] → b1 ≠ b2) (hlo : lo ≤ w.heap.size) (hlo' : lo' ≤ w.heap.size) (hs : Sml x) (hn : p.length ≤ 1048576) {K : Value → World → Prop}
    (hK : ∀ v' w'', Grow w'' lo lo' v' (p ++ [x]) → Chg (blkIs v) w' w'' → K v' w'') :
    BSliceV T.impl_Node 3 1 #[.int .i64 0, .slice none 0 0, .slice none 0 0] [(0, .agg #[.int .i64 k, f, r])] w' fun t w1 => AppendV Try.prog T.sl_impl_Node v t w1 K := by
  obtain ⟨bs, fv, rv, ho, hi⟩ := h.out
  have hp := hi.push hE hf hr h1 h2 h3 (fun b hb => Nat.le_trans hlo' hb) hs
  have ho' := Own.ext ho hE
  exact app_node ho' hk hf.cellsV hr.cellsV hn (Nat.le_trans hlo hE.size) fun v' w'' ho'' hc => hK v' w'' ⟨_, _, _, ho'', hp.beside ho' hc⟩ hc

theorem Own.cap03 {w w' : World} {lo c : Nat} {z : Array Value} (hn : New w (.cells (rowOf z (c * 3)) T.impl_Node (0, 0)) w') (hl : lo ≤ w.heap.size) (hc : c ≤ 1048576) : Own w' lo T.impl_Node 3 (.slice (some ⟨w.heap.size, 0, none⟩) 0 c) 0 [] :=
  ⟨rfl, .inr ⟨_, c, _, rfl, hl, hn.here, Nat.zero_le _, by unfold maxLen; omega, by simp [rowOf], rfl⟩⟩
/-- The same in a region whose order is free. -/
theorem Grow.pushS {w w' : World} {lo lo' : Nat} {v : Value} {p : List Nd} (h : Grow w lo lo' v p) (hE : Ext w w') {x : Nd} {f r : Value} {b1 b2 : Nat} {k : Int} (hk : k = x.kind) (hf : FInts w' (· = b1) f x.frm) (hr : FInts w' (· = b2) r x.row)
    (h1 : x.frm ≠ [] → w.heap.size ≤ b1) (h2 : x.row ≠ [] → w.heap.size ≤ b2) (h3 : x.frm ≠ [] → x.row ≠ [] → b1 ≠ b2) (hlo : lo ≤ w.heap.size) (hlo' : lo' ≤ w.heap.size) (hs : Sml x) (hn : p.length ≤ 1048576) {S : Nat → Prop} (hS : ∀ k, blkIs v k → S k) {K : Value → World → Prop}
    (hK : ∀ v' w'', Grow w'' lo lo' v' (p ++ [x]) → Chg (blkIs v) w' w'' → K v' w'') :
    BSliceV T.impl_Node 3 1 #[.int .i64 0, .slice none 0 0, .slice none 0 0] [(0, .agg #[.int .i64 k, f, r])] w' fun t w1 => Chg S w' w1 ∧ AppendV Try.prog T.sl_impl_Node v t w1 fun v' w2 => Chg S w1 w2 ∧ K v' w2 := by
  obtain ⟨bs, fv, rv, ho, hi⟩ := h.out
  have hp := hi.push hE hf hr h1 h2 h3 (fun b hb => Nat.le_trans hlo' hb) hs
  have ho' := Own.ext ho hE
  exact app_nodeAt ho' hk hf.cellsV hr.cellsV hn (Nat.le_trans hlo hE.size) hS fun v' w'' ho'' hc _ => hK v' w'' ⟨_, _, _, ho'', hp.beside ho' hc⟩ hc
theorem Grow.new {w w' : World} {lo lo' : Nat} {z : Array Value} (hn : New w (.cells (rowOf z (0 * 3)) T.impl_Node (0, 0)) w') (hl : lo ≤ w.heap.size) : Grow w' lo lo' (.slice (some ⟨w.heap.size, 0, none⟩) 0 0) [] :=
  ⟨fun _ => 0, fun _ => .slice none 0 0, fun _ => .slice none 0 0, Own.empty hn hl, Inner.nil⟩
end Go.Proofs.Ytpfabjjeacdikaa
