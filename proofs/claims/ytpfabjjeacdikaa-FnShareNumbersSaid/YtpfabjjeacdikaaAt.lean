/- Appends of one element: where the result lies, and in regions of any order. -/
import Derived.Test.YtpfabjjeacdikaaTwo
import Derived.Test.YtpfabjjeacdikaaOuter
namespace Go.Proofs.Ytpfabjjeacdikaa
open Go Go.V

/-- The block of an appended slice is the old one or came later. -/
def Later (w : World) (v v' : Value) : Prop := v'.ownBlock = v.ownBlock ∨ ∃ k, v'.ownBlock = some k ∧ w.heap.size ≤ k

theorem app1At {P : Program} {t e size bytes : Nat} {z : Value} (ht : P.underlying t = some (.slice e)) (he : ElemT P e size bytes z)
    {w : World} {lo : Nat} {v : Value} {n : Nat} {cs : List Value} (hown : Own w lo e size v n cs) {x : Value} {zc : Array Value} {news : List Value}
    (hx : x.cells.toList = news) (hfill : Instr.fill (fun i => some (i * size, size)) (rowOf zc (1 * size)) [(0, x)] = some x.cells) (hsz : x.cells.size = size) (h1 : ∀ u ∈ news, u.oneCell' = true)
    (h63 : n < 9223372036854775807) (hby : (n + 1) * bytes ≤ 140737488355328)
    (hlo : lo ≤ w.heap.size) {S : Nat → Prop} (hS : ∀ k, blkIs v k → S k) {K : Value → World → Prop} (hK : ∀ v' w', Own w' lo e size v' (n + 1) (cs ++ news) → Chg (blkIs v) w w' → Later w v v' → K v' w') :
    BSliceV e size 1 zc [(0, x)] w fun p w1 => Chg S w w1 ∧ AppendV P t v p w1 fun v' w' => Chg S w1 w' ∧ K v' w' := by
  refine ⟨_, hfill, fun w1 hn => ⟨hn.ext.chg, ?_⟩⟩
  have hown1 := Own.ext hown hn.ext
  obtain ⟨i, hi, hz, hs, hb, hzs, h0⟩ := he.out
  have hnews : ∀ j u, news[j]? = some u → w1.cell? ((⟨w.heap.size, 0, none⟩ : Addr).add j) = some u := by
    intro j u hj
    rw [addr_add, Nat.zero_add, cell_of_row w1 _ j _ e (0, 0) hn.here]
    rw [← hx] at hj
    simpa using hj
  have key : ∀ ty, ∃ v' w', (Builtin.append_ #[t, t] ty #[v, .slice (some ⟨w.heap.size, 0, none⟩) 1 1]).run P w1 = .ok v' w' ∧ w'.ownsRow lo e size v' (n + 1) (cs ++ news) ∧ w1.grownBy w' v.ownBlock ∧ (v' = .slice none 0 0 ↔ v = .slice none 0 0 ∧ 1 = 0) ∧ (v'.ownBlock = v.ownBlock ∨ v'.ownBlock = some w1.heap.size) := fun ty =>
    run_append_own_at (P := P) w1 lo t ty e i z size bytes ht hi hz hs hb hzs h0 v n cs hown1 _ 1 1 news (by rw [← hx]; simp [hsz]) hnews h1 (by unfold maxLen; omega) hby (Nat.le_trans hlo hn.ext.size)
  obtain ⟨v', w', hr, ho, hg, _, hbk⟩ := key 0
  have hc := chg_of_grown hg
  refine ⟨v', w', fun ty => hr, hc.mono fun k _ hk => hS k hk, hK v' w' ho (hn.ext.then hc) ?_⟩
  rcases hbk with h | h
  · exact .inl h
  · exact .inr ⟨_, h, hn.ext.size⟩
theorem plainly {P : Program} {t e size len : Nat} {v : Value} {zc : Array Value} {parts : List (Nat × Value)} {w : World} {S : Nat → Prop} {K : Value → World → Prop}
    (h : BSliceV e size len zc parts w fun p w1 => Chg S w w1 ∧ AppendV P t v p w1 fun v' w' => Chg S w1 w' ∧ K v' w') : BSliceV e size len zc parts w fun p w1 => AppendV P t v p w1 K := by
  obtain ⟨c, h1, h2⟩ := h
  refine ⟨c, h1, fun w1 hn => ?_⟩
  obtain ⟨_, v', w', hr, _, hk⟩ := h2 w1 hn
  exact ⟨v', w', hr, hk⟩

theorem app_intAt {w : World} {lo : Nat} {v : Value} {xs : List Int} {n : Nat} (hown : Own w lo T.int 1 v n (ints xs)) {x : Int} {zc : Value} (hn : n ≤ 1099511627776) (hlo : lo ≤ w.heap.size)
    {K : Value → World → Prop} (hK : ∀ v' w', Own w' lo T.int 1 v' (n + 1) (ints (xs ++ [x])) → Chg (blkIs v) w w' → Later w v v' → K v' w') :
    BSliceV T.int 1 1 #[zc] [(0, .int .i64 x)] w fun p w1 => AppendV Try.prog T.sl_int v p w1 K := by
  refine plainly (S := fun _ => True) (app1At sl_int el_int hown (news := [.int .i64 x]) rfl (fill_int rfl) rfl (by simp [Value.oneCell']) (by omega) (by omega) hlo (fun _ _ => trivial) fun v' w' ho hc hl => hK v' w' ?_ hc hl)
  simpa [ints] using ho

theorem app_nodeAt {w : World} {lo : Nat} {v : Value} {p : List Nd} {fv rv : Nat → Value} (ho : Own w lo T.impl_Node 3 v p.length (flat p fv rv)) {x : Nd} {f r : Value} {k : Int} (hk : k = x.kind) (hf : f.cells = #[f] ∧ f.oneCell' = true) (hr : r.cells = #[r] ∧ r.oneCell' = true)
    (hn : p.length ≤ 1048576) (hlo : lo ≤ w.heap.size) {S : Nat → Prop} (hS : ∀ k, blkIs v k → S k) {K : Value → World → Prop}
    (hK : ∀ v' w', Own w' lo T.impl_Node 3 v' (p ++ [x]).length (flat (p ++ [x]) (setF fv p.length f) (setF rv p.length r)) → Chg (blkIs v) w w' → Later w v v' → K v' w') :
    BSliceV T.impl_Node 3 1 #[.int .i64 0, .slice none 0 0, .slice none 0 0] [(0, .agg #[.int .i64 k, f, r])] w fun t w1 => Chg S w w1 ∧ AppendV Try.prog T.sl_impl_Node v t w1 fun v' w' => Chg S w1 w' ∧ K v' w' := by
  subst hk
  refine app1At sl_node el_node ho (news := [.int .i64 x.kind, f, r]) ?_ ?_ ?_ ?_ (by omega) (by omega) hlo hS fun v' w' ho' hc hl => hK v' w' ?_ hc hl
  · simp [Value.cells]
  · simp [Instr.fill, rowOf, Value.cells]
    refine Array.ext (by simp) fun i hi _ => ?_
    simp at hi
    match i, hi with
    | 0, _ => simp
    | 1, _ => simp
    | 2, _ => simp
  · simp [Value.cells]
  · intro u hu
    simp at hu
    rcases hu with rfl | rfl | rfl
    · rfl
    · exact hf.2
    · exact hr.2
  · rw [flat_snoc]; simpa using ho'
end Go.Proofs.Ytpfabjjeacdikaa
