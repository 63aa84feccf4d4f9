/- Two lists copied in any order. -/
import Derived.Test.YtblgkpfnjlobjaaCopy
import Derived.Maps.AppendAt
import Derived.Test.YtblgkpfnjlobjaaFam
namespace Go.Proofs.Ytblgkpfnjlobjaa
open Go Go.V

theorem Own.fintsAt {w : World} {lo : Nat} {v : Value} {n : Nat} {xs : List Int} (h : Own w lo T.int 1 v n (ints xs)) : FInts w (blkIs v) v xs := by
  have hl := h.1
  have hn : n = xs.length := by simpa [ints] using hl.symm
  subst hn
  rcases h.2 with ⟨rfl, h0⟩ | ⟨g, cap, cur, rfl, hb, hg, hnc, hcm, hcs, htake⟩
  · have : xs = [] := List.eq_nil_of_length_eq_zero h0
    subst this
    exact FInts.nil
  · refine ⟨_, cap, rfl, hnc, fun _ => ⟨g, 0, cur, rfl, rfl, hg, by omega, fun i x hi => ?_⟩⟩
    have hi' : (ints xs)[i]? = some (.int .i64 x) := by simp [ints, hi]
    rw [← htake, List.getElem?_take] at hi'
    rw [Nat.zero_add]
    split at hi'
    · simpa using hi'
    · cases hi'

/-- Numbers are appended to an owned slice; the block is the old one or one that is new. -/
theorem append_at {w : World} {lo : Nat} {u : Value} {n : Nat} {cs : List Value} (hown : Own w lo T.int 1 u n cs) {v : Value} {xs : List Int} (hx : Ints w v xs) (h63 : n + xs.length ≤ 1099511627776) (hlo : lo ≤ w.heap.size)
    {K : Value → World → Prop} (hK : ∀ v' w', Own w' lo T.int 1 v' (n + xs.length) (cs ++ ints xs) → Chg (blkIs u) w w' → (v'.ownBlock = u.ownBlock ∨ v'.ownBlock = some w.heap.size) → K v' w') : AppendV Try.prog T.sl_int u v w K := by
  obtain ⟨a, c, rfl, hc, hcs⟩ := hx.out
  cases a with
  | some ad =>
    obtain ⟨i, hi, hz, hs, hb, hzs, h0⟩ := el_int.out
    have hlen : (ints xs).length = xs.length * 1 := by simp [ints]
    have hnews : ∀ j u, (ints xs)[j]? = some u → w.cell? (ad.add j) = some u := fun j u hj => by
      obtain ⟨b, off, ha, hc⟩ := hcs j u hj
      cases ha
      rw [addr_add]; exact hc
    have key : ∀ ty, ∃ v' w', (Builtin.append_ #[T.sl_int, T.sl_int] ty #[u, .slice (some ad) xs.length c]).run Try.prog w = .ok v' w' ∧ w'.ownsRow lo T.int 1 v' (n + xs.length) (cs ++ ints xs) ∧ w.grownBy w' u.ownBlock ∧ (v' = .slice none 0 0 ↔ u = .slice none 0 0 ∧ xs.length = 0) ∧ (v'.ownBlock = u.ownBlock ∨ v'.ownBlock = some w.heap.size) := fun ty =>
      run_append_own_at (P := Try.prog) w lo T.sl_int ty T.int i _ 1 8 sl_int hi hz hs hb hzs h0 u n cs hown ad xs.length c (ints xs) hlen hnews ints_one (by unfold maxLen; omega) (by omega) hlo
    obtain ⟨v', w', hr, ho, hg, _, hbk⟩ := key 0
    exact ⟨v', w', fun ty => hr, hK v' w' ho (chg_of_grown hg) hbk⟩
  | none =>
    have hnil : xs = [] := by
      cases xs with
      | nil => rfl
      | cons x xs => obtain ⟨b, off, ha, _⟩ := hcs 0 _ rfl; cases ha
    subst hnil
    refine ⟨u, w, fun ty => ?_, hK u w (by simpa [ints] using hown) (Chg.refl _ _) (.inl rfl)⟩
    obtain ⟨i, hi, hz, hs, hb, hzs, h0⟩ := el_int.out
    rcases hown.2 with ⟨rfl, _⟩ | ⟨g, cap, cur, rfl, _, hg, hnc, _⟩
    · simp [Builtin.append_, run_und sl_int, sizeOf, run_info hi, Builtin.lenOf, Builtin.firstCells]
    · simp [Builtin.append_, run_und sl_int, sizeOf, run_info hi, Builtin.lenOf, Builtin.firstCells, hnc, storeCells]

theorem build_node {k f r : Value} (hk : k.cells = #[k]) (hf : f.cells = #[f]) (hr : r.cells = #[r]) {K : Value → Prop} (hK : K (.agg #[k, f, r])) :
    BuildV #[.int .i64 0, .slice none 0 0, .slice none 0 0] (fun i => ([(0, 1), (1, 1), (2, 1)] : List (Nat × Nat))[i]?) [(0, k), (1, f), (2, r)] K := by
  refine ⟨#[k, f, r], ?_, hK⟩
  simp [Instr.fill, hf, hr, hk]

/-- A new list, as a lone block's. -/
theorem copied {w1 : World} {b : Nat} {v : Value} {xs : List Int} {lo n : Nat} (ho : Own w1 lo T.int 1 v n (ints xs)) (hb : ∀ k, v.ownBlock = some k → k = b) : FInts w1 (· = b) v xs :=
  (Own.fintsAt ho).mono fun k _ hk => hb k hk

theorem two_copies {w : World} {S : Nat → Prop} (hS : ∀ k, w.heap.size ≤ k → S k) {f r : Value} {xs ys : List Int} (hf : Ints w f xs) (hr : Ints w r ys) (hx : xs.length ≤ 1099511627776) (hy : ys.length ≤ 1099511627776) {K : Value → Value → World → Prop}
    (hK : ∀ f' r' w' b1 b2, Ext w w' → FInts w' (· = b1) f' xs → FInts w' (· = b2) r' ys → w.heap.size ≤ b1 → w.heap.size ≤ b2 → b1 ≠ b2 → K f' r' w') :
    ((BSliceV T.int 1 0 #[.int .i64 0] [] w fun t w1 => Chg S w w1 ∧
      (AppendV Try.prog T.sl_int t f w1 fun t' w2 => Chg S w1 w2 ∧ BSliceV T.int 1 0 #[.int .i64 0] [] w2 fun u w3 => Chg S w2 w3 ∧ AppendV Try.prog T.sl_int u r w3 fun u' w4 => Chg S w3 w4 ∧ K t' u' w4) ∧
      (BSliceV T.int 1 0 #[.int .i64 0] [] w1 fun u w2 => Chg S w1 w2 ∧ AppendV Try.prog T.sl_int t f w2 fun t' w3 => Chg S w2 w3 ∧ AppendV Try.prog T.sl_int u r w3 fun u' w4 => Chg S w3 w4 ∧ K t' u' w4)) ∧
    (BSliceV T.int 1 0 #[.int .i64 0] [] w fun u w1 => Chg S w w1 ∧ BSliceV T.int 1 0 #[.int .i64 0] [] w1 fun t w2 => Chg S w1 w2 ∧ AppendV Try.prog T.sl_int t f w2 fun t' w3 => Chg S w2 w3 ∧ AppendV Try.prog T.sl_int u r w3 fun u' w4 => Chg S w3 w4 ∧ K t' u' w4)) := by
  have own0 : ∀ {w1 w2 : World} {z : Array Value}, New w1 (.cells (rowOf z (0 * 1)) T.int (0, 0)) w2 → Own w2 w1.heap.size T.int 1 (.slice (some ⟨w1.heap.size, 0, none⟩) 0 0) 0 [] := fun hn => Own.empty hn (Nat.le_refl _)
  -- both slices are there before the first append
  have both : ∀ {w2 : World} {a b : Nat}, Ext w w2 → w.heap.size ≤ a → w.heap.size ≤ b → a ≠ b → a < w2.heap.size → b < w2.heap.size → Own w2 a T.int 1 (.slice (some ⟨a, 0, none⟩) 0 0) 0 [] → Own w2 b T.int 1 (.slice (some ⟨b, 0, none⟩) 0 0) 0 [] →
      AppendV Try.prog T.sl_int (.slice (some ⟨a, 0, none⟩) 0 0) f w2 fun t' w3 => Chg S w2 w3 ∧ AppendV Try.prog T.sl_int (.slice (some ⟨b, 0, none⟩) 0 0) r w3 fun u' w4 => Chg S w3 w4 ∧ K t' u' w4 := by
    intro w2 a b E2 ha hb hab hal hbl ho1 ho2
    refine append_at ho1 (hf.ext E2) (by omega) (by omega) fun t' w3 ho1' C3 k1 => ?_
    refine ⟨C3.mono fun k _ hk => by have hk : some a = some k := hk; cases hk; exact hS _ ha, ?_⟩
    have E3 : Ext w w3 := Chg.ext (E2.then C3) fun k hk e => by have e : some a = some k := e; cases e; omega
    have ho2' := Own.keep ho2 C3 fun k hk e => by
      have e : some a = some k := e
      have hk : some b = some k := hk
      cases e; cases hk; exact hab rfl
    have z3 := C3.size
    refine append_at ho2' (hr.ext E3) (by omega) (by omega) fun u' w4 ho2'' C4 k2 => ?_
    refine ⟨C4.mono fun k _ hk => by have hk : some b = some k := hk; cases hk; exact hS _ hb, ?_⟩
    have E4 : Ext w w4 := Chg.ext (E3.then C4) fun k hk e => by have e : some b = some k := e; cases e; omega
    have hne : ∀ k, t'.ownBlock = some k → k ≠ b := fun k hk e => by
      rcases k1 with k1 | k1 <;> rw [hk] at k1 <;> cases k1
      · exact hab e
      · omega
    have ho1'' := Own.keep ho1' C4 fun k hk e => by have e : some b = some k := e; cases e; exact hne _ hk rfl
    have hlt : ∀ k, t'.ownBlock = some k → k < w3.heap.size := fun k hk => (Own.lt ho1' hk).2
    have i1 : Own w4 a T.int 1 t' (0 + xs.length) (ints xs) := by simpa using ho1''
    have i2 : Own w4 b T.int 1 u' (0 + ys.length) (ints ys) := by simpa using ho2''
    obtain ⟨b1, e1, l1⟩ : ∃ b1, (∀ k, t'.ownBlock = some k → k = b1) ∧ (w.heap.size ≤ b1 ∧ b1 < w3.heap.size ∧ b1 ≠ b) := by
      rcases k1 with k1 | k1
      · exact ⟨a, fun k hk => by rw [hk] at k1; cases k1; rfl, ha, by omega, hab⟩
      · exact ⟨w2.heap.size, fun k hk => by rw [hk] at k1; cases k1; rfl, by omega, hlt _ k1, by omega⟩
    obtain ⟨b2, e2, l2⟩ : ∃ b2, (∀ k, u'.ownBlock = some k → k = b2) ∧ (w.heap.size ≤ b2 ∧ b1 ≠ b2) := by
      rcases k2 with k2 | k2
      · exact ⟨b, fun k hk => by rw [hk] at k2; cases k2; rfl, hb, l1.2.2⟩
      · exact ⟨w3.heap.size, fun k hk => by rw [hk] at k2; cases k2; rfl, by omega, by omega⟩
    exact hK _ _ _ b1 b2 E4 (copied i1 e1) (copied i2 e2) l1.1 l2.1 l2.2
  refine ⟨⟨_, rfl, fun w1 n1 => ⟨n1.ext.chg, ?_, ?_⟩⟩, ⟨_, rfl, fun w1 n1 => ⟨n1.ext.chg, ⟨_, rfl, fun w2 n2 => ⟨n2.ext.chg, ?_⟩⟩⟩⟩⟩
  · have z1 := n1.size
    have ho1 := own0 n1
    refine append_at ho1 (hf.ext n1.ext) (by omega) (by omega) fun t' w2 ho1' C2 k1 => ?_
    have z2 := C2.size
    have E2 : Ext w w2 := Chg.ext (n1.ext.then C2) fun k hk e => by have e : some w.heap.size = some k := e; cases e; omega
    refine ⟨C2.mono fun k _ hk => by have hk : some w.heap.size = some k := hk; cases hk; exact hS _ (Nat.le_refl _), ⟨_, rfl, fun w3 n3 => ⟨n3.ext.chg, ?_⟩⟩⟩
    have z3 := n3.size
    have ho2 := own0 n3
    have E3 := E2.trans n3.ext
    refine append_at ho2 (hr.ext E3) (by omega) (by omega) fun u' w4 ho2' C4 k2 => ?_
    have E4 : Ext w2 w4 := Chg.ext (n3.ext.then C4) fun k hk e => by have e : some w2.heap.size = some k := e; cases e; omega
    refine ⟨C4.mono fun k _ hk => by have hk : some w2.heap.size = some k := hk; cases hk; exact hS _ (by omega), ?_⟩
    have i1 : Own w4 w.heap.size T.int 1 t' (0 + xs.length) (ints xs) := by simpa using Own.ext ho1' E4
    have i2 : Own w4 w2.heap.size T.int 1 u' (0 + ys.length) (ints ys) := by simpa using ho2'
    have hlt : ∀ k, t'.ownBlock = some k → k < w2.heap.size := fun k hk => (Own.lt ho1' hk).2
    obtain ⟨b1, e1, l1⟩ : ∃ b1, (∀ k, t'.ownBlock = some k → k = b1) ∧ (w.heap.size ≤ b1 ∧ b1 < w2.heap.size) := by
      rcases k1 with k1 | k1
      · exact ⟨w.heap.size, fun k hk => by rw [hk] at k1; cases k1; rfl, Nat.le_refl _, by omega⟩
      · exact ⟨w1.heap.size, fun k hk => by rw [hk] at k1; cases k1; rfl, by omega, hlt _ k1⟩
    obtain ⟨b2, e2, l2⟩ : ∃ b2, (∀ k, u'.ownBlock = some k → k = b2) ∧ w2.heap.size ≤ b2 := by
      rcases k2 with k2 | k2
      · exact ⟨w2.heap.size, fun k hk => by rw [hk] at k2; cases k2; rfl, Nat.le_refl _⟩
      · exact ⟨w3.heap.size, fun k hk => by rw [hk] at k2; cases k2; rfl, by omega⟩
    exact hK _ _ _ b1 b2 (E2.trans E4) (copied i1 e1) (copied i2 e2) l1.1 (by omega) (by omega)
  · refine ⟨_, rfl, fun w2 n2 => ⟨n2.ext.chg, ?_⟩⟩
    have z1 := n1.size
    have z2 := n2.size
    exact both (n1.ext.trans n2.ext) (Nat.le_refl _) (by omega) (by omega) (by omega) (by omega) (Own.ext (own0 n1) n2.ext) (own0 n2)
  · have z1 := n1.size
    have z2 := n2.size
    exact both (n1.ext.trans n2.ext) (by omega) (Nat.le_refl _) (by omega) (by omega) (by omega) (own0 n2) (Own.ext (own0 n1) n2.ext)
end Go.Proofs.Ytblgkpfnjlobjaa

namespace Go.Proofs.Ytblgkpfnjlobjaa
open Go Go.V

/-- The block of an appended slice is the old one or came later. -/
def Later (w : World) (v v' : Value) : Prop := v'.ownBlock = v.ownBlock ∨ ∃ k, v'.ownBlock = some k ∧ w.heap.size ≤ k

theorem app1At {P : Program} {t e size bytes : Nat} {z : Value} (ht : P.underlying t = some (.slice e)) (he : ElemT P e size bytes z)
    {w : World} {lo : Nat} {v : Value} {n : Nat} {cs : List Value} (hown : Own w lo e size v n cs) {x : Value} {zc : Array Value} {news : List Value}
    (hx : x.cells.toList = news) (hfill : Instr.fill (fun i => some (i * size, size)) (rowOf zc (1 * size)) [(0, x)] = some x.cells) (hsz : x.cells.size = size) (h1 : ∀ u ∈ news, u.oneCell' = true)
    (h63 : n < 9223372036854775807) (hby : (n + 1) * bytes ≤ 140737488355328)
    (hlo : lo ≤ w.heap.size) {S : Nat → Prop} (hS : ∀ k, blkIs v k → S k) {K : Value → World → Prop} (hK : ∀ v' w', Own w' lo e size v' (n + 1) (cs ++ news) → Chg (blkIs v) w w' → Later w v v' → K v' w') :
    BSliceV e size 1 zc [(0, x)] w fun p w1 => Chg S w w1 ∧ AppendV P t v p w1 fun v' w' => Chg S w1 w' ∧ K v' w' := by
  refine ⟨_, hfill, fun w1 hn => ⟨hn.ext.chg, ?_⟩⟩
  have hown1 := Own.ext hown hn.ext
  obtain ⟨i, hi, hz, hs, hb, hzs, h0⟩ := he.out
  have hnews : ∀ j u, news[j]? = some u → w1.cell? ((⟨w.heap.size, 0, none⟩ : Addr).add j) = some u := by
    intro j u hj
    rw [addr_add, Nat.zero_add, cell_of_row w1 _ j _ e (0, 0) hn.here]
    rw [← hx] at hj
    simpa using hj
  have key : ∀ ty, ∃ v' w', (Builtin.append_ #[t, t] ty #[v, .slice (some ⟨w.heap.size, 0, none⟩) 1 1]).run P w1 = .ok v' w' ∧ w'.ownsRow lo e size v' (n + 1) (cs ++ news) ∧ w1.grownBy w' v.ownBlock ∧ (v' = .slice none 0 0 ↔ v = .slice none 0 0 ∧ 1 = 0) ∧ (v'.ownBlock = v.ownBlock ∨ v'.ownBlock = some w1.heap.size) := fun ty =>
    run_append_own_at (P := P) w1 lo t ty e i z size bytes ht hi hz hs hb hzs h0 v n cs hown1 _ 1 1 news (by rw [← hx]; simp [hsz]) hnews h1 (by unfold maxLen; omega) hby (Nat.le_trans hlo hn.ext.size)
  obtain ⟨v', w', hr, ho, hg, _, hbk⟩ := key 0
  have hc := chg_of_grown hg
  refine ⟨v', w', fun ty => hr, hc.mono fun k _ hk => hS k hk, hK v' w' ho (hn.ext.then hc) ?_⟩
  rcases hbk with h | h
  · exact .inl h
  · exact .inr ⟨_, h, hn.ext.size⟩
theorem plainly {P : Program} {t e size len : Nat} {v : Value} {zc : Array Value} {parts : List (Nat × Value)} {w : World} {S : Nat → Prop} {K : Value → World → Prop}
    (h : BSliceV e size len zc parts w fun p w1 => Chg S w w1 ∧ AppendV P t v p w1 fun v' w' => Chg S w1 w' ∧ K v' w') : BSliceV e size len zc parts w fun p w1 => AppendV P t v p w1 K := by
  obtain ⟨c, h1, h2⟩ := h
  refine ⟨c, h1, fun w1 hn => ?_⟩
  obtain ⟨_, v', w', hr, _, hk⟩ := h2 w1 hn
  exact ⟨v', w', hr, hk⟩

theorem app_intAt {w : World} {lo : Nat} {v : Value} {xs : List Int} {n : Nat} (hown : Own w lo T.int 1 v n (ints xs)) {x : Int} {zc : Value} (hn : n ≤ 1099511627776) (hlo : lo ≤ w.heap.size)
    {K : Value → World → Prop} (hK : ∀ v' w', Own w' lo T.int 1 v' (n + 1) (ints (xs ++ [x])) → Chg (blkIs v) w w' → Later w v v' → K v' w') :
    BSliceV T.int 1 1 #[zc] [(0, .int .i64 x)] w fun p w1 => AppendV Try.prog T.sl_int v p w1 K := by
  refine plainly (S := fun _ => True) (app1At sl_int el_int hown (news := [.int .i64 x]) rfl (fill_int rfl) rfl (by simp [Value.oneCell']) (by omega) (by omega) hlo (fun _ _ => trivial) fun v' w' ho hc hl => hK v' w' ?_ hc hl)
  simpa [ints] using ho

theorem app_nodeAt {w : World} {lo : Nat} {v : Value} {p : List Nd} {fv rv : Nat → Value} (ho : Own w lo T.impl_Node 3 v p.length (flat p fv rv)) {x : Nd} {f r : Value} {k : Int} (hk : k = x.kind) (hf : f.cells = #[f] ∧ f.oneCell' = true) (hr : r.cells = #[r] ∧ r.oneCell' = true)
    (hn : p.length ≤ 1048576) (hlo : lo ≤ w.heap.size) {S : Nat → Prop} (hS : ∀ k, blkIs v k → S k) {K : Value → World → Prop}
    (hK : ∀ v' w', Own w' lo T.impl_Node 3 v' (p ++ [x]).length (flat (p ++ [x]) (setF fv p.length f) (setF rv p.length r)) → Chg (blkIs v) w w' → Later w v v' → K v' w') :
    BSliceV T.impl_Node 3 1 #[.int .i64 0, .slice none 0 0, .slice none 0 0] [(0, .agg #[.int .i64 k, f, r])] w fun t w1 => Chg S w w1 ∧ AppendV Try.prog T.sl_impl_Node v t w1 fun v' w' => Chg S w1 w' ∧ K v' w' := by
  subst hk
  refine app1At sl_node el_node ho (news := [.int .i64 x.kind, f, r]) ?_ ?_ ?_ ?_ (by omega) (by omega) hlo hS fun v' w' ho' hc hl => hK v' w' ?_ hc hl
  · simp [Value.cells]
  · simp [Instr.fill, rowOf, Value.cells]
    refine Array.ext (by simp) fun i hi _ => ?_
    simp at hi
    match i, hi with
    | 0, _ => simp
    | 1, _ => simp
    | 2, _ => simp
  · simp [Value.cells]
  · intro u hu
    simp at hu
    rcases hu with rfl | rfl | rfl
    · rfl
    · exact hf.2
    · exact hr.2
  · rw [flat_snoc]; simpa using ho'
end Go.Proofs.Ytblgkpfnjlobjaa

namespace Go.Proofs.Ytblgkpfnjlobjaa
open Go Go.V

/-- Plans grow node by node. -/
structure Grow (w : World) (lo lo' : Nat) (v : Value) (p : List Nd) : Prop where
  out : ∃ bs fv rv, Own w lo T.impl_Node 3 v p.length (flat p fv rv) ∧ Inner w (lo' ≤ ·) p bs fv rv
theorem Grow.ext {w w' : World} {lo lo' : Nat} {v : Value} {p : List Nd} (h : Grow w lo lo' v p) (hc : Ext w w') : Grow w' lo lo' v p := by
  obtain ⟨bs, fv, rv, ho, hi⟩ := h.out
  exact ⟨bs, fv, rv, Own.ext ho hc, hi.ext hc⟩
theorem Grow.keep {w w' : World} {lo lo' : Nat} {v : Value} {p : List Nd} (h : Grow w lo lo' v p) {S : Nat → Prop} (hc : Chg S w w') (hs : ∀ k, k < w.heap.size → lo' ≤ k → ¬ S k) (hv : ∀ k, v.ownBlock = some k → ¬ S k) : Grow w' lo lo' v p := by
  obtain ⟨bs, fv, rv, ho, hi⟩ := h.out
  exact ⟨bs, fv, rv, Own.keep ho hc hv, hi.keep hc fun s hs' hne => hs _ (hi.lt hs' hne).1 (hi.inB s hs' hne)⟩
theorem Grow.fplan {w : World} {lo lo' : Nat} {v : Value} {p : List Nd} (h : Grow w lo lo' v p) (hl : p.length ≤ 1048576) (hlo : lo ≤ lo') : FPlan w (lo ≤ ·) v p := by
  obtain ⟨bs, fv, rv, ho, hi⟩ := h.out
  exact FPlan.of_own ho (hi.mono fun b _ hb => by omega) hl fun b hb => hb
theorem Grow.blk {w : World} {lo lo' k : Nat} {v : Value} {p : List Nd} (h : Grow w lo lo' v p) (hk : v.ownBlock = some k) : lo ≤ k ∧ k < w.heap.size ∧ ∃ cur, w.heap[k]? = some (.cells cur T.impl_Node (0, 0)) := by
  obtain ⟨bs, fv, rv, ho, hi⟩ := h.out
  have := Own.lt ho hk
  exact ⟨this.1, this.2, own_tagN ho hk⟩
/-- A node whose lists came after w is appended. -/
theorem Grow.push {w w' : World} {lo lo' : Nat} {v : Value} {p : List Nd} (h : Grow w lo lo' v p) (hE : Ext w w') {x : Nd} {f r : Value} {b1 b2 : Nat} {k : Int} (hk : k = x.kind) (hf : FInts w' (· = b1) f x.frm) (hr : FInts w' (· = b2) r x.row)
    (h1 : x.frm ≠ [] → w.heap.size ≤ b1) (h2 : x.row ≠ [] → w.heap.size ≤ b2) (h3 : x.frm ≠ [] → x.row ≠ [] → b1 ≠ b2) (hlo : lo ≤ w.heap.size) (hlo' : lo' ≤ w.heap.size) (hs : Sml x) (hn : p.length ≤ 1048576) {K : Value → World → Prop}
    (hK : ∀ v' w'', Grow w'' lo lo' v' (p ++ [x]) → Chg (blkIs v) w' w'' → K v' w'') :
    BSliceV T.impl_Node 3 1 #[.int .i64 0, .slice none 0 0, .slice none 0 0] [(0, .agg #[.int .i64 k, f, r])] w' fun t w1 => AppendV Try.prog T.sl_impl_Node v t w1 K := by
  obtain ⟨bs, fv, rv, ho, hi⟩ := h.out
  have hp := hi.push hE hf hr h1 h2 h3 (fun b hb => Nat.le_trans hlo' hb) hs
  have ho' := Own.ext ho hE
  exact app_node ho' hk hf.cellsV hr.cellsV hn (Nat.le_trans hlo hE.size) fun v' w'' ho'' hc => hK v' w'' ⟨_, _, _, ho'', hp.beside ho' hc⟩ hc

theorem Own.cap03 {w w' : World} {lo c : Nat} {z : Array Value} (hn : New w (.cells (rowOf z (c * 3)) T.impl_Node (0, 0)) w') (hl : lo ≤ w.heap.size) (hc : c ≤ 1048576) : Own w' lo T.impl_Node 3 (.slice (some ⟨w.heap.size, 0, none⟩) 0 c) 0 [] :=
  ⟨rfl, .inr ⟨_, c, _, rfl, hl, hn.here, Nat.zero_le _, by unfold maxLen; omega, by simp [rowOf], rfl⟩⟩
/-- The same in a region whose order is free. -/
theorem Grow.pushS {w w' : World} {lo lo' : Nat} {v : Value} {p : List Nd} (h : Grow w lo lo' v p) (hE : Ext w w') {x : Nd} {f r : Value} {b1 b2 : Nat} {k : Int} (hk : k = x.kind) (hf : FInts w' (· = b1) f x.frm) (hr : FInts w' (· = b2) r x.row)
    (h1 : x.frm ≠ [] → w.heap.size ≤ b1) (h2 : x.row ≠ [] → w.heap.size ≤ b2) (h3 : x.frm ≠ [] → x.row ≠ [] → b1 ≠ b2) (hlo : lo ≤ w.heap.size) (hlo' : lo' ≤ w.heap.size) (hs : Sml x) (hn : p.length ≤ 1048576) {S : Nat → Prop} (hS : ∀ k, blkIs v k → S k) {K : Value → World → Prop}
    (hK : ∀ v' w'', Grow w'' lo lo' v' (p ++ [x]) → Chg (blkIs v) w' w'' → K v' w'') :
    BSliceV T.impl_Node 3 1 #[.int .i64 0, .slice none 0 0, .slice none 0 0] [(0, .agg #[.int .i64 k, f, r])] w' fun t w1 => Chg S w' w1 ∧ AppendV Try.prog T.sl_impl_Node v t w1 fun v' w2 => Chg S w1 w2 ∧ K v' w2 := by
  obtain ⟨bs, fv, rv, ho, hi⟩ := h.out
  have hp := hi.push hE hf hr h1 h2 h3 (fun b hb => Nat.le_trans hlo' hb) hs
  have ho' := Own.ext ho hE
  exact app_nodeAt ho' hk hf.cellsV hr.cellsV hn (Nat.le_trans hlo hE.size) hS fun v' w'' ho'' hc _ => hK v' w'' ⟨_, _, _, ho'', hp.beside ho' hc⟩ hc
theorem Grow.new {w w' : World} {lo lo' : Nat} {z : Array Value} (hn : New w (.cells (rowOf z (0 * 3)) T.impl_Node (0, 0)) w') (hl : lo ≤ w.heap.size) : Grow w' lo lo' (.slice (some ⟨w.heap.size, 0, none⟩) 0 0) [] :=
  ⟨fun _ => 0, fun _ => .slice none 0 0, fun _ => .slice none 0 0, Own.empty hn hl, Inner.nil⟩
end Go.Proofs.Ytblgkpfnjlobjaa

namespace Go.Proofs.Ytblgkpfnjlobjaa
open Go Go.V

/-- The first nodes of a part. -/
theorem part_step {p : List Nd} {c : Nat → Prop} {g : Nat → Nat} {i : Nat} (hi : i < p.length) (hc : c i) : (subP p c g).take (rank c i + 1) = (subP p c g).take (rank c i) ++ [ren p c g i] := by
  have h1 : rank c i < (subP p c g).length := by rw [subP_len]; exact rank_lt hc hi
  have h2 := subP_nd (p := p) (c := c) (g := g) hi hc
  rw [nd_get h1] at h2
  rw [take_snoc h1, h2]
/-- The node of the whole that a node of a part was. -/
noncomputable def inv (c : Nat → Prop) (n a : Nat) : Nat := ((sel n c).getD a 0).toNat
theorem inv_rank {c : Nat → Prop} {n i : Nat} (hi : i < n) (hc : c i) : inv c n (rank c i) = i := by
  unfold inv; rw [List.getD_eq_getElem?_getD, sel_rank hi hc]; simp
theorem setF_same' {α : Type} {f : Nat → α} {n : Nat} {x : α} (h : x = f n) : setF f n x = f := by
  funext i
  by_cases e : i = n
  · subst e; rw [setF_same, h]
  · rw [setF_ne _ _ e]
open Classical in
/-- What node j needs once the first i nodes are numbered anew. -/
noncomputable def curF (p : List Nd) (c : Nat → Prop) (g : Nat → Nat) (i j : Nat) : List Int := if j < i ∧ c j then (ren p c g j).frm else (nd p j).frm
theorem curF_len (p : List Nd) (c : Nat → Prop) (g : Nat → Nat) (i j : Nat) : (curF p c g i j).length = (nd p j).frm.length := by unfold curF; split <;> simp [ren]

/-- A plan in memory of its own, out of a slice that has grown; its block is told. -/
theorem FPlan.of_own' {w : World} {lo : Nat} {B : Nat → Prop} {v : Value} {p : List Nd} {bs : Nat → Nat} {fv rv : Nat → Value} (ho : Own w lo T.impl_Node 3 v p.length (flat p fv rv)) (hin : Inner w B p bs fv rv) (hl : p.length ≤ 1048576) (hB : ∀ b, v.ownBlock = some b → B b) : FPlan w B v p := by
  obtain ⟨a, c, hv, hc, hr⟩ := Own.nodes ho rfl
  refine ⟨a, c, bs, fv, rv, hv, hc, hl, hin, fun hne => ?_⟩
  obtain ⟨b, cur, ha, hlo, hb, hsz, hcell⟩ := hr hne
  exact ⟨b, 0, cur, ha, hB b (by rw [hv, ha]; rfl), hb, hsz, hcell⟩

/-- The nodes of a part whose lists were the whole's. -/
theorem moved_plan {w w0 : World} {lo : Nat} {B0 B : Nat → Prop} {u : Value} {p : List Nd} {c : Nat → Prop} {g : Nat → Nat} {bs : Nat → Nat} {fv rv : Nat → Value} (h10 : p.length ≤ 10)
    (hou : Own w lo T.impl_Node 3 u (rank c p.length) (flat (subP p c g) (fun a => fv (inv c p.length a)) fun a => rv (inv c p.length a)))
    (hall : ∀ j, j < p.length → FInts w (· = bs (2 * j)) (fv j) (curF p c g p.length j) ∧ FInts w (· = bs (2 * j + 1)) (rv j) (nd p j).row ∧ Sml (nd p j)) (hin : Inner w0 B0 p bs fv rv)
    (hB : ∀ b, B0 b → B b) (hu : ∀ b, u.ownBlock = some b → B b) : FPlan w B u (subP p c g) := by
  have hrl := @rank_le c p.length
  rw [← subP_len p c g] at hou
  refine FPlan.of_own' (bs := fun s => bs (2 * inv c p.length (s / 2) + s % 2)) hou ⟨fun a ha => ?_, fun s hs hne => ?_, fun s s' hs hs' hne hne' e => ?_⟩ (by rw [subP_len]; omega) hu
  · rw [subP_len] at ha
    obtain ⟨i, hi, hci, rfl⟩ := rank_surj ha
    obtain ⟨k1, k2, k3⟩ := hall i hi
    have d1 : 2 * rank c i / 2 = rank c i := by omega
    have d2 : (2 * rank c i + 1) / 2 = rank c i := by omega
    have m1 : 2 * rank c i % 2 = 0 := by omega
    have m2 : (2 * rank c i + 1) % 2 = 1 := by omega
    simp only [d1, d2, m1, m2, inv_rank hi hci, Nat.add_zero]
    rw [subP_nd hi hci]
    unfold curF at k1
    rw [if_pos ⟨hi, hci⟩] at k1
    exact ⟨k1, k2, by simpa [ren] using k3.1, k3.2⟩
  · rw [subP_len] at hs
    obtain ⟨i, hi, hci, hr⟩ := rank_surj (show s / 2 < rank c p.length by omega)
    show B (bs (2 * inv c p.length (s / 2) + s % 2))
    rw [← hr, inv_rank hi hci]
    have hs2 : slot p (2 * i + s % 2) ≠ [] := by
      unfold slot at hne ⊢
      rw [← hr, subP_nd hi hci] at hne
      have a1 : (2 * i + s % 2) / 2 = i := by omega
      have a2 : (2 * i + s % 2) % 2 = s % 2 := by omega
      rw [a1, a2]
      split at hne
      · rename_i h0; rw [if_pos h0]; intro e; apply hne; simp [ren, e]
      · rename_i h0; rw [if_neg h0]; exact hne
    exact hB _ (hin.inB (2 * i + s % 2) (by omega) hs2)
  · rw [subP_len] at hs hs'
    obtain ⟨i, hi, hci, hr⟩ := rank_surj (show s / 2 < rank c p.length by omega)
    obtain ⟨j, hj, hcj, hr'⟩ := rank_surj (show s' / 2 < rank c p.length by omega)
    have e : bs (2 * inv c p.length (s / 2) + s % 2) = bs (2 * inv c p.length (s' / 2) + s' % 2) := e
    rw [← hr, inv_rank hi hci, ← hr', inv_rank hj hcj] at e
    have conv : ∀ {s i}, c i → i < p.length → rank c i = s / 2 → slot (subP p c g) s ≠ [] → slot p (2 * i + s % 2) ≠ [] := fun {s i} hci hi hr hne => by
      unfold slot at hne ⊢
      rw [← hr, subP_nd hi hci] at hne
      have a1 : (2 * i + s % 2) / 2 = i := by omega
      have a2 : (2 * i + s % 2) % 2 = s % 2 := by omega
      rw [a1, a2]
      split at hne
      · rename_i h0; rw [if_pos h0]; intro e; apply hne; simp [ren, e]
      · rename_i h0; rw [if_neg h0]; exact hne
    have := hin.inj _ _ (by omega) (by omega) (conv hci hi hr hne) (conv hcj hj hr' hne') e
    have hij : i = j := by omega
    subst hij
    omega
end Go.Proofs.Ytblgkpfnjlobjaa
