/- Two lists copied in any order. -/
import Derived.Test.YtpfabjjeacdikaaCopy
import Derived.Maps.AppendAt
namespace Go.Proofs.Ytpfabjjeacdikaa
open Go Go.V

theorem Own.fintsAt {w : World} {lo : Nat} {v : Value} {n : Nat} {xs : List Int} (h : Own w lo T.int 1 v n (ints xs)) : FInts w (blkIs v) v xs := by
  have hl := h.1
  have hn : n = xs.length := by simpa [ints] using hl.symm
  subst hn
  rcases h.2 with ⟨rfl, h0⟩ | ⟨g, cap, cur, rfl, hb, hg, hnc, hcm, hcs, htake⟩
  · have : xs = [] := List.eq_nil_of_length_eq_zero h0
    subst this
    exact FInts.nil
  · refine ⟨_, cap, rfl, hnc, fun _ => ⟨g, 0, cur, rfl, rfl, hg, by omega, fun i x hi => ?_⟩⟩
    have hi' : (ints xs)[i]? = some (.int .i64 x) := by simp [ints, hi]
    rw [← htake, List.getElem?_take] at hi'
    rw [Nat.zero_add]
    split at hi'
    · simpa using hi'
    · cases hi'

/-- Numbers are appended to an owned slice; the block is the old one or one that is new. -/
theorem append_at {w : World} {lo : Nat} {u : Value} {n : Nat} {cs : List Value} (hown : Own w lo T.int 1 u n cs) {v : Value} {xs : List Int} (hx : Ints w v xs) (h63 : n + xs.length ≤ 1099511627776) (hlo : lo ≤ w.heap.size)
    {K : Value → World → Prop} (hK : ∀ v' w', Own w' lo T.int 1 v' (n + xs.length) (cs ++ ints xs) → Chg (blkIs u) w w' → (v'.ownBlock = u.ownBlock ∨ v'.ownBlock = some w.heap.size) → K v' w') : AppendV Try.prog T.sl_int u v w K := by
  obtain ⟨a, c, rfl, hc, hcs⟩ := hx.out
  cases a with
  | some ad =>
    obtain ⟨i, hi, hz, hs, hb, hzs, h0⟩ := el_int.out
    have hlen : (ints xs).length = xs.length * 1 := by simp [ints]
    have hnews : ∀ j u, (ints xs)[j]? = some u → w.cell? (ad.add j) = some u := fun j u hj => by
      obtain ⟨b, off, ha, hc⟩ := hcs j u hj
      cases ha
      rw [addr_add]; exact hc
    have key : ∀ ty, ∃ v' w', (Builtin.append_ #[T.sl_int, T.sl_int] ty #[u, .slice (some ad) xs.length c]).run Try.prog w = .ok v' w' ∧ w'.ownsRow lo T.int 1 v' (n + xs.length) (cs ++ ints xs) ∧ w.grownBy w' u.ownBlock ∧ (v' = .slice none 0 0 ↔ u = .slice none 0 0 ∧ xs.length = 0) ∧ (v'.ownBlock = u.ownBlock ∨ v'.ownBlock = some w.heap.size) := fun ty =>
      run_append_own_at (P := Try.prog) w lo T.sl_int ty T.int i _ 1 8 sl_int hi hz hs hb hzs h0 u n cs hown ad xs.length c (ints xs) hlen hnews ints_one (by unfold maxLen; omega) (by omega) hlo
    obtain ⟨v', w', hr, ho, hg, _, hbk⟩ := key 0
    exact ⟨v', w', fun ty => hr, hK v' w' ho (chg_of_grown hg) hbk⟩
  | none =>
    have hnil : xs = [] := by
      cases xs with
      | nil => rfl
      | cons x xs => obtain ⟨b, off, ha, _⟩ := hcs 0 _ rfl; cases ha
    subst hnil
    refine ⟨u, w, fun ty => ?_, hK u w (by simpa [ints] using hown) (Chg.refl _ _) (.inl rfl)⟩
    obtain ⟨i, hi, hz, hs, hb, hzs, h0⟩ := el_int.out
    rcases hown.2 with ⟨rfl, _⟩ | ⟨g, cap, cur, rfl, _, hg, hnc, _⟩
    · simp [Builtin.append_, run_und sl_int, sizeOf, run_info hi, Builtin.lenOf, Builtin.firstCells]
    · simp [Builtin.append_, run_und sl_int, sizeOf, run_info hi, Builtin.lenOf, Builtin.firstCells, hnc, storeCells]

theorem build_node {k f r : Value} (hk : k.cells = #[k]) (hf : f.cells = #[f]) (hr : r.cells = #[r]) {K : Value → Prop} (hK : K (.agg #[k, f, r])) :
    BuildV #[.int .i64 0, .slice none 0 0, .slice none 0 0] (fun i => ([(0, 1), (1, 1), (2, 1)] : List (Nat × Nat))[i]?) [(0, k), (1, f), (2, r)] K := by
  refine ⟨#[k, f, r], ?_, hK⟩
  simp [Instr.fill, hf, hr, hk]

/-- A new list, as a lone block's. -/
theorem copied {w1 : World} {b : Nat} {v : Value} {xs : List Int} {lo n : Nat} (ho : Own w1 lo T.int 1 v n (ints xs)) (hb : ∀ k, v.ownBlock = some k → k = b) : FInts w1 (· = b) v xs :=
  (Own.fintsAt ho).mono fun k _ hk => hb k hk

theorem two_copies {w : World} {S : Nat → Prop} (hS : ∀ k, w.heap.size ≤ k → S k) {f r : Value} {xs ys : List Int} (hf : Ints w f xs) (hr : Ints w r ys) (hx : xs.length ≤ 1099511627776) (hy : ys.length ≤ 1099511627776) {K : Value → Value → World → Prop}
    (hK : ∀ f' r' w' b1 b2, Ext w w' → FInts w' (· = b1) f' xs → FInts w' (· = b2) r' ys → w.heap.size ≤ b1 → w.heap.size ≤ b2 → b1 ≠ b2 → K f' r' w') :
    ((BSliceV T.int 1 0 #[.int .i64 0] [] w fun t w1 => Chg S w w1 ∧
      (AppendV Try.prog T.sl_int t f w1 fun t' w2 => Chg S w1 w2 ∧ BSliceV T.int 1 0 #[.int .i64 0] [] w2 fun u w3 => Chg S w2 w3 ∧ AppendV Try.prog T.sl_int u r w3 fun u' w4 => Chg S w3 w4 ∧ K t' u' w4) ∧
      (BSliceV T.int 1 0 #[.int .i64 0] [] w1 fun u w2 => Chg S w1 w2 ∧ AppendV Try.prog T.sl_int t f w2 fun t' w3 => Chg S w2 w3 ∧ AppendV Try.prog T.sl_int u r w3 fun u' w4 => Chg S w3 w4 ∧ K t' u' w4)) ∧
    (BSliceV T.int 1 0 #[.int .i64 0] [] w fun u w1 => Chg S w w1 ∧ BSliceV T.int 1 0 #[.int .i64 0] [] w1 fun t w2 => Chg S w1 w2 ∧ AppendV Try.prog T.sl_int t f w2 fun t' w3 => Chg S w2 w3 ∧ AppendV Try.prog T.sl_int u r w3 fun u' w4 => Chg S w3 w4 ∧ K t' u' w4)) := by
  have own0 : ∀ {w1 w2 : World} {z : Array Value}, New w1 (.cells (rowOf z (0 * 1)) T.int (0, 0)) w2 → Own w2 w1.heap.size T.int 1 (.slice (some ⟨w1.heap.size, 0, none⟩) 0 0) 0 [] := fun hn => Own.empty hn (Nat.le_refl _)
  -- both slices are there before the first append
  have both : ∀ {w2 : World} {a b : Nat}, Ext w w2 → w.heap.size ≤ a → w.heap.size ≤ b → a ≠ b → a < w2.heap.size → b < w2.heap.size → Own w2 a T.int 1 (.slice (some ⟨a, 0, none⟩) 0 0) 0 [] → Own w2 b T.int 1 (.slice (some ⟨b, 0, none⟩) 0 0) 0 [] →
      AppendV Try.prog T.sl_int (.slice (some ⟨a, 0, none⟩) 0 0) f w2 fun t' w3 => Chg S w2 w3 ∧ AppendV Try.prog T.sl_int (.slice (some ⟨b, 0, none⟩) 0 0) r w3 fun u' w4 => Chg S w3 w4 ∧ K t' u' w4 := by
    intro w2 a b E2 ha hb hab hal hbl ho1 ho2
    refine append_at ho1 (hf.ext E2) (by omega) (by omega) fun t' w3 ho1' C3 k1 => ?_
    refine ⟨C3.mono fun k _ hk => by have hk : some a = some k := hk; cases hk; exact hS _ ha, ?_⟩
    have E3 : Ext w w3 := Chg.ext (E2.then C3) fun k hk e => by have e : some a = some k := e; cases e; omega
    have ho2' := Own.keep ho2 C3 fun k hk e => by
      have e : some a = some k := e
      have hk : some b = some k := hk
      cases e; cases hk; exact hab rfl
    have z3 := C3.size
    refine append_at ho2' (hr.ext E3) (by omega) (by omega) fun u' w4 ho2'' C4 k2 => ?_
    refine ⟨C4.mono fun k _ hk => by have hk : some b = some k := hk; cases hk; exact hS _ hb, ?_⟩
    have E4 : Ext w w4 := Chg.ext (E3.then C4) fun k hk e => by have e : some b = some k := e; cases e; omega
    have hne : ∀ k, t'.ownBlock = some k → k ≠ b := fun k hk e => by
      rcases k1 with k1 | k1 <;> rw [hk] at k1 <;> cases k1
      · exact hab e
      · omega
    have ho1'' := Own.keep ho1' C4 fun k hk e => by have e : some b = some k := e; cases e; exact hne _ hk rfl
    have hlt : ∀ k, t'.ownBlock = some k → k < w3.heap.size := fun k hk => (Own.lt ho1' hk).2
    have i1 : Own w4 a T.int 1 t' (0 + xs.length) (ints xs) := by simpa using ho1''
    have i2 : Own w4 b T.int 1 u' (0 + ys.length) (ints ys) := by simpa using ho2''
    obtain ⟨b1, e1, l1⟩ : ∃ b1, (∀ k, t'.ownBlock = some k → k = b1) ∧ (w.heap.size ≤ b1 ∧ b1 < w3.heap.size ∧ b1 ≠ b) := by
      rcases k1 with k1 | k1
      · exact ⟨a, fun k hk => by rw [hk] at k1; cases k1; rfl, ha, by omega, hab⟩
      · exact ⟨w2.heap.size, fun k hk => by rw [hk] at k1; cases k1; rfl, by omega, hlt _ k1, by omega⟩
    obtain ⟨b2, e2, l2⟩ : ∃ b2, (∀ k, u'.ownBlock = some k → k = b2) ∧ (w.heap.size ≤ b2 ∧ b1 ≠ b2) := by
      rcases k2 with k2 | k2
      · exact ⟨b, fun k hk => by rw [hk] at k2; cases k2; rfl, hb, l1.2.2⟩
      · exact ⟨w3.heap.size, fun k hk => by rw [hk] at k2; cases k2; rfl, by omega, by omega⟩
    exact hK _ _ _ b1 b2 E4 (copied i1 e1) (copied i2 e2) l1.1 l2.1 l2.2
  refine ⟨⟨_, rfl, fun w1 n1 => ⟨n1.ext.chg, ?_, ?_⟩⟩, ⟨_, rfl, fun w1 n1 => ⟨n1.ext.chg, ⟨_, rfl, fun w2 n2 => ⟨n2.ext.chg, ?_⟩⟩⟩⟩⟩
  · have z1 := n1.size
    have ho1 := own0 n1
    refine append_at ho1 (hf.ext n1.ext) (by omega) (by omega) fun t' w2 ho1' C2 k1 => ?_
    have z2 := C2.size
    have E2 : Ext w w2 := Chg.ext (n1.ext.then C2) fun k hk e => by have e : some w.heap.size = some k := e; cases e; omega
    refine ⟨C2.mono fun k _ hk => by have hk : some w.heap.size = some k := hk; cases hk; exact hS _ (Nat.le_refl _), ⟨_, rfl, fun w3 n3 => ⟨n3.ext.chg, ?_⟩⟩⟩
    have z3 := n3.size
    have ho2 := own0 n3
    have E3 := E2.trans n3.ext
    refine append_at ho2 (hr.ext E3) (by omega) (by omega) fun u' w4 ho2' C4 k2 => ?_
    have E4 : Ext w2 w4 := Chg.ext (n3.ext.then C4) fun k hk e => by have e : some w2.heap.size = some k := e; cases e; omega
    refine ⟨C4.mono fun k _ hk => by have hk : some w2.heap.size = some k := hk; cases hk; exact hS _ (by omega), ?_⟩
    have i1 : Own w4 w.heap.size T.int 1 t' (0 + xs.length) (ints xs) := by simpa using Own.ext ho1' E4
    have i2 : Own w4 w2.heap.size T.int 1 u' (0 + ys.length) (ints ys) := by simpa using ho2'
    have hlt : ∀ k, t'.ownBlock = some k → k < w2.heap.size := fun k hk => (Own.lt ho1' hk).2
    obtain ⟨b1, e1, l1⟩ : ∃ b1, (∀ k, t'.ownBlock = some k → k = b1) ∧ (w.heap.size ≤ b1 ∧ b1 < w2.heap.size) := by
      rcases k1 with k1 | k1
      · exact ⟨w.heap.size, fun k hk => by rw [hk] at k1; cases k1; rfl, Nat.le_refl _, by omega⟩
      · exact ⟨w1.heap.size, fun k hk => by rw [hk] at k1; cases k1; rfl, by omega, hlt _ k1⟩
    obtain ⟨b2, e2, l2⟩ : ∃ b2, (∀ k, u'.ownBlock = some k → k = b2) ∧ w2.heap.size ≤ b2 := by
      rcases k2 with k2 | k2
      · exact ⟨w2.heap.size, fun k hk => by rw [hk] at k2; cases k2; rfl, Nat.le_refl _⟩
      · exact ⟨w3.heap.size, fun k hk => by rw [hk] at k2; cases k2; rfl, by omega⟩
    exact hK _ _ _ b1 b2 (E2.trans E4) (copied i1 e1) (copied i2 e2) l1.1 (by omega) (by omega)
  · refine ⟨_, rfl, fun w2 n2 => ⟨n2.ext.chg, ?_⟩⟩
    have z1 := n1.size
    have z2 := n2.size
    exact both (n1.ext.trans n2.ext) (Nat.le_refl _) (by omega) (by omega) (by omega) (by omega) (Own.ext (own0 n1) n2.ext) (own0 n2)
  · have z1 := n1.size
    have z2 := n2.size
    exact both (n1.ext.trans n2.ext) (by omega) (Nat.le_refl _) (by omega) (by omega) (by omega) (own0 n2) (Own.ext (own0 n1) n2.ext)
end Go.Proofs.Ytpfabjjeacdikaa
