/-
Rows that may be exchanged are the same in both orders: the law FnFirstSwap returns true at every seed, and writes nothing that was there.
No condition.
-/
import Derived.Test.YtmbfkhacejnnhaaFirstPre
import Derived.Test.YtmbfkhacejnnhaaSwapP
import Derived.Test.YtmbfkhacejnnhaaCFnFirstSwap
namespace Go.Proofs.Ytmbfkhacejnnhaa
open Go Go.V

theorem Ints.loadE {S : Nat → Prop} {w w' : World} {v : Value} {xs : List Int} (h : Ints w v xs) (hE : Ext w w') {q : Nat} (hq : q < xs.length) (hS : ∀ b, b < w.heap.size → ¬ S b) {K : Value → Prop} (hK : K (.int .i64 xs[q])) : IdxV 1 v (.int .i64 q) fun t => LoadS S false 1 t w' K := by
  obtain ⟨a, c, rfl, hc, hx⟩ := h.out
  refine idxLoadS (hx.ext hE) rfl hq (fun b off ha => ?_) hK
  obtain ⟨b', off', ha', hcell⟩ := hx q _ (ints_get hq)
  rw [ha] at ha'
  cases ha'
  exact hS _ (World.block_lt_of_cell? w _ hcell)
theorem PlanV.frmE {S : Nat → Prop} {w w' : World} {v : Value} {p : List Nd} (h : PlanV w v p) (hE : Ext w w') {i : Nat} (hi : i < p.length) (hS : ∀ b, b < w.heap.size → ¬ S b) {K : Value → Prop} (hK : ∀ fv, Ints w fv p[i].frm → K fv) : IdxV 3 v (.int .i64 i) fun t => FAddrV 1 t fun t => LoadS S false 1 t w' K := by
  refine h.idx hi fun b o fv rv c0 c1 c2 hf hr hs => ?_
  simp only [go_sem]
  exact ⟨hS _ (World.block_lt_of_cell? w _ c1), fv, cell_keep hE c1 id, hK fv hf⟩
theorem choose_val {n : Nat} {P : Nat → Value → Prop} (h : ∀ i, i < n → ∃ x, P i x) : ∃ f : Nat → Value, ∀ i, i < n → P i (f i) := by
  refine ⟨fun i => if hi : i < n then Classical.choose (h i hi) else .slice none 0 0, fun i hi => ?_⟩
  simp only [dif_pos hi]
  exact Classical.choose_spec (h i hi)

/-- A plan whose nodes lie in memory of one's own; its lists lay there in the world w0. -/
structure SPlan (w0 w : World) (lo : Nat) (v : Value) (p : List Nd) : Prop where
  out : ∃ fv rv, Own w lo T.impl_Node 3 v p.length (flat p fv rv) ∧ ∀ i (h : i < p.length), Ints w0 (fv i) p[i].frm ∧ Ints w0 (rv i) p[i].row ∧ Sml p[i]

theorem append_nodes {w w0 : World} (hE : Ext w0 w) {lo : Nat} {u : Value} (hown : Own w lo T.impl_Node 3 u 0 []) {v : Value} {p : List Nd} (hp : PlanV w0 v p) (hlo : lo ≤ w.heap.size) {K : Value → World → Prop}
    (hK : ∀ v' w', SPlan w0 w' lo v' p → Chg (blkIs u) w w' → K v' w') (hne : 0 < p.length) : AppendV Try.prog T.sl_impl_Node u v w K := by
  obtain ⟨a, c, rfl, hc, hl, hh⟩ := hp.out
  have h1 : ∀ i, i < p.length → ∃ fv, ∃ rv, ∃ b off, a = some ⟨b, off, none⟩ ∧ w0.cell? ⟨b, off + 3 * i, none⟩ = some (.int .i64 (nd p i).kind) ∧ w0.cell? ⟨b, off + 3 * i + 1, none⟩ = some fv ∧ w0.cell? ⟨b, off + 3 * i + 2, none⟩ = some rv ∧ Ints w0 fv (nd p i).frm ∧ Ints w0 rv (nd p i).row ∧ Sml (nd p i) := fun i hi => by
    obtain ⟨b, off, fv, rv, k0, k1, k2, k3, k4, k5, k6⟩ := hh i p[i] (by simp [hi])
    rw [nd_get hi]
    exact ⟨fv, rv, b, off, k0, k1, k2, k3, k4, k5, k6⟩
  obtain ⟨fv, h2⟩ := choose_val h1
  obtain ⟨rv, h3⟩ := choose_val h2
  obtain ⟨b, off, rfl, _⟩ := h3 0 hne
  have hfl := flatN_len p fv rv p.length
  have hone : ∀ u ∈ flat p fv rv, u.oneCell' = true := by
    have key : ∀ {n : Nat}, (∀ i, i < n → (fv i).oneCell' = true ∧ (rv i).oneCell' = true) → ∀ u ∈ flatN p fv rv n, u.oneCell' = true := by
      intro n
      induction n with
      | zero => intro _ u hu; cases hu
      | succ n ih =>
        intro h u hu
        rw [flatN, List.mem_append] at hu
        rcases hu with hu | hu
        · exact ih (fun i hi => h i (by omega)) u hu
        · simp at hu
          rcases hu with rfl | rfl | rfl
          · rfl
          · exact (h n (by omega)).1
          · exact (h n (by omega)).2
    refine key fun i hi => ?_
    obtain ⟨_, _, _, _, _, _, k4, k5, _⟩ := h3 i hi
    exact ⟨(ints_cells k4).2, (ints_cells k5).2⟩
  refine appendV_own (lo := lo) sl_node el_node hown (a := ⟨b, off, none⟩) (m := p.length) (c := c) (flat p fv rv) (by unfold flat; omega) (fun j u hj => ?_) hone (by omega) (by omega) hlo fun v' w' ho' hc' => hK v' w' ⟨fv, rv, by simpa using ho', fun i hi => ?_⟩ hc'
  · have hjl : j < 3 * p.length := by
      have := (List.getElem?_eq_some_iff.1 hj).1
      unfold flat at this; omega
    have hi : j / 3 < p.length := by omega
    obtain ⟨b', off', ha', c1, c2, c3, _⟩ := h3 (j / 3) hi
    cases ha'
    obtain ⟨g1, g2, g3⟩ := flatN_get (p := p) (fv := fv) (rv := rv) hi
    rw [addr_add]
    unfold flat at hj
    refine cell_keep hE ?_ id
    rcases (show j = 3 * (j / 3) ∨ j = 3 * (j / 3) + 1 ∨ j = 3 * (j / 3) + 2 by omega) with e | e | e
    · rw [e, g1] at hj; cases hj; rw [e, show 3 * (j / 3) / 3 = j / 3 by omega]; exact c1
    · rw [e, g2] at hj; cases hj; rw [e, show (3 * (j / 3) + 1) / 3 = j / 3 by omega]; exact c2
    · rw [e, g3] at hj; cases hj; rw [e, show (3 * (j / 3) + 2) / 3 = j / 3 by omega]; exact c3
  · obtain ⟨_, _, _, _, _, _, k4, k5, k6⟩ := h3 i hi
    rw [nd_get hi] at k4 k5 k6
    exact ⟨k4, k5, k6⟩
theorem SPlan.ext {w0 w w' : World} {lo : Nat} {v : Value} {p : List Nd} (h : SPlan w0 w lo v p) (hE : Ext w w') : SPlan w0 w' lo v p := by
  obtain ⟨fv, rv, ho, hh⟩ := h.out
  exact ⟨fv, rv, Own.ext ho hE, hh⟩
theorem SPlan.plan {w0 w : World} {lo : Nat} {v : Value} {p : List Nd} (h : SPlan w0 w lo v p) (hE : Ext w0 w) (hl : p.length ≤ 1048576) : PlanV w v p := by
  obtain ⟨fv, rv, ho, hh⟩ := h.out
  obtain ⟨a, c, hv, hc, hr⟩ := Own.nodes ho rfl
  refine ⟨a, c, hv, hc, hl, fun i x hi => ?_⟩
  obtain ⟨hlt, rfl⟩ := List.getElem?_eq_some_iff.1 hi
  obtain ⟨b, cur, ha, _, hb, _, hcell⟩ := hr (List.ne_nil_of_length_pos (by omega))
  obtain ⟨c1, c2, c3⟩ := hcell i hlt
  obtain ⟨h1, h2, h3⟩ := hh i hlt
  rw [nd_get hlt] at c1
  exact ⟨b, 0, fv i, rv i, ha, by rw [cell_of_row w b _ _ _ (0, 0) hb]; exact c1, by rw [cell_of_row w b _ _ _ (0, 0) hb]; exact c2, by rw [cell_of_row w b _ _ _ (0, 0) hb]; exact c3, h1.ext hE, h2.ext hE, h3⟩
/-- What a node needs is written anew. -/
theorem SPlan.setFrm {w0 w : World} {lo : Nat} {v : Value} {p : List Nd} (h : SPlan w0 w lo v p) (hE : Ext w0 w) (hlo : w0.heap.size ≤ lo) (hl : p.length ≤ 1048576) {i : Nat} (hi : i < p.length) {f : Value} {xs : List Int} {bf : Nat} (hf : FInts w (· = bf) f xs) (hbf : ∀ k, blkIs v k → k ≠ bf) (hxs : xs.length ≤ 1048576) {K : World → Prop}
    (hK : ∀ w', Chg (blkIs v) w w' → PlanV w' v (p.set i ⟨(nd p i).kind, xs, (nd p i).row⟩) → K w') :
    IdxV 3 v (.int .i64 i) fun t => FAddrV 1 t fun t => StoreV 1 t f w K := by
  obtain ⟨fv, rv, ho, hh⟩ := h.out
  obtain ⟨a, c, rfl, hc, hr⟩ := Own.nodes ho rfl
  obtain ⟨b, cur, rfl, hlob, hb, hsz, hcell⟩ := hr (List.ne_nil_of_length_pos (by omega))
  refine ⟨by omega, by omega, ?_⟩
  simp only [addr_add, Int.toNat_natCast, FAddrV, Nat.zero_add]
  have hfc := hf.cellsV
  refine store_at hb hfc.1 hfc.2 (by omega) fun w' hp => ?_
  have hch : Chg (blkIs (.slice (some ⟨b, 0, none⟩) p.length c)) w w' := hp.chg.mono fun j _ e => by have e : j = b := e; subst e; rfl
  refine hK w' hch ⟨_, c, by rw [List.length_set], by rw [List.length_set]; exact hc, by rw [List.length_set]; exact hl, fun j x hj => ?_⟩
  have hf' : Ints w' f xs := (hf.keep hp.chg fun k hk e => hbf k (by have e : k = b := e; subst e; rfl) hk).ints
  have old : ∀ {u : Value} {ys : List Int}, Ints w0 u ys → Ints w' u ys := fun hu => Ints.old hu hE hp.chg fun k hk e => by have e : k = b := e; omega
  obtain ⟨hlt, rfl⟩ := List.getElem?_eq_some_iff.1 hj
  rw [List.length_set] at hlt
  obtain ⟨c1, c2, c3⟩ := hcell j hlt
  obtain ⟨h1, h2, h3⟩ := hh j hlt
  simp only [Nat.zero_add] at c1 c2 c3
  have hnd : (p.set i ⟨(nd p i).kind, xs, (nd p i).row⟩)[j]'(by rw [List.length_set]; exact hlt) = if j = i then ⟨(nd p i).kind, xs, (nd p i).row⟩ else p[j] := by
    rw [← nd_get (by rw [List.length_set]; exact hlt), nd_set hi, nd_get hlt]
  have cellj : ∀ {o : Nat} {u : Value}, (cur.setIfInBounds (i * 3 + 1) f)[o]? = some u → w'.cell? ⟨b, o, none⟩ = some u := fun {o u} h => by rw [cell_of_row w' b _ _ _ (0, 0) hp.here]; exact h
  rw [hnd]
  by_cases e : j = i
  · subst e
    rw [if_pos rfl]
    refine ⟨b, 0, f, rv j, rfl, cellj ?_, cellj ?_, cellj ?_, hf', ?_, ⟨hxs, ?_⟩⟩
    · rw [Array.getElem?_setIfInBounds_ne (by omega), Nat.zero_add]; exact c1
    · rw [show 0 + 3 * j + 1 = j * 3 + 1 by omega, Array.getElem?_setIfInBounds_self_of_lt (by omega)]
    · rw [Array.getElem?_setIfInBounds_ne (by omega), Nat.zero_add]; exact c3
    · show Ints w' (rv j) (nd p j).row
      rw [nd_get hi]; exact old h2
    · show (nd p j).row.length ≤ _
      rw [nd_get hi]; exact h3.2
  · rw [if_neg e]
    rw [nd_get hlt] at c1
    refine ⟨b, 0, fv j, rv j, rfl, cellj ?_, cellj ?_, cellj ?_, old h1, old h2, h3⟩
    · rw [Array.getElem?_setIfInBounds_ne (by omega), Nat.zero_add]; exact c1
    · rw [Array.getElem?_setIfInBounds_ne (by omega), Nat.zero_add]; exact c2
    · rw [Array.getElem?_setIfInBounds_ne (by omega), Nat.zero_add]; exact c3

theorem fnFirstSwap_ok {w : World} {v : Value} {bs : List Int} (hx : RowIn .u8 w v bs) : Calls Try.prog N.laws_FnFirstSwap #[v] w (Ret fun r w' => Ext w w' ∧ r = .bool true) := by
  refine ret_k fun R hR => c_laws_FnFirstSwap _ _ _ ?_
  refine first_pre hx (fun w' h => hR _ _ ⟨h, rfl⟩) ?_
  intro t g w1 p hp hok hpos hg e1
  have h10 := hok.len
  have hlen : ∀ K, LenV t K = K (.int .i64 p.length) := fun K => hp.len
  rw [hlen]
  refine bin_sub ⟨by omega, by omega⟩ ?_
  have hn : ((p.length : Int) - 1) = ((p.length - 1 : Nat) : Int) := by omega
  rw [hn]
  have hi : p.length - 1 < p.length := by omega
  generalize p.length - 1 = n at hi
  refine ⟨_, rfl, fun w2 hn2 => ?_⟩
  have z2 := hn2.size
  refine append_nodes hn2.ext (Own.empty (lo := w1.heap.size) hn2 (Nat.le_refl _)) hp (by omega) (fun u w3 s3 C3 => ?_) hpos
  have E3 : Ext w1 w3 := Chg.ext (hn2.ext.then C3) fun k hk e => by have e : some w1.heap.size = some k := e; cases e; omega
  have end_ : ∀ {w5 : World} {q : List Nd}, Ext w1 w5 → PlanV w5 u q → firstO q = firstO p → CallV Try.prog N.impl_ShareFirst [u] w5 fun t61 w_13 => CallV Try.prog N.laws_sameRow [t61, g] w_13 fun t63 w_14 => R t63 w_14 := fun E5 hq hfq => by
    refine callV_of (implShareFirst_ok hq) rfl fun x w6 ⟨E6, f6⟩ => ?_
    rw [hfq] at f6
    have hfl := firstO_len p
    refine callV_of (sameRow_ok f6.ints (hg.ext (E5.trans E6)) (by omega)) rfl ?_
    rintro _ w7 ⟨E7, rfl⟩
    exact hR _ _ ⟨((e1.trans E5).trans E6).trans E7, by simp⟩
  refine (hp.ext E3).idx hi fun b o fv rv c0 c1 c2 hf hr hs => ?_
  simp only [go_sem]
  refine load_cell c0 ?_
  refine callV_of (implKindSwaps_ok _) rfl ?_
  rintro _ w4 ⟨E4, rfl⟩
  have e4 := E3.trans E4
  have s4 := s3.ext E4
  simp only [Split_d]
  refine ⟨fun h2 => ?_, fun _ => end_ e4 (s4.plan e4 (by omega)) rfl⟩
  have h2' : kneeds (nd p n).kind = 2 := by rw [nd_get hi]; exact h2
  have hfrl : p[n].frm.length = 2 := by
    have := (hok.fits hi).1.1
    rw [h2', nd_get hi] at this
    omega
  obtain ⟨x, y, hxy⟩ := two_frm hfrl
  refine ⟨fun k => w1.heap.size ≤ k, fun w5 hs5 => ?_⟩
  have e5 := e4.trans hs5.ext
  have z5 : w5.heap.size = w4.heap.size := by rw [hs5.heap]
  have hno : ∀ b, b < w1.heap.size → ¬ w1.heap.size ≤ b := fun b hb => by omega
  refine hp.frmE e5 hi hno fun fv1 hf1 => ?_
  refine Ints.loadE hf1 e5 (q := 1) (by omega) hno ?_
  refine hp.frmE e5 hi hno fun fv2 hf2 => ?_
  refine Ints.loadE hf2 e5 (q := 0) (by omega) hno ?_
  have g1 : p[n].frm[1]'(by omega) = y := by simp only [hxy]; rfl
  have g0 : p[n].frm[0]'(by omega) = x := by simp only [hxy]; rfl
  rw [g1, g0]
  refine ⟨_, fill2, fun w6 hn6 => ⟨hn6.ext.chg, ?_⟩⟩
  have z6 := hn6.size
  have hfi : FInts w6 (w5.heap.size ≤ ·) (.slice (some ⟨w5.heap.size, 0, none⟩) 2 2) [y, x] := Own.fints (n := 2) (Own.made (n := 2) hn6 (Nat.le_refl _) rfl (by decide))
  have hfi2 : FInts w6 (· = w5.heap.size) (.slice (some ⟨w5.heap.size, 0, none⟩) 2 2) [y, x] := hfi.mono fun k hk h => by omega
  have e6 := e5.trans hn6.ext
  have s6 := (s4.ext hs5.ext).ext hn6.ext
  have zz := e5.size
  have hub : ∀ k, blkIs u k → w1.heap.size ≤ k ∧ k < w5.heap.size := fun k hk => by
    obtain ⟨_, _, ho, _⟩ := (s4.ext hs5.ext).out
    exact Own.lt ho hk
  refine s6.setFrm e6 (Nat.le_refl _) (by omega) hi hfi2 (fun k hk e => by have := (hub k hk).2; omega) (by simp) fun w7 C7 hp7 => ⟨C7.mono fun k _ hk => (hub k hk).1, ?_⟩
  have E7 : Ext w1 w7 := Chg.ext (e6.then C7) fun k hk hb => by have := (hub k hb).1; omega
  have hsw : p.set n ⟨(nd p n).kind, [y, x], (nd p n).row⟩ = swapP p n := by
    unfold swapP
    have : (nd p n).frm = [x, y] := by rw [nd_get hi]; exact hxy
    rw [this]; rfl
  rw [hsw] at hp7
  refine end_ E7 hp7 ?_
  have hok' := swapP_ok hi h2' hok
  exact IsFirsts.uniq hok' (firstO_is hok') (swapP_first hi h2' hok (firstO_is hok))
end Go.Proofs.Ytmbfkhacejnnhaa
