/- What a node does, as a key. -/
import Derived.Test.YtpfabjjeacdikaaMaps
import Derived.Test.YtpfabjjeacdikaaKinds
import Derived.Test.YtpfabjjeacdikaaRename
import Derived.Laws.CopyRow
import Derived.Laws.IdiomCopy
namespace Go.Proofs.Ytpfabjjeacdikaa
open Go Go.V

theorem splice_get : ∀ (vs : List Value) (cur : Array Value) (off : Nat), off + vs.length ≤ cur.size → ∀ i, (splice cur off vs)[i]? = if off ≤ i ∧ i < off + vs.length then vs[i - off]? else cur[i]?
  | [], cur, off, _, i => by
    simp only [splice, List.length_nil, Nat.add_zero]
    rw [if_neg (by omega)]
  | v :: vs, cur, off, h, i => by
    simp only [List.length_cons] at h
    simp only [splice, List.length_cons]
    rw [splice_get vs _ _ (by simp; omega)]
    by_cases e : i = off
    · subst e
      rw [if_neg (by omega), if_pos (by omega), Array.getElem?_setIfInBounds_self_of_lt (by omega)]
      simp
    · rw [Array.getElem?_setIfInBounds_ne (by omega)]
      by_cases hh : off + 1 ≤ i ∧ i < off + 1 + vs.length
      · rw [if_pos hh, if_pos (by omega)]
        obtain ⟨j, rfl⟩ : ∃ j, i = off + 1 + j := ⟨i - (off + 1), by omega⟩
        rw [show off + 1 + j - (off + 1) = j by omega, show off + 1 + j - off = j + 1 by omega, List.getElem?_cons_succ]
      · rw [if_neg hh, if_neg (by omega)]
theorem splice_full {vs : List Value} {cur : Array Value} (h : cur.size = vs.length) : splice cur 0 vs = vs.toArray := by
  refine Array.ext (by rw [splice_size]; simpa using h) fun i h1 h2 => ?_
  have h2' : i < vs.length := by simpa using h2
  have := splice_get vs cur 0 (by omega) i
  rw [if_pos (by omega), Nat.sub_zero, Array.getElem?_eq_getElem h1] at this
  have h3 : vs[i]? = some vs[i] := List.getElem?_eq_getElem h2'
  rw [h3] at this
  simpa using this
/-- A variable of many cells is set whole, and read whole. -/
theorem store_all {w : World} {b : Nat} {cur : Array Value} {e : TypeId} {vs : List Value} (hb : w.heap[b]? = some (.cells cur e (0, 0))) (hn : cur.size = vs.length) (hc : ∀ v ∈ vs, v.cells = #[v] ∧ v.oneCell' = true) {K : World → Prop}
    (hK : ∀ w', Put w b (.cells vs.toArray e (0, 0)) w' → K w') : StoreV vs.length (.pointer (some ⟨b, 0, none⟩)) (.agg vs.toArray) w K := by
  have hcells : (Value.agg vs.toArray).cells = vs.toArray := by simp [Value.cells]
  refine ⟨cur, e, rfl, hb, by rw [hcells]; simp, by simp [hn], fun u hu => ?_, fun w' hp => hK w' ?_⟩
  · rw [hcells] at hu; exact (hc u (by simpa using hu)).2
  · rw [hcells, splice_full (by simpa using hn)] at hp; exact hp
theorem load_all {w : World} {b : Nat} {e : TypeId} {vs : List Value} (hb : w.heap[b]? = some (.cells vs.toArray e (0, 0))) {K : Value → Prop} (hK : K (.agg vs.toArray)) : LoadV true vs.length (.pointer (some ⟨b, 0, none⟩)) w K := by
  refine ⟨vs, rfl, fun j v hj => ?_, hK⟩
  rw [addr_add, Nat.zero_add, cell_of_row w b j _ e (0, 0) hb]
  simpa using hj

/-- A list of numbers is copied into a row. -/
theorem copyInto {w : World} {g o n cap : Nat} {cur : Array Value} {e : TypeId} (hg : w.heap[g]? = some (.cells cur e (0, 0))) {v : Value} {xs : List Int} (hx : Ints w v xs) (hn : xs.length ≤ n) (hfit : o + xs.length ≤ cur.size) {K : Value → World → Prop}
    (hK : ∀ r w', Put w g (.cells (cur.toList.take o ++ ints xs ++ cur.toList.drop (o + xs.length)).toArray e (0, 0)) w' → K r w') : CopyV Try.prog #[T.sl_int, T.sl_int] (.slice (some ⟨g, o, none⟩) n cap) v w K := by
  obtain ⟨a, c, rfl, hc, hcs⟩ := hx.out
  have hs : (Try.prog.info? T.int).map (·.size) = some 1 := by
    obtain ⟨i, hi, _, hs, _⟩ := el_int.out
    rw [hi]; simp [hs]
  have hl : (ints xs).length = xs.length := by simp [ints]
  by_cases h0 : xs = []
  · subst h0
    have hrun : ∀ ty, (Builtin.copy_ #[T.sl_int, T.sl_int] ty #[.slice (some ⟨g, o, none⟩) n cap, .slice a 0 c]).run Try.prog w = .ok (goInt 0) w := fun ty => run_copy_none (P := Try.prog) w T.sl_int T.sl_int ty T.int _ _ _ _ _ _ sl_int hs (by simp)
    refine ⟨goInt 0, w, fun ty => hrun ty, hK _ _ ⟨Chg.refl _ _, rfl, ?_⟩⟩
    rw [hg]; simp [ints]
  · cases a with
    | none =>
      cases xs with
      | nil => exact absurd rfl h0
      | cons x xs => obtain ⟨b, off, ha, _⟩ := hcs 0 _ rfl; cases ha
    | some ad =>
      have hsrc : ∀ j u, (ints xs)[j]? = some u → w.cell? (ad.add j) = some u := fun j u hj => by
        obtain ⟨b, off, ha, hc⟩ := hcs j u hj
        cases ha
        rw [addr_add]; exact hc
      refine ⟨goInt (ints xs).length, _, fun ty => run_copy_row (P := Try.prog) w T.sl_int T.sl_int ty T.int g o n cap ad xs.length c cur e (ints xs) sl_int hs hg (by rw [hl]; exact (Nat.min_eq_left hn).symm) hsrc (by rw [hl]; exact hfit) ints_one, hK _ _ ?_⟩
      refine ⟨⟨rfl, rfl, rfl, by simp [World.setRow], fun k hk hne => ?_⟩, by simp [World.setRow], ?_⟩
      · simp only [World.setRow, Array.getElem?_modify]
        rw [if_neg fun e => hne e.symm]
      · rw [hl]; exact setRow_heap w g cur _ e _ hg

/-- A one-cell variable is made and set. -/
theorem box1 {w : World} {e : TypeId} {z v : Value} {x : Value} (hz : z.cells.size = 1) (hv : v.cells = #[x]) (hx : x.oneCell' = true) {K : Value → World → Prop}
    (hK : ∀ w', Ext w w' → w'.heap[w.heap.size]? = some (.cells #[x] e (0, 0)) → w'.heap.size = w.heap.size + 1 → K (.pointer (some ⟨w.heap.size, 0, none⟩)) w') : BoxV e z w fun t w1 => StoreV 1 t v w1 fun w2 => K t w2 := by
  intro w1 hn
  refine ⟨_, _, rfl, hn.here, by simp [hv], by simp [hz], fun u hu => ?_, fun w2 hp => ?_⟩
  · rw [hv] at hu; simp at hu; subst hu; exact hx
  · have hE : Ext w w2 := Chg.ext (hn.ext.then hp.chg) fun k hk e => by have e' : k = w.heap.size := e; omega
    refine hK _ hE ?_ (by have := hn.size; have := hp.size; omega)
    have := hp.here
    rw [hv, splice_full (by simpa using hz)] at this
    exact this

theorem implKindSwaps_ok {w : World} (k : Int) : Calls Try.prog N.impl_KindSwaps #[.int .i64 k] w (Ret fun r w' => Ext w w' ∧ r = .bool (decide (kneeds k = 2))) := by
  refine ret_k fun R hR => c_impl_KindSwaps _ _ _ ?_
  refine callV_of (workOf_ok k) rfl ?_
  rintro _ w1 ⟨E, rfl⟩
  have yes : ∀ (f : FuncId), kneeds k = 2 → TAssertV T.impl_pairWork (.agg #[.nilFunc]) (.iface T.impl_pairWork (.agg #[.func (.func f) #[] #[]])) fun t8 => ExtractV t8 0 fun t9 => ExtractV t8 1 fun t10 => BoxV T.impl_pairWork (.agg #[.nilFunc]) w1 fun t3 w2 => StoreV 1 t3 t9 w2 fun w3 => R t10 w3 := fun f hk => by
    refine ⟨fun _ => ?_, fun h => absurd rfl h⟩
    simp only [go_sem]
    exact box1 (x := .func (.func f) #[] #[]) rfl rfl rfl fun w' E' _ _ => hR _ _ ⟨E.trans E', by rw [decide_eq_true hk]⟩
  have no : ∀ (u : TypeId) (x : Value), u ≠ T.impl_pairWork → kneeds k ≠ 2 → TAssertV T.impl_pairWork (.agg #[.nilFunc]) (.iface u x) fun t8 => ExtractV t8 0 fun t9 => ExtractV t8 1 fun t10 => BoxV T.impl_pairWork (.agg #[.nilFunc]) w1 fun t3 w2 => StoreV 1 t3 t9 w2 fun w3 => R t10 w3 := fun u x hu hk => by
    refine ⟨fun h => absurd h hu, fun _ => ?_⟩
    simp only [go_sem]
    exact box1 (x := .nilFunc) rfl rfl rfl fun w' E' _ _ => hR _ _ ⟨E.trans E', by rw [decide_eq_false hk]⟩
  refine kind_cases (k := k) (fun h => ?_) (fun h => ?_) (fun h => ?_) (fun h => ?_) (fun h => ?_) (fun h => ?_) (fun h => ?_)
  · subst h; exact no _ _ (by decide) (by decide)
  · subst h; exact yes _ (by decide)
  · subst h; exact yes _ (by decide)
  · subst h; exact no _ _ (by decide) (by decide)
  · subst h; exact no _ _ (by decide) (by decide)
  · subst h; exact no _ _ (by decide) (by decide)
  · rw [workV_none h]
    unfold TAssertV
    simp only [go_sem]
    exact box1 (x := .nilFunc) rfl rfl rfl fun w' E' _ _ => hR _ _ ⟨E.trans E', by rw [kneeds_none h]; rfl⟩
theorem specKindSwaps_ok {w : World} (k : Int) : Calls Try.prog N.spec_KindSwaps #[.int .i64 k] w (Ret fun r w' => Ext w w' ∧ r = .bool (decide (kneeds k = 2))) := by
  refine ret_k fun R hR => c_spec_KindSwaps _ _ _ ?_
  refine callV_of (specKindNeeds_ok k) rfl ?_
  rintro _ w1 ⟨E, rfl⟩
  simp only [go_sem]
  exact hR _ _ ⟨E, rfl⟩

/-- The ten numbers of a key. -/
def kl (k a b : Int) (row : List Int) : List Int := k :: a :: b :: (row.length : Int) :: (row ++ List.replicate (6 - row.length) 0)
def keyL (x : Nd) (fs : List Int) : List Int := kl x.kind ((normF x fs).getD 0 (-1)) ((normF x fs).getD 1 (-1)) x.row
theorem kl_len {k a b : Int} {row : List Int} (h : row.length ≤ 6) : (kl k a b row).length = 10 := by simp [kl]; omega
def cellsK (k a b : Int) (row : List Int) : List Value := ints (kl k a b row)
theorem cellsK_len {k a b : Int} {row : List Int} (h : row.length ≤ 6) : (cellsK k a b row).length = 10 := by simp [cellsK, ints, kl_len h]
theorem cellsK_one {k a b : Int} {row : List Int} : ∀ v ∈ cellsK k a b row, v.cells = #[v] ∧ v.oneCell' = true := by
  intro v hv
  simp only [cellsK, V.ints, List.mem_map] at hv
  obtain ⟨x, _, rfl⟩ := hv
  exact ⟨rfl, rfl⟩
theorem cellsK_set1 {k a b c : Int} {row : List Int} : (cellsK k a b row).toArray.setIfInBounds 1 (.int .i64 c) = (cellsK k c b row).toArray := by simp [cellsK, kl, ints]
theorem cellsK_set2 {k a b c : Int} {row : List Int} : (cellsK k a b row).toArray.setIfInBounds 2 (.int .i64 c) = (cellsK k a c row).toArray := by simp [cellsK, kl, ints]
theorem keyV_cells {k a b : Int} {row : List Int} : keyV (kl k a b row) = .agg (cellsK k a b row).toArray := rfl

theorem swap2 {k a b : Int} (h : kneeds k = 2) (hlt : b < a) : norm2 k [a, b] = [b, a] := by simp [norm2, h, hlt]
theorem noswap2 {k a b : Int} (h : ¬ (kneeds k = 2 ∧ b < a)) : norm2 k [a, b] = [a, b] := by
  show (if kneeds k = 2 ∧ b < a then [b, a] else [a, b]) = _
  rw [if_neg h]

theorem shareKeyOf_ok {w : World} {v fv : Value} {x : Nd} {fs : List Int} {i : Nat} (hx : NdV w v x) (hfit : NdFits x i) (hf : Ints w fv fs) (hl : i ≤ fs.length) :
    Calls Try.prog N.impl_shareKeyOf #[v, fv] w (Ret fun r w' => Ext w w' ∧ r = keyV (keyL x fs)) := by
  obtain ⟨av, rv, rfl, ha, hr, hs⟩ := hx.out
  have hrow : x.row.length ≤ 6 := by
    have := hfit.2.2
    split at this
    · exact this.1
    · rw [this]; simp
  refine ret_k fun R hR => c_impl_shareKeyOf _ _ _ _ ?_
  intro w1 hn1
  have hb1 := new_rawI ha hr hn1
  intro w2 hn2
  have z1 := hn1.size
  have z2 := hn2.size
  have hb12 := hn2.ext.at hb1
  have E2 := hn1.ext.trans hn2.ext
  have hlr : ∀ K, LenV rv K = K (.int .i64 x.row.length) := fun K => ints_len hr
  have hla : ∀ K, LenV av K = K (.int .i64 x.frm.length) := fun K => ints_len ha
  simp only [go_sem]
  refine load2 (v := .int .i64 x.kind) hb12 rfl ?_
  refine load2 (v := rv) hb12 rfl ?_
  rw [hlr]
  refine ⟨(ints [x.kind, -1, -1, (x.row.length : Int), 0, 0, 0, 0, 0, 0]).toArray, by simp [Instr.fill, ints, Value.cells], ?_⟩
  intro w3 hn3
  have z3 := hn3.size
  refine store_all (vs := ints [x.kind, -1, -1, (x.row.length : Int), 0, 0, 0, 0, 0, 0]) hn3.here (by simp [Value.cells, ints]) (fun u hu => by simp only [V.ints, List.mem_map] at hu; obtain ⟨y, _, rfl⟩ := hu; exact ⟨rfl, rfl⟩) fun w4 hp4 => ?_
  have E4 : Ext w2 w4 := Chg.ext (hn3.ext.then hp4.chg) fun j hj e => by have e : j = w2.heap.size := e; omega
  have z4 := hp4.size
  refine ⟨fun b => b = w2.heap.size, fun w5 hs5 => ?_⟩
  have hb5 := hs5.ext.at (E4.at hb12)
  have hk5 := hs5.ext.at hp4.here
  have e5 := (E2.trans E4).trans hs5.ext
  have z5 := hs5.ext.size
  simp only [go_sem]
  refine ⟨by omega, by omega, by omega, ?_⟩
  refine loadS2 (v := rv) hb5 (fun e => by omega) rfl ?_
  have hadr : (if (6 : Nat) = (0 : Int).toNat then (⟨w2.heap.size, 0 + 4, none⟩ : Addr) else (⟨w2.heap.size, 0 + 4, none⟩ : Addr).add ((0 : Int).toNat * 1)) = ⟨w2.heap.size, 4, none⟩ := by
    rw [if_neg (by decide), addr_add]; rfl
  refine copyInto (g := w2.heap.size) (o := 4) hk5 (hr.ext e5) (by simpa using hrow) (by simp [ints]; omega) fun _ w6 hp6 => ?_
  refine ⟨hp6.chg, ?_⟩
  have hk6 : w6.heap[w2.heap.size]? = some (.cells (cellsK x.kind (-1) (-1) x.row).toArray T.impl_shareKey (0, 0)) := by
    rw [hp6.here]
    have : [Value.int .i64 0, .int .i64 0, .int .i64 0, .int .i64 0, .int .i64 0, .int .i64 0].drop x.row.length = List.replicate (6 - x.row.length) (Value.int .i64 0) := by
      rw [show [Value.int .i64 0, .int .i64 0, .int .i64 0, .int .i64 0, .int .i64 0, .int .i64 0] = List.replicate 6 (Value.int .i64 0) from rfl, List.drop_replicate]
    simp [cellsK, kl, ints, ← List.drop_drop, this]
  have hz2 : w2.heap[w1.heap.size]? = some (.cells (ints [0, 0, 0, 0, 0, 0, 0, 0, 0, 0]).toArray T.impl_shareKey (0, 0)) := by
    rw [hn2.here]; rfl
  have E6 : Ext w w6 := Chg.ext (e5.then hp6.chg) fun j hj e => by have e : j = w2.heap.size := e; omega
  have hz6 := hp6.chg.at (hs5.ext.at (E4.at hz2)) (by omega)
  have hb6 := hp6.chg.at hb5 (by omega)
  clear hz2 hk5 hb5 hb12 hb1
  have fin : ∀ (a b : Int) (w7 : World), Ext w w7 → w7.heap[w2.heap.size]? = some (.cells (cellsK x.kind a b x.row).toArray T.impl_shareKey (0, 0)) → w7.heap[w1.heap.size]? = some (.cells (ints [0, 0, 0, 0, 0, 0, 0, 0, 0, 0]).toArray T.impl_shareKey (0, 0)) → kl x.kind a b x.row = keyL x fs →
      LoadV true 10 (.pointer (some ⟨w2.heap.size, 0, none⟩)) w7 fun t57 => StoreV 10 (.pointer (some ⟨w1.heap.size, 0, none⟩)) t57 w7 fun w8 => LoadV true 10 (.pointer (some ⟨w1.heap.size, 0, none⟩)) w8 fun r => R r w8 := by
    intro a b w7 E7 hk7 hz7 he
    have hl10 := cellsK_len (k := x.kind) (a := a) (b := b) hrow
    rw [← hl10]
    refine load_all hk7 ?_
    refine store_all hz7 (by rw [hl10]; simp [ints]) cellsK_one fun w8 hp8 => ?_
    refine load_all hp8.here ?_
    exact hR _ _ ⟨Chg.ext (E7.then hp8.chg) fun j hj e => by have e : j = w1.heap.size := e; omega, by rw [← keyV_cells, he]⟩
  have tail : ∀ (a b : Int) (w7 : World), Ext w w7 → w7.heap[w2.heap.size]? = some (.cells (cellsK x.kind a b x.row).toArray T.impl_shareKey (0, 0)) → w7.heap[w1.heap.size]? = some (.cells (ints [0, 0, 0, 0, 0, 0, 0, 0, 0, 0]).toArray T.impl_shareKey (0, 0)) → w7.heap[w.heap.size]? = some (.cells #[.int .i64 x.kind, av, rv] T.impl_Node (0, 0)) →
      (if kneeds x.kind = 2 ∧ b < a then kl x.kind b a x.row else kl x.kind a b x.row) = keyL x fs →
      FAddrV 0 (.pointer (some ⟨w.heap.size, 0, none⟩)) fun t41 => LoadV false 1 t41 w7 fun t42 => CallV Try.prog N.impl_KindSwaps [t42] w7 fun t43 w9 => SplitV t43
        (FAddrV 1 (.pointer (some ⟨w2.heap.size, 0, none⟩)) fun t45 => LoadV false 1 t45 w9 fun t46 => FAddrV 2 (.pointer (some ⟨w2.heap.size, 0, none⟩)) fun t47 => LoadV false 1 t47 w9 fun t48 => BinV .gtr t46 t48 fun t49 => SplitV t49
          (FAddrV 2 (.pointer (some ⟨w2.heap.size, 0, none⟩)) fun t51 => LoadV false 1 t51 w9 fun t52 => FAddrV 1 (.pointer (some ⟨w2.heap.size, 0, none⟩)) fun t53 => LoadV false 1 t53 w9 fun t54 => FAddrV 1 (.pointer (some ⟨w2.heap.size, 0, none⟩)) fun t55 => StoreV 1 t55 t52 w9 fun w10 =>
            FAddrV 2 (.pointer (some ⟨w2.heap.size, 0, none⟩)) fun t56 => StoreV 1 t56 t54 w10 fun w11 => LoadV true 10 (.pointer (some ⟨w2.heap.size, 0, none⟩)) w11 fun t57 => StoreV 10 (.pointer (some ⟨w1.heap.size, 0, none⟩)) t57 w11 fun w12 => LoadV true 10 (.pointer (some ⟨w1.heap.size, 0, none⟩)) w12 fun r => R r w12)
          (LoadV true 10 (.pointer (some ⟨w2.heap.size, 0, none⟩)) w9 fun t57 => StoreV 10 (.pointer (some ⟨w1.heap.size, 0, none⟩)) t57 w9 fun w12 => LoadV true 10 (.pointer (some ⟨w1.heap.size, 0, none⟩)) w12 fun r => R r w12))
        (LoadV true 10 (.pointer (some ⟨w2.heap.size, 0, none⟩)) w9 fun t57 => StoreV 10 (.pointer (some ⟨w1.heap.size, 0, none⟩)) t57 w9 fun w12 => LoadV true 10 (.pointer (some ⟨w1.heap.size, 0, none⟩)) w12 fun r => R r w12) := by
    intro a b w7 E7 hk7 hz7 hb7 he
    simp only [go_sem]
    refine load2 (v := .int .i64 x.kind) hb7 rfl ?_
    refine callV_of (implKindSwaps_ok _) rfl ?_
    rintro _ w9 ⟨E9, rfl⟩
    have e9 := E7.trans E9
    have hk9 := E9.at hk7
    have hz9 := E9.at hz7
    have h1 : (cellsK x.kind a b x.row).toArray[0 + 1]? = some (.int .i64 a) := by simp [cellsK, kl, ints]
    have h2 : (cellsK x.kind a b x.row).toArray[0 + 2]? = some (.int .i64 b) := by simp [cellsK, kl, ints]
    simp only [go_sem]
    refine ⟨fun hsw => ?_, fun hns => fin a b w9 e9 hk9 hz9 (by rw [if_neg fun h => hns h.1] at he; exact he)⟩
    refine load2 hk9 h1 (load2 hk9 h2 ?_)
    simp only [go_sem]
    refine ⟨fun hgt => ?_, fun hle => fin a b w9 e9 hk9 hz9 (by rw [if_neg fun h => hle h.2] at he; exact he)⟩
    refine load2 hk9 h2 (load2 hk9 h1 ?_)
    refine store_at hk9 rfl rfl (by rw [List.size_toArray, cellsK_len hrow]; omega) fun w10 hp10 => ?_
    have hk10 := hp10.here
    rw [show 0 + 1 = 1 from rfl, cellsK_set1] at hk10
    refine store_at hk10 rfl rfl (by rw [List.size_toArray, cellsK_len hrow]; omega) fun w11 hp11 => ?_
    have hk11 := hp11.here
    rw [show 0 + 2 = 2 from rfl, cellsK_set2] at hk11
    refine fin b a w11 (Chg.ext ((e9.then hp10.chg).andThen hp11.chg) fun j hj e => by have e : j = w2.heap.size := e; omega) hk11 (hp11.chg.at (hp10.chg.at hz9 (by omega)) (by omega)) ?_
    rw [if_pos ⟨hsw, hgt⟩] at he; exact he
  have hkn := hfit.1
  have hfl : ∀ f ∈ x.frm, 0 ≤ f ∧ f < fs.length := fun f hf => by have := hfit.2.1 f hf; omega
  have hf6 := hf.ext E6
  have ha6 := ha.ext E6
  have hh : x.frm = [] ∨ (∃ f, x.frm = [f]) ∨ ∃ f g, x.frm = [f, g] := by
    have := (kneeds_range x.kind).2
    match x.frm, hkn with
    | [], _ => exact .inl rfl
    | [f], _ => exact .inr (.inl ⟨f, rfl⟩)
    | [f, g], _ => exact .inr (.inr ⟨f, g, rfl⟩)
    | _ :: _ :: _ :: _, h => simp at h; omega
  refine load2 (v := av) hb6 rfl ?_
  rw [hla]
  rcases hh with hh | ⟨f, hh⟩ | ⟨f, g, hh⟩
  · have hn : normF x fs = [] := by simp [normF, hh, norm2]
    simp only [hh, List.length_nil, go_sem] at hla hkn ⊢
    refine ⟨fun h => by omega, fun _ => ?_⟩
    refine load2 (v := av) hb6 rfl ?_
    rw [hla]
    simp only [go_sem]
    refine ⟨fun h => by omega, fun _ => ?_⟩
    have := tail (-1) (-1) w6 E6 hk6 hz6 hb6 (by rw [if_neg fun h => by omega]; unfold keyL; rw [hn]; rfl)
    simpa only [go_sem] using this
  · have hf0 := hfl f (by rw [hh]; simp)
    obtain ⟨m, rfl⟩ : ∃ m : Nat, f = (m : Int) := ⟨f.toNat, by omega⟩
    have hn : normF x fs = [fs[m]] := by
      rw [normF_one hh, Int.toNat_natCast, List.getD_eq_getElem?_getD, List.getElem?_eq_getElem (by omega)]; rfl
    rw [hh] at ha6 hkn
    simp only [hh, List.length_singleton, go_sem] at hla hkn ⊢
    refine ⟨fun _ => ?_, fun h => by omega⟩
    refine load2 (v := av) hb6 rfl ?_
    refine Ints.loadI ha6 (q := 0) (by simp) ?_
    refine Ints.loadI hf6 (q := m) (by omega) ?_
    refine store_at hk6 rfl rfl (by rw [List.size_toArray, cellsK_len hrow]; omega) fun w7 hp7 => ?_
    have hk7 := hp7.here
    rw [show 0 + 1 = 1 from rfl, cellsK_set1] at hk7
    have hb7 := hp7.chg.at hb6 (by omega)
    have hz7 := hp7.chg.at hz6 (by omega)
    have E7 : Ext w w7 := Chg.ext (E6.then hp7.chg) fun j hj e => by have e : j = w2.heap.size := e; omega
    refine load2 (v := av) hb7 rfl ?_
    rw [hla]
    simp only [go_sem]
    refine ⟨fun h => by omega, fun _ => ?_⟩
    have := tail _ (-1) w7 E7 hk7 hz7 hb7 (by rw [if_neg fun h => by omega]; unfold keyL; rw [hn]; rfl)
    simpa only [go_sem] using this
  · have hf0 := hfl f (by rw [hh]; simp)
    have hg0 := hfl g (by rw [hh]; simp)
    obtain ⟨m, rfl⟩ : ∃ m : Nat, f = (m : Int) := ⟨f.toNat, by omega⟩
    obtain ⟨n, rfl⟩ : ∃ n : Nat, g = (n : Int) := ⟨g.toNat, by omega⟩
    have hn : normF x fs = norm2 x.kind [fs[m], fs[n]] := by
      unfold normF
      rw [hh]
      simp only [List.map_cons, List.map_nil, Int.toNat_natCast, List.getD_eq_getElem?_getD]
      rw [List.getElem?_eq_getElem (by omega), List.getElem?_eq_getElem (by omega)]; rfl
    rw [hh] at ha6 hkn
    simp only [hh, List.length_cons, List.length_nil, go_sem] at hla hkn ⊢
    refine ⟨fun _ => ?_, fun h => by omega⟩
    refine load2 (v := av) hb6 rfl ?_
    refine Ints.loadI ha6 (q := 0) (by simp) ?_
    refine Ints.loadI hf6 (q := m) (by omega) ?_
    refine store_at hk6 rfl rfl (by rw [List.size_toArray, cellsK_len hrow]; omega) fun w7 hp7 => ?_
    have hk7 := hp7.here
    rw [show 0 + 1 = 1 from rfl, cellsK_set1] at hk7
    have hb7 := hp7.chg.at hb6 (by omega)
    have hz7 := hp7.chg.at hz6 (by omega)
    have E67 : Ext w w7 := Chg.ext (E6.then hp7.chg) fun j hj e => by have e : j = w2.heap.size := e; omega
    refine load2 (v := av) hb7 rfl ?_
    rw [hla]
    simp only [go_sem]
    refine ⟨fun _ => ?_, fun h => by omega⟩
    refine load2 (v := av) hb7 rfl ?_
    have ha7 := ha.ext E67
    rw [hh] at ha7
    refine Ints.loadI ha7 (q := 1) (by simp) ?_
    refine Ints.loadI (hf.ext E67) (q := n) (by omega) ?_
    refine store_at hk7 rfl rfl (by rw [List.size_toArray, cellsK_len hrow]; omega) fun w8 hp8 => ?_
    have hk8 := hp8.here
    rw [show 0 + 2 = 2 from rfl, cellsK_set2] at hk8
    have hb8 := hp8.chg.at hb7 (by omega)
    have hz8 := hp8.chg.at hz7 (by omega)
    have E8 : Ext w w8 := Chg.ext (E67.then hp8.chg) fun j hj e => by have e : j = w2.heap.size := e; omega
    have := tail _ _ w8 E8 hk8 hz8 hb8 (by
      unfold keyL; rw [hn]
      by_cases hc : kneeds x.kind = 2 ∧ fs[n] < fs[m]
      · rw [if_pos hc, swap2 hc.1 hc.2]; rfl
      · rw [if_neg hc, noswap2 hc]; rfl)
    simpa only [go_sem] using this
end Go.Proofs.Ytpfabjjeacdikaa
