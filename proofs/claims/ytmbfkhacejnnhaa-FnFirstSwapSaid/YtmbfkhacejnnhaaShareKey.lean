/- A map whose keys are what a node does. -/
import Derived.Test.YtmbfkhacejnnhaaGraph
import Derived.Test.YtmbfkhacejnnhaaCS
import Derived.Maps.OwnSet
import Derived.DeepKeys5
import Derived.Test.YtmbfkhacejnnhaaPlan0
import Derived.Test.YtmbfkhacejnnhaaCopy
import Derived.Laws.CopyRow
import Derived.Laws.IdiomCopy
namespace Go.Proofs.Ytmbfkhacejnnhaa
open Go Go.V Go.Maps

theorem sk_fields : (match Try.prog.underlying T.impl_shareKey with | some (.struct fs) => (fs.map fun f => (f.name != "_", f.type, f.offset)).toList | _ => []) = [(true, T.int, 0), (true, T.int, 1), (true, T.int, 2), (true, T.int, 3), (true, T.a6_int, 4)] := by kernel_rfl
theorem sk_key : Try.prog.keyTypeAt 5 T.impl_shareKey = true := by kernel_rfl
theorem sk_keyType : Try.prog.keyType T.impl_shareKey = true := by kernel_rfl
theorem sk_tiled : Try.prog.tiled 5 T.impl_shareKey = true := by kernel_rfl
theorem sk_map : Try.prog.underlying T.map_impl_shareKey_int = some (.map T.impl_shareKey T.int) := by kernel_rfl
theorem sk_int : Try.prog.underlying T.int = some (.int .i64) := by kernel_rfl
theorem sk_arr : Try.prog.underlying T.a6_int = some (.array 6 T.int) := by kernel_rfl
theorem sk_cells : Try.prog.cellsOf T.impl_shareKey = 10 := by kernel_rfl
theorem sk_cells6 : Try.prog.cellsOf T.a6_int = 6 := by kernel_rfl
theorem sk_cells1 : Try.prog.cellsOf T.int = 1 := by kernel_rfl
theorem sk_zero : zeroOf Try.prog T.int = some (.int .i64 0) := by kernel_rfl
theorem sk_size : Nat.ble 3 Try.prog.types.size = true := by kernel_rfl
theorem sk_keyed : Keyed Try.prog T.impl_shareKey := Keyed.of_law (deep_law (m := 5) (by omega) sk_key sk_tiled (by kernel_rfl))

/-- A key as a value. -/
def keyV (xs : List Int) : Value := .agg (xs.map (Value.int .i64)).toArray
theorem keyV_inj {xs ys : List Int} (h : keyV xs = keyV ys) : xs = ys := by
  unfold keyV at h
  simp only [Value.agg.injEq] at h
  have h := congrArg Array.toList h
  simp only at h
  have := congrArg (List.map fun v => match v with | Value.int _ n => n | _ => 0) h
  simpa [Function.comp_def] using this
/-- What a key is like. -/
structure KeyOk (xs : List Int) : Prop where
  len : xs.length = 10
  wf : ∀ x ∈ xs, (Lit.int .i64 x).wf = true

theorem lits1 {d : Nat} {x : Int} (h : (Lit.int .i64 x).wf = true) : Try.prog.keyLits (d + 1) T.int [.int .i64 x] = some [.int .i64 x] := by
  unfold Program.keyLits
  simp [h]
theorem lits6 {d : Nat} {a b c e f g : Int} (ha : (Lit.int .i64 a).wf = true) (hb : (Lit.int .i64 b).wf = true) (hc : (Lit.int .i64 c).wf = true) (he : (Lit.int .i64 e).wf = true) (hf : (Lit.int .i64 f).wf = true) (hg : (Lit.int .i64 g).wf = true) :
    Try.prog.keyLits (d + 2) T.a6_int [.int .i64 a, .int .i64 b, .int .i64 c, .int .i64 e, .int .i64 f, .int .i64 g] = some [.int .i64 a, .int .i64 b, .int .i64 c, .int .i64 e, .int .i64 f, .int .i64 g] := by
  unfold Program.keyLits
  simp only [sk_arr]
  rw [if_pos (by rw [sk_cells6]; rfl), show List.range 6 = [0, 1, 2, 3, 4, 5] from rfl]
  simp [sk_cells1, lits1, ha, hb, hc, he, hf, hg]
theorem ten {xs : List Int} (h : xs.length = 10) : ∃ a b c d e f g i j k, xs = [a, b, c, d, e, f, g, i, j, k] := by
  match xs with
  | [a, b, c, d, e, f, g, i, j, k] => exact ⟨a, b, c, d, e, f, g, i, j, k, rfl⟩
  | [] | [_] | [_, _] | [_, _, _] | [_, _, _, _] | [_, _, _, _, _] | [_, _, _, _, _, _] | [_, _, _, _, _, _, _] | [_, _, _, _, _, _, _, _] | [_, _, _, _, _, _, _, _, _] => simp at h
  | _ :: _ :: _ :: _ :: _ :: _ :: _ :: _ :: _ :: _ :: _ :: _ => simp at h
theorem KeyOk.lit {xs : List Int} (h : KeyOk xs) : ∃ l, keyOf Try.prog T.impl_shareKey (keyV xs) = some l := by
  obtain ⟨a, b, c, d, e, f, g, i, j, k, rfl⟩ := ten h.len
  have hw := h.wf
  simp only [List.mem_cons, List.not_mem_nil, or_false, forall_eq_or_imp, forall_eq] at hw
  obtain ⟨w1, w2, w3, w4, w5, w6, w7, w8, w9, w10⟩ := hw
  obtain ⟨m, hm⟩ : ∃ m, Try.prog.types.size = m + 3 := ⟨Try.prog.types.size - 3, by have := Nat.le_of_ble_eq_true sk_size; omega⟩
  have hf := sk_fields
  unfold keyOf
  split at hf
  · rename_i fs hfs
    simp only [hfs]
    have hform : Value.formed Try.prog T.impl_shareKey (keyV [a, b, c, d, e, f, g, i, j, k]) = true := by
      simp [Value.formed, hfs, keyV, sk_cells]
    rw [if_pos (by rw [sk_keyType, hform]; rfl), hm]
    unfold Program.keyLits
    simp only [hfs]
    have hnames : fs.all (·.name != "_") = true := by
      have := congrArg (List.map fun q : Bool × Nat × Nat => q.1) hf
      rw [Array.all_eq_true_iff_forall_mem]
      intro x hx
      have hx' : (x.name != "_", x.type, x.offset) ∈ (fs.map fun f => (f.name != "_", f.type, f.offset)).toList := by
        rw [Array.toList_map]; exact List.mem_map.2 ⟨x, by simpa using hx, rfl⟩
      rw [hf] at hx'
      simp at hx'
      rcases hx' with h | h | h | h | h <;> simp [h.1]
    have hmap : fs.toList.map (fun f => (f.type, f.offset)) = [(T.int, 0), (T.int, 1), (T.int, 2), (T.int, 3), (T.a6_int, 4)] := by
      have := congrArg (List.map fun q : Bool × Nat × Nat => q.2) hf
      rw [Array.toList_map, List.map_map] at this
      exact this
    have key : ∀ (cs : List Value), (fs.toList.mapM fun f => Try.prog.keyLits (m + 3) f.type ((cs.drop f.offset).take (Try.prog.cellsOf f.type))) = ((fs.toList.map fun f => (f.type, f.offset)).mapM fun q => Try.prog.keyLits (m + 3) q.1 ((cs.drop q.2).take (Try.prog.cellsOf q.1))) := fun cs => by
      rw [List.mapM_map, Function.comp_def]
    have hc : (keyV [a, b, c, d, e, f, g, i, j, k]).cells.toList = [.int .i64 a, .int .i64 b, .int .i64 c, .int .i64 d, .int .i64 e, .int .i64 f, .int .i64 g, .int .i64 i, .int .i64 j, .int .i64 k] := by simp [keyV, Value.cells]
    rw [hc, if_pos ⟨by rw [sk_cells]; rfl, hnames⟩, key, hmap]
    have l6 := lits6 (d := m + 1) w5 w6 w7 w8 w9 w10
    simp only [List.mapM_cons, List.mapM_nil, sk_cells1, sk_cells6, List.drop, List.take, lits1 w1, lits1 w2, lits1 w3, lits1 w4]
    simp [l6]
  · cases hf

/-- A map of a call's own, and what it holds. -/
structure KMap (w : World) (b n : Nat) (g : List Int → Option Int) : Prop where
  out : ∃ D : DataW Unit, w.ownsMap Try.prog T.impl_shareKey (plainElem Try.prog T.int) b n D ∧ ∀ xs l, keyOf Try.prog T.impl_shareKey (keyV xs) = some l → match g xs with
    | none => has D l = false
    | some v => has D l = true ∧ ∀ z, D.atKey l z = .lit (.int .i64 v)
theorem KMap.new {w w' : World} (hn : New w (.map #[] 0) w') : KMap w' w.heap.size 0 fun _ => none := by
  obtain ⟨es, clock, hb, F, hs, hD⟩ := World.ownsMap_made (H := Unit) w Try.prog T.impl_shareKey (plainElem Try.prog T.int)
  refine ⟨.map [], ⟨es, clock, ?_, F, hs, hD⟩, fun xs l h => rfl⟩
  rw [hn.here, ← hb, (MapKept.heap_alloc w _).1]
theorem KMap.keep {w w' : World} {b n : Nat} {g : List Int → Option Int} (h : KMap w b n g) {S : Nat → Prop} (hc : Chg S w w') (hs : ¬ S b) : KMap w' b n g := by
  obtain ⟨D, ⟨es, clock, hb, r⟩, hg⟩ := h.out
  exact ⟨D, ⟨es, clock, hc.at hb hs, r⟩, hg⟩
theorem KMap.ext {w w' : World} {b n : Nat} {g : List Int → Option Int} (h : KMap w b n g) (hc : Ext w w') : KMap w' b n g := h.keep hc id
theorem KMap.lt {w : World} {b n : Nat} {g : List Int → Option Int} (h : KMap w b n g) : b < w.heap.size := by
  obtain ⟨D, ⟨es, clock, hb, _⟩, _⟩ := h.out
  exact lt_of_at hb
theorem KMap.blk {w : World} {b n : Nat} {g : List Int → Option Int} (h : KMap w b n g) : ∃ es c, w.heap[b]? = some (.map es c) := by
  obtain ⟨D, ⟨es, clock, hb, _⟩, _⟩ := h.out
  exact ⟨es, clock, hb⟩
theorem KMap.lookup {w : World} {b n : Nat} {g : List Int → Option Int} (h : KMap w b n g) {xs : List Int} (hx : KeyOk xs) {K : Value → World → Prop} (h1 : ∀ v, g xs = some v → K (.tuple #[.int .i64 v, .bool true]) w) (h0 : ∀ v, g xs = none → K (.tuple #[v, .bool false]) w) :
    LookupV Try.prog T.map_impl_shareKey_int (.map (some b)) (keyV xs) true w K := by
  obtain ⟨D, ho, hg⟩ := h.out
  obtain ⟨l, hl⟩ := hx.lit
  obtain ⟨v, ps, hrun, hv⟩ := ho.look_ok sk_keyed sk_map (run_zero sk_zero w) (plainElem_int (H := Unit) sk_int (by decide)) hl
  have := hg xs l hl
  refine ⟨_, w, hrun, ?_⟩
  cases hgx : g xs with
  | none => rw [hgx] at this; simp only at this; rw [this]; exact h0 v hgx
  | some u =>
    rw [hgx] at this
    simp only at this
    rw [this.1]
    rw [this.2] at hv
    obtain ⟨a, rfl, ha, _⟩ := plainElem_int_inv sk_int hv
    simp only [Prod.mk.injEq, DataW.lit.injEq, Lit.int.injEq, true_and] at ha
    obtain ⟨rfl, _⟩ := ha
    exact h1 u hgx
theorem KMap.set {w : World} {b n : Nat} {g : List Int → Option Int} (h : KMap w b n g) (hn : n < 1000) {xs : List Int} (hx : KeyOk xs) {v : Int} (hv : (Lit.int .i64 v).wf = true) {K : World → Prop}
    (hK : ∀ w', KMap w' b (n + 1) (fun ys => if ys = xs then some v else g ys) → Chg (· = b) w w' → w.heap.size ≤ w'.heap.size → K w') : MapUpdV Try.prog T.map_impl_shareKey_int (.map (some b)) (keyV xs) (.int .i64 v) w K := by
  obtain ⟨D, ho, hg⟩ := h.out
  obtain ⟨l, hl⟩ := hx.lit
  obtain ⟨w', hrun, ho', ht⟩ := ho.store sk_keyed sk_map (by unfold maxLen; omega) hl (plainElem_int (H := Unit) sk_int hv)
  have hgr := ht.grown
  have hC : Chg (· = b) w w' := ⟨hgr.os, hgr.tape, hgr.output, hgr.size, fun k hk hn => hgr.block k hk fun e => hn (by cases e; rfl)⟩
  refine ⟨w', hrun, hK w' ⟨_, ho', fun ys l' hl' => ?_⟩ hC hgr.size⟩
  by_cases e : ys = xs
  · subst e
    rw [if_pos rfl]
    have : l' = l := by rw [hl] at hl'; exact (Option.some.inj hl').symm
    subst this
    have hkl := sk_keyed.key hl
    exact ⟨has_put_same ho.isMap hkl _, fun z => atKey_put_same ho.isMap hkl _ z⟩
  · rw [if_neg e]
    have hne : l' ≠ l := fun h => e (keyV_inj (sk_keyed.inj (by rw [hl', h]) hl))
    have := hg ys l' hl'
    cases hgy : g ys with
    | none => rw [hgy] at this; simp only at this ⊢; rw [has_put_other hne]; exact this
    | some u => rw [hgy] at this; simp only at this ⊢; exact ⟨by rw [has_put_other hne]; exact this.1, fun z => by rw [atKey_put_other hne]; exact this.2 z⟩
end Go.Proofs.Ytmbfkhacejnnhaa

namespace Go.Proofs.Ytmbfkhacejnnhaa
open Go Go.V

/-- A list of numbers is copied into a row. -/
theorem copyInto {w : World} {g o n cap : Nat} {cur : Array Value} {e : TypeId} (hg : w.heap[g]? = some (.cells cur e (0, 0))) {v : Value} {xs : List Int} (hx : Ints w v xs) (hn : xs.length ≤ n) (hfit : o + xs.length ≤ cur.size) {K : Value → World → Prop}
    (hK : ∀ r w', Put w g (.cells (cur.toList.take o ++ ints xs ++ cur.toList.drop (o + xs.length)).toArray e (0, 0)) w' → K r w') : CopyV Try.prog #[T.sl_int, T.sl_int] (.slice (some ⟨g, o, none⟩) n cap) v w K := by
  obtain ⟨a, c, rfl, hc, hcs⟩ := hx.out
  have hs : (Try.prog.info? T.int).map (·.size) = some 1 := by
    obtain ⟨i, hi, _, hs, _⟩ := el_int.out
    rw [hi]; simp [hs]
  have hl : (ints xs).length = xs.length := by simp [ints]
  by_cases h0 : xs = []
  · subst h0
    have hrun : ∀ ty, (Builtin.copy_ #[T.sl_int, T.sl_int] ty #[.slice (some ⟨g, o, none⟩) n cap, .slice a 0 c]).run Try.prog w = .ok (goInt 0) w := fun ty => run_copy_none (P := Try.prog) w T.sl_int T.sl_int ty T.int _ _ _ _ _ _ sl_int hs (by simp)
    refine ⟨goInt 0, w, fun ty => hrun ty, hK _ _ ⟨Chg.refl _ _, rfl, ?_⟩⟩
    rw [hg]; simp [ints]
  · cases a with
    | none =>
      cases xs with
      | nil => exact absurd rfl h0
      | cons x xs => obtain ⟨b, off, ha, _⟩ := hcs 0 _ rfl; cases ha
    | some ad =>
      have hsrc : ∀ j u, (ints xs)[j]? = some u → w.cell? (ad.add j) = some u := fun j u hj => by
        obtain ⟨b, off, ha, hc⟩ := hcs j u hj
        cases ha
        rw [addr_add]; exact hc
      refine ⟨goInt (ints xs).length, _, fun ty => run_copy_row (P := Try.prog) w T.sl_int T.sl_int ty T.int g o n cap ad xs.length c cur e (ints xs) sl_int hs hg (by rw [hl]; exact (Nat.min_eq_left hn).symm) hsrc (by rw [hl]; exact hfit) ints_one, hK _ _ ?_⟩
      refine ⟨⟨rfl, rfl, rfl, by simp [World.setRow], fun k hk hne => ?_⟩, by simp [World.setRow], ?_⟩
      · simp only [World.setRow, Array.getElem?_modify]
        rw [if_neg fun e => hne e.symm]
      · rw [hl]; exact setRow_heap w g cur _ e _ hg

theorem implKindSwaps_ok {w : World} (k : Int) : Calls Try.prog N.impl_KindSwaps #[.int .i64 k] w (Ret fun r w' => Ext w w' ∧ r = .bool (decide (kneeds k = 2))) := by
  refine ret_k fun R hR => c_impl_KindSwaps _ _ _ ?_
  refine callV_of (workOf_ok k) rfl ?_
  rintro _ w1 ⟨E, rfl⟩
  have yes : ∀ (f : FuncId), kneeds k = 2 → TAssertV T.impl_pairWork (.agg #[.nilFunc]) (.iface T.impl_pairWork (.agg #[.func (.func f) #[] #[]])) fun t8 => ExtractV t8 0 fun t9 => ExtractV t8 1 fun t10 => BoxV T.impl_pairWork (.agg #[.nilFunc]) w1 fun t3 w2 => StoreV 1 t3 t9 w2 fun w3 => R t10 w3 := fun f hk => by
    refine ⟨fun _ => ?_, fun h => absurd rfl h⟩
    simp only [go_sem]
    exact box1 (x := .func (.func f) #[] #[]) rfl rfl rfl fun w' E' _ _ => hR _ _ ⟨E.trans E', by rw [decide_eq_true hk]⟩
  have no : ∀ (u : TypeId) (x : Value), u ≠ T.impl_pairWork → kneeds k ≠ 2 → TAssertV T.impl_pairWork (.agg #[.nilFunc]) (.iface u x) fun t8 => ExtractV t8 0 fun t9 => ExtractV t8 1 fun t10 => BoxV T.impl_pairWork (.agg #[.nilFunc]) w1 fun t3 w2 => StoreV 1 t3 t9 w2 fun w3 => R t10 w3 := fun u x hu hk => by
    refine ⟨fun h => absurd h hu, fun _ => ?_⟩
    simp only [go_sem]
    exact box1 (x := .nilFunc) rfl rfl rfl fun w' E' _ _ => hR _ _ ⟨E.trans E', by rw [decide_eq_false hk]⟩
  refine kind_cases (k := k) (fun h => ?_) (fun h => ?_) (fun h => ?_) (fun h => ?_) (fun h => ?_) (fun h => ?_) (fun h => ?_)
  · subst h; exact no _ _ (by decide) (by decide)
  · subst h; exact yes _ (by decide)
  · subst h; exact yes _ (by decide)
  · subst h; exact no _ _ (by decide) (by decide)
  · subst h; exact no _ _ (by decide) (by decide)
  · subst h; exact no _ _ (by decide) (by decide)
  · rw [workV_none h]
    unfold TAssertV
    simp only [go_sem]
    exact box1 (x := .nilFunc) rfl rfl rfl fun w' E' _ _ => hR _ _ ⟨E.trans E', by rw [kneeds_none h]; rfl⟩
theorem specKindSwaps_ok {w : World} (k : Int) : Calls Try.prog N.spec_KindSwaps #[.int .i64 k] w (Ret fun r w' => Ext w w' ∧ r = .bool (decide (kneeds k = 2))) := by
  refine ret_k fun R hR => c_spec_KindSwaps _ _ _ ?_
  refine callV_of (specKindNeeds_ok k) rfl ?_
  rintro _ w1 ⟨E, rfl⟩
  simp only [go_sem]
  exact hR _ _ ⟨E, rfl⟩

/-- The ten numbers of a key. -/
def kl (k a b : Int) (row : List Int) : List Int := k :: a :: b :: (row.length : Int) :: (row ++ List.replicate (6 - row.length) 0)
def keyL (x : Nd) (fs : List Int) : List Int := kl x.kind ((normF x fs).getD 0 (-1)) ((normF x fs).getD 1 (-1)) x.row
theorem kl_len {k a b : Int} {row : List Int} (h : row.length ≤ 6) : (kl k a b row).length = 10 := by simp [kl]; omega
def cellsK (k a b : Int) (row : List Int) : List Value := ints (kl k a b row)
theorem cellsK_len {k a b : Int} {row : List Int} (h : row.length ≤ 6) : (cellsK k a b row).length = 10 := by simp [cellsK, ints, kl_len h]
theorem cellsK_one {k a b : Int} {row : List Int} : ∀ v ∈ cellsK k a b row, v.cells = #[v] ∧ v.oneCell' = true := by
  intro v hv
  simp only [cellsK, V.ints, List.mem_map] at hv
  obtain ⟨x, _, rfl⟩ := hv
  exact ⟨rfl, rfl⟩
theorem cellsK_set1 {k a b c : Int} {row : List Int} : (cellsK k a b row).toArray.setIfInBounds 1 (.int .i64 c) = (cellsK k c b row).toArray := by simp [cellsK, kl, ints]
theorem cellsK_set2 {k a b c : Int} {row : List Int} : (cellsK k a b row).toArray.setIfInBounds 2 (.int .i64 c) = (cellsK k a c row).toArray := by simp [cellsK, kl, ints]
theorem keyV_cells {k a b : Int} {row : List Int} : keyV (kl k a b row) = .agg (cellsK k a b row).toArray := rfl

theorem swap2 {k a b : Int} (h : kneeds k = 2) (hlt : b < a) : norm2 k [a, b] = [b, a] := by simp [norm2, h, hlt]
theorem noswap2 {k a b : Int} (h : ¬ (kneeds k = 2 ∧ b < a)) : norm2 k [a, b] = [a, b] := by
  show (if kneeds k = 2 ∧ b < a then [b, a] else [a, b]) = _
  rw [if_neg h]

theorem shareKeyOf_ok {w : World} {v fv : Value} {x : Nd} {fs : List Int} {i : Nat} (hx : NdV w v x) (hfit : NdFits x i) (hf : Ints w fv fs) (hl : i ≤ fs.length) :
    Calls Try.prog N.impl_shareKeyOf #[v, fv] w (Ret fun r w' => Ext w w' ∧ r = keyV (keyL x fs)) := by
  obtain ⟨av, rv, rfl, ha, hr, hs⟩ := hx.out
  have hrow : x.row.length ≤ 6 := by
    have := hfit.2.2
    split at this
    · exact this.1
    · rw [this]; simp
  refine ret_k fun R hR => c_impl_shareKeyOf _ _ _ _ ?_
  intro w1 hn1
  have hb1 := new_rawI ha hr hn1
  intro w2 hn2
  have z1 := hn1.size
  have z2 := hn2.size
  have hb12 := hn2.ext.at hb1
  have E2 := hn1.ext.trans hn2.ext
  have hlr : ∀ K, LenV rv K = K (.int .i64 x.row.length) := fun K => ints_len hr
  have hla : ∀ K, LenV av K = K (.int .i64 x.frm.length) := fun K => ints_len ha
  simp only [go_sem]
  refine load2 (v := .int .i64 x.kind) hb12 rfl ?_
  refine load2 (v := rv) hb12 rfl ?_
  rw [hlr]
  refine ⟨(ints [x.kind, -1, -1, (x.row.length : Int), 0, 0, 0, 0, 0, 0]).toArray, by simp [Instr.fill, ints, Value.cells], ?_⟩
  intro w3 hn3
  have z3 := hn3.size
  refine store_all (vs := ints [x.kind, -1, -1, (x.row.length : Int), 0, 0, 0, 0, 0, 0]) hn3.here (by simp [Value.cells, ints]) (fun u hu => by simp only [V.ints, List.mem_map] at hu; obtain ⟨y, _, rfl⟩ := hu; exact ⟨rfl, rfl⟩) fun w4 hp4 => ?_
  have E4 : Ext w2 w4 := Chg.ext (hn3.ext.then hp4.chg) fun j hj e => by have e : j = w2.heap.size := e; omega
  have z4 := hp4.size
  refine ⟨fun b => b = w2.heap.size, fun w5 hs5 => ?_⟩
  have hb5 := hs5.ext.at (E4.at hb12)
  have hk5 := hs5.ext.at hp4.here
  have e5 := (E2.trans E4).trans hs5.ext
  have z5 := hs5.ext.size
  simp only [go_sem]
  refine ⟨by omega, by omega, by omega, ?_⟩
  refine loadS2 (v := rv) hb5 (fun e => by omega) rfl ?_
  have hadr : (if (6 : Nat) = (0 : Int).toNat then (⟨w2.heap.size, 0 + 4, none⟩ : Addr) else (⟨w2.heap.size, 0 + 4, none⟩ : Addr).add ((0 : Int).toNat * 1)) = ⟨w2.heap.size, 4, none⟩ := by
    rw [if_neg (by decide), addr_add]; rfl
  refine copyInto (g := w2.heap.size) (o := 4) hk5 (hr.ext e5) (by simpa using hrow) (by simp [ints]; omega) fun _ w6 hp6 => ?_
  refine ⟨hp6.chg, ?_⟩
  have hk6 : w6.heap[w2.heap.size]? = some (.cells (cellsK x.kind (-1) (-1) x.row).toArray T.impl_shareKey (0, 0)) := by
    rw [hp6.here]
    have : [Value.int .i64 0, .int .i64 0, .int .i64 0, .int .i64 0, .int .i64 0, .int .i64 0].drop x.row.length = List.replicate (6 - x.row.length) (Value.int .i64 0) := by
      rw [show [Value.int .i64 0, .int .i64 0, .int .i64 0, .int .i64 0, .int .i64 0, .int .i64 0] = List.replicate 6 (Value.int .i64 0) from rfl, List.drop_replicate]
    simp [cellsK, kl, ints, ← List.drop_drop, this]
  have hz2 : w2.heap[w1.heap.size]? = some (.cells (ints [0, 0, 0, 0, 0, 0, 0, 0, 0, 0]).toArray T.impl_shareKey (0, 0)) := by
    rw [hn2.here]; rfl
  have E6 : Ext w w6 := Chg.ext (e5.then hp6.chg) fun j hj e => by have e : j = w2.heap.size := e; omega
  have hz6 := hp6.chg.at (hs5.ext.at (E4.at hz2)) (by omega)
  have hb6 := hp6.chg.at hb5 (by omega)
  clear hz2 hk5 hb5 hb12 hb1
  have fin : ∀ (a b : Int) (w7 : World), Ext w w7 → w7.heap[w2.heap.size]? = some (.cells (cellsK x.kind a b x.row).toArray T.impl_shareKey (0, 0)) → w7.heap[w1.heap.size]? = some (.cells (ints [0, 0, 0, 0, 0, 0, 0, 0, 0, 0]).toArray T.impl_shareKey (0, 0)) → kl x.kind a b x.row = keyL x fs →
      LoadV true 10 (.pointer (some ⟨w2.heap.size, 0, none⟩)) w7 fun t57 => StoreV 10 (.pointer (some ⟨w1.heap.size, 0, none⟩)) t57 w7 fun w8 => LoadV true 10 (.pointer (some ⟨w1.heap.size, 0, none⟩)) w8 fun r => R r w8 := by
    intro a b w7 E7 hk7 hz7 he
    have hl10 := cellsK_len (k := x.kind) (a := a) (b := b) hrow
    rw [← hl10]
    refine load_all hk7 ?_
    refine store_all hz7 (by rw [hl10]; simp [ints]) cellsK_one fun w8 hp8 => ?_
    refine load_all hp8.here ?_
    exact hR _ _ ⟨Chg.ext (E7.then hp8.chg) fun j hj e => by have e : j = w1.heap.size := e; omega, by rw [← keyV_cells, he]⟩
  have tail : ∀ (a b : Int) (w7 : World), Ext w w7 → w7.heap[w2.heap.size]? = some (.cells (cellsK x.kind a b x.row).toArray T.impl_shareKey (0, 0)) → w7.heap[w1.heap.size]? = some (.cells (ints [0, 0, 0, 0, 0, 0, 0, 0, 0, 0]).toArray T.impl_shareKey (0, 0)) → w7.heap[w.heap.size]? = some (.cells #[.int .i64 x.kind, av, rv] T.impl_Node (0, 0)) →
      (if kneeds x.kind = 2 ∧ b < a then kl x.kind b a x.row else kl x.kind a b x.row) = keyL x fs →
      FAddrV 0 (.pointer (some ⟨w.heap.size, 0, none⟩)) fun t41 => LoadV false 1 t41 w7 fun t42 => CallV Try.prog N.impl_KindSwaps [t42] w7 fun t43 w9 => SplitV t43
        (FAddrV 1 (.pointer (some ⟨w2.heap.size, 0, none⟩)) fun t45 => LoadV false 1 t45 w9 fun t46 => FAddrV 2 (.pointer (some ⟨w2.heap.size, 0, none⟩)) fun t47 => LoadV false 1 t47 w9 fun t48 => BinV .gtr t46 t48 fun t49 => SplitV t49
          (FAddrV 2 (.pointer (some ⟨w2.heap.size, 0, none⟩)) fun t51 => LoadV false 1 t51 w9 fun t52 => FAddrV 1 (.pointer (some ⟨w2.heap.size, 0, none⟩)) fun t53 => LoadV false 1 t53 w9 fun t54 => FAddrV 1 (.pointer (some ⟨w2.heap.size, 0, none⟩)) fun t55 => StoreV 1 t55 t52 w9 fun w10 =>
            FAddrV 2 (.pointer (some ⟨w2.heap.size, 0, none⟩)) fun t56 => StoreV 1 t56 t54 w10 fun w11 => LoadV true 10 (.pointer (some ⟨w2.heap.size, 0, none⟩)) w11 fun t57 => StoreV 10 (.pointer (some ⟨w1.heap.size, 0, none⟩)) t57 w11 fun w12 => LoadV true 10 (.pointer (some ⟨w1.heap.size, 0, none⟩)) w12 fun r => R r w12)
          (LoadV true 10 (.pointer (some ⟨w2.heap.size, 0, none⟩)) w9 fun t57 => StoreV 10 (.pointer (some ⟨w1.heap.size, 0, none⟩)) t57 w9 fun w12 => LoadV true 10 (.pointer (some ⟨w1.heap.size, 0, none⟩)) w12 fun r => R r w12))
        (LoadV true 10 (.pointer (some ⟨w2.heap.size, 0, none⟩)) w9 fun t57 => StoreV 10 (.pointer (some ⟨w1.heap.size, 0, none⟩)) t57 w9 fun w12 => LoadV true 10 (.pointer (some ⟨w1.heap.size, 0, none⟩)) w12 fun r => R r w12) := by
    intro a b w7 E7 hk7 hz7 hb7 he
    simp only [go_sem]
    refine load2 (v := .int .i64 x.kind) hb7 rfl ?_
    refine callV_of (implKindSwaps_ok _) rfl ?_
    rintro _ w9 ⟨E9, rfl⟩
    have e9 := E7.trans E9
    have hk9 := E9.at hk7
    have hz9 := E9.at hz7
    have h1 : (cellsK x.kind a b x.row).toArray[0 + 1]? = some (.int .i64 a) := by simp [cellsK, kl, ints]
    have h2 : (cellsK x.kind a b x.row).toArray[0 + 2]? = some (.int .i64 b) := by simp [cellsK, kl, ints]
    simp only [go_sem]
    refine ⟨fun hsw => ?_, fun hns => fin a b w9 e9 hk9 hz9 (by rw [if_neg fun h => hns h.1] at he; exact he)⟩
    refine load2 hk9 h1 (load2 hk9 h2 ?_)
    simp only [go_sem]
    refine ⟨fun hgt => ?_, fun hle => fin a b w9 e9 hk9 hz9 (by rw [if_neg fun h => hle h.2] at he; exact he)⟩
    refine load2 hk9 h2 (load2 hk9 h1 ?_)
    refine store_at hk9 rfl rfl (by rw [List.size_toArray, cellsK_len hrow]; omega) fun w10 hp10 => ?_
    have hk10 := hp10.here
    rw [show 0 + 1 = 1 from rfl, cellsK_set1] at hk10
    refine store_at hk10 rfl rfl (by rw [List.size_toArray, cellsK_len hrow]; omega) fun w11 hp11 => ?_
    have hk11 := hp11.here
    rw [show 0 + 2 = 2 from rfl, cellsK_set2] at hk11
    refine fin b a w11 (Chg.ext ((e9.then hp10.chg).andThen hp11.chg) fun j hj e => by have e : j = w2.heap.size := e; omega) hk11 (hp11.chg.at (hp10.chg.at hz9 (by omega)) (by omega)) ?_
    rw [if_pos ⟨hsw, hgt⟩] at he; exact he
  have hkn := hfit.1
  have hfl : ∀ f ∈ x.frm, 0 ≤ f ∧ f < fs.length := fun f hf => by have := hfit.2.1 f hf; omega
  have hf6 := hf.ext E6
  have ha6 := ha.ext E6
  have hh : x.frm = [] ∨ (∃ f, x.frm = [f]) ∨ ∃ f g, x.frm = [f, g] := by
    have := (kneeds_range x.kind).2
    match x.frm, hkn with
    | [], _ => exact .inl rfl
    | [f], _ => exact .inr (.inl ⟨f, rfl⟩)
    | [f, g], _ => exact .inr (.inr ⟨f, g, rfl⟩)
    | _ :: _ :: _ :: _, h => simp at h; omega
  refine load2 (v := av) hb6 rfl ?_
  rw [hla]
  rcases hh with hh | ⟨f, hh⟩ | ⟨f, g, hh⟩
  · have hn : normF x fs = [] := by simp [normF, hh, norm2]
    simp only [hh, List.length_nil, go_sem] at hla hkn ⊢
    refine ⟨fun h => by omega, fun _ => ?_⟩
    refine load2 (v := av) hb6 rfl ?_
    rw [hla]
    simp only [go_sem]
    refine ⟨fun h => by omega, fun _ => ?_⟩
    have := tail (-1) (-1) w6 E6 hk6 hz6 hb6 (by rw [if_neg fun h => by omega]; unfold keyL; rw [hn]; rfl)
    simpa only [go_sem] using this
  · have hf0 := hfl f (by rw [hh]; simp)
    obtain ⟨m, rfl⟩ : ∃ m : Nat, f = (m : Int) := ⟨f.toNat, by omega⟩
    have hn : normF x fs = [fs[m]] := by
      rw [normF_one hh, Int.toNat_natCast, List.getD_eq_getElem?_getD, List.getElem?_eq_getElem (by omega)]; rfl
    rw [hh] at ha6 hkn
    simp only [hh, List.length_singleton, go_sem] at hla hkn ⊢
    refine ⟨fun _ => ?_, fun h => by omega⟩
    refine load2 (v := av) hb6 rfl ?_
    refine Ints.loadI ha6 (q := 0) (by simp) ?_
    refine Ints.loadI hf6 (q := m) (by omega) ?_
    refine store_at hk6 rfl rfl (by rw [List.size_toArray, cellsK_len hrow]; omega) fun w7 hp7 => ?_
    have hk7 := hp7.here
    rw [show 0 + 1 = 1 from rfl, cellsK_set1] at hk7
    have hb7 := hp7.chg.at hb6 (by omega)
    have hz7 := hp7.chg.at hz6 (by omega)
    have E7 : Ext w w7 := Chg.ext (E6.then hp7.chg) fun j hj e => by have e : j = w2.heap.size := e; omega
    refine load2 (v := av) hb7 rfl ?_
    rw [hla]
    simp only [go_sem]
    refine ⟨fun h => by omega, fun _ => ?_⟩
    have := tail _ (-1) w7 E7 hk7 hz7 hb7 (by rw [if_neg fun h => by omega]; unfold keyL; rw [hn]; rfl)
    simpa only [go_sem] using this
  · have hf0 := hfl f (by rw [hh]; simp)
    have hg0 := hfl g (by rw [hh]; simp)
    obtain ⟨m, rfl⟩ : ∃ m : Nat, f = (m : Int) := ⟨f.toNat, by omega⟩
    obtain ⟨n, rfl⟩ : ∃ n : Nat, g = (n : Int) := ⟨g.toNat, by omega⟩
    have hn : normF x fs = norm2 x.kind [fs[m], fs[n]] := by
      unfold normF
      rw [hh]
      simp only [List.map_cons, List.map_nil, Int.toNat_natCast, List.getD_eq_getElem?_getD]
      rw [List.getElem?_eq_getElem (by omega), List.getElem?_eq_getElem (by omega)]; rfl
    rw [hh] at ha6 hkn
    simp only [hh, List.length_cons, List.length_nil, go_sem] at hla hkn ⊢
    refine ⟨fun _ => ?_, fun h => by omega⟩
    refine load2 (v := av) hb6 rfl ?_
    refine Ints.loadI ha6 (q := 0) (by simp) ?_
    refine Ints.loadI hf6 (q := m) (by omega) ?_
    refine store_at hk6 rfl rfl (by rw [List.size_toArray, cellsK_len hrow]; omega) fun w7 hp7 => ?_
    have hk7 := hp7.here
    rw [show 0 + 1 = 1 from rfl, cellsK_set1] at hk7
    have hb7 := hp7.chg.at hb6 (by omega)
    have hz7 := hp7.chg.at hz6 (by omega)
    have E67 : Ext w w7 := Chg.ext (E6.then hp7.chg) fun j hj e => by have e : j = w2.heap.size := e; omega
    refine load2 (v := av) hb7 rfl ?_
    rw [hla]
    simp only [go_sem]
    refine ⟨fun _ => ?_, fun h => by omega⟩
    refine load2 (v := av) hb7 rfl ?_
    have ha7 := ha.ext E67
    rw [hh] at ha7
    refine Ints.loadI ha7 (q := 1) (by simp) ?_
    refine Ints.loadI (hf.ext E67) (q := n) (by omega) ?_
    refine store_at hk7 rfl rfl (by rw [List.size_toArray, cellsK_len hrow]; omega) fun w8 hp8 => ?_
    have hk8 := hp8.here
    rw [show 0 + 2 = 2 from rfl, cellsK_set2] at hk8
    have hb8 := hp8.chg.at hb7 (by omega)
    have hz8 := hp8.chg.at hz7 (by omega)
    have E8 : Ext w w8 := Chg.ext (E67.then hp8.chg) fun j hj e => by have e : j = w2.heap.size := e; omega
    have := tail _ _ w8 E8 hk8 hz8 hb8 (by
      unfold keyL; rw [hn]
      by_cases hc : kneeds x.kind = 2 ∧ fs[n] < fs[m]
      · rw [if_pos hc, swap2 hc.1 hc.2]; rfl
      · rw [if_neg hc, noswap2 hc]; rfl)
    simpa only [go_sem] using this
end Go.Proofs.Ytmbfkhacejnnhaa

namespace Go.Proofs.Ytmbfkhacejnnhaa
open Go Go.V

theorem first_ex {p : List Nd} {fs : List Int} (n : Nat) : ∃ r, FirstAt p fs n r := by
  have key : ∀ m, m ≤ n + 1 → (∃ r, r < m ∧ FirstAt p fs n r) ∨ ∀ k, k < m → ¬ sameK p fs n k := by
    intro m
    induction m with
    | zero => exact fun _ => .inr fun k hk => by omega
    | succ m ih =>
      intro hm
      rcases ih (by omega) with ⟨r, hr, h⟩ | h
      · exact .inl ⟨r, by omega, h⟩
      · by_cases hs : sameK p fs n m
        · exact .inl ⟨m, by omega, by omega, hs, h⟩
        · refine .inr fun k hk => ?_
          by_cases e : k = m
          · subst e; exact hs
          · exact h k (by omega)
  rcases key (n + 1) (Nat.le_refl _) with ⟨r, _, h⟩ | h
  · exact ⟨r, h⟩
  · exact absurd ⟨rfl, rfl, rfl⟩ (h n (by omega))
theorem firsts_ex {p : List Nd} (hp : PlanOk p) (n : Nat) : ∃ fs, IsFirsts p n fs := by
  induction n with
  | zero => exact ⟨[], IsFirsts.nil p⟩
  | succ n ih =>
    obtain ⟨fs, h⟩ := ih
    obtain ⟨r, hr⟩ := first_ex (p := p) (fs := fs) n
    exact ⟨_, h.snoc hp hr⟩
/-- For each node of a plan the first one that does the same. -/
noncomputable def firstO (p : List Nd) : List Int := if h : PlanOk p then Classical.choose (firsts_ex h p.length) else []
theorem firstO_is {p : List Nd} (h : PlanOk p) : IsFirsts p p.length (firstO p) := by
  unfold firstO; rw [dif_pos h]; exact Classical.choose_spec (firsts_ex h p.length)
theorem firstO_no {p : List Nd} (h : ¬ PlanOk p) : firstO p = [] := by unfold firstO; rw [dif_neg h]
theorem firstO_eq {p : List Nd} (h : PlanOk p) {fs : List Int} (hf : IsFirsts p p.length fs) : firstO p = fs := (firstO_is h).uniq h hf
theorem firstO_len (p : List Nd) : (firstO p).length ≤ p.length := by
  by_cases h : PlanOk p
  · rw [(firstO_is h).len]; exact Nat.le_refl _
  · rw [firstO_no h]; simp

theorem two_det {l m : List Int} (hl : l.length ≤ 2) (hm : m.length ≤ 2) (h0 : ∀ x ∈ l, 0 ≤ x) (h1 : ∀ x ∈ m, 0 ≤ x) (e0 : l.getD 0 (-1) = m.getD 0 (-1)) (e1 : l.getD 1 (-1) = m.getD 1 (-1)) : l = m := by
  match l, m with
  | [], [] => rfl
  | [], b :: _ => simp at e0; have := h1 b (by simp); omega
  | a :: _, [] => simp at e0; have := h0 a (by simp); omega
  | [a], [b] => simp at e0; rw [e0]
  | [a], b :: c :: _ => simp at e1; have := h1 c (by simp); omega
  | a :: c :: _, [b] => simp at e1; have := h0 c (by simp); omega
  | [a, c], [b, d] => simp at e0 e1; rw [e0, e1]
  | _ :: _ :: _ :: _, _ => simp at hl
  | _, _ :: _ :: _ :: _ => simp at hm
theorem norm2_len {k : Int} {l : List Int} : (norm2 k l).length = l.length := by
  match l with
  | [a, b] => simp only [norm2]; split <;> rfl
  | [] => rfl
  | [_] => rfl
  | _ :: _ :: _ :: _ => rfl
theorem norm2_mem {k : Int} {l : List Int} {x : Int} : x ∈ norm2 k l ↔ x ∈ l := by
  match l with
  | [a, b] =>
    simp only [norm2]; split
    · simp [or_comm]
    · rfl
  | [] => rfl
  | [_] => rfl
  | _ :: _ :: _ :: _ => rfl
theorem normF_len {x : Nd} {fs : List Int} : (normF x fs).length = x.frm.length := by unfold normF; rw [norm2_len, List.length_map]
theorem normF_mem {x : Nd} {fs : List Int} {y : Int} (h : y ∈ normF x fs) : ∃ f ∈ x.frm, y = fs.getD f.toNat 0 := by
  unfold normF at h
  rw [norm2_mem] at h
  obtain ⟨f, hf, rfl⟩ := List.mem_map.1 h
  exact ⟨f, hf, rfl⟩

theorem keyL_iff {p : List Nd} {fs : List Int} (hp : PlanOk p) (h0 : ∀ j, 0 ≤ fs.getD j 0) {i k : Nat} (hi : i < p.length) (hk : k < p.length) : keyL (nd p i) fs = keyL (nd p k) fs ↔ sameK p fs i k := by
  have hlen : ∀ {j}, j < p.length → (normF (nd p j) fs).length ≤ 2 := fun {j} hj => by rw [normF_len, nd_frm]; exact hp.fr_len j
  have hpos : ∀ {j}, ∀ y ∈ normF (nd p j) fs, 0 ≤ y := fun {j} y hy => by obtain ⟨f, _, rfl⟩ := normF_mem hy; exact h0 _
  constructor
  · intro h
    unfold keyL kl at h
    simp only [List.cons.injEq] at h
    obtain ⟨h1, h2, h3, h4, h5⟩ := h
    exact ⟨h1, (List.append_inj h5 (by omega)).1, two_det (hlen hi) (hlen hk) hpos hpos h2 h3⟩
  · rintro ⟨h1, h2, h3⟩
    unfold keyL
    rw [h1, h2, h3]
theorem keyL_congr {x : Nd} {fs gs : List Int} (h : ∀ f ∈ x.frm, fs.getD f.toNat 0 = gs.getD f.toNat 0) : keyL x fs = keyL x gs := by unfold keyL; rw [normF_congr h]
theorem wf64 {x : Int} (h1 : -1 ≤ x) (h2 : x ≤ 1000000) : (Lit.int .i64 x).wf = true := by
  have h3 : IntKind.i64.min = -9223372036854775808 := rfl
  have h4 : IntKind.i64.max = 9223372036854775807 := rfl
  simp only [Lit.wf, h3, h4, Bool.and_eq_true, decide_eq_true_eq]
  omega
theorem keyL_ok {p : List Nd} {fs : List Int} (hp : PlanOk p) (h0 : ∀ j, 0 ≤ fs.getD j 0 ∧ fs.getD j 0 ≤ 1000) {i : Nat} (hi : i < p.length) : KeyOk (keyL (nd p i) fs) := by
  have hfit := hp.fits hi
  have hrow : (nd p i).row.length ≤ 6 ∧ ∀ x ∈ (nd p i).row, 0 ≤ x ∧ x < 1009 := by
    have := hfit.1.2.2
    split at this
    · exact this
    · rw [this]; simp
  have hk : 0 ≤ (nd p i).kind ∧ (nd p i).kind ≤ 5 := by rw [nd_get hi]; exact hp.kind hi
  have hn : ∀ j, -1 ≤ (normF (nd p i) fs).getD j (-1) ∧ (normF (nd p i) fs).getD j (-1) ≤ 1000 := fun j => by
    rw [List.getD_eq_getElem?_getD]
    cases hc : (normF (nd p i) fs)[j]? with
    | none => simp
    | some y =>
      obtain ⟨f, _, he⟩ := normF_mem (List.mem_of_getElem? hc)
      have := h0 f.toNat
      simp; omega
  refine ⟨kl_len hrow.1, fun x hx => ?_⟩
  unfold keyL kl at hx
  simp only [List.mem_cons, List.mem_append, List.mem_replicate] at hx
  rcases hx with rfl | rfl | rfl | rfl | h | ⟨_, rfl⟩
  · exact wf64 (by omega) (by omega)
  · exact wf64 (hn 0).1 (by have := (hn 0).2; omega)
  · exact wf64 (hn 1).1 (by have := (hn 1).2; omega)
  · exact wf64 (by omega) (by have := hrow.1; omega)
  · have := hrow.2 x h; exact wf64 (by omega) (by omega)
  · exact wf64 (by omega) (by omega)
theorem IsFirsts.small {p : List Nd} {n : Nat} {fs : List Int} (h : IsFirsts p n fs) (hn : n ≤ 1000) (j : Nat) : 0 ≤ fs.getD j 0 ∧ fs.getD j 0 ≤ 1000 := by
  by_cases hj : j < n
  · obtain ⟨r, hr, hf⟩ := h.at_ j hj
    have := hf.1
    rw [hr]; omega
  · rw [List.getD_eq_getElem?_getD, List.getElem?_eq_none (by rw [h.len]; omega)]; simp
end Go.Proofs.Ytmbfkhacejnnhaa
