/- A map whose keys are what a node does. -/
import Derived.Test.YtpfabjjeacdikaaGraphOf
import Derived.Test.YtpfabjjeacdikaaCS
import Derived.Maps.OwnSet
import Derived.DeepKeys5
namespace Go.Proofs.Ytpfabjjeacdikaa
open Go Go.V Go.Maps

theorem sk_fields : (match Try.prog.underlying T.impl_shareKey with | some (.struct fs) => (fs.map fun f => (f.name != "_", f.type, f.offset)).toList | _ => []) = [(true, T.int, 0), (true, T.int, 1), (true, T.int, 2), (true, T.int, 3), (true, T.a6_int, 4)] := by kernel_rfl
theorem sk_key : Try.prog.keyTypeAt 5 T.impl_shareKey = true := by kernel_rfl
theorem sk_keyType : Try.prog.keyType T.impl_shareKey = true := by kernel_rfl
theorem sk_tiled : Try.prog.tiled 5 T.impl_shareKey = true := by kernel_rfl
theorem sk_map : Try.prog.underlying T.map_impl_shareKey_int = some (.map T.impl_shareKey T.int) := by kernel_rfl
theorem sk_int : Try.prog.underlying T.int = some (.int .i64) := by kernel_rfl
theorem sk_arr : Try.prog.underlying T.a6_int = some (.array 6 T.int) := by kernel_rfl
theorem sk_cells : Try.prog.cellsOf T.impl_shareKey = 10 := by kernel_rfl
theorem sk_cells6 : Try.prog.cellsOf T.a6_int = 6 := by kernel_rfl
theorem sk_cells1 : Try.prog.cellsOf T.int = 1 := by kernel_rfl
theorem sk_zero : zeroOf Try.prog T.int = some (.int .i64 0) := by kernel_rfl
theorem sk_size : Nat.ble 3 Try.prog.types.size = true := by kernel_rfl
theorem sk_keyed : Keyed Try.prog T.impl_shareKey := Keyed.of_law (deep_law (m := 5) (by omega) sk_key sk_tiled (by kernel_rfl))

/-- A key as a value. -/
def keyV (xs : List Int) : Value := .agg (xs.map (Value.int .i64)).toArray
theorem keyV_inj {xs ys : List Int} (h : keyV xs = keyV ys) : xs = ys := by
  unfold keyV at h
  simp only [Value.agg.injEq] at h
  have h := congrArg Array.toList h
  simp only at h
  have := congrArg (List.map fun v => match v with | Value.int _ n => n | _ => 0) h
  simpa [Function.comp_def] using this
/-- What a key is like. -/
structure KeyOk (xs : List Int) : Prop where
  len : xs.length = 10
  wf : ∀ x ∈ xs, (Lit.int .i64 x).wf = true

theorem lits1 {d : Nat} {x : Int} (h : (Lit.int .i64 x).wf = true) : Try.prog.keyLits (d + 1) T.int [.int .i64 x] = some [.int .i64 x] := by
  unfold Program.keyLits
  simp [h]
theorem lits6 {d : Nat} {a b c e f g : Int} (ha : (Lit.int .i64 a).wf = true) (hb : (Lit.int .i64 b).wf = true) (hc : (Lit.int .i64 c).wf = true) (he : (Lit.int .i64 e).wf = true) (hf : (Lit.int .i64 f).wf = true) (hg : (Lit.int .i64 g).wf = true) :
    Try.prog.keyLits (d + 2) T.a6_int [.int .i64 a, .int .i64 b, .int .i64 c, .int .i64 e, .int .i64 f, .int .i64 g] = some [.int .i64 a, .int .i64 b, .int .i64 c, .int .i64 e, .int .i64 f, .int .i64 g] := by
  unfold Program.keyLits
  simp only [sk_arr]
  rw [if_pos (by rw [sk_cells6]; rfl), show List.range 6 = [0, 1, 2, 3, 4, 5] from rfl]
  simp [sk_cells1, lits1, ha, hb, hc, he, hf, hg]
theorem ten {xs : List Int} (h : xs.length = 10) : ∃ a b c d e f g i j k, xs = [a, b, c, d, e, f, g, i, j, k] := by
  match xs with
  | [a, b, c, d, e, f, g, i, j, k] => exact ⟨a, b, c, d, e, f, g, i, j, k, rfl⟩
  | [] | [_] | [_, _] | [_, _, _] | [_, _, _, _] | [_, _, _, _, _] | [_, _, _, _, _, _] | [_, _, _, _, _, _, _] | [_, _, _, _, _, _, _, _] | [_, _, _, _, _, _, _, _, _] => simp at h
  | _ :: _ :: _ :: _ :: _ :: _ :: _ :: _ :: _ :: _ :: _ :: _ => simp at h
theorem KeyOk.lit {xs : List Int} (h : KeyOk xs) : ∃ l, keyOf Try.prog T.impl_shareKey (keyV xs) = some l := by
  obtain ⟨a, b, c, d, e, f, g, i, j, k, rfl⟩ := ten h.len
  have hw := h.wf
  simp only [List.mem_cons, List.not_mem_nil, or_false, forall_eq_or_imp, forall_eq] at hw
  obtain ⟨w1, w2, w3, w4, w5, w6, w7, w8, w9, w10⟩ := hw
  obtain ⟨m, hm⟩ : ∃ m, Try.prog.types.size = m + 3 := ⟨Try.prog.types.size - 3, by have := Nat.le_of_ble_eq_true sk_size; omega⟩
  have hf := sk_fields
  unfold keyOf
  split at hf
  · rename_i fs hfs
    simp only [hfs]
    have hform : Value.formed Try.prog T.impl_shareKey (keyV [a, b, c, d, e, f, g, i, j, k]) = true := by
      simp [Value.formed, hfs, keyV, sk_cells]
    rw [if_pos (by rw [sk_keyType, hform]; rfl), hm]
    unfold Program.keyLits
    simp only [hfs]
    have hnames : fs.all (·.name != "_") = true := by
      have := congrArg (List.map fun q : Bool × Nat × Nat => q.1) hf
      rw [Array.all_eq_true_iff_forall_mem]
      intro x hx
      have hx' : (x.name != "_", x.type, x.offset) ∈ (fs.map fun f => (f.name != "_", f.type, f.offset)).toList := by
        rw [Array.toList_map]; exact List.mem_map.2 ⟨x, by simpa using hx, rfl⟩
      rw [hf] at hx'
      simp at hx'
      rcases hx' with h | h | h | h | h <;> simp [h.1]
    have hmap : fs.toList.map (fun f => (f.type, f.offset)) = [(T.int, 0), (T.int, 1), (T.int, 2), (T.int, 3), (T.a6_int, 4)] := by
      have := congrArg (List.map fun q : Bool × Nat × Nat => q.2) hf
      rw [Array.toList_map, List.map_map] at this
      exact this
    have key : ∀ (cs : List Value), (fs.toList.mapM fun f => Try.prog.keyLits (m + 3) f.type ((cs.drop f.offset).take (Try.prog.cellsOf f.type))) = ((fs.toList.map fun f => (f.type, f.offset)).mapM fun q => Try.prog.keyLits (m + 3) q.1 ((cs.drop q.2).take (Try.prog.cellsOf q.1))) := fun cs => by
      rw [List.mapM_map, Function.comp_def]
    have hc : (keyV [a, b, c, d, e, f, g, i, j, k]).cells.toList = [.int .i64 a, .int .i64 b, .int .i64 c, .int .i64 d, .int .i64 e, .int .i64 f, .int .i64 g, .int .i64 i, .int .i64 j, .int .i64 k] := by simp [keyV, Value.cells]
    rw [hc, if_pos ⟨by rw [sk_cells]; rfl, hnames⟩, key, hmap]
    have l6 := lits6 (d := m + 1) w5 w6 w7 w8 w9 w10
    simp only [List.mapM_cons, List.mapM_nil, sk_cells1, sk_cells6, List.drop, List.take, lits1 w1, lits1 w2, lits1 w3, lits1 w4]
    simp [l6]
  · cases hf

/-- A map of a call's own, and what it holds. -/
structure KMap (w : World) (b n : Nat) (g : List Int → Option Int) : Prop where
  out : ∃ D : DataW Unit, w.ownsMap Try.prog T.impl_shareKey (plainElem Try.prog T.int) b n D ∧ ∀ xs l, keyOf Try.prog T.impl_shareKey (keyV xs) = some l → match g xs with
    | none => has D l = false
    | some v => has D l = true ∧ ∀ z, D.atKey l z = .lit (.int .i64 v)
theorem KMap.new {w w' : World} (hn : New w (.map #[] 0) w') : KMap w' w.heap.size 0 fun _ => none := by
  obtain ⟨es, clock, hb, F, hs, hD⟩ := World.ownsMap_made (H := Unit) w Try.prog T.impl_shareKey (plainElem Try.prog T.int)
  refine ⟨.map [], ⟨es, clock, ?_, F, hs, hD⟩, fun xs l h => rfl⟩
  rw [hn.here, ← hb, (MapKept.heap_alloc w _).1]
theorem KMap.keep {w w' : World} {b n : Nat} {g : List Int → Option Int} (h : KMap w b n g) {S : Nat → Prop} (hc : Chg S w w') (hs : ¬ S b) : KMap w' b n g := by
  obtain ⟨D, ⟨es, clock, hb, r⟩, hg⟩ := h.out
  exact ⟨D, ⟨es, clock, hc.at hb hs, r⟩, hg⟩
theorem KMap.ext {w w' : World} {b n : Nat} {g : List Int → Option Int} (h : KMap w b n g) (hc : Ext w w') : KMap w' b n g := h.keep hc id
theorem KMap.lt {w : World} {b n : Nat} {g : List Int → Option Int} (h : KMap w b n g) : b < w.heap.size := by
  obtain ⟨D, ⟨es, clock, hb, _⟩, _⟩ := h.out
  exact lt_of_at hb
theorem KMap.blk {w : World} {b n : Nat} {g : List Int → Option Int} (h : KMap w b n g) : ∃ es c, w.heap[b]? = some (.map es c) := by
  obtain ⟨D, ⟨es, clock, hb, _⟩, _⟩ := h.out
  exact ⟨es, clock, hb⟩
theorem KMap.lookup {w : World} {b n : Nat} {g : List Int → Option Int} (h : KMap w b n g) {xs : List Int} (hx : KeyOk xs) {K : Value → World → Prop} (h1 : ∀ v, g xs = some v → K (.tuple #[.int .i64 v, .bool true]) w) (h0 : ∀ v, g xs = none → K (.tuple #[v, .bool false]) w) :
    LookupV Try.prog T.map_impl_shareKey_int (.map (some b)) (keyV xs) true w K := by
  obtain ⟨D, ho, hg⟩ := h.out
  obtain ⟨l, hl⟩ := hx.lit
  obtain ⟨v, ps, hrun, hv⟩ := ho.look_ok sk_keyed sk_map (run_zero sk_zero w) (plainElem_int (H := Unit) sk_int (by decide)) hl
  have := hg xs l hl
  refine ⟨_, w, hrun, ?_⟩
  cases hgx : g xs with
  | none => rw [hgx] at this; simp only at this; rw [this]; exact h0 v hgx
  | some u =>
    rw [hgx] at this
    simp only at this
    rw [this.1]
    rw [this.2] at hv
    obtain ⟨a, rfl, ha, _⟩ := plainElem_int_inv sk_int hv
    simp only [Prod.mk.injEq, DataW.lit.injEq, Lit.int.injEq, true_and] at ha
    obtain ⟨rfl, _⟩ := ha
    exact h1 u hgx
theorem KMap.set {w : World} {b n : Nat} {g : List Int → Option Int} (h : KMap w b n g) (hn : n < 1000) {xs : List Int} (hx : KeyOk xs) {v : Int} (hv : (Lit.int .i64 v).wf = true) {K : World → Prop}
    (hK : ∀ w', KMap w' b (n + 1) (fun ys => if ys = xs then some v else g ys) → Chg (· = b) w w' → w.heap.size ≤ w'.heap.size → K w') : MapUpdV Try.prog T.map_impl_shareKey_int (.map (some b)) (keyV xs) (.int .i64 v) w K := by
  obtain ⟨D, ho, hg⟩ := h.out
  obtain ⟨l, hl⟩ := hx.lit
  obtain ⟨w', hrun, ho', ht⟩ := ho.store sk_keyed sk_map (by unfold maxLen; omega) hl (plainElem_int (H := Unit) sk_int hv)
  have hgr := ht.grown
  have hC : Chg (· = b) w w' := ⟨hgr.os, hgr.tape, hgr.output, hgr.size, fun k hk hn => hgr.block k hk fun e => hn (by cases e; rfl)⟩
  refine ⟨w', hrun, hK w' ⟨_, ho', fun ys l' hl' => ?_⟩ hC hgr.size⟩
  by_cases e : ys = xs
  · subst e
    rw [if_pos rfl]
    have : l' = l := by rw [hl] at hl'; exact (Option.some.inj hl').symm
    subst this
    have hkl := sk_keyed.key hl
    exact ⟨has_put_same ho.isMap hkl _, fun z => atKey_put_same ho.isMap hkl _ z⟩
  · rw [if_neg e]
    have hne : l' ≠ l := fun h => e (keyV_inj (sk_keyed.inj (by rw [hl', h]) hl))
    have := hg ys l' hl'
    cases hgy : g ys with
    | none => rw [hgy] at this; simp only at this ⊢; rw [has_put_other hne]; exact this
    | some u => rw [hgy] at this; simp only at this ⊢; exact ⟨by rw [has_put_other hne]; exact this.1, fun z => by rw [atKey_put_other hne]; exact this.2 z⟩
end Go.Proofs.Ytpfabjjeacdikaa
