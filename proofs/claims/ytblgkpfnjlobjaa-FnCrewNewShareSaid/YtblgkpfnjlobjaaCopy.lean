/- Copies of lists and nodes. -/
import Derived.Test.YtblgkpfnjlobjaaGraph
import Derived.Test.YtblgkpfnjlobjaaFam
namespace Go.Proofs.Ytblgkpfnjlobjaa
open Go Go.V

theorem copyInts_ok {w : World} {v : Value} {xs : List Int} (hx : Ints w v xs) (hl : xs.length ≤ 1099511627776) : Calls Try.prog N.impl_copyInts #[v] w (Ret (NewInts w xs)) := by
  obtain ⟨a, c, rfl, hc, hx⟩ := hx.out
  refine ret_k fun R hR => c_impl_copyInts _ _ _ ?_
  refine appendV_src sl_int el_int (lo := w.heap.size) (own_nil (lo := w.heap.size)) hx (by simp [ints]) ints_one (by omega) (by omega) (Nat.le_refl _) fun v' w' ho hC => ?_
  refine hR _ _ ⟨Chg.ext hC fun k _ h => (by cases h), ?_⟩
  have ho' : Own w' w.heap.size T.int 1 v' (0 + xs.length) (ints xs) := by simpa [ints] using ho
  exact Own.fints ho'

theorem nodup_take {l : List Int} (h : l.Nodup) {k : Nat} (hk : k < l.length) : l[k] ∉ l.take k := by
  intro hm
  obtain ⟨j, hj, e⟩ := List.mem_take_iff_getElem.1 hm
  have h1 := List.pairwise_iff_getElem.1 (List.nodup_iff_pairwise_ne.1 h) j k (by omega) hk (by omega)
  exact h1 e

theorem new_rawI {w w' : World} {k : Int} {fv rv : Value} {xs ys : List Int} {e : Nat} (h2 : Ints w fv xs) (h3 : Ints w rv ys) (hn : New w (.cells (Value.cells (.agg #[.int .i64 k, fv, rv])) e (0, 0)) w') : w'.heap[w.heap.size]? = some (.cells #[.int .i64 k, fv, rv] e (0, 0)) := by
  have := hn.here
  obtain ⟨_, _, rfl, _⟩ := h2.out
  obtain ⟨_, _, rfl, _⟩ := h3.out
  simpa [Value.cells] using this

theorem copyNode_ok {w : World} {v : Value} {x : Nd} (hx : NdV w v x) : Calls Try.prog N.impl_copyNode #[v] w (Ret fun r w' => Ext w w' ∧ NewNd w w' r x) := by
  obtain ⟨fv, rv, rfl, hf, hr, hs⟩ := hx.out
  refine ret_k fun R hR => c_impl_copyNode _ _ _ ?_
  intro w1 hn1
  have hb1 := new_rawI hf hr hn1
  intro w2 hn2
  have z1 := hn1.size
  have z2 := hn2.size
  refine draw_none fun w3 hs3 => ?_
  have E2 := hn1.ext.trans hn2.ext
  have E3 := E2.trans hs3.ext
  have z3 := hs3.size
  have hb3 := hs3.at (hn2.ext.at hb1)
  have hc3 := hs3.at hn2.here
  simp only [go_sem]
  refine loadS2 (v := .int .i64 x.kind) hb3 id rfl ?_
  refine loadS2 (v := fv) hb3 id rfl ?_
  refine loadS2 (v := rv) hb3 id rfl ?_
  refine callV_of (copyInts_ok (hf.ext E3) (by have := hs.1; omega)) rfl fun f w4 ⟨E4, f4⟩ => ⟨E4, ?_⟩
  refine callV_of (copyInts_ok (hr.ext (E3.trans E4)) (by have := hs.2; omega)) rfl fun r w5 ⟨E5, f5⟩ => ⟨E5, ?_⟩
  have f45 := f4.ext E5
  have hfc := (ints_cells f4.ints)
  have hrc := (ints_cells f5.ints)
  have z4 := E4.size
  have z5 := E5.size
  refine ⟨#[.int .i64 x.kind, f, r], ?_, ?_⟩
  · have hi : (Value.int .i64 x.kind).cells = #[.int .i64 x.kind] := rfl
    simp [Instr.fill, hfc.1, hrc.1, hi]
  have hc5 := E5.at (E4.at hc3)
  refine ⟨_, T.impl_Node, rfl, hc5, rfl, by simp [Value.cells], fun u hu => ?_, fun w6 hp6 => ?_⟩
  · simp [Value.cells] at hu
    rcases hu with rfl | rfl | rfl
    · rfl
    · exact hfc.2
    · exact hrc.2
  · refine load_box (by simpa [Value.cells, splice] using hp6.here) ?_
    obtain ⟨b1, g1, k1⟩ := f4.one
    obtain ⟨b2, g2, k2⟩ := f5.one
    have e5 := (E3.trans E4).trans E5
    refine hR _ _ ⟨Chg.ext (e5.then hp6.chg) fun j hj e => by have e : j = w1.heap.size := e; omega, f, r, b1, b2, rfl, ?_, ?_, fun h => by have := (k1 h).1; unfold Since at this; omega, fun h => by have := (k2 h).1; unfold Since at this; omega, fun h h' e => ?_⟩
    · exact (g1.ext E5).keep1 hp6.chg fun h e => by have := (k1 h).1; unfold Since at this; have e : b1 = w1.heap.size := e; omega
    · exact g2.keep1 hp6.chg fun h e => by have := (k2 h).1; unfold Since at this; have e : b2 = w1.heap.size := e; omega
    · have := (k1 h).2; have := (k2 h').1; unfold Since at this; omega
end Go.Proofs.Ytblgkpfnjlobjaa

namespace Go.Proofs.Ytblgkpfnjlobjaa
open Go Go.V

/-- A number of a list is written. -/
theorem FInts.store {w : World} {b : Nat} {v : Value} {xs : List Int} (h : FInts w (· = b) v xs) {q : Nat} (hq : q < xs.length) {x : Int} {K : World → Prop}
    (hK : ∀ w', Chg (· = b) w w' → w'.heap.size = w.heap.size → FInts w' (· = b) v (xs.set q x) → K w') : IdxV 1 v (.int .i64 q) fun t => StoreV 1 t (.int .i64 x) w K := by
  obtain ⟨a, c, rfl, hc, hr⟩ := h.out
  obtain ⟨b', off, cur, rfl, rfl, hb, hsz, hx⟩ := hr (List.ne_nil_of_length_pos (by omega))
  refine ⟨by omega, by omega, ?_⟩
  simp only [addr_add, Int.toNat_natCast, Nat.mul_one]
  refine store_at hb rfl rfl (by omega) fun w' hp => hK w' hp.chg hp.size ⟨_, c, by rw [List.length_set], by rw [List.length_set]; exact hc, fun _ => ⟨b', off, _, rfl, rfl, hp.here, by simpa using hsz, fun i y hi => ?_⟩⟩
  by_cases e : i = q
  · subst e
    rw [List.getElem?_set_self (by omega)] at hi
    cases hi
    rw [Array.getElem?_setIfInBounds_self_of_lt (by omega)]
  · rw [List.getElem?_set_ne (fun h => e h.symm)] at hi
    rw [Array.getElem?_setIfInBounds_ne (by omega)]
    exact hx i y hi
theorem FInts.load {w : World} {B : Nat → Prop} {v : Value} {xs : List Int} (h : FInts w B v xs) {q : Nat} (hq : q < xs.length) {K : Value → Prop} (hK : K (.int .i64 xs[q])) : IdxV 1 v (.int .i64 q) fun t => LoadV false 1 t w K := by
  obtain ⟨a, c, rfl, _, hc⟩ := h.ints.out
  exact idxLoad hc rfl hq hK
theorem Ints.loadI {w : World} {v : Value} {xs : List Int} (h : Ints w v xs) {q : Nat} (hq : q < xs.length) {K : Value → Prop} (hK : K (.int .i64 xs[q])) : IdxV 1 v (.int .i64 q) fun t => LoadV false 1 t w K := by
  obtain ⟨a, c, rfl, _, hc⟩ := h.out
  exact idxLoad hc rfl hq hK
theorem Ints.loadS {S : Nat → Prop} {w : World} {v : Value} {xs : List Int} (h : Ints w v xs) {q : Nat} (hq : q < xs.length) (hS : ∀ b, ¬ S b) {K : Value → Prop} (hK : K (.int .i64 xs[q])) : IdxV 1 v (.int .i64 q) fun t => LoadS S false 1 t w K := by
  obtain ⟨a, c, rfl, _, hc⟩ := h.out
  exact idxLoadS hc rfl hq (fun b _ _ => hS b) hK

/-- The first q numbers of a list by a function, the rest as it was. -/
def mapTo (g : Int → Int) (q : Nat) (xs : List Int) : List Int := (xs.take q).map g ++ xs.drop q
theorem mapTo_len (g : Int → Int) (q : Nat) (xs : List Int) : (mapTo g q xs).length = xs.length := by simp [mapTo]; omega
theorem mapTo_get {g : Int → Int} {q : Nat} {xs : List Int} (h : q < xs.length) : (mapTo g q xs)[q]'(by rw [mapTo_len]; exact h) = xs[q] := by
  have h1 : (mapTo g q xs)[q]? = some xs[q] := by
    unfold mapTo
    have hl : ((xs.take q).map g).length = q := by simp; omega
    rw [List.getElem?_append_right (by omega), hl, Nat.sub_self]
    simp [h]
  rw [List.getElem?_eq_getElem (by rw [mapTo_len]; exact h)] at h1
  simpa using h1
theorem mapTo_set {g : Int → Int} {q : Nat} {xs : List Int} (h : q < xs.length) : (mapTo g q xs).set q (g xs[q]) = mapTo g (q + 1) xs := by
  unfold mapTo
  have hl : ((xs.take q).map g).length = q := by simp; omega
  rw [List.set_append_right _ _ (by omega), hl, Nat.sub_self, List.drop_eq_getElem_cons h, List.set_cons_zero, take_snoc h, List.map_append]
  simp
theorem mapTo_zero (g : Int → Int) (xs : List Int) : mapTo g 0 xs = xs := by simp [mapTo]
theorem mapTo_all (g : Int → Int) (xs : List Int) : mapTo g xs.length xs = xs.map g := by simp [mapTo]

/-- The place of a number below n among those that c holds of. -/
theorem sel_at {n m : Nat} {c : Nat → Prop} (h : m < (sel n c).length) : ∃ i, i < n ∧ c i ∧ rank c i = m ∧ (sel n c)[m] = (i : Int) := by
  obtain ⟨i, hi, hc, rfl⟩ := rank_surj (n := n) (c := c) h
  refine ⟨i, hi, hc, rfl, ?_⟩
  have := sel_rank hi hc
  rw [List.getElem?_eq_getElem h] at this
  simpa using this
end Go.Proofs.Ytblgkpfnjlobjaa

namespace Go.Proofs.Ytblgkpfnjlobjaa
open Go Go.V

theorem splice_get : ∀ (vs : List Value) (cur : Array Value) (off : Nat), off + vs.length ≤ cur.size → ∀ i, (splice cur off vs)[i]? = if off ≤ i ∧ i < off + vs.length then vs[i - off]? else cur[i]?
  | [], cur, off, _, i => by
    simp only [splice, List.length_nil, Nat.add_zero]
    rw [if_neg (by omega)]
  | v :: vs, cur, off, h, i => by
    simp only [List.length_cons] at h
    simp only [splice, List.length_cons]
    rw [splice_get vs _ _ (by simp; omega)]
    by_cases e : i = off
    · subst e
      rw [if_neg (by omega), if_pos (by omega), Array.getElem?_setIfInBounds_self_of_lt (by omega)]
      simp
    · rw [Array.getElem?_setIfInBounds_ne (by omega)]
      by_cases hh : off + 1 ≤ i ∧ i < off + 1 + vs.length
      · rw [if_pos hh, if_pos (by omega)]
        obtain ⟨j, rfl⟩ : ∃ j, i = off + 1 + j := ⟨i - (off + 1), by omega⟩
        rw [show off + 1 + j - (off + 1) = j by omega, show off + 1 + j - off = j + 1 by omega, List.getElem?_cons_succ]
      · rw [if_neg hh, if_neg (by omega)]
theorem splice_full {vs : List Value} {cur : Array Value} (h : cur.size = vs.length) : splice cur 0 vs = vs.toArray := by
  refine Array.ext (by rw [splice_size]; simpa using h) fun i h1 h2 => ?_
  have h2' : i < vs.length := by simpa using h2
  have := splice_get vs cur 0 (by omega) i
  rw [if_pos (by omega), Nat.sub_zero, Array.getElem?_eq_getElem h1] at this
  have h3 : vs[i]? = some vs[i] := List.getElem?_eq_getElem h2'
  rw [h3] at this
  simpa using this
/-- A variable of many cells is set whole, and read whole. -/
theorem store_all {w : World} {b : Nat} {cur : Array Value} {e : TypeId} {vs : List Value} (hb : w.heap[b]? = some (.cells cur e (0, 0))) (hn : cur.size = vs.length) (hc : ∀ v ∈ vs, v.cells = #[v] ∧ v.oneCell' = true) {K : World → Prop}
    (hK : ∀ w', Put w b (.cells vs.toArray e (0, 0)) w' → K w') : StoreV vs.length (.pointer (some ⟨b, 0, none⟩)) (.agg vs.toArray) w K := by
  have hcells : (Value.agg vs.toArray).cells = vs.toArray := by simp [Value.cells]
  refine ⟨cur, e, rfl, hb, by rw [hcells]; simp, by simp [hn], fun u hu => ?_, fun w' hp => hK w' ?_⟩
  · rw [hcells] at hu; exact (hc u (by simpa using hu)).2
  · rw [hcells, splice_full (by simpa using hn)] at hp; exact hp
theorem load_all {w : World} {b : Nat} {e : TypeId} {vs : List Value} (hb : w.heap[b]? = some (.cells vs.toArray e (0, 0))) {K : Value → Prop} (hK : K (.agg vs.toArray)) : LoadV true vs.length (.pointer (some ⟨b, 0, none⟩)) w K := by
  refine ⟨vs, rfl, fun j v hj => ?_, hK⟩
  rw [addr_add, Nat.zero_add, cell_of_row w b j _ e (0, 0) hb]
  simpa using hj

/-- A one-cell variable is made and set. -/
theorem box1 {w : World} {e : TypeId} {z v : Value} {x : Value} (hz : z.cells.size = 1) (hv : v.cells = #[x]) (hx : x.oneCell' = true) {K : Value → World → Prop}
    (hK : ∀ w', Ext w w' → w'.heap[w.heap.size]? = some (.cells #[x] e (0, 0)) → w'.heap.size = w.heap.size + 1 → K (.pointer (some ⟨w.heap.size, 0, none⟩)) w') : BoxV e z w fun t w1 => StoreV 1 t v w1 fun w2 => K t w2 := by
  intro w1 hn
  refine ⟨_, _, rfl, hn.here, by simp [hv], by simp [hz], fun u hu => ?_, fun w2 hp => ?_⟩
  · rw [hv] at hu; simp at hu; subst hu; exact hx
  · have hE : Ext w w2 := Chg.ext (hn.ext.then hp.chg) fun k hk e => by have e' : k = w.heap.size := e; omega
    refine hK _ hE ?_ (by have := hn.size; have := hp.size; omega)
    have := hp.here
    rw [hv, splice_full (by simpa using hz)] at this
    exact this
end Go.Proofs.Ytblgkpfnjlobjaa

namespace Go.Proofs.Ytblgkpfnjlobjaa
open Go Go.V

theorem l3HasI {w : World} {v : Value} {xs : List Int} (hx : Ints w v xs) (hl : xs.length < 9223372036854775807) (y : Int) :
    Calls Try.prog N.spec_l3Has #[v, .int .i64 y] w (Ret fun r w' => Ext w w' ∧ r = .bool (decide (y ∈ xs))) := by
  obtain ⟨a, c, rfl, _, h⟩ := hx.out
  exact l3Has_ok h rfl hl y

/-! ### Ten marks -/
/-- Block b holds ten marks: place i is marked where c holds of i. -/
structure Bits (w : World) (b : Nat) (c : Nat → Prop) : Prop where
  out : ∃ cur : Array Value, w.heap[b]? = some (.cells cur T.a10_bool (0, 0)) ∧ cur.size = 10 ∧ ∀ i, i < 10 → ∃ m : Bool, cur[i]? = some (.bool m) ∧ (m = true ↔ c i)
theorem Bits.keep {w w' : World} {b : Nat} {c : Nat → Prop} (h : Bits w b c) {S : Nat → Prop} (hc : Chg S w w') (hs : ¬ S b) : Bits w' b c := by
  obtain ⟨cur, h1, h2⟩ := h.out
  exact ⟨cur, hc.at h1 hs, h2⟩
theorem Bits.ext {w w' : World} {b : Nat} {c : Nat → Prop} (h : Bits w b c) (hc : Ext w w') : Bits w' b c := h.keep hc id
theorem Bits.new {w : World} {K : Value → World → Prop} (hK : ∀ w', Ext w w' → Bits w' w.heap.size (fun _ => False) → w'.heap.size = w.heap.size + 1 → K (.pointer (some ⟨w.heap.size, 0, none⟩)) w') :
    BoxV T.a10_bool (.agg #[.bool false, .bool false, .bool false, .bool false, .bool false, .bool false, .bool false, .bool false, .bool false, .bool false]) w K := by
  intro w' hn
  refine hK w' hn.ext ⟨_, hn.here, rfl, fun i hi => ⟨false, ?_, by simp⟩⟩ hn.size
  simp only [Value.cells]
  match i, hi with
  | 0, _ => rfl
  | 1, _ => rfl
  | 2, _ => rfl
  | 3, _ => rfl
  | 4, _ => rfl
  | 5, _ => rfl
  | 6, _ => rfl
  | 7, _ => rfl
  | 8, _ => rfl
  | 9, _ => rfl
theorem Bits.get {w : World} {b i : Nat} {c : Nat → Prop} (h : Bits w b c) (hi : i < 10) {K : Value → Prop} (hK : ∀ m : Bool, (m = true ↔ c i) → K (.bool m)) :
    IdxAV 10 1 (.pointer (some ⟨b, 0, none⟩)) (.int .i64 i) fun t => LoadV false 1 t w K := by
  obtain ⟨cur, h1, h2, h3⟩ := h.out
  obtain ⟨m, hm, hc⟩ := h3 i hi
  refine ⟨by omega, by omega, ?_⟩
  simp only [addr_add, Int.toNat_natCast, Nat.mul_one, Nat.zero_add]
  exact load2 h1 hm (hK m hc)
theorem Bits.set {w : World} {b i : Nat} {c : Nat → Prop} (h : Bits w b c) (hi : i < 10) {K : World → Prop} (hK : ∀ w', Chg (· = b) w w' → w'.heap.size = w.heap.size → Bits w' b (fun j => c j ∨ j = i) → K w') :
    IdxAV 10 1 (.pointer (some ⟨b, 0, none⟩)) (.int .i64 i) fun t => StoreV 1 t (.bool true) w K := by
  obtain ⟨cur, h1, h2, h3⟩ := h.out
  refine ⟨by omega, by omega, ?_⟩
  simp only [addr_add, Int.toNat_natCast, Nat.mul_one, Nat.zero_add]
  refine store_at h1 rfl rfl (by omega) fun w' hp => hK w' hp.chg hp.size ⟨_, hp.here, by simp [h2], fun j hj => ?_⟩
  by_cases e : j = i
  · subst e
    exact ⟨true, by simp [h2, hj], by simp⟩
  · obtain ⟨m, hm, hc⟩ := h3 j hj
    exact ⟨m, by rw [Array.getElem?_setIfInBounds_ne (by omega)]; exact hm, by rw [hc]; simp [e]⟩
end Go.Proofs.Ytblgkpfnjlobjaa
