/- Lists that are written in place. -/
import Derived.Test.YtpfabjjeacdikaaCopy
import Derived.Test.YtpfabjjeacdikaaOuter
namespace Go.Proofs.Ytpfabjjeacdikaa
open Go Go.V

/-- A number of a list is written. -/
theorem FInts.store {w : World} {b : Nat} {v : Value} {xs : List Int} (h : FInts w (· = b) v xs) {q : Nat} (hq : q < xs.length) {x : Int} {K : World → Prop}
    (hK : ∀ w', Chg (· = b) w w' → w'.heap.size = w.heap.size → FInts w' (· = b) v (xs.set q x) → K w') : IdxV 1 v (.int .i64 q) fun t => StoreV 1 t (.int .i64 x) w K := by
  obtain ⟨a, c, rfl, hc, hr⟩ := h.out
  obtain ⟨b', off, cur, rfl, rfl, hb, hsz, hx⟩ := hr (List.ne_nil_of_length_pos (by omega))
  refine ⟨by omega, by omega, ?_⟩
  simp only [addr_add, Int.toNat_natCast, Nat.mul_one]
  refine store_at hb rfl rfl (by omega) fun w' hp => hK w' hp.chg hp.size ⟨_, c, by rw [List.length_set], by rw [List.length_set]; exact hc, fun _ => ⟨b', off, _, rfl, rfl, hp.here, by simpa using hsz, fun i y hi => ?_⟩⟩
  by_cases e : i = q
  · subst e
    rw [List.getElem?_set_self (by omega)] at hi
    cases hi
    rw [Array.getElem?_setIfInBounds_self_of_lt (by omega)]
  · rw [List.getElem?_set_ne (fun h => e h.symm)] at hi
    rw [Array.getElem?_setIfInBounds_ne (by omega)]
    exact hx i y hi
theorem FInts.load {w : World} {B : Nat → Prop} {v : Value} {xs : List Int} (h : FInts w B v xs) {q : Nat} (hq : q < xs.length) {K : Value → Prop} (hK : K (.int .i64 xs[q])) : IdxV 1 v (.int .i64 q) fun t => LoadV false 1 t w K := by
  obtain ⟨a, c, rfl, _, hc⟩ := h.ints.out
  exact idxLoad hc rfl hq hK
theorem Ints.loadI {w : World} {v : Value} {xs : List Int} (h : Ints w v xs) {q : Nat} (hq : q < xs.length) {K : Value → Prop} (hK : K (.int .i64 xs[q])) : IdxV 1 v (.int .i64 q) fun t => LoadV false 1 t w K := by
  obtain ⟨a, c, rfl, _, hc⟩ := h.out
  exact idxLoad hc rfl hq hK
theorem Ints.loadS {S : Nat → Prop} {w : World} {v : Value} {xs : List Int} (h : Ints w v xs) {q : Nat} (hq : q < xs.length) (hS : ∀ b, ¬ S b) {K : Value → Prop} (hK : K (.int .i64 xs[q])) : IdxV 1 v (.int .i64 q) fun t => LoadS S false 1 t w K := by
  obtain ⟨a, c, rfl, _, hc⟩ := h.out
  exact idxLoadS hc rfl hq (fun b _ _ => hS b) hK

/-- The first q numbers of a list by a function, the rest as it was. -/
def mapTo (g : Int → Int) (q : Nat) (xs : List Int) : List Int := (xs.take q).map g ++ xs.drop q
theorem mapTo_len (g : Int → Int) (q : Nat) (xs : List Int) : (mapTo g q xs).length = xs.length := by simp [mapTo]; omega
theorem mapTo_get {g : Int → Int} {q : Nat} {xs : List Int} (h : q < xs.length) : (mapTo g q xs)[q]'(by rw [mapTo_len]; exact h) = xs[q] := by
  have h1 : (mapTo g q xs)[q]? = some xs[q] := by
    unfold mapTo
    have hl : ((xs.take q).map g).length = q := by simp; omega
    rw [List.getElem?_append_right (by omega), hl, Nat.sub_self]
    simp [h]
  rw [List.getElem?_eq_getElem (by rw [mapTo_len]; exact h)] at h1
  simpa using h1
theorem mapTo_set {g : Int → Int} {q : Nat} {xs : List Int} (h : q < xs.length) : (mapTo g q xs).set q (g xs[q]) = mapTo g (q + 1) xs := by
  unfold mapTo
  have hl : ((xs.take q).map g).length = q := by simp; omega
  rw [List.set_append_right _ _ (by omega), hl, Nat.sub_self, List.drop_eq_getElem_cons h, List.set_cons_zero, take_snoc h, List.map_append]
  simp
theorem mapTo_zero (g : Int → Int) (xs : List Int) : mapTo g 0 xs = xs := by simp [mapTo]
theorem mapTo_all (g : Int → Int) (xs : List Int) : mapTo g xs.length xs = xs.map g := by simp [mapTo]

/-- The place of a number below n among those that c holds of. -/
theorem sel_at {n m : Nat} {c : Nat → Prop} (h : m < (sel n c).length) : ∃ i, i < n ∧ c i ∧ rank c i = m ∧ (sel n c)[m] = (i : Int) := by
  obtain ⟨i, hi, hc, rfl⟩ := rank_surj (n := n) (c := c) h
  refine ⟨i, hi, hc, rfl, ?_⟩
  have := sel_rank hi hc
  rw [List.getElem?_eq_getElem h] at this
  simpa using this
end Go.Proofs.Ytpfabjjeacdikaa
