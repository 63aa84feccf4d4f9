/- Contracts of small functions on slices of integers. -/
import Derived.Test.YtblgkpfnjlobjaaCA
namespace Go.Proofs.Ytblgkpfnjlobjaa
open Go Go.V

theorem sl_int : Try.prog.underlying T.sl_int = some (.slice T.int) := by kernel_rfl
theorem el_int : ElemT Try.prog T.int 1 8 (.int .i64 0) := ⟨by kernel_rfl, rfl, by decide⟩

/-- A slice of integers whose cells lie in one unshared block that meets B. -/
structure FInts (w : World) (B : Nat → Prop) (v : Value) (xs : List Int) : Prop where
  out : ∃ a c, v = .slice a xs.length c ∧ xs.length ≤ c ∧ (xs ≠ [] → ∃ b off cur, a = some ⟨b, off, none⟩ ∧ B b ∧ w.heap[b]? = some (.cells cur T.int (0, 0)) ∧
    off + xs.length ≤ cur.size ∧ ∀ i x, xs[i]? = some x → cur[off + i]? = some (.int .i64 x))

theorem FInts.ints {w : World} {B : Nat → Prop} {v : Value} {xs : List Int} (h : FInts w B v xs) : Ints w v xs := by
  obtain ⟨a, c, hv, hc, hr⟩ := h.out
  refine ⟨a, c, hv, hc, fun i u hi => ?_⟩
  have hne : xs ≠ [] := by rintro rfl; simp [V.ints] at hi
  obtain ⟨b, off, cur, ha, _, hb, _, hx⟩ := hr hne
  refine ⟨b, off, ha, ?_⟩
  simp only [V.ints, List.getElem?_map, Option.map_eq_some_iff] at hi
  obtain ⟨x, hi, rfl⟩ := hi
  rw [cell_of_row w b _ cur T.int (0, 0) hb]
  exact hx i x hi

theorem FInts.keep {w w' : World} {B : Nat → Prop} {v : Value} {xs : List Int} (h : FInts w B v xs) {S : Nat → Prop} (hc : Chg S w w') (hs : ∀ k, B k → ¬ S k) : FInts w' B v xs := by
  obtain ⟨a, c, hv, hc', hr⟩ := h.out
  refine ⟨a, c, hv, hc', fun hne => ?_⟩
  obtain ⟨b, off, cur, ha, h1, hb, hsz, hx⟩ := hr hne
  exact ⟨b, off, cur, ha, h1, hc.at hb (hs b h1), hsz, hx⟩
theorem FInts.ext {w w' : World} {B : Nat → Prop} {v : Value} {xs : List Int} (h : FInts w B v xs) (hc : Ext w w') : FInts w' B v xs := h.keep hc fun _ _ => id
theorem FInts.mono {w : World} {B B' : Nat → Prop} {v : Value} {xs : List Int} (h : FInts w B v xs) (h1 : ∀ b, b < w.heap.size → B b → B' b) : FInts w B' v xs := by
  obtain ⟨a, c, hv, hc', hr⟩ := h.out
  refine ⟨a, c, hv, hc', fun hne => ?_⟩
  obtain ⟨b, off, cur, ha, k1, hb, r⟩ := hr hne
  exact ⟨b, off, cur, ha, h1 b (lt_of_at hb) k1, hb, r⟩
theorem FInts.nil {w : World} {B : Nat → Prop} {a : Option Addr} {c : Nat} : FInts w B (.slice a 0 c) [] := ⟨a, c, rfl, Nat.zero_le _, fun h => absurd rfl h⟩

/-- Blocks that came after the world w. -/
def Since (w : World) (b : Nat) : Prop := w.heap.size ≤ b
/-- Blocks that came between two worlds. -/
def Between (w w' : World) (b : Nat) : Prop := w.heap.size ≤ b ∧ b < w'.heap.size

theorem Own.fints {w : World} {lo : Nat} {v : Value} {n : Nat} {xs : List Int} (h : Own w lo T.int 1 v n (ints xs)) : FInts w (lo ≤ ·) v xs := by
  have hl := h.1
  have hn : n = xs.length := by simpa [ints] using hl.symm
  subst hn
  rcases h.2 with ⟨rfl, h0⟩ | ⟨g, cap, cur, rfl, hb, hg, hnc, hcm, hcs, htake⟩
  · have : xs = [] := List.eq_nil_of_length_eq_zero h0
    subst this
    exact FInts.nil
  · refine ⟨_, cap, rfl, hnc, fun _ => ⟨g, 0, cur, rfl, hb, hg, by omega, fun i x hi => ?_⟩⟩
    have hi' : (ints xs)[i]? = some (.int .i64 x) := by simp [ints, hi]
    rw [← htake, List.getElem?_take] at hi'
    rw [Nat.zero_add]
    split at hi'
    · simpa using hi'
    · cases hi'

/-- From the entry on nothing old has changed; the result is the call's own. -/
def NewInts (w : World) (xs : List Int) (v : Value) (w' : World) : Prop := Ext w w' ∧ FInts w' (Since w) v xs

theorem NewInts.bet {w w' : World} {xs : List Int} {v : Value} (h : NewInts w xs v w') : FInts w' (Between w w') v xs := h.2.mono fun _ hb h => ⟨h, hb⟩

/-- A store of one cell. -/
theorem store_at {w : World} {b off : Nat} {cur : Array Value} {e : TypeId} {v : Value} {K : World → Prop} (hb : w.heap[b]? = some (.cells cur e (0, 0))) (hc : v.cells = #[v]) (h1 : v.oneCell' = true) (ho : off < cur.size)
    (hK : ∀ w', Put w b (.cells (cur.setIfInBounds off v) e (0, 0)) w' → K w') : StoreV 1 (.pointer (some ⟨b, off, none⟩)) v w K :=
  ⟨cur, e, rfl, hb, by simp [hc], by show off + 1 ≤ _; omega, by simp [hc, h1], fun w' hp => hK w' (by simpa [hc, splice] using hp)⟩

theorem l6In_ok {w : World} (n lo hi : Int) : Calls Try.prog N.spec_l6In #[.int .i64 n, .int .i64 lo, .int .i64 hi] w (Ret fun v w' => Ext w w' ∧ v = .bool (decide (lo ≤ n ∧ n ≤ hi))) := by
  refine ret_k fun R hR => c_spec_l6In _ _ _ _ _ ?_
  simp only [go_sem]
  refine ⟨fun h => hR _ _ ⟨Ext.refl _, ?_⟩, fun h => hR _ _ ⟨Ext.refl _, ?_⟩⟩
  · simp [h]
  · simp; omega

theorem l3Has_ok {w : World} {a : Option Addr} {c n : Nat} {xs : List Int} (hx : Cells w a (ints xs)) (hn : n = xs.length) (hl : n < 9223372036854775807) (y : Int) :
    Calls Try.prog N.spec_l3Has #[.slice a n c, .int .i64 y] w (Ret fun v w' => Ext w w' ∧ v = .bool (decide (y ∈ xs))) := by
  subst hn
  refine ret_k fun R hR => c_spec_l3Has _ _ _ _ ?_
  refine loopV (fun s w' => ∃ k : Nat, s = [.int .i64 k] ∧ k ≤ xs.length ∧ w' = w ∧ y ∉ xs.take k) (upTo xs.length 0) ⟨0, rfl, by omega, rfl, by simp⟩ ?_
  rintro s z w' K ⟨k, rfl, hk, rfl, hn⟩ hK
  simp only [go_sem]
  refine ⟨fun h => ?_, fun h => ?_⟩
  · have hk : k < xs.length := by omega
    refine idxLoad hx rfl hk ?_
    simp only [go_sem]
    refine ⟨fun h => hR _ _ ⟨Ext.refl _, ?_⟩, fun h => ?_⟩
    · simp [← h]
    · refine bin_inc (by omega) (hK _ _ ⟨k + 1, rfl, by omega, rfl, ?_⟩ (by simp [upTo, nthV, iOf]; omega))
      rw [List.take_succ_eq_append_getElem hk, List.mem_append, List.mem_singleton]
      rintro (h' | h')
      · exact hn h'
      · exact h h'.symm
  · rw [List.take_of_length_le (by omega)] at hn
    exact hR _ _ ⟨Ext.refl _, by simp [hn]⟩

theorem toIntS_ok {w : World} {v : Value} {xs : List Int} (hx : Ints w v xs) (hl : xs.length ≤ 1099511627776) : Calls Try.prog N.laws_toIntS #[v] w (Ret (NewInts w xs)) := by
  obtain ⟨a, c, rfl, hc, hx⟩ := hx.out
  refine ret_k fun R hR => c_laws_toIntS _ _ _ ?_
  simp only [go_sem]
  refine ⟨by omega, by omega, by omega, by omega, fun w1 hn => ?_⟩
  refine loopV (fun s w' => ∃ k : Nat, s = [.int .i64 k] ∧ k ≤ xs.length ∧ Ext w w' ∧ ∃ cur, w'.heap[w.heap.size]? = some (.cells cur T.int (0, 0)) ∧ cur.size = xs.length ∧ ∀ i, i < k → ∀ x, xs[i]? = some x → cur[i]? = some (.int .i64 x))
    (upTo xs.length 0) ⟨0, rfl, by omega, hn.ext, _, hn.here, by simp [rowOf], by omega⟩ ?_
  rintro s z w' K ⟨k, rfl, hk, hE, cur, hcur, hsz, hx'⟩ hK
  simp only [go_sem]
  refine ⟨fun h => ?_, fun h => ?_⟩
  · have hk : k < xs.length := by omega
    refine idxLoad (hx.ext hE) rfl hk ?_
    refine ⟨by omega, by simp; omega, ?_⟩
    simp only [addr_add]
    refine store_at hcur rfl rfl (by simp; omega) fun w2 hp => ?_
    refine bin_inc (by omega) (hK _ _ ⟨k + 1, rfl, by omega, ?_, _, hp.here, by simp [hsz], ?_⟩ (by simp [upTo, nthV, iOf]; omega))
    · exact Chg.ext (hE.then hp.chg) fun n hn h => by omega
    · intro i hi x hix
      by_cases e : i = k
      · subst e
        simp [hsz, hk]
        rw [List.getElem?_eq_getElem hk] at hix
        exact Option.some.inj hix
      · rw [Array.getElem?_setIfInBounds_ne (by simp; omega)]
        exact hx' i (by omega) x hix
  · have hk : k = xs.length := by omega
    subst hk
    refine hR _ _ ⟨hE, _, _, rfl, by simp, fun hne => ⟨_, 0, cur, rfl, Nat.le_refl _, hcur, by omega, fun i x hix => ?_⟩⟩
    rw [Nat.zero_add]
    exact hx' i (by
      have := (List.getElem?_eq_some_iff.1 hix).1
      exact this) x hix

/-- Two lists are equal, as the loops find it. -/
theorem list_eq_iff {xs ys : List Int} (hl : xs.length = ys.length) : xs = ys ↔ ∀ i (h : i < xs.length), xs[i] = ys[i]'(by omega) := by
  constructor
  · rintro rfl i h; rfl
  · intro h; exact List.ext_getElem hl fun i h1 h2 => h i h1

theorem eqIntS_ok {w : World} {u v : Value} {xs ys : List Int} (hx : Ints w u xs) (hy : Ints w v ys) (hl : xs.length < 9223372036854775807) :
    Calls Try.prog N.laws_eqIntS #[u, v] w (Ret fun r w' => Ext w w' ∧ r = .bool (decide (xs = ys))) := by
  obtain ⟨a, c, rfl, hc, hx⟩ := hx.out
  obtain ⟨b, d, rfl, hd, hy⟩ := hy.out
  refine ret_k fun R hR => c_laws_eqIntS _ _ _ _ ?_
  simp only [go_sem]
  refine ⟨fun h => hR _ _ ⟨Ext.refl _, ?_⟩, fun h => ?_⟩
  · have : xs ≠ ys := by rintro rfl; simp at h
    simp [this]
  · have hlen : xs.length = ys.length := by omega
    refine loopV (fun s w' => ∃ k : Nat, s = [.int .i64 k] ∧ k ≤ xs.length ∧ Ext w w' ∧ ∀ i (h : i < k) (h1 : i < xs.length), xs[i] = ys[i]'(by omega)) (upTo xs.length 0) ⟨0, rfl, by omega, Ext.refl _, fun i h => by omega⟩ ?_
    rintro s z w' K ⟨k, rfl, hk, hE, heq⟩ hK
    simp only [go_sem]
    refine ⟨fun h => ?_, fun h => ?_⟩
    · have hk : k < xs.length := by omega
      refine draw_none fun w0 hs => ?_
      have hE0 : Ext w w0 := hE.trans hs.ext
      refine idxLoadS (hx.ext hE0) rfl hk (fun _ _ _ => id) ?_
      refine idxLoadS (hy.ext hE0) rfl (by omega) (fun _ _ _ => id) ?_
      simp only [go_sem]
      refine ⟨fun h => hR _ _ ⟨hE0, ?_⟩, fun h => ?_⟩
      · have : xs ≠ ys := by rintro rfl; exact h rfl
        simp [this]
      · refine bin_inc (by omega) (hK _ _ ⟨k + 1, rfl, by omega, hE0, fun i hi h1 => ?_⟩ (by simp [upTo, nthV, iOf]; omega))
        by_cases e : i = k
        · subst e; simpa using h
        · exact heq i (by omega) h1
    · have : xs = ys := (list_eq_iff hlen).2 fun i hi => heq i (by omega) hi
      exact hR _ _ ⟨hE, by simp [this]⟩
end Go.Proofs.Ytblgkpfnjlobjaa

namespace Go.Proofs.Ytblgkpfnjlobjaa
open Go Go.V

theorem sameRow_ok {w : World} {u v : Value} {xs ys : List Int} (hx : Ints w u xs) (hy : Ints w v ys) (hl : xs.length < 9223372036854775807) :
    Calls Try.prog N.laws_sameRow #[u, v] w (Ret fun r w' => Ext w w' ∧ r = .bool (decide (xs = ys))) := by
  obtain ⟨a, c, rfl, hc, hx⟩ := hx.out
  obtain ⟨b, d, rfl, hd, hy⟩ := hy.out
  refine ret_k fun R hR => c_laws_sameRow _ _ _ _ ?_
  simp only [go_sem]
  refine ⟨fun h => hR _ _ ⟨Ext.refl _, ?_⟩, fun h => ?_⟩
  · have : xs ≠ ys := by rintro rfl; simp at h
    simp [this]
  · have hlen : xs.length = ys.length := by omega
    refine loopV (fun s w' => ∃ k : Nat, s = [.int .i64 k] ∧ k ≤ xs.length ∧ Ext w w' ∧ ∀ i (h : i < k) (h1 : i < xs.length), xs[i] = ys[i]'(by omega)) (upTo xs.length 0) ⟨0, rfl, by omega, Ext.refl _, fun i h => by omega⟩ ?_
    rintro s z w' K ⟨k, rfl, hk, hE, heq⟩ hK
    simp only [go_sem]
    refine ⟨fun h => ?_, fun h => ?_⟩
    · have hk : k < xs.length := by omega
      refine draw_none fun w0 hs => ?_
      have hE0 : Ext w w0 := hE.trans hs.ext
      refine idxLoadS (hx.ext hE0) rfl hk (fun _ _ _ => id) ?_
      refine idxLoadS (hy.ext hE0) rfl (by omega) (fun _ _ _ => id) ?_
      simp only [go_sem]
      refine ⟨fun h => hR _ _ ⟨hE0, ?_⟩, fun h => ?_⟩
      · have : xs ≠ ys := by rintro rfl; exact h rfl
        simp [this]
      · refine bin_inc (by omega) (hK _ _ ⟨k + 1, rfl, by omega, hE0, fun i hi h1 => ?_⟩ (by simp [upTo, nthV, iOf]; omega))
        by_cases e : i = k
        · subst e; simpa using h
        · exact heq i (by omega) h1
    · have : xs = ys := (list_eq_iff hlen).2 fun i hi => heq i (by omega) hi
      exact hR _ _ ⟨hE, by simp [this]⟩

/-- k, k + 1, .. -/
def marks (k : Int) (n : Nat) : List Int := (List.range n).map fun (i : Nat) => k + (i : Int)
theorem marks_length (k : Int) (n : Nat) : (marks k n).length = n := by simp [marks]
theorem marks_get {k : Int} {n i : Nat} (h : i < n) : (marks k n)[i]'(by rw [marks_length]; exact h) = k + i := by simp [marks]

theorem markIntS_ok {w : World} {B : Nat → Prop} {v : Value} {xs : List Int} {k : Nat} (hx : FInts w B v xs) (hk : k + xs.length ≤ 1152921504606846976) :
    Calls Try.prog N.laws_markIntS #[v, .int .i64 k] w (Ret fun r w' => r = .int .i64 (k + xs.length : Nat) ∧ Chg B w w' ∧ w'.heap.size = w.heap.size ∧ FInts w' B v (marks k xs.length)) := by
  obtain ⟨a, c, rfl, hc, hr⟩ := hx.out
  refine ret_k fun R hR => c_laws_markIntS _ _ _ _ ?_
  refine loopV (fun s w' => ∃ j : Nat, s = [.int .i64 (k + j : Nat), .int .i64 j] ∧ j ≤ xs.length ∧ Chg B w w' ∧ w'.heap.size = w.heap.size ∧
      (xs ≠ [] → ∃ b off cur, a = some ⟨b, off, none⟩ ∧ B b ∧ w'.heap[b]? = some (.cells cur T.int (0, 0)) ∧ off + xs.length ≤ cur.size ∧ ∀ i, i < j → cur[off + i]? = some (.int .i64 (k + i)))) (upTo xs.length 1)
    ⟨0, rfl, by omega, Chg.refl _ _, rfl, fun hne => ?_⟩ ?_
  · obtain ⟨b, off, cur, ha, hb, hcur, hsz, _⟩ := hr hne
    exact ⟨b, off, cur, ha, hb, hcur, hsz, fun i hi => by omega⟩
  rintro s z w' K ⟨j, rfl, hj, hC, hS, hr'⟩ hK
  simp only [go_sem]
  refine ⟨fun h => ?_, fun h => ?_⟩
  · have hj : j < xs.length := by omega
    obtain ⟨b, off, cur, rfl, hb, hcur, hsz, hm⟩ := hr' (List.ne_nil_of_length_pos (by omega))
    refine ⟨by omega, by omega, ?_⟩
    simp only [addr_add, Int.toNat_natCast, Nat.mul_one]
    refine store_at hcur rfl rfl (by omega) fun w2 hp => ?_
    refine bin_inc (by omega) (bin_inc (by omega) (hK _ _ ⟨j + 1, rfl, by omega, ?_, hp.size.trans hS, fun _ => ⟨b, off, _, rfl, hb, hp.here, by simpa using hsz, fun i hi => ?_⟩⟩ (by simp [upTo, nthV, iOf]; omega)))
    · exact Chg.trans hC hp.chg (fun _ _ h => h) (fun n _ h => by have h' : n = b := h; subst h'; exact hb)
    · by_cases e : i = j
      · subst e
        rw [Array.getElem?_setIfInBounds_self_of_lt (by omega)]
        simp only [Int.natCast_add]
      · rw [Array.getElem?_setIfInBounds_ne (by omega)]
        exact hm i (by omega)
  · have hj : j = xs.length := by omega
    subst hj
    refine hR _ _ ⟨rfl, hC, hS, ?_⟩
    refine ⟨a, c, by rw [marks_length], by rw [marks_length]; exact hc, fun hne => ?_⟩
    have hne' : xs ≠ [] := by rintro rfl; exact hne (by simp [marks])
    obtain ⟨b, off, cur, ha, hb, hcur, hsz, hm⟩ := hr' hne'
    refine ⟨b, off, cur, ha, hb, hcur, by rw [marks_length]; exact hsz, fun i x hi => ?_⟩
    obtain ⟨hlt, hx⟩ := List.getElem?_eq_some_iff.1 hi
    rw [marks_length] at hlt
    rw [marks_get hlt] at hx
    rw [← hx]; exact hm i hlt

theorem heldIntS_ok {w : World} {v : Value} {n k : Nat} (hx : Ints w v (marks k n)) (hk : k + n ≤ 1152921504606846976) :
    Calls Try.prog N.laws_heldIntS #[v, .int .i64 k] w (Ret fun r w' => r = .int .i64 (k + n : Nat) ∧ Ext w w') := by
  obtain ⟨a, c, rfl, hc, hx⟩ := hx.out
  simp only [marks_length] at hc ⊢
  refine ret_k fun R hR => c_laws_heldIntS _ _ _ _ ?_
  refine loopV (fun s w' => ∃ j : Nat, s = [.int .i64 (k + j : Nat), .int .i64 j] ∧ j ≤ n ∧ Ext w w') (upTo n 1) ⟨0, rfl, by omega, Ext.refl _⟩ ?_
  rintro s z w' K ⟨j, rfl, hj, hE⟩ hK
  simp only [go_sem]
  refine ⟨fun h => ?_, fun h => ?_⟩
  · have hj : j < n := by omega
    refine idxLoad (hx.ext hE) (by rw [marks_length]) (by rw [marks_length]; exact hj) ?_
    rw [marks_get hj]
    simp only [go_sem]
    refine ⟨fun h => absurd (by simp) h, fun _ => ?_⟩
    exact bin_inc (by omega) (bin_inc (by omega) (hK _ _ ⟨j + 1, rfl, by omega, hE⟩ (by simp [upTo, nthV, iOf]; omega)))
  · have hj : j = n := by omega
    subst hj
    exact hR _ _ ⟨rfl, hE⟩

end Go.Proofs.Ytblgkpfnjlobjaa

namespace Go.Proofs.Ytblgkpfnjlobjaa
open Go Go.V

/-- A reader at block rb, which has been asked p times. -/
structure Rdr (w : World) (rb p : Nat) : Prop where
  out : ∃ (a : Option Addr) (c e : Nat) (bs : List Int), w.heap[rb]? = some (.cells #[.slice a bs.length c, .int .i64 p] e (0, 0)) ∧ bs.length ≤ 2000 ∧ Cells w a (bs.map (Value.int .u8)) ∧ (∀ x ∈ bs, 0 ≤ x ∧ x ≤ 255) ∧
    (bs ≠ [] → ∀ b off, a = some ⟨b, off, none⟩ → b < rb)

theorem Rdr.keep {w w' : World} {rb p : Nat} (h : Rdr w rb p) {S : Nat → Prop} (hc : Chg S w w') (hs : ∀ k, k ≤ rb → ¬ S k) : Rdr w' rb p := by
  obtain ⟨a, c, e, bs, h1, h2, h3, h4, h5⟩ := h.out
  refine ⟨a, c, e, bs, hc.at h1 (hs rb (Nat.le_refl _)), h2, fun i u hi => ?_, h4, h5⟩
  obtain ⟨b, off, ha, hcell⟩ := h3 i u hi
  exact ⟨b, off, ha, cell_keep hc hcell (hs b (Nat.le_of_lt (h5 (by rintro rfl; simp at hi) b off ha)))⟩
theorem Rdr.ext {w w' : World} {rb p : Nat} (h : Rdr w rb p) (hc : Ext w w') : Rdr w' rb p := h.keep hc fun _ _ => id
theorem Rdr.lt {w : World} {rb p : Nat} (h : Rdr w rb p) : rb < w.heap.size := by
  obtain ⟨a, c, e, bs, h1, _⟩ := h.out
  exact lt_of_at h1

theorem u8_bounds {x : Int} (h : (Lit.int .u8 x).wf = true) : 0 ≤ x ∧ x ≤ 255 := by
  simp [Lit.wf, IntKind.min, IntKind.max, IntKind.signed, IntKind.bits] at h
  exact h

theorem fill_rdr {a : Option Addr} {n c : Nat} : Instr.fill (fun i => ([(0, 1), (1, 1)] : List (Nat × Nat))[i]?) #[.slice none 0 0, .int .i64 0] [(0, .slice a n c)] = some #[.slice a n c, .int .i64 0] := by
  simp [Instr.fill, Value.cells]

theorem Cells.take {w : World} {a : Option Addr} {cs : List Value} (h : Cells w a cs) (n : Nat) : Cells w a (cs.take n) := by
  intro i u hi
  rw [List.getElem?_take] at hi
  split at hi
  · exact h i u hi
  · cases hi

theorem l6Open_ok {w : World} {v : Value} {xs : List Int} (hx : RowIn .u8 w v xs) :
    Calls Try.prog N.spec_l6Open #[v] w (Ret fun r w' => r = .pointer (some ⟨w.heap.size, 0, none⟩) ∧ Ext w w' ∧ Rdr w' w.heap.size 0) := by
  obtain ⟨a, c, rfl, hc, hx, hw⟩ := hx.out
  refine ret_k fun R hR => c_spec_l6Open _ _ _ ?_
  simp only [go_sem]
  have key : ∀ (ys : List Int) (c' : Nat), Cells w a (ys.map (Value.int .u8)) → ys.length ≤ 2000 → (∀ x ∈ ys, (Lit.int .u8 x).wf = true) → ∀ w1, New w (.cells (Value.cells (.agg #[.slice a ys.length c', .int .i64 0])) T.spec_l6Rd (0, 0)) w1 → R (.pointer (some ⟨w.heap.size, 0, none⟩)) w1 := by
    intro ys c' hys hl hwf w1 hn
    refine hR _ _ ⟨rfl, hn.ext, ?_⟩
    refine ⟨a, c', _, ys, hn.here, hl, hys.ext hn.ext, fun x hx => u8_bounds (hwf x hx), fun hne b off ha => ?_⟩
    obtain ⟨y, ys', rfl⟩ := List.exists_cons_of_ne_nil hne
    obtain ⟨b', off', ha', hcell⟩ := hys 0 (.int .u8 y) (by simp)
    rw [ha] at ha'
    cases ha'
    exact World.block_lt_of_cell? w _ hcell
  refine ⟨fun h => ?_, fun h => ?_⟩
  · refine sliceHi (k := 2000) (by omega) ⟨_, fill_rdr, fun w1 hn => ?_⟩
    have e : (xs.take 2000).length = 2000 := by rw [List.length_take]; omega
    refine key (xs.take 2000) c (by simpa using Cells.take hx 2000) (by omega) (fun x hx => hw x (List.mem_of_mem_take hx)) w1 ?_
    rw [e]; exact hn
  · exact ⟨_, fill_rdr, fun w1 hn => key xs c hx (by omega) hw w1 hn⟩

theorem xor_in {x y : Int} (hx : 0 ≤ x) (hx' : x < 2 ^ 62) (hy : 0 ≤ y) (hy' : y < 2 ^ 62) :
    0 ≤ IntKind.i64.wrap (BitVec.ofInt IntKind.i64.bits x ^^^ BitVec.ofInt IntKind.i64.bits y).toNat := by
  have h1 : (BitVec.ofInt IntKind.i64.bits x).toNat < 2 ^ 62 := by
    simp only [IntKind.bits, BitVec.toNat_ofInt]; omega
  have h2 : (BitVec.ofInt IntKind.i64.bits y).toNat < 2 ^ 62 := by
    simp only [IntKind.bits, BitVec.toNat_ofInt]; omega
  have h3 := Nat.xor_lt_two_pow h1 h2
  rw [BitVec.toNat_xor]
  generalize (BitVec.ofInt IntKind.i64.bits x).toNat ^^^ (BitVec.ofInt IntKind.i64.bits y).toNat = m at *
  simp [IntKind.wrap, IntKind.bits, IntKind.signed]; omega

theorem tmod_in {x n : Int} (hx : 0 ≤ x) (hn : 0 < n) : ∃ m : Nat, x.tmod n = m ∧ (m : Int) < n := by
  have h1 := Int.tmod_nonneg n hx
  have h2 := Int.tmod_lt_of_pos x hn
  exact ⟨(x.tmod n).toNat, by omega, by omega⟩

/-- A number from 0 to n - 1, or 0. -/
def Picked (n : Int) (v : Value) : Prop := ∃ m : Nat, v = .int .i64 m ∧ ((m : Int) < n ∨ m = 0)

theorem load2 {w : World} {b i : Nat} {cs : Array Value} {e : Nat} {v : Value} {K : Value → Prop} (h : w.heap[b]? = some (.cells cs e (0, 0))) (hi : cs[i]? = some v) (hK : K v) : LoadV false 1 (.pointer (some ⟨b, i, none⟩)) w K :=
  ⟨v, by rw [cell_of_row w b i cs e (0, 0) h]; exact hi, hK⟩
theorem loadS2 {S : Nat → Prop} {w : World} {b i : Nat} {cs : Array Value} {e : Nat} {v : Value} {K : Value → Prop} (h : w.heap[b]? = some (.cells cs e (0, 0))) (hS : ¬ S b) (hi : cs[i]? = some v) (hK : K v) : LoadS S false 1 (.pointer (some ⟨b, i, none⟩)) w K :=
  ⟨hS, load2 h hi hK⟩

theorem pick_ok {w : World} {rb p : Nat} {n : Int} (hr : Rdr w rb p) (hp : p ≤ 1099511627776) (hn : n ≤ 1099511627776) :
    Calls Try.prog N.spec_l6Rd_pick #[.pointer (some ⟨rb, 0, none⟩), .int .i64 n] w (Ret fun v w' => Picked n v ∧ Chg (· = rb) w w' ∧ w'.heap.size = w.heap.size ∧ Rdr w' rb (p + 1)) := by
  obtain ⟨a, c, e, bs, h1, h2, h3, h4, h5⟩ := hr.out
  refine ret_k fun R hR => c_spec_l6Rd_pick _ _ _ _ ?_
  simp only [go_sem]
  refine load2 h1 (i := 1) rfl ?_
  refine bin_inc (by omega) ?_
  refine store_at h1 rfl rfl (by simp) fun w1 hp1 => ?_
  have hb : w1.heap[rb]? = some (.cells #[.slice a bs.length c, .int .i64 (p + 1 : Nat)] e (0, 0)) := by simpa using hp1.here
  have hcells : Cells w1 a (bs.map (Value.int .u8)) := by
    intro i u hi
    obtain ⟨b, off, ha, hcell⟩ := h3 i u hi
    have hne : bs ≠ [] := by rintro rfl; simp at hi
    have := h5 hne b off ha
    exact ⟨b, off, ha, cell_keep hp1.chg hcell (by omega)⟩
  have fin : ∀ v w2, Same w1 w2 → Picked n v → R v w2 := fun v w2 hs hv =>
    hR _ _ ⟨hv, hp1.chg.then hs.ext, by rw [hs.size]; exact hp1.size, Rdr.ext ⟨a, c, e, bs, hb, h2, hcells, h4, h5⟩ hs.ext⟩
  have same : ∀ w, Same w w := fun w => ⟨rfl, rfl, rfl, rfl⟩
  refine ⟨fun _ => fin _ _ (same _) ⟨0, rfl, .inr rfl⟩, fun hn1 => ?_⟩
  refine load2 hb (i := 0) (v := .slice a bs.length c) rfl ?_
  simp only [go_sem]
  refine ⟨fun _ => fin _ _ (same _) ⟨0, rfl, .inr rfl⟩, fun hlen => ?_⟩
  refine load2 hb (i := 1) rfl ?_
  refine bin_sub ⟨by omega, by omega⟩ ?_
  have ek : ((p + 1 : Nat) : Int) - 1 = (p : Int) := by omega
  rw [ek]
  refine load2 hb (i := 0) (v := .slice a bs.length c) rfl ?_
  simp only [go_sem]
  have byte : ∀ {k : Nat} {K : Value → Prop}, k < bs.length → (∀ x : Int, 0 ≤ x → x ≤ 255 → K (.int .i64 x)) → IdxV 1 (.slice a bs.length c) (.int .i64 k) fun t => LoadV false 1 t w1 fun t => ConvV .i64 t K := by
    intro k K hk hK
    refine idx_i hcells (by simp) hk fun b off _ hc => ?_
    have hx := h4 bs[k] (List.getElem_mem hk)
    refine ⟨.int .u8 bs[k], by rw [hc]; simp [hk], ?_⟩
    exact ⟨(in64 (by omega) (by omega)).inK, hK _ hx.1 hx.2⟩
  refine ⟨fun hk => ?_, fun hk => ?_⟩
  · refine load2 hb (i := 0) (v := .slice a bs.length c) rfl ?_
    refine byte (by omega) fun x hx0 hx1 => ?_
    obtain ⟨m, hm, hmn⟩ := tmod_in hx0 (show 0 < n by omega)
    refine bin_rem (by omega) (fin _ _ (same _) ⟨m, by rw [hm], .inl hmn⟩)
  · refine draw_none fun w2 hs => ?_
    have hb2 := hs.at hb
    have byteS : ∀ {k : Nat} {K : Value → Prop}, k < bs.length → (∀ x : Int, 0 ≤ x → x ≤ 255 → K (.int .i64 x)) → IdxV 1 (.slice a bs.length c) (.int .i64 k) fun t => LoadS (fun _ => False) false 1 t w2 fun t => ConvV .i64 t K := by
      intro k K hk hK
      refine idx_i (hcells.ext hs.ext) (by simp) hk fun b off _ hc => ?_
      have hx := h4 bs[k] (List.getElem_mem hk)
      refine ⟨id, .int .u8 bs[k], by rw [hc]; simp [hk], ?_⟩
      exact ⟨(in64 (by omega) (by omega)).inK, hK _ hx.1 hx.2⟩
    have hpos : (0 : Int) < bs.length := by omega
    refine loadS2 hb2 id (i := 0) (v := .slice a bs.length c) rfl (loadS2 hb2 id (i := 0) (v := .slice a bs.length c) rfl ?_)
    simp only [go_sem]
    obtain ⟨m1, hm1, hl1⟩ := tmod_in (show (0 : Int) ≤ p by omega) hpos
    refine bin_rem (by omega) ?_
    rw [hm1]
    refine byteS (by omega) fun x hx0 hx1 => ?_
    refine bin_mul ⟨by omega, by omega⟩ ?_
    refine loadS2 hb2 id (i := 0) (v := .slice a bs.length c) rfl ?_
    refine bin_mul ⟨by omega, by omega⟩ (bin_add ⟨by omega, by omega⟩ ?_)
    refine loadS2 hb2 id (i := 0) (v := .slice a bs.length c) rfl ?_
    simp only [go_sem]
    obtain ⟨m2, hm2, hl2⟩ := tmod_in (show (0 : Int) ≤ p * 7 + 3 by omega) hpos
    refine bin_rem (by omega) ?_
    rw [hm2]
    refine byteS (by omega) fun y hy0 hy1 => ?_
    refine bin_mul ⟨by omega, by omega⟩ (bin_add ⟨by omega, by omega⟩ (bin_mul ⟨by omega, by omega⟩ (bin_add ⟨by omega, by omega⟩ ?_)))
    refine loadS2 hb2 id (i := 0) (v := .slice a bs.length c) rfl ?_
    simp only [go_sem]
    have hq : 0 ≤ (p : Int).tdiv bs.length ∧ (p : Int).tdiv bs.length ≤ p := by
      rw [Int.tdiv_eq_ediv_of_nonneg (by omega)]
      exact ⟨Int.ediv_nonneg (by omega) (by omega), Int.ediv_le_self _ (by omega)⟩
    refine ⟨rfl, by omega, (in64 (by omega) (by omega)).inK, ?_⟩
    generalize (p : Int).tdiv bs.length = q at hq ⊢
    refine bin_mul ⟨by omega, by omega⟩ (bin_add ⟨by omega, by omega⟩ ?_)
    generalize hX : x * 131 + y * 1117 + (p : Int) * 29 + q * 53 = X
    have hX0 : 0 ≤ X ∧ X < 2 ^ 60 := by omega
    have hq2 : 0 ≤ X.tdiv 64 ∧ X.tdiv 64 ≤ X := by
      rw [Int.tdiv_eq_ediv_of_nonneg (by omega)]; omega
    refine ⟨rfl, by omega, (in64 (by omega) (by omega)).inK, ?_⟩
    refine ⟨rfl, ?_⟩
    obtain ⟨m3, hm3, hl3⟩ := tmod_in (xor_in hX0.1 (by omega) hq2.1 (by omega)) (show 0 < n by omega)
    exact bin_rem (by omega) (fin _ _ hs ⟨m3, by rw [hm3], .inl hl3⟩)
end Go.Proofs.Ytblgkpfnjlobjaa
