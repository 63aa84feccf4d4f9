/- Contracts of small functions on slices of integers. -/
import Derived.Test.YtpfabjjeacdikaaCA
namespace Go.Proofs.Ytpfabjjeacdikaa
open Go Go.V

theorem sl_int : Try.prog.underlying T.sl_int = some (.slice T.int) := by kernel_rfl
theorem el_int : ElemT Try.prog T.int 1 8 (.int .i64 0) := ⟨by kernel_rfl, rfl, by decide⟩

/-- A slice of integers whose cells lie in one unshared block that meets B. -/
structure FInts (w : World) (B : Nat → Prop) (v : Value) (xs : List Int) : Prop where
  out : ∃ a c, v = .slice a xs.length c ∧ xs.length ≤ c ∧ (xs ≠ [] → ∃ b off cur, a = some ⟨b, off, none⟩ ∧ B b ∧ w.heap[b]? = some (.cells cur T.int (0, 0)) ∧
    off + xs.length ≤ cur.size ∧ ∀ i x, xs[i]? = some x → cur[off + i]? = some (.int .i64 x))

theorem FInts.ints {w : World} {B : Nat → Prop} {v : Value} {xs : List Int} (h : FInts w B v xs) : Ints w v xs := by
  obtain ⟨a, c, hv, hc, hr⟩ := h.out
  refine ⟨a, c, hv, hc, fun i u hi => ?_⟩
  have hne : xs ≠ [] := by rintro rfl; simp [V.ints] at hi
  obtain ⟨b, off, cur, ha, _, hb, _, hx⟩ := hr hne
  refine ⟨b, off, ha, ?_⟩
  simp only [V.ints, List.getElem?_map, Option.map_eq_some_iff] at hi
  obtain ⟨x, hi, rfl⟩ := hi
  rw [cell_of_row w b _ cur T.int (0, 0) hb]
  exact hx i x hi

theorem FInts.keep {w w' : World} {B : Nat → Prop} {v : Value} {xs : List Int} (h : FInts w B v xs) {S : Nat → Prop} (hc : Chg S w w') (hs : ∀ k, B k → ¬ S k) : FInts w' B v xs := by
  obtain ⟨a, c, hv, hc', hr⟩ := h.out
  refine ⟨a, c, hv, hc', fun hne => ?_⟩
  obtain ⟨b, off, cur, ha, h1, hb, hsz, hx⟩ := hr hne
  exact ⟨b, off, cur, ha, h1, hc.at hb (hs b h1), hsz, hx⟩
theorem FInts.ext {w w' : World} {B : Nat → Prop} {v : Value} {xs : List Int} (h : FInts w B v xs) (hc : Ext w w') : FInts w' B v xs := h.keep hc fun _ _ => id
theorem FInts.mono {w : World} {B B' : Nat → Prop} {v : Value} {xs : List Int} (h : FInts w B v xs) (h1 : ∀ b, b < w.heap.size → B b → B' b) : FInts w B' v xs := by
  obtain ⟨a, c, hv, hc', hr⟩ := h.out
  refine ⟨a, c, hv, hc', fun hne => ?_⟩
  obtain ⟨b, off, cur, ha, k1, hb, r⟩ := hr hne
  exact ⟨b, off, cur, ha, h1 b (lt_of_at hb) k1, hb, r⟩
theorem FInts.nil {w : World} {B : Nat → Prop} {a : Option Addr} {c : Nat} : FInts w B (.slice a 0 c) [] := ⟨a, c, rfl, Nat.zero_le _, fun h => absurd rfl h⟩

/-- Blocks that came after the world w. -/
def Since (w : World) (b : Nat) : Prop := w.heap.size ≤ b
/-- Blocks that came between two worlds. -/
def Between (w w' : World) (b : Nat) : Prop := w.heap.size ≤ b ∧ b < w'.heap.size

theorem Own.fints {w : World} {lo : Nat} {v : Value} {n : Nat} {xs : List Int} (h : Own w lo T.int 1 v n (ints xs)) : FInts w (lo ≤ ·) v xs := by
  have hl := h.1
  have hn : n = xs.length := by simpa [ints] using hl.symm
  subst hn
  rcases h.2 with ⟨rfl, h0⟩ | ⟨g, cap, cur, rfl, hb, hg, hnc, hcm, hcs, htake⟩
  · have : xs = [] := List.eq_nil_of_length_eq_zero h0
    subst this
    exact FInts.nil
  · refine ⟨_, cap, rfl, hnc, fun _ => ⟨g, 0, cur, rfl, hb, hg, by omega, fun i x hi => ?_⟩⟩
    have hi' : (ints xs)[i]? = some (.int .i64 x) := by simp [ints, hi]
    rw [← htake, List.getElem?_take] at hi'
    rw [Nat.zero_add]
    split at hi'
    · simpa using hi'
    · cases hi'

/-- From the entry on nothing old has changed; the result is the call's own. -/
def NewInts (w : World) (xs : List Int) (v : Value) (w' : World) : Prop := Ext w w' ∧ FInts w' (Since w) v xs

theorem NewInts.bet {w w' : World} {xs : List Int} {v : Value} (h : NewInts w xs v w') : FInts w' (Between w w') v xs := h.2.mono fun _ hb h => ⟨h, hb⟩

/-- A store of one cell. -/
theorem store_at {w : World} {b off : Nat} {cur : Array Value} {e : TypeId} {v : Value} {K : World → Prop} (hb : w.heap[b]? = some (.cells cur e (0, 0))) (hc : v.cells = #[v]) (h1 : v.oneCell' = true) (ho : off < cur.size)
    (hK : ∀ w', Put w b (.cells (cur.setIfInBounds off v) e (0, 0)) w' → K w') : StoreV 1 (.pointer (some ⟨b, off, none⟩)) v w K :=
  ⟨cur, e, rfl, hb, by simp [hc], by show off + 1 ≤ _; omega, by simp [hc, h1], fun w' hp => hK w' (by simpa [hc, splice] using hp)⟩

theorem l6In_ok {w : World} (n lo hi : Int) : Calls Try.prog N.spec_l6In #[.int .i64 n, .int .i64 lo, .int .i64 hi] w (Ret fun v w' => Ext w w' ∧ v = .bool (decide (lo ≤ n ∧ n ≤ hi))) := by
  refine ret_k fun R hR => c_spec_l6In _ _ _ _ _ ?_
  simp only [go_sem]
  refine ⟨fun h => hR _ _ ⟨Ext.refl _, ?_⟩, fun h => hR _ _ ⟨Ext.refl _, ?_⟩⟩
  · simp [h]
  · simp; omega

theorem l3Has_ok {w : World} {a : Option Addr} {c n : Nat} {xs : List Int} (hx : Cells w a (ints xs)) (hn : n = xs.length) (hl : n < 9223372036854775807) (y : Int) :
    Calls Try.prog N.spec_l3Has #[.slice a n c, .int .i64 y] w (Ret fun v w' => Ext w w' ∧ v = .bool (decide (y ∈ xs))) := by
  subst hn
  refine ret_k fun R hR => c_spec_l3Has _ _ _ _ ?_
  refine loopV (fun s w' => ∃ k : Nat, s = [.int .i64 k] ∧ k ≤ xs.length ∧ w' = w ∧ y ∉ xs.take k) (upTo xs.length 0) ⟨0, rfl, by omega, rfl, by simp⟩ ?_
  rintro s z w' K ⟨k, rfl, hk, rfl, hn⟩ hK
  simp only [go_sem]
  refine ⟨fun h => ?_, fun h => ?_⟩
  · have hk : k < xs.length := by omega
    refine idxLoad hx rfl hk ?_
    simp only [go_sem]
    refine ⟨fun h => hR _ _ ⟨Ext.refl _, ?_⟩, fun h => ?_⟩
    · simp [← h]
    · refine bin_inc (by omega) (hK _ _ ⟨k + 1, rfl, by omega, rfl, ?_⟩ (by simp [upTo, nthV, iOf]; omega))
      rw [List.take_succ_eq_append_getElem hk, List.mem_append, List.mem_singleton]
      rintro (h' | h')
      · exact hn h'
      · exact h h'.symm
  · rw [List.take_of_length_le (by omega)] at hn
    exact hR _ _ ⟨Ext.refl _, by simp [hn]⟩

theorem toIntS_ok {w : World} {v : Value} {xs : List Int} (hx : Ints w v xs) (hl : xs.length ≤ 1099511627776) : Calls Try.prog N.laws_toIntS #[v] w (Ret (NewInts w xs)) := by
  obtain ⟨a, c, rfl, hc, hx⟩ := hx.out
  refine ret_k fun R hR => c_laws_toIntS _ _ _ ?_
  simp only [go_sem]
  refine ⟨by omega, by omega, by omega, by omega, fun w1 hn => ?_⟩
  refine loopV (fun s w' => ∃ k : Nat, s = [.int .i64 k] ∧ k ≤ xs.length ∧ Ext w w' ∧ ∃ cur, w'.heap[w.heap.size]? = some (.cells cur T.int (0, 0)) ∧ cur.size = xs.length ∧ ∀ i, i < k → ∀ x, xs[i]? = some x → cur[i]? = some (.int .i64 x))
    (upTo xs.length 0) ⟨0, rfl, by omega, hn.ext, _, hn.here, by simp [rowOf], by omega⟩ ?_
  rintro s z w' K ⟨k, rfl, hk, hE, cur, hcur, hsz, hx'⟩ hK
  simp only [go_sem]
  refine ⟨fun h => ?_, fun h => ?_⟩
  · have hk : k < xs.length := by omega
    refine idxLoad (hx.ext hE) rfl hk ?_
    refine ⟨by omega, by simp; omega, ?_⟩
    simp only [addr_add]
    refine store_at hcur rfl rfl (by simp; omega) fun w2 hp => ?_
    refine bin_inc (by omega) (hK _ _ ⟨k + 1, rfl, by omega, ?_, _, hp.here, by simp [hsz], ?_⟩ (by simp [upTo, nthV, iOf]; omega))
    · exact Chg.ext (hE.then hp.chg) fun n hn h => by omega
    · intro i hi x hix
      by_cases e : i = k
      · subst e
        simp [hsz, hk]
        rw [List.getElem?_eq_getElem hk] at hix
        exact Option.some.inj hix
      · rw [Array.getElem?_setIfInBounds_ne (by simp; omega)]
        exact hx' i (by omega) x hix
  · have hk : k = xs.length := by omega
    subst hk
    refine hR _ _ ⟨hE, _, _, rfl, by simp, fun hne => ⟨_, 0, cur, rfl, Nat.le_refl _, hcur, by omega, fun i x hix => ?_⟩⟩
    rw [Nat.zero_add]
    exact hx' i (by
      have := (List.getElem?_eq_some_iff.1 hix).1
      exact this) x hix

/-- Two lists are equal, as the loops find it. -/
theorem list_eq_iff {xs ys : List Int} (hl : xs.length = ys.length) : xs = ys ↔ ∀ i (h : i < xs.length), xs[i] = ys[i]'(by omega) := by
  constructor
  · rintro rfl i h; rfl
  · intro h; exact List.ext_getElem hl fun i h1 h2 => h i h1

theorem eqIntS_ok {w : World} {u v : Value} {xs ys : List Int} (hx : Ints w u xs) (hy : Ints w v ys) (hl : xs.length < 9223372036854775807) :
    Calls Try.prog N.laws_eqIntS #[u, v] w (Ret fun r w' => Ext w w' ∧ r = .bool (decide (xs = ys))) := by
  obtain ⟨a, c, rfl, hc, hx⟩ := hx.out
  obtain ⟨b, d, rfl, hd, hy⟩ := hy.out
  refine ret_k fun R hR => c_laws_eqIntS _ _ _ _ ?_
  simp only [go_sem]
  refine ⟨fun h => hR _ _ ⟨Ext.refl _, ?_⟩, fun h => ?_⟩
  · have : xs ≠ ys := by rintro rfl; simp at h
    simp [this]
  · have hlen : xs.length = ys.length := by omega
    refine loopV (fun s w' => ∃ k : Nat, s = [.int .i64 k] ∧ k ≤ xs.length ∧ Ext w w' ∧ ∀ i (h : i < k) (h1 : i < xs.length), xs[i] = ys[i]'(by omega)) (upTo xs.length 0) ⟨0, rfl, by omega, Ext.refl _, fun i h => by omega⟩ ?_
    rintro s z w' K ⟨k, rfl, hk, hE, heq⟩ hK
    simp only [go_sem]
    refine ⟨fun h => ?_, fun h => ?_⟩
    · have hk : k < xs.length := by omega
      refine draw_none fun w0 hs => ?_
      have hE0 : Ext w w0 := hE.trans hs.ext
      refine idxLoadS (hx.ext hE0) rfl hk (fun _ _ _ => id) ?_
      refine idxLoadS (hy.ext hE0) rfl (by omega) (fun _ _ _ => id) ?_
      simp only [go_sem]
      refine ⟨fun h => hR _ _ ⟨hE0, ?_⟩, fun h => ?_⟩
      · have : xs ≠ ys := by rintro rfl; exact h rfl
        simp [this]
      · refine bin_inc (by omega) (hK _ _ ⟨k + 1, rfl, by omega, hE0, fun i hi h1 => ?_⟩ (by simp [upTo, nthV, iOf]; omega))
        by_cases e : i = k
        · subst e; simpa using h
        · exact heq i (by omega) h1
    · have : xs = ys := (list_eq_iff hlen).2 fun i hi => heq i (by omega) hi
      exact hR _ _ ⟨hE, by simp [this]⟩
end Go.Proofs.Ytpfabjjeacdikaa
