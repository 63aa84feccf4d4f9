/- Workers: what they are, how they lie in memory, and lists that are dealt out. -/
import Derived.Test.YtblgkpfnjlobjaaRowSpec
import Derived.Test.YtblgkpfnjlobjaaCReady
import Derived.Test.YtblgkpfnjlobjaaCnt
import Derived.Test.YtblgkpfnjlobjaaCR
namespace Go.Proofs.Ytblgkpfnjlobjaa
open Go Go.V

/-! ### Dealing out: plain -/
/-- What i has when the first k have been dealt out to n. -/
def dealt (xs : List Int) (n : Nat) : Nat → Nat → List Int
  | 0, _ => []
  | k + 1, i => if k % n = i then dealt xs n k i ++ [xs.getD k 0] else dealt xs n k i
def dealL (xs : List Int) (n k : Nat) : List (List Int) := (List.range n).map (dealt xs n k)
theorem dealL_len (xs : List Int) (n k : Nat) : (dealL xs n k).length = n := by simp [dealL]
theorem dealL_get {xs : List Int} {n k i : Nat} (h : i < (dealL xs n k).length) : (dealL xs n k)[i] = dealt xs n k i := by simp [dealL]
theorem dealL_zero (xs : List Int) (n : Nat) : dealL xs n 0 = List.replicate n [] := by
  refine List.ext_getElem (by simp [dealL]) fun i h1 h2 => ?_
  rw [dealL_get h1]; simp [dealt]
theorem dealL_succ {xs : List Int} {n k : Nat} (hn : 0 < n) (hk : k < xs.length) : dealL xs n (k + 1) = (dealL xs n k).set (k % n) ((dealL xs n k)[k % n]'(by rw [dealL_len]; exact Nat.mod_lt _ hn) ++ [xs[k]]) := by
  refine List.ext_getElem (by simp [dealL]) fun i h1 h2 => ?_
  have hg : xs.getD k 0 = xs[k] := by rw [List.getD_eq_getElem?_getD, List.getElem?_eq_getElem hk]; rfl
  rw [dealL_get h1, List.getElem_set]
  by_cases e : k % n = i
  · subst e
    rw [if_pos rfl, dealL_get]
    show (if k % n = k % n then _ else _) = _
    rw [if_pos rfl, hg]
  · rw [if_neg e, dealL_get]
    show (if k % n = i then _ else _) = _
    rw [if_neg e]
theorem dealt_le (xs : List Int) (n k i : Nat) : (dealt xs n k i).length ≤ k := by
  induction k with
  | zero => simp [dealt]
  | succ k ih =>
    unfold dealt
    split
    · simp; omega
    · omega
theorem dealt_len (xs : List Int) {n : Nat} (hn : 1 ≤ n) (hn4 : n ≤ 4) (k : Nat) {i : Nat} (hi : i < n) : (dealt xs n k i).length = k / n + if i < k % n then 1 else 0 := by
  induction k with
  | zero => simp [dealt]
  | succ k ih =>
    unfold dealt
    have hcase : n = 1 ∨ n = 2 ∨ n = 3 ∨ n = 4 := by omega
    split
    · rename_i e
      rw [List.length_append, ih, List.length_singleton]
      rcases hcase with rfl | rfl | rfl | rfl <;> split <;> split <;> omega
    · rename_i e
      rw [ih]
      rcases hcase with rfl | rfl | rfl | rfl <;> split <;> split <;> omega

/-! ### Workers -/
structure Cr where
  deq : List (List Int)
  cnt : List Int
  done : List Int
  rows : List (List Int)
deriving DecidableEq
def CrewOk (p : List Nd) (n : Int) : Prop := PlanOk p ∧ 1 ≤ n ∧ n ≤ 4
noncomputable instance (p : List Nd) (n : Int) : Decidable (CrewOk p n) := Classical.propDecidable _
noncomputable def newCrew (p : List Nd) (n : Nat) : Cr := ⟨dealL (readyL p []) n (readyL p []).length, cntL p, [], List.replicate p.length []⟩
noncomputable def crewO (p : List Nd) (n : Int) : Cr := if CrewOk p n then newCrew p n.toNat else ⟨[], [], [], []⟩

/-- Few enough to be counted. -/
structure CrSml (c : Cr) : Prop where
  deq : c.deq.length ≤ 1000 ∧ ∀ l ∈ c.deq, l.length ≤ 1000
  cnt : c.cnt.length ≤ 1000
  done : c.done.length ≤ 1000
  rows : c.rows.length ≤ 1000 ∧ ∀ l ∈ c.rows, l.length ≤ 1000
theorem crewO_sml (p : List Nd) (n : Int) : CrSml (crewO p n) := by
  unfold crewO
  split
  · rename_i h
    have h10 := h.1.len
    have hr : (readyL p []).length ≤ p.length := sel_len
    have h1 := h.2.1
    have h2 := h.2.2
    refine ⟨⟨?_, fun l hl => ?_⟩, ?_, ?_, ?_, fun l hl => ?_⟩
    · show (dealL _ _ _).length ≤ _; rw [dealL_len]; omega
    · obtain ⟨i, hi, rfl⟩ := List.mem_iff_getElem.1 hl
      have : ((newCrew p n.toNat).deq)[i] = dealt (readyL p []) n.toNat (readyL p []).length i := dealL_get hi
      rw [this]
      have := dealt_le (readyL p []) n.toNat (readyL p []).length i
      omega
    · show (cntL p).length ≤ _; rw [cntL_len]; omega
    · simp [newCrew]
    · simp [newCrew]; omega
    · rw [List.eq_of_mem_replicate hl]; simp
  · exact ⟨⟨by simp, by simp⟩, by simp, by simp, by simp, by simp⟩

structure CrewV (w : World) (v : Value) (c : Cr) : Prop where
  out : ∃ a b d e, v = .agg #[a, b, d, e] ∧ Lists w a c.deq ∧ Ints w b c.cnt ∧ Ints w d c.done ∧ Lists w e c.rows ∧ CrSml c
theorem CrewV.ext {w w' : World} {v : Value} {c : Cr} (h : CrewV w v c) (hE : Ext w w') : CrewV w' v c := by
  obtain ⟨a, b, d, e, hv, h1, h2, h3, h4, h5⟩ := h.out
  exact ⟨a, b, d, e, hv, h1.ext hE, h2.ext hE, h3.ext hE, h4.ext hE, h5⟩
theorem CrewV.crew {w : World} {v : Value} {c : Cr} (h : CrewV w v c) : CrewV w v c := h

theorem lists_cells {w : World} {v : Value} {ls : List (List Int)} (h : Lists w v ls) : v.cells = #[v] ∧ v.oneCell' = true := by
  obtain ⟨a, c, rfl, _⟩ := h.out
  exact ⟨rfl, rfl⟩
/-- A variable for workers. -/
theorem box_crew {w : World} {v a b d e : Value} (hv : v = .agg #[a, b, d, e]) {K : Value → World → Prop} (hK : ∀ w', Ext w w' → w'.heap[w.heap.size]? = some (.cells #[a, b, d, e] T.impl_Crew (0, 0)) → K (.pointer (some ⟨w.heap.size, 0, none⟩)) w') : BoxV T.impl_Crew v w K := by
  subst hv
  intro w' hn
  refine hK w' hn.ext ?_
  have := hn.here
  simpa [Value.cells] using this

/-! ### Workers that are compared -/
theorem eqIntSS_ok {w : World} {u v : Value} {ls ms : List (List Int)} (hx : Lists w u ls) (hy : Lists w v ms) (hl : ls.length ≤ 1048576) (hs : ∀ l ∈ ls, l.length ≤ 1048576) :
    Calls Try.prog N.laws_eqIntSS #[u, v] w (Ret fun r w' => Ext w w' ∧ r = .bool (decide (ls = ms))) := by
  refine ret_k fun R hR => c_laws_eqIntSS _ _ _ _ ?_
  have l1 : ∀ K, LenV u K = K (.int .i64 ls.length) := fun K => hx.len
  have l2 : ∀ K, LenV v K = K (.int .i64 ms.length) := fun K => hy.len
  simp only [l1, l2, go_sem]
  refine ⟨fun h => hR _ _ ⟨Ext.refl _, ?_⟩, fun h => ?_⟩
  · have : ls ≠ ms := by rintro rfl; simp at h
    simp [this]
  · have hlen : ls.length = ms.length := by omega
    refine loopV (fun s w' => ∃ k : Nat, s = [.int .i64 k] ∧ k ≤ ls.length ∧ Ext w w' ∧ ∀ i (h : i < k) (h1 : i < ls.length), ls[i] = ms[i]'(by omega)) (upTo ls.length 0) ⟨0, rfl, by omega, Ext.refl _, fun i h => by omega⟩ ?_
    rintro s z w1 K ⟨k, rfl, hk, E1, heq⟩ hK
    simp only [go_sem]
    refine ⟨fun h => ?_, fun h => ?_⟩
    · have hk : k < ls.length := by omega
      refine draw_none fun w2 hs2 => ?_
      have e2 := E1.trans hs2.ext
      refine (hx.ext e2).loadS (i := k) hk (fun _ => id) fun x hx => ?_
      refine (hy.ext e2).loadS (i := k) (by omega) (fun _ => id) fun y hy => ?_
      have hlk := hs _ (List.getElem_mem hk)
      refine callV_of (eqIntS_ok hx hy (by omega)) rfl ?_
      rintro _ w3 ⟨E3, rfl⟩
      refine ⟨E3, ?_⟩
      have e3 := e2.trans E3
      simp only [go_sem]
      refine ⟨fun h => hR _ _ ⟨e3, ?_⟩, fun h => ?_⟩
      · have : ls ≠ ms := by rintro rfl; exact h rfl
        simp [this]
      · refine bin_inc (by omega) (hK _ _ ⟨k + 1, rfl, by omega, e3, fun i hi h1 => ?_⟩ (by simp [upTo, nthV, iOf]; omega))
        by_cases e : i = k
        · subst e; exact h
        · exact heq i (by omega) h1
    · have : ls = ms := List.ext_getElem hlen fun i h1 h2 => heq i (by omega) h1
      exact hR _ _ ⟨E1, by simp [this]⟩

theorem eqCrew_ok {w : World} {u v : Value} {x y : Cr} (hx : CrewV w u x) (hy : CrewV w v y) : Calls Try.prog N.laws_eqCrew #[u, v] w (Ret fun r w' => Ext w w' ∧ r = .bool (decide (x = y))) := by
  obtain ⟨a, b, d, e, hu, x1, x2, x3, x4, sx⟩ := hx.out
  obtain ⟨a', b', d', e', hv, y1, y2, y3, y4, _⟩ := hy.out
  refine ret_k fun R hR => c_laws_eqCrew _ _ _ _ ?_
  refine box_crew hu fun w1 E1 hb1 => ?_
  refine box_crew hv fun w2 E2 hb2 => ?_
  have hb1 := E2.at hb1
  have e2 := E1.trans E2
  have no : ∀ w', Ext w w' → x ≠ y → R (.bool false) w' := fun w' hE hn => hR _ _ ⟨hE, by rw [decide_eq_false hn]⟩
  simp only [go_sem]
  refine load2 (v := a) hb1 rfl (load2 (v := a') hb2 rfl ?_)
  refine callV_of (eqIntSS_ok (x1.ext e2) (y1.ext e2) (by have := sx.deq.1; omega) fun l hl => by have := sx.deq.2 l hl; omega) rfl ?_
  rintro _ w3 ⟨E3, rfl⟩
  have e3 := e2.trans E3
  simp only [go_sem]
  refine ⟨fun h => no _ e3 fun e => h (by rw [e]), fun q1 => ?_⟩
  refine load2 (v := b) (E3.at hb1) rfl (load2 (v := b') (E3.at hb2) rfl ?_)
  refine callV_of (eqIntS_ok (x2.ext e3) (y2.ext e3) (by have := sx.cnt; omega)) rfl ?_
  rintro _ w4 ⟨E4, rfl⟩
  have e4 := e3.trans E4
  have E34 := E3.trans E4
  simp only [go_sem]
  refine ⟨fun h => no _ e4 fun e => h (by rw [e]), fun q2 => ?_⟩
  refine load2 (v := d) (E34.at hb1) rfl (load2 (v := d') (E34.at hb2) rfl ?_)
  refine callV_of (eqIntS_ok (x3.ext e4) (y3.ext e4) (by have := sx.done; omega)) rfl ?_
  rintro _ w5 ⟨E5, rfl⟩
  have e5 := e4.trans E5
  have E35 := E34.trans E5
  simp only [go_sem]
  refine ⟨fun h => no _ e5 fun e => h (by rw [e]), fun q3 => ?_⟩
  refine load2 (v := e) (E35.at hb1) rfl (load2 (v := e') (E35.at hb2) rfl ?_)
  refine callV_of (eqIntSS_ok (x4.ext e5) (y4.ext e5) (by have := sx.rows.1; omega) fun l hl => by have := sx.rows.2 l hl; omega) rfl ?_
  rintro _ w6 ⟨E6, rfl⟩
  simp only [go_sem]
  refine ⟨fun h => no _ (e5.trans E6) fun e => h (by rw [e]), fun q4 => hR _ _ ⟨e5.trans E6, ?_⟩⟩
  obtain ⟨p1, p2, p3, p4⟩ := x
  obtain ⟨r1, r2, r3, r4⟩ := y
  simp only at q1 q2 q3 q4
  subst q1 q2 q3 q4
  simp
end Go.Proofs.Ytblgkpfnjlobjaa
