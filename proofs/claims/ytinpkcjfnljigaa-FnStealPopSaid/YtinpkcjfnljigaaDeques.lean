/- Deques: the program's and the reference's. -/
import Derived.Test.YtinpkcjfnljigaaBasics
import Derived.Test.YtinpkcjfnljigaaCB
namespace Go.Proofs.Ytinpkcjfnljigaa
open Go Go.V

theorem und_int : Try.prog.underlying T.int = some (.int .i64) := by kernel_rfl
theorem und_mapii : Try.prog.underlying T.map_int_int = some (.map T.int T.int) := by kernel_rfl
theorem zero_int : zeroOf Try.prog T.int = some (.int .i64 0) := by kernel_rfl

/-- The entries of a map from integers to small counts; ks are its keys, in the order in which they came. -/
structure Ent (es : List MapEntry) (ks : List Int) (top : Int) : Prop where
  len : es.length = ks.length
  get : ∀ (i : Nat) (e : MapEntry), es[i]? = some e → ∃ k v : Int, ks[i]? = some k ∧ e.key = .int .i64 k ∧ e.val = .int .i64 v ∧ 0 ≤ v ∧ v ≤ top

theorem Ent.tail {e : MapEntry} {es : List MapEntry} {k : Int} {ks : List Int} {top : Int} (h : Ent (e :: es) (k :: ks) top) : Ent es ks top :=
  ⟨by have := h.len; simpa using this, fun i x hi => by have := h.get (i + 1) x (by simpa using hi); simpa using this⟩

theorem findNow_ent {x : Int} {top : Int} : ∀ {es : List MapEntry} {ks : List Int}, Ent es ks top → ∀ j,
    (x ∉ ks ∧ Instr.findNow (.int .i64) (.int .i64 x) es j = some none) ∨
    (∃ i v, ks[i]? = some x ∧ 0 ≤ v ∧ v ≤ top ∧ Instr.findNow (.int .i64) (.int .i64 x) es j = some (some (j + i, .int .i64 v)))
  | [], ks, h, j => by
    have : ks = [] := by have := h.len; simp at this; exact List.eq_nil_of_length_eq_zero this.symm
    subst this
    exact .inl ⟨by simp, rfl⟩
  | e :: es, ks, h, j => by
    obtain ⟨k, v, hk, hek, hev, hv0, hv1⟩ := h.get 0 e rfl
    cases ks with
    | nil => simp at hk
    | cons k' ks =>
      simp at hk
      subst hk
      by_cases hx : x = k'
      · subst hx
        exact .inr ⟨0, v, rfl, hv0, hv1, by simp [Instr.findNow, Instr.sameNow, hek, hev]⟩
      · have hb : (x == k') = false := by simp [hx]
        rcases findNow_ent (x := x) h.tail (j + 1) with ⟨h1, h2⟩ | ⟨i, u, h1, h2, h3, h4⟩
        · exact .inl ⟨by simp [hx, h1], by simp only [Instr.findNow, Instr.sameNow, hek, if_true, hb]; exact h2⟩
        · exact .inr ⟨i + 1, u, by simpa using h1, h2, h3, by simp only [Instr.findNow, Instr.sameNow, hek, if_true, hb]; rw [h4]; congr 3; omega⟩

theorem run_getMap {P : Program} {w : World} {r : Nat} {es : Array MapEntry} {c : Nat} (h : w.heap[r]? = some (.map es c)) : (getObj r).run P w = .ok (.map es c) w := by simp [getObj, Sem.run, h]

theorem run_checkKey {w : World} {b : Bool} {x : Int} : (Instr.checkKey b 10000 T.int (.int .i64 x)).run Try.prog w = .ok () w := by
  unfold Instr.checkKey
  simp [run_und und_int]

theorem lookup_int {w : World} {r : Nat} {es : Array MapEntry} {c : Nat} {ks : List Int} {top : Int} (h : w.heap[r]? = some (.map es c)) (he : Ent es.toList ks top) (ht : 0 ≤ top) {x : Int} {K : Value → World → Prop}
    (hK : ∀ v : Int, 0 ≤ v → v ≤ top → K (.int .i64 v) w) : LookupV Try.prog T.map_int_int (.map (some r)) (.int .i64 x) false w K := by
  rcases findNow_ent (x := x) he 0 with ⟨h1, h2⟩ | ⟨i, v, h1, h2, h3, h4⟩
  · refine ⟨_, w, ?_, hK 0 (by omega) ht⟩
    simp [Instr.lookup, run_und und_mapii, run_und und_int, run_getMap h, run_checkKey, Instr.findKey, h2, run_zero zero_int]
  · refine ⟨_, w, ?_, hK v h2 h3⟩
    simp [Instr.lookup, run_und und_mapii, run_und und_int, run_getMap h, run_checkKey, Instr.findKey, h4]

theorem run_setObj {P : Program} {w : World} {r : Nat} {es : Array MapEntry} {c : Nat} (h : w.heap[r]? = some (.map es c)) (o : Obj) : ∃ w', (setObj r o).run P w = .ok () w' ∧ Put w r o w' := by
  have hlt := lt_of_at h
  refine ⟨{ w with heap := w.heap.setIfInBounds r o }, by simp [setObj, Sem.run, h], ⟨rfl, rfl, rfl, by simp, fun k hk hn => ?_⟩, by simp, by simp [hlt]⟩
  simp only
  rw [Array.getElem?_setIfInBounds_ne (fun e => hn e.symm)]

theorem update_int {w : World} {r : Nat} {es : Array MapEntry} {c : Nat} {ks : List Int} {top : Int} (h : w.heap[r]? = some (.map es c)) (he : Ent es.toList ks top) {x v : Int} (hv0 : 0 ≤ v) (hv : v ≤ top + 1) {K : World → Prop}
    (hK : ∀ w' es' c', Put w r (.map es' c') w' → Ent es'.toList (if x ∈ ks then ks else ks ++ [x]) (top + 1) → K w') : MapUpdV Try.prog T.map_int_int (.map (some r)) (.int .i64 x) (.int .i64 v) w K := by
  rcases findNow_ent (x := x) he 0 with ⟨h1, h2⟩ | ⟨i, u, h1, h2, h3, h4⟩
  · obtain ⟨w', hr, hp⟩ := run_setObj (P := Try.prog) h (.map (es.push { key := .int .i64 x, val := .int .i64 v, born := c }) (c + 1))
    refine ⟨w', ?_, hK w' _ _ hp ?_⟩
    · simp [Instr.mapUpdate, run_und und_mapii, run_und und_int, run_getMap h, run_checkKey, Instr.findKey, h2, hr]
    · rw [if_neg h1]
      refine ⟨by simp [← he.len], fun j e hj => ?_⟩
      simp only [Array.toList_push, List.getElem?_append] at hj
      split at hj
      · rename_i hlt
        obtain ⟨k, u, hk, hek, heu, hu0, hu1⟩ := he.get j e hj
        exact ⟨k, u, by rw [List.getElem?_append_left (by rw [← he.len]; exact hlt)]; exact hk, hek, heu, hu0, by omega⟩
      · rename_i hge
        have hj0 : j - es.toList.length = 0 := by
          rcases Nat.eq_zero_or_pos (j - es.toList.length) with h0 | h0
          · exact h0
          · rw [List.getElem?_eq_none (by simp only [List.length_cons, List.length_nil]; omega)] at hj; cases hj
        rw [hj0] at hj
        simp at hj
        subst hj
        refine ⟨x, v, ?_, rfl, rfl, hv0, hv⟩
        have : j = ks.length := by have := he.len; omega
        subst this
        simp
  · have hlt : i < es.size := by
      have := (List.getElem?_eq_some_iff.1 h1).1
      have h5 := he.len
      simp at h5; omega
    obtain ⟨k, u', hk, hek, _⟩ := he.get i es[i] (by simp [hlt])
    rw [h1] at hk
    cases hk
    obtain ⟨w', hr, hp⟩ := run_setObj (P := Try.prog) h (.map (es.modify i fun e => { e with key := .int .i64 x, val := .int .i64 v }) c)
    refine ⟨w', ?_, hK w' _ _ hp ?_⟩
    · simp [Instr.mapUpdate, run_und und_mapii, run_und und_int, run_getMap h, run_checkKey, Instr.findKey, h4, Instr.keyThatStays, Instr.sameBits, hlt, hek, hr]
    · have hmem : x ∈ ks := List.mem_of_getElem? h1
      rw [if_pos hmem]
      refine ⟨by simp [← he.len], fun j e hj => ?_⟩
      rw [Array.getElem?_toList, Array.getElem?_modify] at hj
      split at hj
      · rename_i hij
        subst hij
        simp [hlt] at hj
        subst hj
        exact ⟨x, v, h1, rfl, rfl, hv0, hv⟩
      · obtain ⟨k, u, hk, hek, heu, hu0, hu1⟩ := he.get j e (by simpa using hj)
        exact ⟨k, u, hk, hek, heu, hu0, by omega⟩

/-- Each value once, in the order in which they come first. -/
def firstsOf (xs : List Int) : List Int := xs.foldl (fun ks x => if x ∈ ks then ks else ks ++ [x]) []
theorem firstsOf_snoc (xs : List Int) (x : Int) : firstsOf (xs ++ [x]) = if x ∈ firstsOf xs then firstsOf xs else firstsOf xs ++ [x] := by
  unfold firstsOf; rw [List.foldl_append]; rfl
theorem mem_firstsOf (xs : List Int) (y : Int) : y ∈ firstsOf xs ↔ y ∈ xs := by
  refine snoc_ind (p := fun xs => y ∈ firstsOf xs ↔ y ∈ xs) (by simp [firstsOf]) (fun xs x ih => ?_) xs
  · rw [firstsOf_snoc]
    split
    · rename_i h; rw [ih, List.mem_append, List.mem_singleton]
      exact ⟨.inl, fun h' => h'.elim id fun e => by subst e; exact ih.1 h⟩
    · rw [List.mem_append, List.mem_append, ih]
theorem firstsOf_length (xs : List Int) : (firstsOf xs).length ≤ xs.length ∧ ((firstsOf xs).length = xs.length ↔ xs.Nodup) := by
  refine snoc_ind (p := fun xs => (firstsOf xs).length ≤ xs.length ∧ ((firstsOf xs).length = xs.length ↔ xs.Nodup)) (by simp [firstsOf]) (fun xs x ih => ?_) xs
  · rw [firstsOf_snoc]
    have hm := mem_firstsOf xs x
    rw [List.nodup_append]
    split
    · rename_i h
      refine ⟨by simp; omega, ⟨fun e => by simp at e; omega, fun ⟨_, _, h3⟩ => absurd rfl (h3 x (hm.1 h) x (by simp))⟩⟩
    · rename_i h
      refine ⟨by simp; omega, ⟨fun hl => ⟨ih.2.1 (by simpa using hl), by simp, fun a ha b hb hab => (by simp at hb; subst hb; subst hab; exact h (hm.2 ha))⟩, fun ⟨h1, _, _⟩ => by simp [ih.2.2 h1]⟩⟩

/-- What a deque is. -/
def DqOk (xs : List Int) : Prop := xs.length ≤ 10 ∧ (∀ x ∈ xs, 0 ≤ x ∧ x < 10) ∧ xs.Nodup
instance (xs : List Int) : Decidable (DqOk xs) := by unfold DqOk; infer_instance

theorem load_ptr1 {w : World} {b : Nat} {v : Value} {e : Nat} {K : Value → Prop} (h : w.heap[b]? = some (.cells #[v] e (0, 0))) (hK : K v) : LoadV false 1 (.pointer (some ⟨b, 0, none⟩)) w K :=
  ⟨v, by rw [cell_of_row w b 0 _ e (0, 0) h]; rfl, hK⟩

/-- No thing is there twice. -/
theorem different_ok {w : World} {b e : Nat} {v : Value} {xs : List Int} (hb : w.heap[b]? = some (.cells #[v] e (0, 0))) (hx : Ints w v xs) (hl : xs.length ≤ 1099511627776) :
    Calls Try.prog N.impl_deque_different #[.pointer (some ⟨b, 0, none⟩)] w (Ret fun r w' => Ext w w' ∧ r = .bool (decide xs.Nodup)) := by
  obtain ⟨a, c, rfl, hc, hx⟩ := hx.out
  refine ret_k fun R hR => c_impl_deque_different _ _ _ ?_
  intro w1 hn
  simp only [go_sem]
  refine load_ptr1 (hn.ext.at hb) ?_
  simp only [go_sem]
  refine loopV (fun s w' => ∃ (k : Nat) (es : Array MapEntry) (cl : Nat), s = [.int .i64 k] ∧ k ≤ xs.length ∧ Ext w w' ∧ w'.heap[w.heap.size]? = some (.map es cl) ∧ Ent es.toList (firstsOf (xs.take k)) k) (upTo xs.length 0)
    ⟨0, #[], 0, rfl, by omega, hn.ext, hn.here, by simp [firstsOf], by simp⟩ ?_
  rintro s z w2 K ⟨k, es, cl, rfl, hk, hE, hm, he⟩ hK
  simp only [go_sem]
  refine ⟨fun h => ?_, fun h => ?_⟩
  · have hk : k < xs.length := by omega
    refine idxLoad (hx.ext hE) rfl hk ?_
    refine lookup_int hm he (by omega) fun v hv0 hv1 => ?_
    refine bin_add ⟨by omega, by omega⟩ ?_
    refine update_int hm he (by omega) (by omega) fun w3 es' c' hp he' => ?_
    refine bin_inc (by omega) (hK _ _ ⟨k + 1, es', c', rfl, by omega, Chg.ext (hE.then hp.chg) fun n hn' h => by have h' : n = w.heap.size := h; omega, hp.here, ?_⟩ (by simp [upTo, nthV, iOf]; omega))
    rw [List.take_succ_eq_append_getElem hk, firstsOf_snoc]
    simpa using he'
  · have hk : k = xs.length := by omega
    subst hk
    refine draw_none fun w3 hs => ?_
    refine ⟨id, load_ptr1 (hs.ext.at (hE.at hb)) ?_⟩
    simp only [go_sem]
    refine ⟨es, cl, hs.ext.at hm, Chg.refl _ _, ?_⟩
    simp only [go_sem]
    refine hR _ _ ⟨hE.trans hs.ext, ?_⟩
    rw [List.take_length] at he
    have h1 := he.len
    have h2 := firstsOf_length xs
    have h3 : es.size = (firstsOf xs).length := by simpa using h1
    rw [h3]
    congr 1
    have : ((((firstsOf xs).length : Nat) : Int) = (xs.length : Int)) ↔ xs.Nodup := by rw [← h2.2]; omega
    exact decide_eq_decide.2 this

theorem fill_dq {v : Value} (h : v.cells = #[v]) : Instr.fill (fun i => ([(0, 1)] : List (Nat × Nat))[i]?) #[.slice none 0 0] [(0, v)] = some #[v] := by
  simp [Instr.fill, h]

theorem slice_cells {a : Option Addr} {n c : Nat} : Value.cells (.slice a n c) = #[.slice a n c] := rfl

/-- A store of a struct of one field. -/
theorem store_agg1 {w : World} {b : Nat} {old v : Value} {e : Nat} {K : World → Prop} (hb : w.heap[b]? = some (.cells #[old] e (0, 0))) (h1 : v.oneCell' = true)
    (hK : ∀ w', Put w b (.cells #[v] e (0, 0)) w' → K w') : StoreV 1 (.pointer (some ⟨b, 0, none⟩)) (.agg #[v]) w K :=
  ⟨#[old], e, rfl, hb, rfl, by simp, by simp [Value.cells, h1], fun w' hp => hK w' (by simpa [Value.cells, splice] using hp)⟩

theorem dequeOf_ok {w : World} {v : Value} {xs : List Int} (hx : Ints w v xs) (hl : xs.length ≤ 1099511627776) :
    Calls Try.prog N.impl_dequeOf #[v] w (Ret fun r w' => Ext w w' ∧ ∃ u, r = .agg #[u] ∧ Own w' w.heap.size T.int 1 u xs.length (ints xs)) := by
  obtain ⟨a, c, rfl, hc, hx⟩ := hx.out
  refine ret_k fun R hR => c_impl_dequeOf _ _ _ ?_
  intro w1 hn
  refine appendV_src sl_int el_int (lo := w1.heap.size) Own.nil (hx.ext hn.ext) (by simp [ints]) ints_one (by omega) (by omega) (Nat.le_refl _) fun u w2 ho hc2 => ?_
  have hE2 : Ext w1 w2 := Chg.ext hc2 fun n _ h => by simp [blkIs, Value.ownBlock] at h
  simp only [List.nil_append, Nat.zero_add] at ho
  obtain ⟨a', c', rfl, _, _, _⟩ := Own.cells ho
  refine ⟨_, fill_dq rfl, ?_⟩
  refine store_agg1 (hE2.at hn.here) rfl fun w3 hp => ?_
  have hs := hn.size
  have ho3 : Own w3 w.heap.size T.int 1 (.slice a' xs.length c') xs.length (ints xs) :=
    Own.mono (Own.keep ho hp.chg fun k hk he => by have he' : k = w.heap.size := he; have := (Own.lt ho hk).1; omega) (by omega)
  refine ⟨[.slice a' xs.length c'], rfl, fun j u hj => ?_, ?_⟩
  · match j with
    | 0 => simp at hj; subst hj; rw [add_zero, cell_of_row w3 _ 0 _ _ (0, 0) hp.here]; rfl
    | j + 1 => simp at hj
  · exact hR _ _ ⟨Chg.ext ((hn.ext.trans hE2).then hp.chg) fun n hn' h => by have h' : n = w.heap.size := h; omega, _, rfl, ho3⟩
end Go.Proofs.Ytinpkcjfnljigaa
