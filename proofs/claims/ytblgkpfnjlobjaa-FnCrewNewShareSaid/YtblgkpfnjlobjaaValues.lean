/- The row of each node: the program's way, with two functions that call each other. -/
import Derived.Test.YtblgkpfnjlobjaaKindRun
import Derived.Test.YtblgkpfnjlobjaaCopy
import Derived.Test.YtblgkpfnjlobjaaGraph
namespace Go.Proofs.Ytblgkpfnjlobjaa
open Go Go.V

theorem okVals : okFn Try.prog N.impl_ValuesOf_1 = true ∧ okFn Try.prog N.impl_ValuesOf_2 = true := ⟨by kernel_rfl, by kernel_rfl⟩
/-- The blocks of a call: the variables that hold the plan, the rows, what is made, the two functions; the rows' array. -/
structure VB where
  plan : Nat
  rows : Nat
  made : Nat
  gather : Nat
  rowOf : Nat
  arr : Nat
def gatherF (B : VB) : Value := .func (.func N.impl_ValuesOf_2) #[] #[ptr B.rowOf]
def rowOfF (B : VB) : Value := .func (.func N.impl_ValuesOf_1) #[] #[ptr B.made, ptr B.rows, ptr B.plan, ptr B.gather]
def rowsV (B : VB) (p : List Nd) : Value := .slice (some ⟨B.arr, 0, none⟩) p.length p.length

/-- The state while the first k rows are made. -/
structure VSt (w0 w : World) (B : VB) (v : Value) (p : List Nd) (k : Nat) : Prop where
  ext : Ext w0 w
  lo : w0.heap.size ≤ B.plan ∧ w0.heap.size ≤ B.made ∧ w0.heap.size ≤ B.arr
  plan : ∃ e, w.heap[B.plan]? = some (.cells #[v] e (0, 0))
  rows : ∃ e, w.heap[B.rows]? = some (.cells #[rowsV B p] e (0, 0))
  gath : ∃ e, w.heap[B.gather]? = some (.cells #[gatherF B] e (0, 0))
  rowf : ∃ e, w.heap[B.rowOf]? = some (.cells #[rowOfF B] e (0, 0))
  made : Bits w B.made fun j => j < k
  arr : ∃ cur, w.heap[B.arr]? = some (.cells cur T.sl_int (0, 0)) ∧ cur.size = p.length ∧ ∀ j, j < k → j < p.length → ∃ x, cur[j]? = some x ∧ FInts w (fun b => w0.heap.size ≤ b ∧ b ≠ B.arr ∧ b ≠ B.made) x (val p j)
  ne : B.arr ≠ B.made ∧ B.arr ≠ B.plan ∧ B.arr ≠ B.rows ∧ B.arr ≠ B.gather ∧ B.arr ≠ B.rowOf ∧ B.made ≠ B.plan ∧ B.made ≠ B.rows ∧ B.made ≠ B.gather ∧ B.made ≠ B.rowOf
theorem VSt.keep {w0 w w' : World} {B : VB} {v : Value} {p : List Nd} {k : Nat} (h : VSt w0 w B v p k) (hE : Ext w w') : VSt w0 w' B v p k := by
  obtain ⟨e1, h1⟩ := h.plan
  obtain ⟨e2, h2⟩ := h.rows
  obtain ⟨e3, h3⟩ := h.gath
  obtain ⟨e4, h4⟩ := h.rowf
  obtain ⟨cur, h5, h6, h7⟩ := h.arr
  exact ⟨h.ext.trans hE, h.lo, ⟨e1, hE.at h1⟩, ⟨e2, hE.at h2⟩, ⟨e3, hE.at h3⟩, ⟨e4, hE.at h4⟩, h.made.ext hE, ⟨cur, hE.at h5, h6, fun j hj hjp => by obtain ⟨x, hx, hf⟩ := h7 j hj hjp; exact ⟨x, hx, hf.ext hE⟩⟩, h.ne⟩
/-- A row that is made is read. -/
theorem VSt.row {w0 w : World} {B : VB} {v : Value} {p : List Nd} {k : Nat} (h : VSt w0 w B v p k) {j : Nat} (hj : j < k) (hjp : j < p.length) {K : Value → Prop} (hK : ∀ x, FInts w (fun b => w0.heap.size ≤ b ∧ b ≠ B.arr ∧ b ≠ B.made) x (val p j) → K x) :
    LoadV false 1 (ptr B.rows) w fun t => IdxV 1 t (.int .i64 j) fun a => LoadV false 1 a w K := by
  obtain ⟨e2, h2⟩ := h.rows
  obtain ⟨cur, h5, h6, h7⟩ := h.arr
  obtain ⟨x, hx, hf⟩ := h7 j hj hjp
  refine load2 (v := rowsV B p) h2 rfl ?_
  refine ⟨by omega, by omega, ?_⟩
  simp only [addr_add, Int.toNat_natCast, Nat.mul_one, Nat.zero_add]
  exact load2 h5 hx (hK x hf)

theorem rowOf_made {w0 w : World} {B : VB} {v : Value} {p : List Nd} {k : Nat} (h : VSt w0 w B v p k) (h10 : p.length ≤ 10) {j : Nat} (hj : j < k) (hjp : j < p.length) {K : Value → World → Prop} (hK : ∀ x, FInts w (fun b => w0.heap.size ≤ b ∧ b ≠ B.arr ∧ b ≠ B.made) x (val p j) → K x w) :
    CallFV Try.prog (okFn Try.prog) (rowOfF B) [.int .i64 j] w K := by
  refine ⟨okVals.1, ?_⟩
  refine callV_of (ret_k (Q := fun r w' => K r w') fun R hR => c_impl_ValuesOf_1 _ _ _ _ _ _ _ ?_) rfl fun _ _ h => h
  refine h.made.get (by omega) fun m hm => ?_
  have : m = true := hm.2 hj
  subst this
  simp only [go_sem]
  exact ⟨fun _ => h.row hj hjp fun x hf => hR _ _ (hK x hf), fun h => (by cases h)⟩

/-- A list of numbers stays when a block of another kind is written. -/
theorem FInts.other {w w' : World} {B : Nat → Prop} {v : Value} {xs : List Int} {c e : Nat} {cur : Array Value} (h : FInts w B v xs) (hc : Chg (· = c) w w') (hb : w.heap[c]? = some (.cells cur e (0, 0))) (he : e ≠ T.int) : FInts w' B v xs := by
  obtain ⟨a, cp, hv, hcp, hr⟩ := h.out
  refine ⟨a, cp, hv, hcp, fun hne => ?_⟩
  obtain ⟨b, off, cur', ha, h1, hb', r⟩ := hr hne
  refine ⟨b, off, cur', ha, h1, hc.at hb' fun e' => ?_, r⟩
  have e' : b = c := e'
  rw [e', hb] at hb'
  cases hb'
  exact he rfl
/-- The rows that a node needs are gathered. -/
theorem gather_ok {w0 w : World} {B : VB} {v fv : Value} {p : List Nd} {k : Nat} {fs : List Int} (h : VSt w0 w B v p k) (h10 : p.length ≤ 10) (hf : Ints w fv fs) (hl : fs.length ≤ 2) (hlt : ∀ f ∈ fs, 0 ≤ f ∧ f < k ∧ f < p.length) {K : Value → World → Prop}
    (hK : ∀ u w', Ext w w' → Lists w' u (fs.map fun f => val p f.toNat) → K u w') : CallFV Try.prog (okFn Try.prog) (gatherF B) [fv] w K := by
  refine ⟨okVals.2, ?_⟩
  refine callV_of (ret_k (Q := fun r w' => K r w') fun R hR => c_impl_ValuesOf_2 _ _ _ _ ?_) rfl fun _ _ h => h
  have hlen : ∀ K, LenV fv K = K (.int .i64 fs.length) := fun K => ints_len hf
  rw [hlen]
  refine ⟨by omega, by omega, by omega, by omega, fun w1 hn1 => ?_⟩
  simp only [Int.toNat_natCast] at hn1
  simp only [Int.toNat_natCast, hlen]
  have z1 := hn1.size
  refine loopV (fun s w' => ∃ (i : Nat) (cur : Array Value), s = [.int .i64 i] ∧ i ≤ fs.length ∧ Ext w w' ∧ w'.heap[w.heap.size]? = some (.cells cur T.sl_int (0, 0)) ∧ cur.size = fs.length ∧ ∀ j (hj : j < fs.length), j < i → ∃ x, cur[j]? = some x ∧ FInts w' (fun _ => True) x (val p fs[j].toNat)) (upTo fs.length 0)
    ⟨0, _, rfl, by omega, hn1.ext, hn1.here, by simp [rowOf], fun j _ hj => by omega⟩ ?_
  rintro s z w2 K' ⟨i, cur, rfl, hi, E2, hb2, hcs, hall⟩ hK'
  obtain ⟨e4, h4⟩ := h.rowf
  simp only [go_sem]
  refine ⟨fun hlt' => ?_, fun hge => ?_⟩
  · have hi : i < fs.length := by omega
    refine Ints.loadI (hf.ext E2) hi ?_
    have hfi := hlt _ (List.getElem_mem hi)
    obtain ⟨m, hm⟩ : ∃ m : Nat, fs[i] = (m : Int) := ⟨(fs[i]).toNat, by omega⟩
    rw [hm] at hfi ⊢
    refine load2 (v := rowOfF B) (E2.at h4) rfl ?_
    refine rowOf_made (h.keep E2) h10 (j := m) (by omega) (by omega) fun x hx => ?_
    have hxc := hx.cellsV
    refine ⟨by omega, by omega, ?_⟩
    simp only [addr_add, Int.toNat_natCast, Nat.mul_one, Nat.zero_add]
    refine store_at hb2 hxc.1 hxc.2 (by omega) fun w3 hp3 => ?_
    have E3 : Ext w w3 := Chg.ext (E2.then hp3.chg) fun j hj e => by have e : j = w.heap.size := e; omega
    refine bin_inc (by omega) (hK' _ _ ⟨i + 1, _, rfl, by omega, E3, hp3.here, by simp [hcs], fun j hj hji => ?_⟩ (by simp [upTo, nthV, iOf]; omega))
    by_cases e : j = i
    · subst e
      refine ⟨x, by rw [Array.getElem?_setIfInBounds_self_of_lt (by omega)], ?_⟩
      rw [hm, Int.toNat_natCast]
      exact (hx.other hp3.chg hb2 (by decide)).mono fun _ _ _ => trivial
    · obtain ⟨y, hy, hfy⟩ := hall j hj (by omega)
      exact ⟨y, by rw [Array.getElem?_setIfInBounds_ne (by omega)]; exact hy, hfy.other hp3.chg hb2 (by decide)⟩
  · have hi : i = fs.length := by omega
    subst hi
    refine hR _ _ (hK _ _ E2 ⟨some ⟨w.heap.size, 0, none⟩, fs.length, by simp, by simp, fun j hj => ?_⟩)
    rw [List.length_map] at hj
    obtain ⟨x, hx, hfx⟩ := hall j hj hj
    refine ⟨w.heap.size, 0, x, rfl, ?_, by simpa using hfx.ints⟩
    rw [Nat.zero_add, cell_of_row w2 _ j _ _ (0, 0) hb2]
    exact hx

/-- One row more is stored. -/
theorem VSt.store {w0 w : World} {B : VB} {v xv : Value} {p : List Nd} {k : Nat} (h : VSt w0 w B v p k) (hk : k < p.length) (hx : FInts w (fun b => w0.heap.size ≤ b ∧ b ≠ B.arr ∧ b ≠ B.made) xv (val p k)) {K : World → Prop}
    (hK : ∀ w1, Chg (· = B.arr) w w1 → Bits w1 B.made (fun j => j < k) → (∀ w2, Chg (· = B.made) w1 w2 → Bits w2 B.made (fun j => j < k ∨ j = k) → VSt w0 w2 B v p (k + 1)) → K w1) : IdxV 1 (rowsV B p) (.int .i64 k) fun t => StoreV 1 t xv w K := by
  obtain ⟨n1, n2, n3, n4, n5, n6, n7, n8, n9⟩ := h.ne
  obtain ⟨cur, h5, h6, h7⟩ := h.arr
  have hxc := hx.cellsV
  refine ⟨by omega, by omega, ?_⟩
  simp only [addr_add, Int.toNat_natCast, Nat.mul_one, Nat.zero_add]
  refine store_at h5 hxc.1 hxc.2 (by omega) fun w1 hp1 => ?_
  have C1 := hp1.chg
  refine hK w1 C1 (h.made.keep C1 fun e => n1 e.symm) fun w2 C2 hb2 => ?_
  obtain ⟨e1, q1⟩ := h.plan
  obtain ⟨e2, q2⟩ := h.rows
  obtain ⟨e3, q3⟩ := h.gath
  obtain ⟨e4, q4⟩ := h.rowf
  have two : ∀ {b : Nat} {o : Obj}, w.heap[b]? = some o → B.arr ≠ b → B.made ≠ b → w2.heap[b]? = some o := fun hb m1 m2 => C2.at (C1.at hb fun e => m1 e.symm) fun e => m2 e.symm
  have hE : Ext w0 w2 := Chg.ext (Chg.trans (h.ext.then C1) C2 (S'' := fun b => b = B.arr ∨ b = B.made) (fun _ _ e => .inl e) fun _ _ e => .inr e) fun j hj e => by have := h.lo; rcases e with e | e <;> omega
  have kf : ∀ {x : Value} {xs : List Int}, FInts w (fun b => w0.heap.size ≤ b ∧ b ≠ B.arr ∧ b ≠ B.made) x xs → FInts w2 (fun b => w0.heap.size ≤ b ∧ b ≠ B.arr ∧ b ≠ B.made) x xs := fun hf => (hf.keep C1 fun b hb e => hb.2.1 e).keep C2 fun b hb e => hb.2.2 e
  refine ⟨hE, h.lo, ⟨e1, two q1 n2 n6⟩, ⟨e2, two q2 n3 n7⟩, ⟨e3, two q3 n4 n8⟩, ⟨e4, two q4 n5 n9⟩, ?_, ⟨_, C2.at hp1.here n1, by simp [h6], fun j hj hjp => ?_⟩, h.ne⟩
  · obtain ⟨c2, g1, g2, g3⟩ := hb2.out
    exact ⟨c2, g1, g2, fun i hi => by obtain ⟨m, hm, hmi⟩ := g3 i hi; exact ⟨m, hm, hmi.trans ⟨fun h => by omega, fun h => by omega⟩⟩⟩
  · by_cases e : j = k
    · subst e
      exact ⟨xv, by rw [Array.getElem?_setIfInBounds_self_of_lt (by omega)], kf hx⟩
    · obtain ⟨y, hy, hfy⟩ := h7 j (by omega) hjp
      exact ⟨y, by rw [Array.getElem?_setIfInBounds_ne (by omega)]; exact hy, kf hfy⟩

theorem rowOf_new {w0 w : World} {B : VB} {v : Value} {p : List Nd} {k : Nat} (h : VSt w0 w B v p k) (hp : PlanV w0 v p) (hok : PlanOk p) (hk : k < p.length) {K : Value → World → Prop} (hK : ∀ x w', VSt w0 w' B v p (k + 1) → K x w') :
    CallFV Try.prog (okFn Try.prog) (rowOfF B) [.int .i64 k] w K := by
  have h10 := hok.len
  refine ⟨okVals.1, ?_⟩
  refine callV_of (ret_k (Q := fun r w' => K r w') fun R hR => c_impl_ValuesOf_1 _ _ _ _ _ _ _ ?_) rfl fun _ _ h => h
  refine h.made.get (by omega) fun m hm => ?_
  have hmf : m = false := by
    cases m with
    | false => rfl
    | true => have := hm.1 rfl; omega
  subst hmf
  obtain ⟨e1, q1⟩ := h.plan
  obtain ⟨e2, q2⟩ := h.rows
  obtain ⟨e3, q3⟩ := h.gath
  simp only [go_sem]
  refine ⟨fun h => (by cases h), fun _ => ?_⟩
  refine load2 (v := v) q1 rfl ?_
  refine (hp.ext h.ext).load hk fun x hx => ?_
  obtain ⟨av, rv, rfl, ha, hr, hs⟩ := hx.out
  have hs2 : p[k].row.length ≤ 1048576 := hs.2
  refine box_set ha hr fun w2 E2 hbox z2 => ?_
  have h2 := h.keep E2
  have hval := val_eq hok hk
  have hnk : nd p k = p[k] := nd_get hk
  have hfr : fr p k = p[k].frm := fr_get hk
  have hkind := hok.kind hk
  have hfit := (hok.fits hk).1
  rw [hnk] at hval hfit
  have hsz : B.arr < w.heap.size ∧ B.made < w.heap.size := ⟨by obtain ⟨c, hc, _⟩ := h.arr; exact lt_of_at hc, by obtain ⟨c, hc, _⟩ := h.made.out; exact lt_of_at hc⟩
  have big : ∀ {w' : World} {x : Value} {xs : List Int}, w.heap.size ≤ w'.heap.size → ∀ {w'' : World}, FInts w'' (Since w') x xs → FInts w'' (fun b => w0.heap.size ≤ b ∧ b ≠ B.arr ∧ b ≠ B.made) x xs := fun hz _ hf => hf.mono fun b _ hb => by have := h.ext.size; unfold Since at hb; omega
  have z20 := E2.size
  simp only [go_sem]
  refine load2 (v := .int .i64 p[k].kind) hbox rfl ?_
  simp only [go_sem]
  have done : ∀ {w5 : World}, Bits w5 B.made (fun j => j < k) → (∀ w6, Chg (· = B.made) w5 w6 → Bits w6 B.made (fun j => j < k ∨ j = k) → VSt w0 w6 B v p (k + 1)) →
      IdxAV 10 1 (ptr B.made) (.int .i64 k) fun t => StoreV 1 t (.bool true) w5 fun w6 => LoadV false 1 (ptr B.rows) w6 fun t => IdxV 1 t (.int .i64 k) fun a => LoadV false 1 a w6 fun r => R r w6 := fun hb hst =>
    hb.set (by omega) fun w6 C6 _ hb6 => (hst w6 C6 hb6).row (by omega) hk fun x _ => hR _ _ (hK x w6 (hst w6 C6 hb6))
  refine ⟨fun h0 => ?_, fun hne => ?_⟩
  · refine draw_none fun w3 hs3 => ?_
    have h3 := h2.keep hs3.ext
    obtain ⟨e2', q2'⟩ := h3.rows
    refine loadS2 (v := rowsV B p) q2' id rfl ?_
    refine loadS2 (v := rv) (hs3.ext.at hbox) id rfl ?_
    have e3' := E2.trans hs3.ext
    refine callV_of (copyInts_ok (hr.ext e3') (by omega)) rfl fun u w4 ⟨E4, f4⟩ => ⟨E4, ?_⟩
    have hv0 : val p k = p[k].row := by rw [hval, opV_fixed h0]
    have h4 := h3.keep E4
    refine h4.store hk (by rw [hv0]; exact big e3'.size f4) fun w5 C5 hb5 hst => ?_
    exact done hb5 hst
  · refine ⟨fun b => b = B.arr, fun w3 hs3 => ?_⟩
    have h3 := h2.keep hs3.ext
    obtain ⟨e2', q2'⟩ := h3.rows
    obtain ⟨e3', q3'⟩ := h3.gath
    have hbox3 := hs3.ext.at hbox
    obtain ⟨n1, n2, n3, n4, n5, _⟩ := h.ne
    simp only [go_sem]
    refine loadS2 (v := rowsV B p) q2' (fun e => n3 e.symm) rfl ?_
    refine loadS2 (v := .int .i64 p[k].kind) hbox3 (fun e => by omega) rfl ?_
    refine loadS2 (v := gatherF B) q3' (fun e => n4 e.symm) rfl ?_
    refine loadS2 (v := av) hbox3 (fun e => by omega) rfl ?_
    have e3 := E2.trans hs3.ext
    have hfl := hok.fr_len k
    rw [hfr] at hfl
    refine gather_ok h3 h10 (ha.ext e3) hfl (fun f hf => by have := hok.fr_lt (i := k) (f := f) (by rw [hfr]; exact hf); omega) fun u w4 E4 hl4 => ⟨E4.chg, ?_⟩
    refine callV_of (implKindRun_ok (wd := wide p) hl4 (by omega) (by rw [List.length_map]; exact hfit.1) fun r hr => ?_) rfl ?_
    · obtain ⟨f, hf, rfl⟩ := List.mem_map.1 hr
      have := hok.fr_lt (i := k) (f := f) (by rw [hfr]; exact hf)
      exact val_row hok (by omega)
    · rintro _ w5 ⟨zv, rfl, E5, f5⟩
      refine ⟨E5.chg, ?_⟩
      simp only [go_sem]
      have hv1 : val p k = kOp p[k].kind (p[k].frm.map fun f => val p f.toNat) := by rw [hval, opV_op hne]
      have h5 := (h3.keep E4).keep E5
      refine h5.store hk (by rw [hv1]; exact big (e3.trans E4).size f5) fun w6 C6 hb6 hst => ⟨C6, ?_⟩
      exact done hb6 hst

noncomputable def valsO (p : List Nd) : List (List Int) := if PlanOk p then vals p else []
theorem implValuesOf_ok {w : World} {v : Value} {p : List Nd} (hp : PlanV w v p) :
    Calls Try.prog N.impl_ValuesOf #[v] w (Ret fun r w' => ∃ u, r = .tuple #[u, .bool (decide (PlanOk p))] ∧ Ext w w' ∧ Lists w' u (valsO p)) := by
  refine ret_k fun R hR => c_impl_ValuesOf _ _ _ ?_
  have hlen : ∀ K, LenV v K = K (.int .i64 p.length) := fun K => hp.len
  have hvc : v.cells = #[v] := by obtain ⟨a, c, rfl, _⟩ := hp.out; rfl
  intro w1 hn1
  have z1 := hn1.size
  have hb1 := hn1.here
  rw [hvc] at hb1
  refine load2 (v := v) hb1 rfl ?_
  refine callV_of (implPlanValid_ok (hp.ext hn1.ext)) rfl ?_
  rintro _ w2 ⟨E2, rfl⟩
  have z2 := E2.size
  have hb2 := E2.at hb1
  have e2 := hn1.ext.trans E2
  simp only [go_sem]
  refine ⟨fun hno => hR _ _ ⟨_, by rw [decide_eq_false hno], e2, by unfold valsO; rw [if_neg hno]; exact ⟨none, 0, rfl, Nat.le_refl _, fun i hi => by simp at hi⟩⟩, fun hok => ?_⟩
  have h10 := hok.len
  rw [decide_eq_true hok] at hR
  refine load2 (v := v) hb2 rfl ?_
  rw [hlen]
  refine ⟨by omega, by omega, by omega, by omega, fun w3 hn3 => ?_⟩
  simp only [Int.toNat_natCast] at hn3
  simp only [Int.toNat_natCast]
  have z3 := hn3.size
  refine box1 (x := .slice (some ⟨w2.heap.size, 0, none⟩) p.length p.length) rfl rfl rfl fun w5 E5 hb5 z5 => ?_
  refine Bits.new fun w6 E6 hm6 z6 => ?_
  intro w7 hn7
  have z7 := hn7.size
  intro w8 hn8
  have z8 := hn8.size
  have hv7 : (Value.nilFunc).cells = #[.nilFunc] := rfl
  refine store_at (v := .func (.func N.impl_ValuesOf_1) #[] #[ptr w5.heap.size, ptr w3.heap.size, ptr w.heap.size, ptr w6.heap.size]) hn8.here rfl rfl (by simp [hv7]) fun w9 hp9 => ?_
  have z9 := hp9.size
  have hb67 : w9.heap[w6.heap.size]? = some (.cells (Value.nilFunc).cells T.func_sl_int_sl_sl_int (0, 0)) := hp9.chg.at (hn8.ext.at hn7.here) (by omega)
  refine store_at (v := .func (.func N.impl_ValuesOf_2) #[] #[ptr w7.heap.size]) hb67 rfl rfl (by simp [hv7]) fun w10 hp10 => ?_
  have z10 := hp10.size
  have old : ∀ {j : Nat} {o : Obj}, w6.heap[j]? = some o → w10.heap[j]? = some o := fun h => by
    have hlt := lt_of_at h
    exact hp10.chg.at (hp9.chg.at (hn8.ext.at (hn7.ext.at h)) (by omega)) (by omega)
  have C10 : Chg (fun b => b = w7.heap.size ∨ b = w6.heap.size) w8 w10 := Chg.trans hp9.chg hp10.chg (fun _ _ e => .inl e) fun _ _ e => .inr e
  have e10 : Ext w w10 := Chg.ext ((((e2.trans hn3.ext).trans E5).trans ((E6.trans hn7.ext).trans hn8.ext)).then C10) fun j hj e => by rcases e with e | e <;> omega
  have hst : VSt w w10 ⟨w.heap.size, w3.heap.size, w5.heap.size, w6.heap.size, w7.heap.size, w2.heap.size⟩ v p 0 := by
    refine ⟨e10, ⟨Nat.le_refl _, by show w.heap.size ≤ w5.heap.size; omega, by show w.heap.size ≤ w2.heap.size; omega⟩, ⟨_, old (E6.at (E5.at (hn3.ext.at hb2)))⟩, ⟨_, old (E6.at hb5)⟩, ⟨T.func_sl_int_sl_sl_int, by simpa [hv7, gatherF] using hp10.here⟩, ⟨_, hp10.chg.at (by simpa [hv7, rowOfF] using hp9.here) (fun e => by have e : w7.heap.size = w6.heap.size := e; omega)⟩, ?_, ⟨_, old (E6.at (E5.at hn3.here)), by simp [rowOf], fun j hj => by omega⟩, ?_⟩
    · have := (((hm6.ext hn7.ext).ext hn8.ext).keep C10 fun e => by rcases e with e | e <;> omega)
      obtain ⟨c2, g1, g2, g3⟩ := this.out
      exact ⟨c2, g1, g2, fun i hi => by obtain ⟨m, hm, hmi⟩ := g3 i hi; exact ⟨m, hm, hmi.trans ⟨fun h => h.elim, fun h => by omega⟩⟩⟩
    · simp only
      refine ⟨?_, ?_, ?_, ?_, ?_, ?_, ?_, ?_, ?_⟩ <;> omega
  clear hm6 hb67
  have hb10 : w10.heap[w.heap.size]? = some (.cells #[v] T.sl_impl_Node (0, 0)) := old (E6.at (E5.at (hn3.ext.at hb2)))
  refine load2 (v := v) hb10 rfl ?_
  rw [hlen]
  generalize hB : (⟨w.heap.size, w3.heap.size, w5.heap.size, w6.heap.size, w7.heap.size, w2.heap.size⟩ : VB) = B at hst
  have hB4 : w7.heap.size = B.rowOf := by rw [← hB]
  have hB5 : w3.heap.size = B.rows := by rw [← hB]
  rw [hB4, hB5]
  refine loopV (fun s w' => ∃ k : Nat, s = [.int .i64 k] ∧ k ≤ p.length ∧ VSt w w' B v p k) (upTo p.length 0) ⟨0, rfl, by omega, hst⟩ ?_
  rintro s z w11 K ⟨k, rfl, hk, h⟩ hK
  obtain ⟨e4, q4⟩ := h.rowf
  simp only [go_sem]
  refine ⟨fun hlt => ?_, fun hge => ?_⟩
  · have hk : k < p.length := by omega
    refine load2 (v := rowOfF B) q4 rfl ?_
    refine rowOf_new h hp hok hk fun x w12 h12 => ?_
    exact bin_inc (by omega) (hK _ _ ⟨k + 1, rfl, by omega, h12⟩ (by simp [upTo, nthV, iOf]; omega))
  · have hk : k = p.length := by omega
    subst hk
    obtain ⟨e2', q2'⟩ := h.rows
    obtain ⟨cur, h5, h6, h7⟩ := h.arr
    refine load2 (v := rowsV B p) q2' rfl ?_
    have hvo : valsO p = vals p := by unfold valsO; rw [if_pos hok]
    refine hR _ _ ⟨_, rfl, h.ext, ?_⟩
    rw [hvo]
    refine ⟨some ⟨B.arr, 0, none⟩, p.length, by rw [vals_len]; rfl, by rw [vals_len]; exact Nat.le_refl _, fun i hi => ?_⟩
    rw [vals_len] at hi
    obtain ⟨x, hx, hf⟩ := h7 i hi hi
    refine ⟨B.arr, 0, x, rfl, by rw [Nat.zero_add, cell_of_row w11 _ i _ _ (0, 0) h5]; exact hx, ?_⟩
    have : val p i = (vals p)[i]'(by rw [vals_len]; exact hi) := by unfold val; rw [List.getD_eq_getElem?_getD, List.getElem?_eq_getElem (by rw [vals_len]; exact hi)]; rfl
    rw [← this]; exact hf.ints
end Go.Proofs.Ytblgkpfnjlobjaa
