/- What the exact laws do with plans: sizes, copies, comparison, marks. -/
import Derived.Test.YtblgkpfnjlobjaaFam
import Derived.Test.YtblgkpfnjlobjaaCE
namespace Go.Proofs.Ytblgkpfnjlobjaa
open Go Go.V

/-- A node and a plan that came in: of their sizes nothing is known yet. -/
structure NdRaw (w : World) (v : Value) (x : Nd) : Prop where
  out : ∃ fv rv, v = .agg #[.int .i64 x.kind, fv, rv] ∧ Ints w fv x.frm ∧ Ints w rv x.row ∧ x.frm.length ≤ 9223372036854775807 ∧ x.row.length ≤ 9223372036854775807
structure PlanRaw (w : World) (v : Value) (p : List Nd) : Prop where
  out : ∃ a c, v = .slice a p.length c ∧ p.length ≤ c ∧ p.length ≤ 9223372036854775807 ∧ ∀ i x, p[i]? = some x → ∃ b off fv rv, a = some ⟨b, off, none⟩ ∧
    w.cell? ⟨b, off + 3 * i, none⟩ = some (.int .i64 x.kind) ∧ w.cell? ⟨b, off + 3 * i + 1, none⟩ = some fv ∧ w.cell? ⟨b, off + 3 * i + 2, none⟩ = some rv ∧ Ints w fv x.frm ∧ Ints w rv x.row ∧
    x.frm.length ≤ 9223372036854775807 ∧ x.row.length ≤ 9223372036854775807
theorem PlanRaw.ext {w w' : World} {v : Value} {p : List Nd} (h : PlanRaw w v p) (hE : Ext w w') : PlanRaw w' v p := by
  obtain ⟨a, c, h1, h2, h2', h3⟩ := h.out
  refine ⟨a, c, h1, h2, h2', fun i x hi => ?_⟩
  obtain ⟨b, off, fv, rv, k0, k1, k2, k3, k4, k5, k6⟩ := h3 i x hi
  exact ⟨b, off, fv, rv, k0, cell_keep hE k1 id, cell_keep hE k2 id, cell_keep hE k3 id, k4.ext hE, k5.ext hE, k6⟩
theorem PlanRaw.len {w : World} {v : Value} {p : List Nd} (h : PlanRaw w v p) (K : Value → Prop) : LenV v K = K (.int .i64 p.length) := by
  obtain ⟨a, c, rfl, _, _⟩ := h.out; rfl
theorem PlanRaw.small {w : World} {v : Value} {p : List Nd} (h : PlanRaw w v p) : p.length ≤ 9223372036854775807 := by
  obtain ⟨_, _, _, _, h1, _⟩ := h.out; exact h1
theorem PlanRaw.plan {w : World} {v : Value} {p : List Nd} (h : PlanRaw w v p) (hl : p.length ≤ 1048576) (hs : ∀ x ∈ p, Sml x) : PlanV w v p := by
  obtain ⟨a, c, h1, h2, _, h3⟩ := h.out
  refine ⟨a, c, h1, h2, hl, fun i x hi => ?_⟩
  obtain ⟨b, off, fv, rv, k0, k1, k2, k3, k4, k5, _⟩ := h3 i x hi
  exact ⟨b, off, fv, rv, k0, k1, k2, k3, k4, k5, hs x (List.mem_of_getElem? hi)⟩
theorem PlanRaw.load {w : World} {v : Value} {p : List Nd} (h : PlanRaw w v p) {i : Nat} (hi : i < p.length) {K : Value → Prop} (hK : ∀ x, NdRaw w x p[i] → K x) : IdxV 3 v (.int .i64 i) fun t => LoadV true 3 t w K := by
  obtain ⟨a, c, rfl, _, _, h3⟩ := h.out
  obtain ⟨b, off, fv, rv, rfl, k1, k2, k3, k4, k5, k6⟩ := h3 i p[i] (by simp [hi])
  refine ⟨by omega, by omega, ?_⟩
  rw [addr_add]
  have e : off + (i : Int).toNat * 3 = off + 3 * i := by rw [Int.toNat_natCast]; omega
  rw [e]
  exact load_node k1 k2 k3 (hK _ ⟨fv, rv, rfl, k4, k5, k6⟩)

theorem szIntS_ok {w : World} {v : Value} {xs : List Int} (hx : Ints w v xs) (hl : xs.length ≤ 9223372036854775807) {n : Int} (h0 : 0 ≤ n) (h1 : n ≤ 1048576) :
    Calls Try.prog N.laws_szIntS #[v, .int .i64 n] w (Ret fun r w' => Ext w w' ∧ ∃ m : Int, r = .int .i64 m ∧ -1 ≤ m ∧ m ≤ n ∧ (0 ≤ m → xs.length ≤ 1048576)) := by
  obtain ⟨a, c, rfl, _, _⟩ := hx.out
  refine ret_k fun R hR => c_laws_szIntS _ _ _ _ ?_
  simp only [go_sem]
  refine bin_sub ⟨by omega, by omega⟩ ?_
  simp only [go_sem]
  exact ⟨fun h => hR _ _ ⟨Ext.refl _, _, rfl, by omega, by omega, fun h => by omega⟩, fun h => hR _ _ ⟨Ext.refl _, _, rfl, by omega, by omega, fun h => by omega⟩⟩

theorem new_raw {w w' : World} {k : Int} {fv rv : Value} {xs ys : List Int} {e : Nat} (h2 : Ints w fv xs) (h3 : Ints w rv ys) (hn : New w (.cells (Value.cells (.agg #[.int .i64 k, fv, rv])) e (0, 0)) w') : w'.heap[w.heap.size]? = some (.cells #[.int .i64 k, fv, rv] e (0, 0)) := by
  have := hn.here
  obtain ⟨_, _, rfl, _⟩ := h2.out
  obtain ⟨_, _, rfl, _⟩ := h3.out
  simpa [Value.cells] using this

theorem szNode_ok {w : World} {v : Value} {x : Nd} (hx : NdRaw w v x) {n : Int} (h0 : 0 ≤ n) (h1 : n ≤ 1048576) :
    Calls Try.prog N.laws_szNode #[v, .int .i64 n] w (Ret fun r w' => Ext w w' ∧ ∃ m : Int, r = .int .i64 m ∧ -1 ≤ m ∧ m ≤ n ∧ (0 ≤ m → Sml x)) := by
  obtain ⟨fv, rv, rfl, hf, hr, hfl, hrl⟩ := hx.out
  refine ret_k fun R hR => c_laws_szNode _ _ _ _ ?_
  intro w1 hn1
  have hb := new_raw hf hr hn1
  have E1 := hn1.ext
  simp only [go_sem]
  refine load2 (v := fv) hb rfl ?_
  refine callV_of (szIntS_ok (hf.ext E1) hfl h0 h1) rfl ?_
  rintro _ w2 ⟨E2, m, rfl, hm0, hm1, hm2⟩
  simp only [go_sem]
  refine ⟨fun h => hR _ _ ⟨E1.trans E2, -1, rfl, by omega, by omega, fun h => by omega⟩, fun h => ?_⟩
  refine load2 (v := rv) (E2.at hb) rfl ?_
  refine callV_of (szIntS_ok (hr.ext (E1.trans E2)) hrl (by omega) (by omega)) rfl ?_
  rintro _ w3 ⟨E3, m', rfl, hm0', hm1', hm2'⟩
  simp only [go_sem]
  exact ⟨fun h => hR _ _ ⟨(E1.trans E2).trans E3, -1, rfl, by omega, by omega, fun h => by omega⟩, fun h' => hR _ _ ⟨(E1.trans E2).trans E3, _, rfl, by omega, by omega, fun _ => ⟨hm2 (by omega), hm2' (by omega)⟩⟩⟩

theorem szNodeS_ok {w : World} {v : Value} {p : List Nd} (hp : PlanRaw w v p) {n : Int} (h0 : 0 ≤ n) (h1 : n ≤ 1048576) :
    Calls Try.prog N.laws_szNodeS #[v, .int .i64 n] w (Ret fun r w' => Ext w w' ∧ ∃ m : Int, r = .int .i64 m ∧ -1 ≤ m ∧ m ≤ n ∧ (0 ≤ m → p.length ≤ 1048576 ∧ ∀ x ∈ p, Sml x)) := by
  refine ret_k fun R hR => c_laws_szNodeS _ _ _ _ ?_
  have hsm := hp.small
  simp only [hp.len, go_sem]
  refine bin_sub ⟨by omega, by omega⟩ ?_
  simp only [go_sem]
  refine ⟨fun h => hR _ _ ⟨Ext.refl _, -1, rfl, by omega, by omega, fun h => by omega⟩, fun h => ?_⟩
  refine loopV (fun s w' => ∃ (k : Nat) (m : Int), s = [.int .i64 m, .int .i64 k] ∧ k ≤ p.length ∧ Ext w w' ∧ 0 ≤ m ∧ m ≤ n ∧ ∀ i (_ : i < k) (h : i < p.length), Sml p[i]) (upTo p.length 1) ⟨0, _, rfl, by omega, Ext.refl _, by omega, by omega, fun i hi => by omega⟩ ?_
  rintro s z w1 K ⟨k, m, rfl, hk, E1, hm0, hm1, hin⟩ hK
  simp only [go_sem]
  refine ⟨fun h => ?_, fun h => ?_⟩
  · have hk : k < p.length := by omega
    refine (hp.ext E1).load hk fun xv hxv => ?_
    refine callV_of (szNode_ok hxv hm0 (by omega)) rfl ?_
    rintro _ w2 ⟨E2, m', rfl, hm0', hm1', hm2'⟩
    simp only [go_sem]
    refine ⟨fun h => hR _ _ ⟨E1.trans E2, -1, rfl, by omega, by omega, fun h => by omega⟩, fun h => ?_⟩
    refine bin_inc (by omega) (hK _ _ ⟨k + 1, m', rfl, by omega, E1.trans E2, by omega, by omega, fun i hi hl => ?_⟩ (by simp [upTo, nthV, iOf]; omega))
    by_cases e : i = k
    · subst e; exact hm2' (by omega)
    · exact hin i (by omega) hl
  · exact hR _ _ ⟨E1, m, rfl, by omega, by omega, fun _ => ⟨by omega, fun x hx => by obtain ⟨i, hi, rfl⟩ := List.mem_iff_getElem.1 hx; exact hin i (by omega) hi⟩⟩

theorem toIntS1 {w : World} {v : Value} {xs : List Int} (hx : Ints w v xs) (hl : xs.length ≤ 1099511627776) : Calls Try.prog N.laws_toIntS #[v] w (Ret fun r w' => Ext w w' ∧ ∃ b, FInts w' (· = b) r xs ∧ (xs ≠ [] → w.heap.size ≤ b ∧ b < w'.heap.size)) := by
  refine ret_mono (toIntS_ok hx hl) ?_
  rintro r w' ⟨E, h⟩
  exact ⟨E, h.one⟩

theorem toNode_ok {w : World} {v : Value} {x : Nd} (hx : NdV w v x) : Calls Try.prog N.laws_toNode #[v] w (Ret fun r w' => Ext w w' ∧ NewNd w w' r x) := by
  obtain ⟨fv, rv, rfl, hf, hr, hs⟩ := hx.out
  refine ret_k fun R hR => c_laws_toNode _ _ _ ?_
  intro w1 hn1
  have hb1 := new_raw hf hr hn1
  intro w2 hn2
  intro w3 hn3
  have hsz1 := hn1.size
  have hsz2 := hn2.size
  have hsz3 := hn3.size
  have E3 := (hn1.ext.trans hn2.ext).trans hn3.ext
  have h1 := hn3.ext.at (hn2.ext.at hb1)
  have h2 := hn3.ext.at hn2.here
  have h3 := hn3.here
  simp only [go_sem]
  refine load2 (v := .int .i64 x.kind) h1 rfl ?_
  refine store_at h3 rfl rfl (by simp [Value.cells]) fun w4 hp4 => ?_
  have k1 := hp4.chg.at h1 (by omega)
  have k2 := hp4.chg.at h2 (by omega)
  have E4 : Ext w w4 := Chg.ext (E3.then hp4.chg) fun j hj e => by omega
  refine load2 (v := fv) k1 rfl ?_
  refine callV_of (toIntS1 (hf.ext E4) (by have := hs.1; omega)) rfl ?_
  rintro v5 w5 ⟨E5, b1, hf5, hb5⟩
  have e5 := E4.trans E5
  obtain ⟨fa, fc, rfl, _⟩ := hf5.out
  refine store_at (E5.at hp4.here) rfl rfl (by simp [Value.cells]) fun w6 hp6 => ?_
  have hsz4 := hp4.size
  have m1 := hp6.chg.at (E5.at k1) (by omega)
  have m2 := hp6.chg.at (E5.at k2) (by omega)
  have E6 : Ext w w6 := Chg.ext (e5.then hp6.chg) fun j hj e => by omega
  have hf6 := hf5.keep1 hp6.chg fun hne e => by have := (hb5 hne).1; omega
  refine load2 (v := rv) m1 rfl ?_
  refine callV_of (toIntS1 (hr.ext E6) (by have := hs.2; omega)) rfl ?_
  rintro v7 w7 ⟨E7, b2, hr7, hb7⟩
  obtain ⟨ra, rc, rfl, _⟩ := hr7.out
  have e7 := E6.trans E7
  have hsz5 := E5.size
  have hsz6 := hp6.size
  refine store_at (E7.at hp6.here) rfl rfl (by simp [Value.cells]) fun w8 hp8 => ?_
  have E8 : Ext w w8 := Chg.ext (e7.then hp8.chg) fun j hj e => by omega
  have hf8 := (hf6.ext E7).keep1 hp8.chg fun hne e => by have := (hb5 hne).1; omega
  have hr8 := hr7.keep1 hp8.chg fun hne e => by have := (hb7 hne).1; omega
  have p2 := hp8.chg.at (E7.at m2) (by omega)
  refine load_box (by simpa [Value.cells] using hp8.here) ?_
  refine ⟨_, _, rfl, p2, rfl, by simp [Value.cells], fun u hu => ?_, fun w9 hp9 => ?_⟩
  · simp [Value.cells] at hu
    rcases hu with rfl | rfl | rfl <;> rfl
  · refine load_box (by simpa [Value.cells, splice] using hp9.here) ?_
    refine hR _ _ ⟨Chg.ext (E8.then hp9.chg) fun j hj e => by have e : j = w1.heap.size := e; omega, _, _, b1, b2, rfl, ?_, ?_, fun h => by have := (hb5 h).1; omega, fun h => by have := (hb7 h).1; omega, fun h h' e => ?_⟩
    · exact hf8.keep1 hp9.chg fun hne e => by have e : b1 = w1.heap.size := e; have := (hb5 hne).1; omega
    · exact hr8.keep1 hp9.chg fun hne e => by have e : b2 = w1.heap.size := e; have := (hb7 hne).1; omega
    · have := (hb5 h).2; have := (hb7 h').1; omega

theorem toNodeS_ok {w : World} {v : Value} {p : List Nd} (hp : PlanV w v p) : Calls Try.prog N.laws_toNodeS #[v] w (Ret (NewPlan w p)) := by
  refine ret_k fun R hR => c_laws_toNodeS _ _ _ ?_
  have hlen : ∀ K, LenV v K = K (.int .i64 p.length) := fun K => hp.len
  have hsm := hp.small
  simp only [hlen, go_sem]
  refine ⟨by omega, by omega, by omega, by omega, fun w1 hn1 => ?_⟩
  simp only [Int.toNat_natCast] at hn1 ⊢
  have hsz1 := hn1.size
  refine loopV (fun s w' => ∃ (k : Nat) (bs : Nat → Nat) (fv rv : Nat → Value) (cur : Array Value), s = [.int .i64 k] ∧ k ≤ p.length ∧ Ext w w' ∧ w'.heap[w.heap.size]? = some (.cells cur T.impl_Node (0, 0)) ∧ cur.size = 3 * p.length ∧
      Inner w' (Since w) (p.take k) bs fv rv ∧ FCells cur 0 p fv rv k) (upTo p.length 0)
    ⟨0, fun _ => 0, fun _ => .slice none 0 0, fun _ => .slice none 0 0, _, rfl, by omega, hn1.ext, hn1.here, by simp [rowOf]; omega, by simpa using Inner.nil, fun i hi => by omega⟩ ?_
  rintro s z w2 K ⟨k, bs, fv, rv, cur, rfl, hk, E2, hb2, hcs, hin, hcell⟩ hK
  simp only [go_sem]
  refine ⟨fun h => ?_, fun h => ?_⟩
  · have hk : k < p.length := by omega
    refine (hp.ext E2).load hk fun xv hxv => ?_
    have hsml := hp.sml hk
    refine callV_of (toNode_ok hxv) rfl ?_
    rintro _ w3 ⟨E3, hnd⟩
    obtain ⟨f, r, b1, b2, rfl, hf, hr, h1, h2, h3⟩ := hnd.out
    have e3 := E2.trans E3
    have hpush := hin.push E3 hf hr h1 h2 h3 (fun b hb => by have := E2.size; unfold Since; omega) hsml
    rw [← take_snoc hk] at hpush
    have hkl : (p.take k).length = k := by rw [List.length_take]; omega
    rw [hkl] at hpush
    refine ⟨by omega, by omega, ?_⟩
    simp only [addr_add, Int.toNat_natCast, Nat.zero_add]
    have hfo : f.oneCell' = true ∧ r.oneCell' = true := ⟨(ints_cells hf.ints).2, (ints_cells hr.ints).2⟩
    refine ⟨cur, T.impl_Node, rfl, E3.at hb2, rfl, by show k * 3 + 3 ≤ _; omega, fun u hu => ?_, fun w4 hp4 => ?_⟩
    · simp [Value.cells] at hu
      rcases hu with rfl | rfl | rfl
      · rfl
      · exact hfo.1
      · exact hfo.2
    · have hlt1 := lt_of_at hb2
      have hpsh4 := hpush.keep hp4.chg fun s hs hne e => by
        obtain ⟨_, cur', hb'⟩ := hpush.lt hs hne
        have e : _ = w.heap.size := e
        rw [e, E3.at hb2] at hb'; cases hb'
      refine bin_inc (by omega) (hK _ _ ⟨k + 1, _, _, _, _, rfl, by omega, Chg.ext (e3.then hp4.chg) fun j hj e => by have e : j = w.heap.size := e; omega, hp4.here, by rw [splice_size]; exact hcs, hpsh4, fun i hi => ?_⟩ (by simp [upTo, nthV, iOf]; omega))
      simp only [Value.cells, splice, Nat.zero_add]
      by_cases e : i = k
      · subst e
        rw [setF_same, setF_same, nd_get hk]
        have g : 3 * i = i * 3 := by omega
        rw [g]
        refine ⟨?_, ?_, ?_⟩
        · rw [Array.getElem?_setIfInBounds_ne (by omega), Array.getElem?_setIfInBounds_ne (by omega), Array.getElem?_setIfInBounds_self_of_lt (by omega)]
        · rw [Array.getElem?_setIfInBounds_ne (by omega), Array.getElem?_setIfInBounds_self_of_lt (by simp; omega)]
        · rw [Array.getElem?_setIfInBounds_self_of_lt (by simp; omega)]
      · have hc := hcell i (by omega)
        simp only [Nat.zero_add] at hc
        rw [setF_ne _ _ e, setF_ne _ _ e]
        refine ⟨?_, ?_, ?_⟩
        · rw [Array.getElem?_setIfInBounds_ne (by omega), Array.getElem?_setIfInBounds_ne (by omega), Array.getElem?_setIfInBounds_ne (by omega)]; exact hc.1
        · rw [Array.getElem?_setIfInBounds_ne (by omega), Array.getElem?_setIfInBounds_ne (by omega), Array.getElem?_setIfInBounds_ne (by omega)]; exact hc.2.1
        · rw [Array.getElem?_setIfInBounds_ne (by omega), Array.getElem?_setIfInBounds_ne (by omega), Array.getElem?_setIfInBounds_ne (by omega)]; exact hc.2.2
  · have hk : k = p.length := by omega
    subst hk
    rw [List.take_length] at hin
    exact hR _ _ ⟨E2, _, _, bs, fv, rv, rfl, Nat.le_refl _, hsm, hin, fun _ => ⟨_, 0, cur, rfl, Nat.le_refl _, hb2, by omega, hcell⟩⟩

theorem eqNode_ok {w : World} {u v : Value} {x y : Nd} (hx : NdV w u x) (hy : NdV w v y) : Calls Try.prog N.laws_eqNode #[u, v] w (Ret fun r w' => Ext w w' ∧ r = .bool (decide (x = y))) := by
  obtain ⟨fu, ru, rfl, hfu, hru, hsx⟩ := hx.out
  obtain ⟨fv, rv, rfl, hfv, hrv, hsy⟩ := hy.out
  refine ret_k fun R hR => c_laws_eqNode _ _ _ _ ?_
  intro w1 hn1
  have hb1 := new_raw hfu hru hn1
  intro w2 hn2
  have hb2 := new_raw (hfv.ext hn1.ext) (hrv.ext hn1.ext) hn2
  have hb1 := hn2.ext.at hb1
  have E2 := hn1.ext.trans hn2.ext
  have no : ∀ w', Ext w w' → x ≠ y → R (.bool false) w' := fun w' hE hn => hR _ _ ⟨hE, by rw [decide_eq_false hn]⟩
  simp only [go_sem]
  refine load2 (v := .int .i64 x.kind) hb1 rfl (load2 (v := .int .i64 y.kind) hb2 rfl ?_)
  simp only [go_sem]
  refine ⟨fun h => no _ E2 fun e => h (by rw [e]), fun hk => ?_⟩
  refine load2 (v := fu) hb1 rfl (load2 (v := fv) hb2 rfl ?_)
  refine callV_of (eqIntS_ok (hfu.ext E2) (hfv.ext E2) (by have := hsx.1; omega)) rfl ?_
  rintro _ w3 ⟨E3, rfl⟩
  have e3 := E2.trans E3
  simp only [go_sem]
  refine ⟨fun h => no _ e3 fun e => h (by rw [e]), fun hf => ?_⟩
  refine load2 (v := ru) (E3.at hb1) rfl (load2 (v := rv) (E3.at hb2) rfl ?_)
  refine callV_of (eqIntS_ok (hru.ext e3) (hrv.ext e3) (by have := hsx.2; omega)) rfl ?_
  rintro _ w4 ⟨E4, rfl⟩
  simp only [go_sem]
  refine ⟨fun h => no _ (e3.trans E4) fun e => h (by rw [e]), fun hr => hR _ _ ⟨e3.trans E4, ?_⟩⟩
  rw [decide_eq_true]
  obtain ⟨k1, f1, r1⟩ := x
  obtain ⟨k2, f2, r2⟩ := y
  simp only [Nd.mk.injEq]
  exact ⟨Classical.not_not.1 hk, hf, hr⟩

theorem eqNodeS_ok {w : World} {u v : Value} {p q : List Nd} (hp : PlanV w u p) (hq : PlanV w v q) : Calls Try.prog N.laws_eqNodeS #[u, v] w (Ret fun r w' => Ext w w' ∧ r = .bool (decide (p = q))) := by
  refine ret_k fun R hR => c_laws_eqNodeS _ _ _ _ ?_
  have hlen : ∀ K, LenV u K = K (.int .i64 p.length) := fun K => hp.len
  have hlen' : ∀ K, LenV v K = K (.int .i64 q.length) := fun K => hq.len
  have hsm := hp.small
  have no : ∀ w', Ext w w' → p ≠ q → R (.bool false) w' := fun w' hE hn => hR _ _ ⟨hE, by rw [decide_eq_false hn]⟩
  simp only [hlen, hlen', go_sem]
  refine ⟨fun h => no _ (Ext.refl _) fun e => h (by rw [e]), fun h => ?_⟩
  have hlq : p.length = q.length := by have := Classical.not_not.1 h; omega
  refine loopV (fun s w' => ∃ k : Nat, s = [.int .i64 k] ∧ k ≤ p.length ∧ Ext w w' ∧ ∀ i (_ : i < k) (h1 : i < p.length), p[i] = q[i]'(by omega)) (upTo p.length 0) ⟨0, rfl, by omega, Ext.refl _, fun i hi => by omega⟩ ?_
  rintro s z w1 K ⟨k, rfl, hk, E1, hin⟩ hK
  simp only [go_sem]
  refine ⟨fun h => ?_, fun h => ?_⟩
  · have hk : k < p.length := by omega
    refine draw_none fun w2 hs => ?_
    have e2 := E1.trans hs.ext
    refine (hp.ext e2).loadS hk (fun _ _ => id) fun xv hxv => ?_
    refine (hq.ext e2).loadS (by omega) (fun _ _ => id) fun yv hyv => ?_
    refine callV_of (eqNode_ok hxv hyv) rfl ?_
    rintro _ w3 ⟨E3, rfl⟩
    refine ⟨E3, ?_⟩
    simp only [go_sem]
    refine ⟨fun h => no _ (e2.trans E3) fun e => h (by subst e; rfl), fun h => ?_⟩
    refine bin_inc (by omega) (hK _ _ ⟨k + 1, rfl, by omega, e2.trans E3, fun i hi h1 => ?_⟩ (by simp [upTo, nthV, iOf]; omega))
    by_cases e : i = k
    · subst e; simpa using h
    · exact hin i (by omega) h1
  · exact hR _ _ ⟨E1, by rw [decide_eq_true]; exact List.ext_getElem hlq fun i h1 h2 => hin i (by omega) h1⟩

/-! ### Marks -/
theorem offP_le {p : List Nd} {j : Nat} (h : ∀ i, i < j → Sml (nd p i)) : offP p j ≤ j * 2097153 := by
  induction j with
  | zero => simp [offP]
  | succ j ih =>
    have h1 := ih fun i hi => h i (by omega)
    have h2 := h j (by omega)
    unfold Sml at h2
    simp only [offP, ndSize]; omega
/-- The first i nodes are marked. -/
def mkTo (p : List Nd) (k i : Nat) : List Nd := (List.range p.length).map fun j => if j < i then mkN p k j else nd p j
theorem mkTo_len (p : List Nd) (k i : Nat) : (mkTo p k i).length = p.length := by simp [mkTo]
theorem mkTo_nd {p : List Nd} {k i j : Nat} (h : j < p.length) : nd (mkTo p k i) j = if j < i then mkN p k j else nd p j := by rw [nd_get (by rw [mkTo_len]; exact h)]; simp [mkTo]
theorem mkTo_zero (p : List Nd) (k : Nat) : mkTo p k 0 = p := ext_nd (mkTo_len _ _ _) fun i hi => by rw [mkTo_len] at hi; rw [mkTo_nd hi, if_neg (by omega)]
theorem mkTo_all (p : List Nd) (k : Nat) : mkTo p k p.length = markP p k := ext_nd (by rw [mkTo_len, markP_len]) fun i hi => by rw [mkTo_len] at hi; rw [mkTo_nd hi, if_pos hi, markP_nd hi]
theorem mkTo_next {p : List Nd} {k i : Nat} (h : i < p.length) : (mkTo p k i).set i (mkN p k i) = mkTo p k (i + 1) := by
  refine ext_nd (by simp [mkTo_len]) fun j hj => ?_
  rw [List.length_set, mkTo_len] at hj
  rw [nd_set (by rw [mkTo_len]; exact h), mkTo_nd hj, mkTo_nd hj]
  by_cases e : j = i
  · subst e; rw [if_pos rfl, if_pos (by omega)]
  · rw [if_neg e]
    by_cases h' : j < i
    · rw [if_pos h', if_pos (by omega)]
    · rw [if_neg h', if_neg (by omega)]

theorem FPlan.sml {w : World} {B : Nat → Prop} {v : Value} {p : List Nd} (h : FPlan w B v p) {i : Nat} (hi : i < p.length) : Sml (nd p i) := by
  obtain ⟨_, _, _, _, _, _, _, _, hin, _⟩ := h.out
  exact (hin.ints i hi).2.2

/-- The kind of a node is written. -/
theorem FPlan.storeKind {w : World} {B : Nat → Prop} {v : Value} {p : List Nd} (h : FPlan w B v p) {i : Nat} (hi : i < p.length) {k : Int} {K : World → Prop} (hK : ∀ w', Chg B w w' → w'.heap.size = w.heap.size → FPlan w' B v (p.set i ⟨k, (nd p i).frm, (nd p i).row⟩) → K w') :
    IdxV 3 v (.int .i64 i) fun t => FAddrV 0 t fun t => StoreV 1 t (.int .i64 k) w K := by
  obtain ⟨a, c, bs, fv, rv, rfl, hcp, hl, hin, hr⟩ := h.out
  obtain ⟨b, off, cur, rfl, hB, hb, hsz, hcell⟩ := hr (List.ne_nil_of_length_pos (by omega))
  refine ⟨by omega, by omega, ?_⟩
  simp only [addr_add, Int.toNat_natCast, FAddrV, Nat.add_zero]
  refine store_at hb rfl rfl (by omega) fun w' hp => hK w' (hp.chg.mono fun j _ e => by have e : j = b := e; subst e; exact hB) hp.size ?_
  rw [show off + i * 3 = off + 3 * i by omega] at hp
  exact FPlan.setKind hi rfl hcp hl hin hB hb hsz hcell hp
/-- A list of a node is marked. -/
theorem FPlan.markFrm {w : World} {B : Nat → Prop} {v : Value} {p : List Nd} (h : FPlan w B v p) {i m : Nat} (hi : i < p.length) (hm : m ≤ 1152921504604749824) {K : Value → World → Prop}
    (hK : ∀ w', Chg B w w' → w'.heap.size = w.heap.size → FPlan w' B v (p.set i ⟨(nd p i).kind, marks m (nd p i).frm.length, (nd p i).row⟩) → K (.int .i64 (m + (nd p i).frm.length : Nat)) w') :
    IdxV 3 v (.int .i64 i) fun t => FAddrV 1 t fun t => LoadV false 1 t w fun t => CallV Try.prog N.laws_markIntS [t, .int .i64 m] w K := by
  have hv := h
  obtain ⟨a, c, bs, fv, rv, rfl, hcp, hl, hin, hr⟩ := h.out
  obtain ⟨b, off, cur, rfl, hB, hb, hsz, hcell⟩ := hr (List.ne_nil_of_length_pos (by omega))
  refine ⟨by omega, by omega, ?_⟩
  simp only [addr_add, Int.toNat_natCast, FAddrV]
  obtain ⟨h1, h2, h3⟩ := hin.ints i hi
  refine load2 hb (i := off + i * 3 + 1) (v := fv i) (by rw [show off + i * 3 = off + 3 * i by omega]; exact (hcell i hi).2.1) ?_
  -- an empty list lies in no block
  have h1' : FInts w (fun k => (nd p i).frm ≠ [] ∧ k = bs (2 * i)) (fv i) (nd p i).frm := by
    by_cases hne : (nd p i).frm = []
    · have := h1.mono (B' := fun _ => True) fun _ _ _ => trivial
      obtain ⟨a', c', hv', hc', _⟩ := h1.out
      exact ⟨a', c', hv', hc', fun h => absurd hne h⟩
    · exact h1.mono fun _ _ e => ⟨hne, e⟩
  refine callV_of (markIntS_ok (k := m) h1' (by have := h3.1; omega)) rfl ?_
  rintro _ w' ⟨rfl, hc, hs, hx⟩
  refine hK w' (hc.mono fun k _ hk => ?_) hs ?_
  · have := hin.inB (2 * i) (by omega) (by rw [slot_f]; exact hk.1)
    rw [hk.2]; exact this
  · refine FPlan.setFrm hi rfl hcp hl hin (fun _ => ⟨b, off, cur, rfl, hB, hb, hsz, hcell⟩) hc (fun k hk => hk) (hx.mono fun _ _ hk => hk.2) (marks_length _ _)
theorem FPlan.markRow {w : World} {B : Nat → Prop} {v : Value} {p : List Nd} (h : FPlan w B v p) {i m : Nat} (hi : i < p.length) (hm : m ≤ 1152921504604749824) {K : Value → World → Prop}
    (hK : ∀ w', Chg B w w' → w'.heap.size = w.heap.size → FPlan w' B v (p.set i ⟨(nd p i).kind, (nd p i).frm, marks m (nd p i).row.length⟩) → K (.int .i64 (m + (nd p i).row.length : Nat)) w') :
    IdxV 3 v (.int .i64 i) fun t => FAddrV 2 t fun t => LoadV false 1 t w fun t => CallV Try.prog N.laws_markIntS [t, .int .i64 m] w K := by
  obtain ⟨a, c, bs, fv, rv, rfl, hcp, hl, hin, hr⟩ := h.out
  obtain ⟨b, off, cur, rfl, hB, hb, hsz, hcell⟩ := hr (List.ne_nil_of_length_pos (by omega))
  refine ⟨by omega, by omega, ?_⟩
  simp only [addr_add, Int.toNat_natCast, FAddrV]
  obtain ⟨h1, h2, h3⟩ := hin.ints i hi
  refine load2 hb (i := off + i * 3 + 2) (v := rv i) (by rw [show off + i * 3 = off + 3 * i by omega]; exact (hcell i hi).2.2) ?_
  have h2' : FInts w (fun k => (nd p i).row ≠ [] ∧ k = bs (2 * i + 1)) (rv i) (nd p i).row := by
    by_cases hne : (nd p i).row = []
    · obtain ⟨a', c', hv', hc', _⟩ := h2.out
      exact ⟨a', c', hv', hc', fun h => absurd hne h⟩
    · exact h2.mono fun _ _ e => ⟨hne, e⟩
  refine callV_of (markIntS_ok (k := m) h2' (by have := h3.2; omega)) rfl ?_
  rintro _ w' ⟨rfl, hc, hs, hx⟩
  refine hK w' (hc.mono fun k _ hk => ?_) hs ?_
  · have := hin.inB (2 * i + 1) (by omega) (by rw [slot_r]; exact hk.1)
    rw [hk.2]; exact this
  · refine FPlan.setRow hi rfl hcp hl hin (fun _ => ⟨b, off, cur, rfl, hB, hb, hsz, hcell⟩) hc (fun k hk => hk) (hx.mono fun _ _ hk => hk.2) (marks_length _ _)

theorem markNodeS_ok {w : World} {B : Nat → Prop} {v : Value} {p : List Nd} (h : FPlan w B v p) {k : Nat} (hk : k ≤ 1099511627776) :
    Calls Try.prog N.laws_markNodeS #[v, .int .i64 k] w (Ret fun r w' => r = .int .i64 (k + offP p p.length : Nat) ∧ Chg B w w' ∧ w'.heap.size = w.heap.size ∧ FPlan w' B v (markP p k)) := by
  refine ret_k fun R hR => c_laws_markNodeS _ _ _ _ ?_
  have hsm := h.plan.small
  have hsml : ∀ i, i < p.length → Sml (nd p i) := fun i hi => h.sml hi
  refine loopV (fun s w' => ∃ j : Nat, s = [.int .i64 (k + offP p j : Nat), .int .i64 j] ∧ j ≤ p.length ∧ Chg B w w' ∧ w'.heap.size = w.heap.size ∧ FPlan w' B v (mkTo p k j)) (upTo p.length 1)
    ⟨0, rfl, by omega, Chg.refl _ _, rfl, by rw [mkTo_zero]; exact h⟩ ?_
  rintro s z w1 K ⟨j, rfl, hj, C1, s1, h1⟩ hK
  have hlen : ∀ K, LenV v K = K (.int .i64 p.length) := fun K => by have := h1.plan.len (K := K); rw [mkTo_len] at this; exact this
  simp only [hlen, go_sem]
  refine ⟨fun hlt => ?_, fun hge => ?_⟩
  · have hj : j < p.length := by omega
    have hjl : j < (mkTo p k j).length := by rw [mkTo_len]; exact hj
    have hoff := offP_le (p := p) (j := j) fun i hi => hsml i (by omega)
    have hsj := hsml j hj
    have hn : nd (mkTo p k j) j = nd p j := by rw [mkTo_nd hj, if_neg (by omega)]
    refine h1.storeKind hjl fun w2 C2 s2 h2 => ?_
    refine bin_inc (by omega) ?_
    have hjl2 : j < ((mkTo p k j).set j ⟨((k + offP p j : Nat) : Int), (nd p j).frm, (nd p j).row⟩).length := by rw [List.length_set]; exact hjl
    rw [hn] at h2
    have hn2 : nd ((mkTo p k j).set j ⟨((k + offP p j : Nat) : Int), (nd p j).frm, (nd p j).row⟩) j = ⟨((k + offP p j : Nat) : Int), (nd p j).frm, (nd p j).row⟩ := by rw [nd_set hjl, if_pos rfl]
    refine h2.markFrm hjl2 (m := k + offP p j + 1) (by omega) fun w3 C3 s3 h3 => ?_
    rw [hn2, List.set_set] at h3
    rw [hn2]
    have hn3 : nd ((mkTo p k j).set j ⟨((k + offP p j : Nat) : Int), marks ((k + offP p j + 1 : Nat) : Int) (nd p j).frm.length, (nd p j).row⟩) j = ⟨((k + offP p j : Nat) : Int), marks ((k + offP p j + 1 : Nat) : Int) (nd p j).frm.length, (nd p j).row⟩ := by rw [nd_set hjl, if_pos rfl]
    have hf1 := hsj.1
    have hf2 := hsj.2
    refine h3.markRow (by rw [List.length_set]; exact hjl) (m := k + offP p j + 1 + (nd p j).frm.length) (by omega) fun w4 C4 s4 h4 => ?_
    rw [hn3, List.set_set] at h4
    rw [hn3]
    refine bin_inc (by omega) (hK _ _ ⟨j + 1, ?_, by omega, ((C1.andThen C2).andThen C3).andThen C4, by omega, ?_⟩ (by simp [upTo, nthV, iOf]; omega))
    · have : k + offP p j + 1 + (nd p j).frm.length + (nd p j).row.length = k + offP p (j + 1) := by simp only [offP, ndSize]; omega
      rw [this]
    · rw [← mkTo_next hj]; exact h4
  · have hj : j = p.length := by omega
    subst hj
    exact hR _ _ ⟨rfl, C1, s1, by rw [← mkTo_all]; exact h1⟩

end Go.Proofs.Ytblgkpfnjlobjaa
