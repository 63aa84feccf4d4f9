/-
Nodes may be missing: the law FnDequePart returns true at every pair of rows, and writes nothing that was there.
No condition.
-/
import Derived.Test.YtinpkcjfnljigaaDrawDeque
import Derived.Test.YtinpkcjfnljigaaDeqApi
import Derived.Test.YtinpkcjfnljigaaCFnDequePart
namespace Go.Proofs.Ytinpkcjfnljigaa
open Go Go.V

/-- Two slices are put one behind the other into a fresh one. -/
theorem copy2_draw {S : Nat → Prop} {w : World} {a a' : Option Addr} {n c n' c' : Nat} {xs ys : List Int} (h : Cells w a (ints xs)) (hn : n = xs.length) (h' : Cells w a' (ints ys)) (hn' : n' = ys.length)
    (hl : xs.length ≤ 1048576) (hl' : ys.length ≤ 1048576) (hS : ∀ k, w.heap.size ≤ k → S k) {K : Value → World → Prop}
    (hK : ∀ v w', Own w' w.heap.size T.int 1 v (xs ++ ys).length (ints (xs ++ ys)) → Ext w w' → K v w') :
    BSliceV T.int 1 0 #[.int .i64 0] [] w fun t w1 => Chg S w w1 ∧ AppendV Try.prog T.sl_int t (.slice a n c) w1 fun t' w2 => Chg S w1 w2 ∧ AppendV Try.prog T.sl_int t' (.slice a' n' c') w2 fun t'' w3 => Chg S w2 w3 ∧ K t'' w3 := by
  refine copy_draw h hn (by omega) (hS _ (Nat.le_refl _)) fun v w2 ho E2 => ?_
  subst hn'
  refine appendV_src sl_int el_int ho (h'.ext E2) (by simp [ints]) ints_one (by omega) (by omega) E2.size fun v' w3 ho' hc => ⟨?_, ?_⟩
  · exact hc.mono fun k hk hb => hS _ (Own.lt ho hb).1
  · refine hK v' w3 ?_ (chg_own E2 ho hc (Nat.le_refl _))
    have e : ints xs ++ ints ys = ints (xs ++ ys) := by simp [ints]
    rw [e] at ho'
    simpa using ho'

theorem fnDequePart_ok {w : World} {v u : Value} {bs cs : List Int} (hx : RowIn .u8 w v bs) (hu : RowIn .u8 w u cs) : Calls Try.prog N.laws_FnDequePart #[v, u] w (Ret fun r w' => Ext w w' ∧ r = .bool true) := by
  obtain ⟨a, c, hv, hc, _⟩ := hx.out
  obtain ⟨a1, c1, hv1, hc1, _⟩ := hu.out
  refine ret_k fun R hR => c_laws_FnDequePart _ _ _ _ ?_
  have e0 : LenV v = LenV (.slice a bs.length c) := by rw [hv]
  have e1 : LenV u = LenV (.slice a1 cs.length c1) := by rw [hv1]
  rw [e0, e1]
  simp only [go_sem]
  refine ⟨fun _ => hR _ _ ⟨Ext.refl _, rfl⟩, fun hlen => ⟨fun _ => hR _ _ ⟨Ext.refl _, rfl⟩, fun hlen1 => ?_⟩⟩
  refine callV_of (drawDequeValid_ok hx) rfl ?_
  rintro t20 w1 ⟨E1, xs, hs, f0⟩
  have hs1 := hs.1
  refine callV_of (implDequeValid_ok f0.ints (by omega)) rfl ?_
  rintro _ w2 ⟨E2, rfl⟩
  refine callV_of (specDequeValid_ok (f0.ext E2).ints (by omega)) rfl ?_
  rintro _ w3 ⟨E3, rfl⟩
  have e3 := (E1.trans E2).trans E3
  obtain ⟨a0, c0, rfl, hc0, I0⟩ := ((f0.ext E2).ext E3).ints.out
  simp only [go_sem]
  have fin : R (.bool (decide (DqOk xs) == decide (DqOk xs))) w3 := hR _ _ ⟨e3, by simp⟩
  refine ⟨fun h => by simp at h, fun _ => ⟨fun _ => fin, fun hd => ⟨fun _ => fin, fun hne => ?_⟩⟩⟩
  have hpos : 0 < xs.length := by omega
  refine rem_nat (by omega) fun k hk => ?_
  have hk : k < xs.length := by omega
  refine ⟨(w3.heap.size ≤ ·), fun w4 hs4 => ?_⟩
  have I4 := I0.ext hs4.ext
  refine sliceHi (by omega) (bin_inc (by omega) ?_)
  refine sliceLo (k := k + 1) (by omega) hc0 fun a' ha' => ?_
  refine copy2_draw (Cells.upto k I4) (by simp; omega) (Cells.from I4 ha') (by simp) (by simp; omega) (by simp; omega) (fun n hn => by show w3.heap.size ≤ n; have := hs4.size; omega) fun t54 w7 ho7 E7 => ?_
  refine ⟨(w7.heap.size ≤ ·), fun w8 hs8 => ?_⟩
  have I8 := (I4.ext E7).ext hs8.ext
  refine bin_inc (by omega) (sliceHi (by omega) ?_)
  refine sliceLo (k := k) (by omega) hc0 fun a'' ha'' => ?_
  refine copy2_draw (Cells.upto (k + 1) I8) (by simp; omega) (Cells.from I8 ha'') (by simp) (by simp; omega) (by simp; omega) (fun n hn => by show w7.heap.size ≤ n; have := hs8.size; omega) fun t64 w11 ho11 E11 => ?_
  have e11 := (((e3.trans hs4.ext).trans E7).trans hs8.ext).trans E11
  refine callV_of (implDequeValid_ok (Own.ints (Own.ext (Own.ext ho7 hs8.ext) E11)) (by simp; omega)) rfl ?_
  rintro _ w12 ⟨E12, rfl⟩
  have hd1 : DqOk (xs.take k ++ xs.drop (k + 1)) := by
    refine hd.sub ?_
    have : List.Sublist (xs.take k ++ xs.drop (k + 1)) (xs.take k ++ xs.drop k) := (List.Sublist.refl _).append (by rw [List.drop_eq_getElem_cons hk]; exact List.sublist_cons_self _ _)
    rwa [List.take_append_drop] at this
  have hd2 : ¬ DqOk (xs.take (k + 1) ++ xs.drop k) := fun h => by
    have := (List.nodup_append.1 h.2.2).2.2 xs[k] (by rw [List.take_succ_eq_append_getElem hk]; exact List.mem_append_right _ (List.mem_singleton.2 rfl)) xs[k] (by rw [List.drop_eq_getElem_cons hk]; exact List.mem_cons_self)
    exact this rfl
  simp only [go_sem]
  refine ⟨fun _ => ?_, fun h => absurd hd1 h⟩
  refine callV_of (implDequeValid_ok (Own.ints (Own.ext ho11 E12)) (by simp; omega)) rfl ?_
  rintro _ w13 ⟨E13, rfl⟩
  simp only [go_sem]
  exact hR _ _ ⟨(e11.trans E12).trans E13, by rw [decide_eq_false hd2]; rfl⟩
end Go.Proofs.Ytinpkcjfnljigaa
