/-
A folded node has its row: the law FnFold returns true at every seed, and writes nothing that was there.
No condition.
-/
import Derived.Test.YtblgkpfnjlobjaaFoldPre
import Derived.Test.YtblgkpfnjlobjaaCFnFold
namespace Go.Proofs.Ytblgkpfnjlobjaa
open Go Go.V

theorem fnFold_ok {w : World} {v : Value} {bs : List Int} (hx : RowIn .u8 w v bs) : Calls Try.prog N.laws_FnFold #[v] w (Ret fun r w' => Ext w w' ∧ r = .bool true) := by
  refine ret_k fun R hR => c_laws_FnFold _ _ _ ?_
  obtain ⟨va, vc, hv, hvc, _⟩ := hx.out
  have e0 : LenV v = LenV (.slice va bs.length vc) := by rw [hv]
  rw [e0]
  simp only [LenV_i, Bin_gtr, Split_d]
  refine ⟨fun _ => hR _ _ ⟨Ext.refl _, rfl⟩, fun _ => ?_⟩
  refine drawFoldNode hx fun t a w1 p lo hd => ?_
  have hp := hd.pl.plan
  have hpl := hd.len
  simp only [Ext_20, Ext_21]
  refine fold_eq (implFoldNode_ok hp a) (fun w2 E => specFoldNode_ok (hp.ext E) a) (fun w' E => hR _ _ ⟨hd.ext.trans E, rfl⟩) fun u w2 hK hu E2 => ?_
  have hok := hK.1
  have ha := hK.2 a (by simp)
  obtain ⟨i, rfl⟩ : ∃ i : Nat, a = (i : Int) := ⟨a.toNat, by omega⟩
  have hi : i < p.length := by omega
  have hfo : foldO p [(i : Int)] = p.set i ⟨0, [], val p i⟩ := by unfold foldO; rw [if_pos hK, foldP_one hi]
  have hfok : PlanOk (foldO p [(i : Int)]) := by unfold foldO; rw [if_pos hK]; exact foldP_ok hok _
  have hfl : (foldO p [(i : Int)]).length = p.length := by rw [hfo]; simp
  have hlen : ∀ K, LenV t K = K (.int .i64 p.length) := fun K => hp.len
  have hulen : ∀ K, LenV u K = K (.int .i64 p.length) := fun K => by rw [hu.len, hfl]
  refine callV_of (implValueOf_ok (hp.ext E2) hok hi) rfl ?_
  rintro _ w3 ⟨y, rfl, E3, hy⟩
  have e3 := E2.trans E3
  simp only [Ext_20, Ext_21]
  refine loopV (fun s w' => ∃ k : Nat, s = [.int .i64 k] ∧ k ≤ p.length ∧ Ext w3 w') (upTo p.length 0) ⟨0, rfl, by omega, Ext.refl _⟩ ?_
  rintro s z w4 K ⟨k, rfl, hk, E4⟩ hK'
  have e4 := e3.trans E4
  have hu4 := hu.ext (E3.trans E4)
  simp only [hlen, hulen, go_sem]
  refine ⟨fun h => ?_, fun _ => ?_⟩
  · have hk : k < p.length := by omega
    refine draw_none fun w5 hs5 => ?_
    have e5 := E4.trans hs5.ext
    refine ⟨fun hne => ?_, fun _ => bin_inc (by omega) (hK' _ _ ⟨k + 1, rfl, by omega, e5⟩ (by simp [upTo, nthV, iOf]; omega))⟩
    refine (hu.ext (E3.trans e5)).loadS (i := k) (by rw [hfl]; exact hk) (fun _ _ => id) fun x hxx => ?_
    refine (hp.ext (e3.trans e5)).loadS (i := k) hk (fun _ _ => id) fun x' hxx' => ?_
    refine callV_of (sameNode_ok hxx hxx') rfl ?_
    rintro _ w6 ⟨E6, rfl⟩
    refine ⟨E6, ?_⟩
    have hsame : (foldO p [(i : Int)])[k]'(by rw [hfl]; exact hk) = p[k] := by
      have hki : k ≠ i := fun e => hne (by rw [e])
      rw [← nd_get (by rw [hfl]; exact hk), ← nd_get hk, hfo, nd_set hi, if_neg hki]
    simp only [go_sem]
    exact ⟨fun h => absurd hsame h, fun _ => bin_inc (by omega) (hK' _ _ ⟨k + 1, rfl, by omega, e5.trans E6⟩ (by simp [upTo, nthV, iOf]; omega))⟩
  · refine callV_of (implPlanValid_ok hu4) rfl ?_
    rintro _ w5 ⟨E5, rfl⟩
    have e5 := e4.trans E5
    have hu5 := hu4.ext E5
    have hat : (foldO p [(i : Int)])[i]'(by rw [hfl]; exact hi) = ⟨0, [], val p i⟩ := by
      rw [← nd_get (by rw [hfl]; exact hi), hfo, nd_set hi, if_pos rfl]
    simp only [go_sem]
    refine ⟨fun _ => ⟨fun _ => ?_, fun h => (by cases h)⟩, fun h => absurd hfok h⟩
    refine hu5.idx (i := i) (by rw [hfl]; exact hi) fun b o fv rv c0 c1 c2 hf hr hs => ?_
    rw [hat] at c0
    simp only [go_sem]
    refine load_cell c0 ?_
    simp only [go_sem]
    refine ⟨fun _ => ?_, fun h => absurd trivial h⟩
    refine hu5.idx (i := i) (by rw [hfl]; exact hi) fun b o fv rv c0 c1 c2 hf hr hs => ?_
    rw [hat] at hr
    simp only [go_sem]
    refine load_cell c2 ?_
    have hw := (val_row hok hi).1.1
    refine callV_of (sameRow_ok hr (hy.ext (E4.trans E5)) (by show (val p i).length < _; omega)) rfl ?_
    rintro _ w6 ⟨E6, rfl⟩
    simp only [go_sem]
    refine ⟨fun _ => hR _ _ ⟨(hd.ext.trans e5).trans E6, by simp⟩, fun h => absurd trivial h⟩
end Go.Proofs.Ytblgkpfnjlobjaa
