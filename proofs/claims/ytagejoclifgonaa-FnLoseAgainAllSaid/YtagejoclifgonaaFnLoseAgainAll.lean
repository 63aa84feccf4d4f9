/-
What is still to be done needs nothing that is done and lost: the law FnLoseAgainAll returns true at every seed, and writes nothing that was there.
No condition.
-/
import Derived.Test.YtagejoclifgonaaLosePre
import Derived.Test.YtagejoclifgonaaLose
import Derived.Test.YtagejoclifgonaaRename
import Derived.Test.YtagejoclifgonaaDrawLoseAgain
import Derived.Test.YtagejoclifgonaaCFnLoseAgainAll
namespace Go.Proofs.Ytagejoclifgonaa
open Go Go.V

theorem fnLoseAgainAll_ok {w : World} {v : Value} {bs : List Int} (hx : RowIn .u8 w v bs) : Calls Try.prog N.laws_FnLoseAgainAll #[v] w (Ret fun r w' => Ext w w' ∧ r = .bool true) := by
  refine ret_k fun R hR => c_laws_FnLoseAgainAll _ _ _ ?_
  refine lose_pre hx (fun w' h => hR _ _ ⟨h, rfl⟩) (drawLoseAgain hx) (fun p d => decide (LoseOk p d)) staysO (fun _ h => Nat.le_trans (staysO_len _ _ _) h) (fun hp hd hl h1 h2 => implLoseAgain_ok hp hd hl (by omega) (by omega)) (fun hp hd hl h1 h2 => specLoseAgain_ok hp hd hl (by omega) (by omega)) ?_
  intro t d l g w1 p ds ls hp hpl hd hl hg e1 hok hdl hll
  have hL : LoseOk p ds := by simpa using hok
  have h10 := hL.1.len
  have hal : loseO p ds ls = againL p ds ls := by unfold loseO; rw [if_pos hL]
  have hst : staysO p ds ls = stays p ds ls := by unfold staysO; rw [if_pos hL]
  have hlen : ∀ K, LenV t K = K (.int .i64 p.length) := fun K => hp.len
  have hdlen : ∀ K, LenV d K = K (.int .i64 ds.length) := fun K => ints_len hd
  rw [hst] at hg
  have hgl : ∀ K, LenV g K = K (.int .i64 (stays p ds ls).length) := fun K => ints_len hg
  have hzl : (stays p ds ls).length ≤ 11 := Nat.le_trans (List.length_filter_le _ _) hdl
  refine loopV (fun s w' => ∃ k : Nat, s = [.int .i64 k] ∧ k ≤ p.length ∧ Ext w1 w') (upTo p.length 0) ⟨0, rfl, by omega, Ext.refl _⟩ ?_
  rintro s z w2 K ⟨k, rfl, hk, E2⟩ hK
  simp only [hlen, go_sem]
  refine ⟨fun h => ?_, fun _ => hR _ _ ⟨e1.trans E2, rfl⟩⟩
  have hk : k < p.length := by omega
  refine callV_of (hasInt_ok (hg.ext E2) (by omega) _) rfl ?_
  rintro _ w3 ⟨E3, rfl⟩
  have e3 := E2.trans E3
  simp only [go_sem]
  refine ⟨fun _ => bin_inc (by omega) (hK _ _ ⟨k + 1, rfl, by omega, e3⟩ (by simp [upTo, nthV, iOf]; omega)), fun hns => ?_⟩
  have hfl := hL.1.fr_len k
  refine loopV (fun s w' => ∃ j : Nat, s = [.int .i64 j] ∧ j ≤ (fr p k).length ∧ Ext w3 w') (upTo (fr p k).length 0) ⟨0, rfl, by omega, Ext.refl _⟩ ?_
  rintro s z w4 K' ⟨j, rfl, hj, E4⟩ hK'
  have e4 := e3.trans E4
  refine (hp.ext e4).idx hk fun b' o fv rv h0 h1 h2 hfv hrv hsml => ?_
  rw [← fr_get hk] at hfv
  simp only [go_sem]
  refine load_cell h1 ?_
  rw [ints_len hfv]
  simp only [go_sem]
  refine ⟨fun h => ?_, fun _ => bin_inc (by omega) (hK _ _ ⟨k + 1, rfl, by omega, e4⟩ (by simp [upTo, nthV, iOf]; omega))⟩
  have hj : j < (fr p k).length := by omega
  refine (hp.ext e4).idx hk fun b' o fv rv h0 h1 h2 hfv hrv hsml => ?_
  rw [← fr_get hk] at hfv
  simp only [go_sem]
  refine load_cell h1 ?_
  refine Ints.loadI hfv hj ?_
  refine callV_of (hasInt_ok (hg.ext e4) (by omega) _) rfl ?_
  rintro _ w5 ⟨E5, rfl⟩
  have e5 := e4.trans E5
  simp only [go_sem]
  refine ⟨fun hfs => ?_, fun _ => bin_inc (by omega) (hK' _ _ ⟨j + 1, rfl, by omega, E4.trans E5⟩ (by simp [upTo, nthV, iOf]; omega))⟩
  refine callV_of (hasInt_ok (hl.ext e5) (by omega) _) rfl ?_
  rintro _ w6 ⟨E6, rfl⟩
  simp only [go_sem]
  refine ⟨fun hfl => ?_, fun _ => bin_inc (by omega) (hK' _ _ ⟨j + 1, rfl, by omega, (E4.trans E5).trans E6⟩ (by simp [upTo, nthV, iOf]; omega))⟩
  exfalso
  have hmem : (fr p k)[j] ∈ fr p k := List.getElem_mem hj
  have hflt := hL.1.fr_lt hmem
  obtain ⟨f, hfe⟩ : ∃ f : Nat, (fr p k)[j] = (f : Int) := ⟨((fr p k)[j]).toNat, by omega⟩
  rw [hfe] at hfs hfl hmem hflt
  have hfd := mem_stays.1 hfs
  have huse : (k : Int) ∈ usesL p f := mem_usesL_nat.2 ⟨hk, hmem⟩
  by_cases hkd : (k : Int) ∈ ds
  · have hka : (k : Int) ∈ againL p ds ls := Classical.byContradiction fun h => hns (mem_stays.2 ⟨hkd, h⟩)
    exact hfd.2 (mem_againL.2 ⟨f, by omega, .again hfd.1 hfl huse (mem_sel_nat.1 hka).2, rfl⟩)
  · exact hfd.2 (mem_againL.2 ⟨f, by omega, .undone hfd.1 hfl huse hkd, rfl⟩)
end Go.Proofs.Ytagejoclifgonaa
