/-
What nothing uses is done again when it is lost: the law FnLoseEnds returns true at every seed, and writes nothing that was there.
No condition.
-/
import Derived.Test.YtagejoclifgonaaLosePre
import Derived.Test.YtagejoclifgonaaLose
import Derived.Test.YtagejoclifgonaaRename
import Derived.Test.YtagejoclifgonaaDrawLoseRows
import Derived.Test.YtagejoclifgonaaEnds
import Derived.Test.YtagejoclifgonaaCFnLoseEnds
namespace Go.Proofs.Ytagejoclifgonaa
open Go Go.V

theorem fnLoseEnds_ok {w : World} {v : Value} {bs : List Int} (hx : RowIn .u8 w v bs) : Calls Try.prog N.laws_FnLoseEnds #[v] w (Ret fun r w' => Ext w w' ∧ r = .bool true) := by
  refine ret_k fun R hR => c_laws_FnLoseEnds _ _ _ ?_
  refine lose_pre hx (fun w' h => hR _ _ ⟨h, rfl⟩) (drawLoseRows hx) (fun p d => decide (LoseOk p d)) loseO (fun h _ => Nat.le_trans (loseO_len _ _ _) h) (fun hp hd hl h1 h2 => implLoseRows_ok hp hd hl (by omega) (by omega)) (fun hp hd hl h1 h2 => specLoseRows_ok hp hd hl (by omega) (by omega)) ?_
  intro t d l g w1 p ds ls hp hpl hd hl hg e1 hok hdl hll
  have hL : LoseOk p ds := by simpa using hok
  have h10 := hL.1.len
  have hal : loseO p ds ls = againL p ds ls := by unfold loseO; rw [if_pos hL]
  have hst : staysO p ds ls = stays p ds ls := by unfold staysO; rw [if_pos hL]
  have hlen : ∀ K, LenV t K = K (.int .i64 p.length) := fun K => hp.len
  have hdlen : ∀ K, LenV d K = K (.int .i64 ds.length) := fun K => ints_len hd
  rw [hal] at hg
  have hgl : ∀ K, LenV g K = K (.int .i64 (againL p ds ls).length) := fun K => ints_len hg
  have hzl : (againL p ds ls).length ≤ 10 := Nat.le_trans sel_len h10
  refine callV_of (planEnds_ok hp) rfl fun u w2 ⟨E2, f2⟩ => ?_
  have hel := endsO_len p
  have heo : endsO p = endsL p := by unfold endsO; rw [if_pos hL.1]
  rw [heo] at f2 hel
  have hul : ∀ K, LenV u K = K (.int .i64 (endsL p).length) := fun K => ints_len f2.ints
  refine loopV (fun s w' => ∃ k : Nat, s = [.int .i64 k] ∧ k ≤ (endsL p).length ∧ Ext w2 w') (upTo (endsL p).length 0) ⟨0, rfl, by omega, Ext.refl _⟩ ?_
  rintro s z w3 K ⟨k, rfl, hk, E3⟩ hK
  simp only [hul, go_sem]
  refine ⟨fun h => ?_, fun _ => hR _ _ ⟨(e1.trans E2).trans E3, rfl⟩⟩
  have hk : k < (endsL p).length := by omega
  obtain ⟨i, hi, hnone, he⟩ := mem_sel.1 (List.getElem_mem hk)
  have e3 := E2.trans E3
  refine Ints.loadI (f2.ints.ext E3) hk ?_
  refine callV_of (hasInt_ok (hd.ext e3) (by omega) _) rfl ?_
  rintro _ w4 ⟨E4, rfl⟩
  have e4 := E3.trans E4
  simp only [go_sem]
  refine ⟨fun hin => ?_, fun _ => bin_inc (by omega) (hK _ _ ⟨k + 1, rfl, by omega, e4⟩ (by simp [upTo, nthV, iOf]; omega))⟩
  refine Ints.loadI (f2.ints.ext e4) hk ?_
  refine callV_of (hasInt_ok (hl.ext (E2.trans e4)) (by omega) _) rfl ?_
  rintro _ w5 ⟨E5, rfl⟩
  have e5 := e4.trans E5
  simp only [go_sem]
  refine ⟨fun hil => ?_, fun _ => bin_inc (by omega) (hK _ _ ⟨k + 1, rfl, by omega, e5⟩ (by simp [upTo, nthV, iOf]; omega))⟩
  refine Ints.loadI (f2.ints.ext e5) hk ?_
  refine callV_of (hasInt_ok (hg.ext (E2.trans e5)) (by omega) _) rfl ?_
  rintro _ w6 ⟨E6, rfl⟩
  have hm : (endsL p)[k] ∈ againL p ds ls := by
    have he : (endsL p)[k] = (i : Int) := he
    rw [he] at hin hil ⊢
    exact mem_againL.2 ⟨i, hi, .ends hin hil hnone, rfl⟩
  simp only [go_sem]
  exact ⟨fun h => absurd hm h, fun _ => bin_inc (by omega) (hK _ _ ⟨k + 1, rfl, by omega, e5.trans E6⟩ (by simp [upTo, nthV, iOf]; omega))⟩
end Go.Proofs.Ytagejoclifgonaa
