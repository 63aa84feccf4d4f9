/-
Only what was done and lost is done again: the law FnLoseRows returns true at every seed, and writes nothing that was there.
No condition.
-/
import Derived.Test.YtokfjjjfecblgaaLosePre
import Derived.Test.YtokfjjjfecblgaaLose
import Derived.Test.YtokfjjjfecblgaaRename
import Derived.Test.YtokfjjjfecblgaaDrawLoseRows
import Derived.Test.YtokfjjjfecblgaaCFnLoseRows
namespace Go.Proofs.Ytokfjjjfecblgaa
open Go Go.V

theorem fnLoseRows_ok {w : World} {v : Value} {bs : List Int} (hx : RowIn .u8 w v bs) : Calls Try.prog N.laws_FnLoseRows #[v] w (Ret fun r w' => Ext w w' ∧ r = .bool true) := by
  refine ret_k fun R hR => c_laws_FnLoseRows _ _ _ ?_
  refine lose_pre hx (fun w' h => hR _ _ ⟨h, rfl⟩) (drawLoseRows hx) (fun p d => decide (LoseOk p d)) loseO (fun h _ => Nat.le_trans (loseO_len _ _ _) h) (fun hp hd hl h1 h2 => implLoseRows_ok hp hd hl (by omega) (by omega)) (fun hp hd hl h1 h2 => specLoseRows_ok hp hd hl (by omega) (by omega)) ?_
  intro t d l g w1 p ds ls hp hpl hd hl hg e1 hok hdl hll
  have hL : LoseOk p ds := by simpa using hok
  have h10 := hL.1.len
  have hal : loseO p ds ls = againL p ds ls := by unfold loseO; rw [if_pos hL]
  have hst : staysO p ds ls = stays p ds ls := by unfold staysO; rw [if_pos hL]
  have hlen : ∀ K, LenV t K = K (.int .i64 p.length) := fun K => hp.len
  have hdlen : ∀ K, LenV d K = K (.int .i64 ds.length) := fun K => ints_len hd
  rw [hal] at hg
  have hgl : ∀ K, LenV g K = K (.int .i64 (againL p ds ls).length) := fun K => ints_len hg
  have hzl : (againL p ds ls).length ≤ 10 := Nat.le_trans sel_len h10
  simp only [hgl, go_sem]
  refine loopV (fun s w' => ∃ k : Nat, s = [.int .i64 k] ∧ k ≤ (againL p ds ls).length ∧ Ext w1 w') (upTo (againL p ds ls).length 0) ⟨0, rfl, by omega, Ext.refl _⟩ ?_
  rintro s z w2 K ⟨k, rfl, hk, E2⟩ hK
  simp only [go_sem]
  refine ⟨fun h => ?_, fun _ => hR _ _ ⟨e1.trans E2, rfl⟩⟩
  have hk : k < (againL p ds ls).length := by omega
  have hm := againL_mem (List.getElem_mem hk)
  refine draw_none fun w3 hs3 => ?_
  have e3 := E2.trans hs3.ext
  try simp only [go_sem]
  refine Ints.loadS (hg.ext e3) hk (fun _ => id) ?_
  refine callV_of (hasInt_ok (hd.ext e3) (by omega) _) rfl ?_
  rintro _ w4 ⟨E4, rfl⟩
  refine ⟨E4, ?_⟩
  have e4 := e3.trans E4
  simp only [go_sem]
  refine ⟨fun h => absurd hm.1 h, fun _ => ?_⟩
  refine Ints.loadS (hg.ext e4) hk (fun _ => id) ?_
  refine callV_of (hasInt_ok (hl.ext e4) (by omega) _) rfl ?_
  rintro _ w5 ⟨E5, rfl⟩
  refine ⟨E5, ?_⟩
  have e5 := e4.trans E5
  simp only [go_sem]
  refine ⟨fun h => absurd hm.2 h, fun _ => ⟨fun hpos => ?_, fun _ => bin_inc (by omega) (hK _ _ ⟨k + 1, rfl, by omega, e5⟩ (by simp [upTo, nthV, iOf]; omega))⟩⟩
  obtain ⟨j, rfl⟩ : ∃ j, k = j + 1 := ⟨k - 1, by omega⟩
  refine bin_sub ⟨by omega, by omega⟩ ?_
  rw [show ((j + 1 : Nat) : Int) - 1 = (j : Int) by omega]
  refine Ints.loadS (hg.ext e5) (q := j) (by omega) (fun _ => id) ?_
  refine Ints.loadS (hg.ext e5) hk (fun _ => id) ?_
  have hlt : (againL p ds ls)[j] < (againL p ds ls)[j + 1] := List.pairwise_iff_getElem.1 (show (againL p ds ls).Pairwise (· < ·) from sel_sorted) j (j + 1) (by omega) hk (by omega)
  simp only [go_sem]
  exact ⟨fun h => by omega, fun _ => bin_inc (by omega) (hK _ _ ⟨j + 1 + 1, rfl, by omega, e5⟩ (by simp [upTo, nthV, iOf]; omega))⟩
end Go.Proofs.Ytokfjjjfecblgaa
