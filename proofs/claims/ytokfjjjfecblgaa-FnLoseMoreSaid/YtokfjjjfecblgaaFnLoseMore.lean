/-
What more is lost costs no less: the law FnLoseMore returns true at every seed, and writes nothing that was there.
No condition.
-/
import Derived.Test.YtokfjjjfecblgaaLosePre
import Derived.Test.YtokfjjjfecblgaaLose
import Derived.Test.YtokfjjjfecblgaaRename
import Derived.Test.YtokfjjjfecblgaaDrawLoseRows
import Derived.Test.YtokfjjjfecblgaaCFnLoseMore
namespace Go.Proofs.Ytokfjjjfecblgaa
open Go Go.V

theorem fnLoseMore_ok {w : World} {v : Value} {bs : List Int} (hx : RowIn .u8 w v bs) : Calls Try.prog N.laws_FnLoseMore #[v] w (Ret fun r w' => Ext w w' ∧ r = .bool true) := by
  refine ret_k fun R hR => c_laws_FnLoseMore _ _ _ ?_
  refine lose_pre hx (fun w' h => hR _ _ ⟨h, rfl⟩) (drawLoseRows hx) (fun p d => decide (LoseOk p d)) loseO (fun h _ => Nat.le_trans (loseO_len _ _ _) h) (fun hp hd hl h1 h2 => implLoseRows_ok hp hd hl (by omega) (by omega)) (fun hp hd hl h1 h2 => specLoseRows_ok hp hd hl (by omega) (by omega)) ?_
  intro t d l g w1 p ds ls hp hpl hd hl hg e1 hok hdl hll
  have hL : LoseOk p ds := by simpa using hok
  have h10 := hL.1.len
  have hal : loseO p ds ls = againL p ds ls := by unfold loseO; rw [if_pos hL]
  have hst : staysO p ds ls = stays p ds ls := by unfold staysO; rw [if_pos hL]
  have hlen : ∀ K, LenV t K = K (.int .i64 p.length) := fun K => hp.len
  have hdlen : ∀ K, LenV d K = K (.int .i64 ds.length) := fun K => ints_len hd
  rw [hal] at hg
  have hgl : ∀ K, LenV g K = K (.int .i64 (againL p ds ls).length) := fun K => ints_len hg
  have hzl : (againL p ds ls).length ≤ 10 := Nat.le_trans sel_len h10
  refine ⟨_, rfl, fun w2 hn2 => ?_⟩
  have e2 := e1.trans hn2.ext
  refine loopV (fun s w' => ∃ (k : Nat) (u : Value), s = [u, .int .i64 k] ∧ k ≤ p.length ∧ Ext w1 w' ∧ Own w' w1.heap.size T.int 1 u (sel k fun _ => True).length (ints (sel k fun _ => True))) (upTo p.length 1)
    ⟨0, _, rfl, by omega, hn2.ext, Own.empty hn2 (Nat.le_refl _)⟩ ?_
  rintro s z w3 K ⟨k, u, rfl, hk, E3, ho⟩ hK
  have hsl := @sel_len k fun _ => True
  simp only [hlen, go_sem]
  refine ⟨fun h => ?_, fun h => ?_⟩
  · refine app1_int sl_int el_int ho (by omega) E3.size fun v' w4 ho4 C4 => ?_
    refine bin_inc (by omega) (hK _ _ ⟨k + 1, v', rfl, by omega, chg_own E3 ho C4 (Nat.le_refl _), ?_⟩ (by simp [upTo, nthV, iOf]; omega))
    rw [sel_yes trivial]; simpa using ho4
  · have hk : k = p.length := by omega
    subst hk
    refine callV_of (implLoseRows_ok (hp.ext E3) (hd.ext E3) (Own.ints ho) (by omega) (by omega)) rfl ?_
    rintro _ w4 ⟨g4, rfl, E4, f4⟩
    have e4 := E3.trans E4
    have hz4 := loseO_len p ds (sel p.length fun _ => True)
    have h4 : loseO p ds (sel p.length fun _ => True) = againL p ds (sel p.length fun _ => True) := by unfold loseO; rw [if_pos hL]
    rw [h4] at f4 hz4
    simp only [hgl, go_sem]
    refine loopV (fun s w' => ∃ k : Nat, s = [.int .i64 k] ∧ k ≤ (againL p ds ls).length ∧ Ext w4 w') (upTo (againL p ds ls).length 0) ⟨0, rfl, by omega, Ext.refl _⟩ ?_
    rintro s z w5 K ⟨k, rfl, hk, E5⟩ hK
    simp only [go_sem]
    refine ⟨fun h => ?_, fun _ => hR _ _ ⟨(e1.trans e4).trans E5, by simp [hL]⟩⟩
    have hk : k < (againL p ds ls).length := by omega
    refine Ints.loadI (hg.ext (e4.trans E5)) hk ?_
    refine callV_of (hasInt_ok (f4.ints.ext E5) (by omega) _) rfl ?_
    rintro _ w6 ⟨E6, rfl⟩
    have hm : (againL p ds ls)[k] ∈ againL p ds (sel p.length fun _ => True) := by
      obtain ⟨i, hi, ha, he⟩ := mem_againL.1 (List.getElem_mem hk)
      rw [he]
      refine mem_againL.2 ⟨i, hi, ha.more fun x hx => ?_, rfl⟩
      by_cases hxd : x ∈ ds
      · obtain ⟨j, hj, rfl⟩ := List.mem_iff_getElem.1 hxd
        have := (hL.2 j hj).1
        exact .inl (mem_sel.2 ⟨(ds[j]).toNat, by omega, trivial, by omega⟩)
      · exact .inr hxd
    simp only [go_sem]
    exact ⟨fun h => absurd hm h, fun _ => bin_inc (by omega) (hK _ _ ⟨k + 1, rfl, by omega, E5.trans E6⟩ (by simp [upTo, nthV, iOf]; omega))⟩
end Go.Proofs.Ytokfjjjfecblgaa
