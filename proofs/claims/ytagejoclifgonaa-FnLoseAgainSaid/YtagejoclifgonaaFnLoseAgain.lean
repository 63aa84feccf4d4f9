/-
What stays and what is done again are what was done: the law FnLoseAgain returns true at every seed, and writes nothing that was there.
No condition.
-/
import Derived.Test.YtagejoclifgonaaLosePre
import Derived.Test.YtagejoclifgonaaLose
import Derived.Test.YtagejoclifgonaaRename
import Derived.Test.YtagejoclifgonaaDrawLoseAgain
import Derived.Test.YtagejoclifgonaaCFnLoseAgain
namespace Go.Proofs.Ytagejoclifgonaa
open Go Go.V

theorem filter_at (q : Int → Bool) {ds : List Int} {k : Nat} (hk : k < ds.length) (h : q ds[k] = true) : ds.filter q = (ds.take k).filter q ++ ds[k] :: (ds.drop (k + 1)).filter q := by
  have e : ds = ds.take k ++ ds[k] :: ds.drop (k + 1) := by rw [← List.drop_eq_getElem_cons hk, List.take_append_drop]
  conv => lhs; rw [e]
  rw [List.filter_append, List.filter_cons_of_pos h]
theorem fnLoseAgain_ok {w : World} {v : Value} {bs : List Int} (hx : RowIn .u8 w v bs) : Calls Try.prog N.laws_FnLoseAgain #[v] w (Ret fun r w' => Ext w w' ∧ r = .bool true) := by
  refine ret_k fun R hR => c_laws_FnLoseAgain _ _ _ ?_
  refine lose_pre hx (fun w' h => hR _ _ ⟨h, rfl⟩) (drawLoseAgain hx) (fun p d => decide (LoseOk p d)) staysO (fun _ h => Nat.le_trans (staysO_len _ _ _) h) (fun hp hd hl h1 h2 => implLoseAgain_ok hp hd hl (by omega) (by omega)) (fun hp hd hl h1 h2 => specLoseAgain_ok hp hd hl (by omega) (by omega)) ?_
  intro t d l g w1 p ds ls hp hpl hd hl hg e1 hok hdl hll
  have hL : LoseOk p ds := by simpa using hok
  have h10 := hL.1.len
  have hal : loseO p ds ls = againL p ds ls := by unfold loseO; rw [if_pos hL]
  have hst : staysO p ds ls = stays p ds ls := by unfold staysO; rw [if_pos hL]
  have hlen : ∀ K, LenV t K = K (.int .i64 p.length) := fun K => hp.len
  have hdlen : ∀ K, LenV d K = K (.int .i64 ds.length) := fun K => ints_len hd
  rw [hst] at hg
  have hgl : ∀ K, LenV g K = K (.int .i64 (stays p ds ls).length) := fun K => ints_len hg
  have hzl : (stays p ds ls).length ≤ 11 := Nat.le_trans (List.length_filter_le _ _) hdl
  refine callV_of (implLoseRows_ok hp hd hl (by omega) (by omega)) rfl ?_
  rintro _ w2 ⟨u, rfl, E2, f2⟩
  rw [hal] at f2
  have hzu : (againL p ds ls).length ≤ 10 := Nat.le_trans sel_len h10
  have hul : ∀ K, LenV u K = K (.int .i64 (againL p ds ls).length) := fun K => ints_len f2.ints
  simp only [go_sem]
  refine loopV (fun s w' => ∃ k : Nat, s = [.int .i64 ((ds.take k).filter fun x => decide (x ∉ againL p ds ls)).length, .int .i64 k] ∧ k ≤ ds.length ∧ Ext w2 w') (upTo ds.length 1) ⟨0, rfl, by omega, Ext.refl _⟩ ?_
  rintro s z w3 K ⟨k, rfl, hk, E3⟩ hK
  have e3 := E2.trans E3
  have hfl : ((ds.take k).filter fun x => decide (x ∉ againL p ds ls)).length ≤ 11 := Nat.le_trans (List.length_filter_le _ _) (by rw [List.length_take]; omega)
  simp only [hdlen, go_sem]
  refine ⟨fun h => ?_, fun h => ?_⟩
  · have hk : k < ds.length := by omega
    refine Ints.loadI (hd.ext e3) hk ?_
    refine callV_of (hasInt_ok (f2.ints.ext E3) (by omega) _) rfl ?_
    rintro _ w4 ⟨E4, rfl⟩
    have e4 := E3.trans E4
    simp only [go_sem]
    refine ⟨fun hn => ?_, fun hy => ?_⟩
    · have hcat : stays p ds ls = ((ds.take k).filter fun x => decide (x ∉ againL p ds ls)) ++ ds[k] :: ((ds.drop (k + 1)).filter fun x => decide (x ∉ againL p ds ls)) := by
        exact filter_at (fun x => decide (x ∉ againL p ds ls)) hk (by simpa using hn)
      have hlt : ((ds.take k).filter fun x => decide (x ∉ againL p ds ls)).length < (stays p ds ls).length := by rw [hcat]; simp
      have hat : (stays p ds ls)[((ds.take k).filter fun x => decide (x ∉ againL p ds ls)).length] = ds[k] := by simp only [hcat]; simp
      refine draw_none fun w5 hs5 => ?_
      have e5 := E2.trans (e4.trans hs5.ext)
      simp only [hgl, go_sem]
      refine ⟨fun h => by omega, fun _ => ?_⟩
      refine Ints.loadS (hg.ext e5) hlt (fun _ => id) ?_
      refine Ints.loadS (hd.ext e5) hk (fun _ => id) ?_
      rw [hat]
      simp only [go_sem]
      refine ⟨fun h => absurd rfl h, fun _ => bin_inc (by omega) (bin_inc (by omega) (hK _ _ ⟨k + 1, ?_, by omega, e4.trans hs5.ext⟩ (by simp [upTo, nthV, iOf]; omega)))⟩
      rw [take_snoc hk, List.filter_append, List.filter_cons_of_pos (by simpa using hn)]; simp
    · refine bin_inc (by omega) (hK _ _ ⟨k + 1, ?_, by omega, e4⟩ (by simp [upTo, nthV, iOf]; omega))
      rw [take_snoc hk, List.filter_append, List.filter_cons_of_neg (by simpa using hy)]; simp
  · have hk : k = ds.length := by omega
    subst hk
    rw [List.take_length]
    have hsum := stays_len (p := p) (lost := ls) hL.2.nodup
    have hst2 : (ds.filter fun x => decide (x ∉ againL p ds ls)) = stays p ds ls := rfl
    rw [hst2]
    simp only [hgl, hul, go_sem]
    refine ⟨fun _ => ⟨fun _ => ?_, fun h => absurd trivial h⟩, fun h => absurd hL (by simpa using h)⟩
    refine bin_add ⟨by omega, by omega⟩ ?_
    have : ((stays p ds ls).length : Int) + ((againL p ds ls).length : Int) = (ds.length : Int) := by omega
    rw [this]
    simp only [go_sem]
    exact hR _ _ ⟨e1.trans e3, by simp⟩
end Go.Proofs.Ytagejoclifgonaa
