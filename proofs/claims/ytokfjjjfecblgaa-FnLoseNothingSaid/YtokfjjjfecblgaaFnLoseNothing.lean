/-
Where nothing is lost, or nothing done, nothing is done again: the law FnLoseNothing returns true at every seed, and writes nothing that was there.
No condition.
-/
import Derived.Test.YtokfjjjfecblgaaLosePre
import Derived.Test.YtokfjjjfecblgaaLose
import Derived.Test.YtokfjjjfecblgaaRename
import Derived.Test.YtokfjjjfecblgaaDrawLoseRows
import Derived.Test.YtokfjjjfecblgaaCFnLoseNothing
namespace Go.Proofs.Ytokfjjjfecblgaa
open Go Go.V

theorem fnLoseNothing_ok {w : World} {v : Value} {bs : List Int} (hx : RowIn .u8 w v bs) : Calls Try.prog N.laws_FnLoseNothing #[v] w (Ret fun r w' => Ext w w' ∧ r = .bool true) := by
  refine ret_k fun R hR => c_laws_FnLoseNothing _ _ _ ?_
  refine lose_pre hx (fun w' h => hR _ _ ⟨h, rfl⟩) (drawLoseRows hx) (fun p d => decide (LoseOk p d)) loseO (fun h _ => Nat.le_trans (loseO_len _ _ _) h) (fun hp hd hl h1 h2 => implLoseRows_ok hp hd hl (by omega) (by omega)) (fun hp hd hl h1 h2 => specLoseRows_ok hp hd hl (by omega) (by omega)) ?_
  intro t d l g w1 p ds ls hp hpl hd hl hg e1 hok hdl hll
  have hL : LoseOk p ds := by simpa using hok
  have h10 := hL.1.len
  have hal : loseO p ds ls = againL p ds ls := by unfold loseO; rw [if_pos hL]
  have hst : staysO p ds ls = stays p ds ls := by unfold staysO; rw [if_pos hL]
  have hlen : ∀ K, LenV t K = K (.int .i64 p.length) := fun K => hp.len
  have hdlen : ∀ K, LenV d K = K (.int .i64 ds.length) := fun K => ints_len hd
  rw [hal] at hg
  have hgl : ∀ K, LenV g K = K (.int .i64 (againL p ds ls).length) := fun K => ints_len hg
  have hzl : (againL p ds ls).length ≤ 10 := Nat.le_trans sel_len h10
  refine ⟨_, rfl, fun w2 hn2 => ?_⟩
  have e2 := e1.trans hn2.ext
  have hL0 : LoseOk p [] := ⟨hL.1, fun i hi => by simp at hi⟩
  refine callV_of (implLoseRows_ok (hp.ext hn2.ext) (hd.ext hn2.ext) (l := []) (FInts.nil (B := fun _ => True)).ints (by omega) (by simp)) rfl ?_
  rintro _ w3 ⟨g3, rfl, E3, f3⟩
  have e3 := hn2.ext.trans E3
  simp only [go_sem]
  refine ⟨_, rfl, fun w4 hn4 => ?_⟩
  have e4 := e3.trans hn4.ext
  refine callV_of (implLoseRows_ok (hp.ext e4) (d := []) (FInts.nil (B := fun _ => True)).ints (hl.ext e4) (by simp) (by omega)) rfl ?_
  rintro _ w5 ⟨g5, rfl, E5, f5⟩
  have z3 : loseO p ds [] = [] := by unfold loseO; rw [if_pos hL, again_nothing]
  have z5 : loseO p [] ls = [] := by unfold loseO; rw [if_pos hL0, again_undone]
  rw [z3] at f3
  rw [z5] at f5
  have l3 : ∀ K, LenV g3 K = K (.int .i64 0) := fun K => ints_len f3.ints
  have l5 : ∀ K, LenV g5 K = K (.int .i64 0) := fun K => ints_len f5.ints
  simp only [l3, l5, go_sem]
  exact ⟨fun _ => ⟨fun _ => ⟨fun _ => hR _ _ ⟨(e1.trans e4).trans E5, by simp⟩, fun h => absurd trivial h⟩, fun h => absurd hL0 h⟩, fun h => absurd hL h⟩
end Go.Proofs.Ytokfjjjfecblgaa
