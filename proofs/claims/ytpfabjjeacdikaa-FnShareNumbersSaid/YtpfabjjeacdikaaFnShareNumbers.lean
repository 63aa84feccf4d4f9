/-
Two nodes have the same number exactly where the same is the first of both: the law FnShareNumbers returns true at every seed, and writes nothing that was there.
No condition.
-/
import Derived.Test.YtpfabjjeacdikaaSharePre
import Derived.Test.YtpfabjjeacdikaaCFnShareNumbers
namespace Go.Proofs.Ytpfabjjeacdikaa
open Go Go.V

theorem fnShareNumbers_ok {w : World} {v : Value} {bs : List Int} (hx : RowIn .u8 w v bs) : Calls Try.prog N.laws_FnShareNumbers #[v] w (Ret fun r w' => Ext w w' ∧ r = .bool true) := by
  refine ret_k fun R hR => c_laws_FnShareNumbers _ _ _ ?_
  refine share_pre hx (fun w' h => hR _ _ ⟨h, rfl⟩) ?_
  intro t g n w1 p hp hok hq hn e1
  have hg := hq.plan
  have h10 := hok.len
  have hfi := firstO_is hok
  have hlen : ∀ K, LenV t K = K (.int .i64 p.length) := fun K => hp.len
  have hglen : ∀ K, LenV g K = K (.int .i64 (shareP p (firstO p)).length) := fun K => hg.len
  have hnlen : ∀ K, LenV n K = K (.int .i64 p.length) := fun K => by rw [ints_len hn, shareTo_len]
  refine callV_of (implShareFirst_ok hp) rfl fun u w2 ⟨E2, f2⟩ => ?_
  have hfl := hfi.len
  generalize hfs : firstO p = fs at *
  have hget : ∀ {i : Nat} (hi : i < p.length), fs[i]'(by rw [hfl]; exact hi) = fs.getD i 0 := fun {i} hi => by rw [List.getD_eq_getElem?_getD, List.getElem?_eq_getElem (by rw [hfl]; exact hi)]; rfl
  refine loopV (fun s w' => ∃ k : Nat, s = [.int .i64 k] ∧ k ≤ p.length ∧ Ext w2 w') (upTo p.length 0) ⟨0, rfl, by omega, Ext.refl _⟩ ?_
  rintro s z w3 K ⟨k, rfl, hk, E3⟩ hK
  simp only [hlen, go_sem]
  refine ⟨fun h => ?_, fun _ => hR _ _ ⟨(e1.trans E2).trans E3, rfl⟩⟩
  have hk : k < p.length := by omega
  refine loopV (fun s w' => ∃ j : Nat, s = [.int .i64 j] ∧ j ≤ k ∧ Ext w2 w') (upTo k 0) ⟨0, rfl, by omega, E3⟩ ?_
  rintro s z w4 K' ⟨j, rfl, hj, E4⟩ hK'
  simp only [go_sem]
  refine ⟨fun h => ?_, fun _ => bin_inc (by omega) (hK _ _ ⟨k + 1, rfl, by omega, E4⟩ (by simp [upTo, nthV, iOf]; omega))⟩
  have hj : j < k := by omega
  refine draw_none fun w5 hs5 => ?_
  have e5 := E4.trans hs5.ext
  refine Ints.loadS (hn.ext (E2.trans e5)) (q := k) (by rw [shareTo_len]; exact hk) (fun _ => id) ?_
  refine Ints.loadS (hn.ext (E2.trans e5)) (q := j) (by rw [shareTo_len]; omega) (fun _ => id) ?_
  rw [shareTo_at hk, shareTo_at (by omega)]
  simp only [go_sem]
  refine Ints.loadS (f2.ints.ext e5) (q := k) (by omega) (fun _ => id) ?_
  refine Ints.loadS (f2.ints.ext e5) (q := j) (by omega) (fun _ => id) ?_
  rw [hget hk, hget (by omega)]
  simp only [go_sem]
  have hiff := shareTo_iff hfi hk (show j < p.length by omega)
  generalize rank (rep fs) (fst fs k) = a1 at hiff ⊢
  generalize rank (rep fs) (fst fs j) = a2 at hiff ⊢
  generalize fs.getD k 0 = b1 at hiff ⊢
  generalize fs.getD j 0 = b2 at hiff ⊢
  have hiff : ((a1 : Int) = (a2 : Int)) ↔ b1 = b2 := ⟨fun h => hiff.1 (by omega), fun h => by have := hiff.2 h; omega⟩
  refine ⟨fun h => ?_, fun _ => bin_inc (by omega) (hK' _ _ ⟨j + 1, rfl, by omega, e5⟩ (by simp [upTo, nthV, iOf]; omega))⟩
  exact absurd hiff (by simpa using h)
end Go.Proofs.Ytpfabjjeacdikaa
