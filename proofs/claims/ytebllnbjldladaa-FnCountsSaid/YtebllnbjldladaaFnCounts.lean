/-
A count is how many others a node needs: the law FnCounts returns true at every seed, and writes nothing that was there.
No condition.
-/
import Derived.Test.YtebllnbjldladaaDrawC
import Derived.Test.YtebllnbjldladaaSame
import Derived.Test.YtebllnbjldladaaCFnCounts
namespace Go.Proofs.Ytebllnbjldladaa
open Go Go.V

theorem fnCounts_ok {w : World} {v : Value} {bs : List Int} (hx : RowIn .u8 w v bs) : Calls Try.prog N.laws_FnCounts #[v] w (Ret fun r w' => Ext w w' ∧ r = .bool true) := by
  obtain ⟨a, c, hv, hc, _⟩ := hx.out
  refine ret_k fun R hR => c_laws_FnCounts _ _ _ ?_
  have e0 : LenV v = LenV (.slice a bs.length c) := by rw [hv]
  rw [e0]
  simp only [go_sem]
  refine ⟨fun _ => hR _ _ ⟨Ext.refl _, rfl⟩, fun hlen => ?_⟩
  refine callV_of (drawCountsOf_ok hx) rfl fun t w1 ⟨p, lo, hd⟩ => ?_
  have hp := hd.pl.plan
  have hl := hd.len
  have hz := cntO_len (p := p)
  refine callV_of (implCountsOf_ok hp) rfl fun g w2 ⟨E2, f2⟩ => ?_
  refine callV_of (specCountsOf_ok (hp.ext E2)) rfl fun s w3 ⟨E3, f3⟩ => ?_
  refine callV_of (sameRow_ok (f2.ext E3).ints f3.ints (by omega)) rfl fun t4 w4 ⟨E4, h4⟩ => ?_
  subst h4
  have e4 := ((hd.ext.trans E2).trans E3).trans E4
  have E24 := (E2.trans E3).trans E4
  simp only [go_sem]
  refine ⟨fun h => by simp at h, fun _ => ?_⟩
  have hs := (f3.ext E4).ints
  rw [ints_len hs]
  simp only [go_sem]
  refine ⟨fun _ => ?_, fun hne => ?_⟩
  · refine callV_of (sameRow_ok ((f2.ext E3).ext E4).ints hs (by omega)) rfl fun t5 w5 ⟨E5, h5⟩ => ?_
    subst h5
    exact hR _ _ ⟨e4.trans E5, by simp⟩
  · have hok : PlanOk p := Classical.byContradiction fun h => by rw [if_neg h] at hne; simp at hne
    rw [if_pos hok] at f2
    have hp4 := hp.ext E24
    have hlen' : ∀ K, LenV t K = K (.int .i64 p.length) := fun K => hp4.len
    simp only [hlen', go_sem]
    obtain ⟨ga, gc, rfl, hgc, hg⟩ := ((f2.ext E3).ext E4).ints.out
    refine loopV (fun s w' => ∃ k : Nat, s = [.int .i64 k] ∧ k ≤ p.length ∧ Ext w4 w') (upTo p.length 0) ⟨0, rfl, by omega, Ext.refl _⟩ ?_
    rintro s z w5 K ⟨k, rfl, hk, E5⟩ hK
    simp only [go_sem]
    refine ⟨fun h => ?_, fun h => ?_⟩
    · have hk : k < p.length := by omega
      refine loopV (fun s w' => ∃ j : Nat, s = [.int .i64 (sel j fun i => (i : Int) ∈ fr p k).length, .int .i64 j] ∧ j ≤ k ∧ Ext w5 w') (upTo k 1) ⟨0, rfl, by omega, Ext.refl _⟩ ?_
      rintro s z w6 K' ⟨j, rfl, hj, E6⟩ hK'
      have hsl := @sel_len j fun i => (i : Int) ∈ fr p k
      simp only [go_sem]
      refine ⟨fun h => ?_, fun h => ?_⟩
      · refine (hp4.ext (E5.trans E6)).idx hk fun b o fv rv h0 h1 h2 hf hr hs => ?_
        simp only [go_sem]
        refine load_cell h1 ?_
        refine callV_of (hasInt_ok hf (by have := hs.1; omega) _) rfl ?_
        rintro _ w7 ⟨E7, rfl⟩
        rw [← fr_get hk]
        simp only [go_sem]
        refine ⟨fun hm => ?_, fun hm => ?_⟩
        · refine bin_inc (by omega) (bin_inc (by omega) (hK' _ _ ⟨j + 1, by rw [sel_yes hm]; simp, by omega, E6.trans E7⟩ (by simp [upTo, nthV, iOf]; omega)))
        · refine bin_inc (by omega) (hK' _ _ ⟨j + 1, by rw [sel_no hm], by omega, E6.trans E7⟩ (by simp [upTo, nthV, iOf]; omega))
      · have hj : j = k := by omega
        subst hj
        refine idxLoad (hg.ext (E5.trans E6)) rfl (k := j) (by rw [cntL_len]; exact hk) ?_
        rw [cntL_get]
        have : cnt p j = (sel j fun i => (i : Int) ∈ fr p j).length := by
          have key : ∀ n, j ≤ n → sel n (fun i => (i : Int) ∈ fr p j) = sel j fun i => (i : Int) ∈ fr p j := by
            intro n
            induction n with
            | zero => intro h; have : j = 0 := by omega
                      subst this; rfl
            | succ n ih =>
              intro h
              by_cases e : j = n + 1
              · subst e; rfl
              · rw [sel_no fun hm => by have := hok.fr_lt hm; omega]; exact ih (by omega)
          unfold cnt; rw [key _ (by omega)]
        rw [this]
        simp only [go_sem]
        refine ⟨fun h => absurd rfl h, fun _ => ?_⟩
        exact bin_inc (by omega) (hK _ _ ⟨j + 1, rfl, by omega, E5.trans E6⟩ (by simp [upTo, nthV, iOf]; omega))
    · refine hR _ _ ⟨e4.trans E5, ?_⟩
      rw [cntL_len]; simp
end Go.Proofs.Ytebllnbjldladaa
