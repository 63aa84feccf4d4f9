/- How many nodes need not be done: the reference's way. -/
import Derived.Test.YtpfabjjeacdikaaSaved0
namespace Go.Proofs.Ytpfabjjeacdikaa
open Go Go.V

theorem specShareSaved_ok {w : World} {v : Value} {p : List Nd} (hp : PlanV w v p) : Calls Try.prog N.spec_ShareSaved #[v] w (Ret fun r w' => Ext w w' ∧ r = .int .i64 (savedO p)) := by
  refine ret_k fun R hR => c_spec_ShareSaved _ _ _ ?_
  have hlen : ∀ K, LenV v K = K (.int .i64 p.length) := fun K => hp.len
  refine callV_of (specPlanValid_ok hp) rfl ?_
  rintro _ w1 ⟨E1, rfl⟩
  simp only [go_sem]
  refine ⟨fun h => hR _ _ ⟨E1, by unfold savedO; rw [if_neg h]⟩, fun hok => ?_⟩
  have h10 := hok.len
  refine callV_of (l22First_ok (hp.ext E1) hok) rfl fun u w2 ⟨E2, f2⟩ => ?_
  have e2 := E1.trans E2
  have hfi := firstO_is hok
  have hsO : (shareO p).length = rank (rep (firstO p)) p.length := by unfold shareO; rw [if_pos hok]; unfold shareP; rw [subP_len]
  have hsv : savedO p = (p.length : Int) - (rank (rep (firstO p)) p.length : Nat) := by unfold savedO; rw [if_pos hok, hsO]
  rw [hsv] at hR
  generalize firstO p = fs at hR f2 hfi
  have hfl := hfi.len
  refine loopV (fun s w' => ∃ k : Nat, s = [.int .i64 ((k : Int) - (rank (rep fs) k : Nat)), .int .i64 k] ∧ k ≤ p.length ∧ Ext w2 w') (upTo p.length 1) ⟨0, by simp [rank, sel], by omega, Ext.refl _⟩ ?_
  rintro s z w3 K ⟨k, rfl, hk, E3⟩ hK
  have hr := @rank_le (rep fs) k
  simp only [hlen, go_sem]
  refine ⟨fun h => ?_, fun h => ?_⟩
  · have hk : k < p.length := by omega
    refine Ints.loadI (f2.ints.ext E3) (q := k) (by omega) ?_
    rw [first_at hfi hk]
    have hle := fst_lt hfi hk
    simp only [go_sem]
    refine ⟨fun hlt => ?_, fun hge => ?_⟩
    · have hnr : ¬ rep fs k := fun h => by rw [fst_of_rep h] at hlt; omega
      refine bin_add ⟨by omega, by omega⟩ (bin_inc (by omega) (hK _ _ ⟨k + 1, ?_, by omega, E3⟩ (by simp [upTo, nthV, iOf]; omega)))
      rw [rank_no hnr]
      have : (k : Int) - (rank (rep fs) k : Nat) + 1 = ((k + 1 : Nat) : Int) - (rank (rep fs) k : Nat) := by omega
      rw [this]
    · have hfe : fst fs k = k := by omega
      have hr' : rep fs k := by have := fst_rep hfi hk; rw [hfe] at this; exact this
      refine bin_inc (by omega) (hK _ _ ⟨k + 1, ?_, by omega, E3⟩ (by simp [upTo, nthV, iOf]; omega))
      rw [rank_yes hr']
      have : (k : Int) - (rank (rep fs) k : Nat) = ((k + 1 : Nat) : Int) - (rank (rep fs) k + 1 : Nat) := by omega
      rw [this]
  · have hk : k = p.length := by omega
    subst hk
    exact hR _ _ ⟨e2.trans E3, rfl⟩
end Go.Proofs.Ytpfabjjeacdikaa
