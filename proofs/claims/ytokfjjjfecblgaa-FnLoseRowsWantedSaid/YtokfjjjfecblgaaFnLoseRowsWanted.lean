/-
What is done again is what is wanted: the law FnLoseRowsWanted returns true at every seed, and writes nothing that was there.
No condition.
-/
import Derived.Test.YtokfjjjfecblgaaLosePre
import Derived.Test.YtokfjjjfecblgaaLose
import Derived.Test.YtokfjjjfecblgaaRename
import Derived.Test.YtokfjjjfecblgaaDrawLoseRows
import Derived.Test.YtokfjjjfecblgaaCFnLoseRowsWanted
namespace Go.Proofs.Ytokfjjjfecblgaa
open Go Go.V

theorem fnLoseRowsWanted_ok {w : World} {v : Value} {bs : List Int} (hx : RowIn .u8 w v bs) : Calls Try.prog N.laws_FnLoseRowsWanted #[v] w (Ret fun r w' => Ext w w' ∧ r = .bool true) := by
  refine ret_k fun R hR => c_laws_FnLoseRowsWanted _ _ _ ?_
  refine lose_pre hx (fun w' h => hR _ _ ⟨h, rfl⟩) (drawLoseRows hx) (fun p d => decide (LoseOk p d)) loseO (fun h _ => Nat.le_trans (loseO_len _ _ _) h) (fun hp hd hl h1 h2 => implLoseRows_ok hp hd hl (by omega) (by omega)) (fun hp hd hl h1 h2 => specLoseRows_ok hp hd hl (by omega) (by omega)) ?_
  intro t d l g w1 p ds ls hp hpl hd hl hg e1 hok hdl hll
  have hL : LoseOk p ds := by simpa using hok
  have h10 := hL.1.len
  have hal : loseO p ds ls = againL p ds ls := by unfold loseO; rw [if_pos hL]
  have hst : staysO p ds ls = stays p ds ls := by unfold staysO; rw [if_pos hL]
  have hlen : ∀ K, LenV t K = K (.int .i64 p.length) := fun K => hp.len
  have hdlen : ∀ K, LenV d K = K (.int .i64 ds.length) := fun K => ints_len hd
  rw [hal] at hg
  have hgl : ∀ K, LenV g K = K (.int .i64 (againL p ds ls).length) := fun K => ints_len hg
  have hzl : (againL p ds ls).length ≤ 10 := Nat.le_trans sel_len h10
  refine loopV (fun s w' => ∃ k : Nat, s = [.int .i64 k] ∧ k ≤ p.length ∧ Ext w1 w') (upTo p.length 0) ⟨0, rfl, by omega, Ext.refl _⟩ ?_
  rintro s z w2 K ⟨k, rfl, hk, E2⟩ hK
  simp only [hlen, go_sem]
  refine ⟨fun h => ?_, fun _ => hR _ _ ⟨e1.trans E2, rfl⟩⟩
  have hk : k < p.length := by omega
  refine callV_of (planUses_ok (hp.ext E2) k) rfl fun us w3 ⟨E3, f3⟩ => ?_
  rw [if_pos hL.1] at f3
  have e3 := E2.trans E3
  have hul : (usesL p k).length ≤ 10 := Nat.le_trans sel_len h10
  have hus : ∀ K, LenV us K = K (.int .i64 (usesL p k).length) := fun K => ints_len f3.ints
  simp only [hus, go_sem]
  refine loopV (fun s w' => ∃ (j : Nat) (b : Bool), s = [.bool b, .int .i64 j] ∧ j ≤ (usesL p k).length ∧ Ext w3 w' ∧ (b = true ↔ usesL p k = [] ∨ ∃ x ∈ (usesL p k).take j, x ∉ ds ∨ x ∈ againL p ds ls)) (upTo (usesL p k).length 1)
    ⟨0, _, rfl, by omega, Ext.refl _, by simp [← List.length_eq_zero_iff]⟩ ?_
  rintro s z w4 K' ⟨j, b, rfl, hj, E4, hb⟩ hK'
  have e4 := e3.trans E4
  simp only [go_sem]
  refine ⟨fun h => ?_, fun h => ?_⟩
  · have hj : j < (usesL p k).length := by omega
    have step : ∀ {q : Prop}, (q ↔ (usesL p k)[j] ∉ ds ∨ (usesL p k)[j] ∈ againL p ds ls) → ((b = true ∨ q) ↔ usesL p k = [] ∨ ∃ x ∈ (usesL p k).take (j + 1), x ∉ ds ∨ x ∈ againL p ds ls) := fun {q} hq => by
      rw [hb, hq, take_snoc hj]
      constructor
      · rintro ((h | ⟨x, hx, h⟩) | h)
        · exact .inl h
        · exact .inr ⟨x, List.mem_append_left _ hx, h⟩
        · exact .inr ⟨_, List.mem_append_right _ (List.mem_singleton.2 rfl), h⟩
      · rintro (h | ⟨x, hx, h⟩)
        · exact .inl (.inl h)
        · rcases List.mem_append.1 hx with hx | hx
          · exact .inl (.inr ⟨x, hx, h⟩)
          · rw [List.mem_singleton.1 hx] at h; exact .inr h
    refine ⟨fun ht => bin_inc (by omega) (hK' _ _ ⟨j + 1, true, rfl, by omega, E4, ?_⟩ (by simp [upTo, nthV, iOf]; omega)), fun hf => ?_⟩
    · have := step (q := (usesL p k)[j] ∉ ds ∨ (usesL p k)[j] ∈ againL p ds ls) Iff.rfl
      rw [← this]; simp [ht]
    · refine Ints.loadI (f3.ints.ext E4) hj ?_
      refine callV_of (hasInt_ok (hd.ext e4) (by omega) _) rfl ?_
      rintro _ w5 ⟨E5, rfl⟩
      have e5 := E4.trans E5
      simp only [go_sem]
      refine ⟨fun hnd => bin_inc (by omega) (hK' _ _ ⟨j + 1, true, rfl, by omega, e5, ?_⟩ (by simp [upTo, nthV, iOf]; omega)), fun hin => ?_⟩
      · rw [← step (q := True) ⟨fun _ => .inl hnd, fun _ => trivial⟩]; simp
      · refine Ints.loadI (f3.ints.ext e5) hj ?_
        refine callV_of (hasInt_ok (hg.ext (e3.trans e5)) (by omega) _) rfl ?_
        rintro _ w6 ⟨E6, rfl⟩
        refine bin_inc (by omega) (hK' _ _ ⟨j + 1, _, rfl, by omega, e5.trans E6, ?_⟩ (by simp [upTo, nthV, iOf]; omega))
        rw [← step (q := (usesL p k)[j] ∈ againL p ds ls) ⟨fun h => .inr h, fun h => h.resolve_left fun h => h hin⟩, decide_eq_true_eq]
        exact ⟨fun h => .inr h, fun h => h.resolve_left (by simp [hf])⟩
  · rw [List.take_of_length_le (by omega)] at hb
    refine callV_of (hasInt_ok (hd.ext e4) (by omega) _) rfl ?_
    rintro _ w5 ⟨E5, rfl⟩
    have e5 := e4.trans E5
    simp only [go_sem]
    refine ⟨fun hkd => ?_, fun _ => bin_inc (by omega) (hK _ _ ⟨k + 1, rfl, by omega, e5⟩ (by simp [upTo, nthV, iOf]; omega))⟩
    refine callV_of (hasInt_ok (hl.ext e5) (by omega) _) rfl ?_
    rintro _ w6 ⟨E6, rfl⟩
    have e6 := e5.trans E6
    simp only [go_sem]
    refine ⟨fun hkl => ?_, fun _ => bin_inc (by omega) (hK _ _ ⟨k + 1, rfl, by omega, e6⟩ (by simp [upTo, nthV, iOf]; omega))⟩
    refine callV_of (hasInt_ok (hg.ext e6) (by omega) _) rfl ?_
    rintro _ w7 ⟨E7, rfl⟩
    have hbb : b = decide ((k : Int) ∈ againL p ds ls) := by
      rw [Bool.eq_iff_iff, decide_eq_true_eq, hb]
      have : (k : Int) ∈ againL p ds ls ↔ Again p ds ls k := by unfold againL; rw [mem_sel_nat]; exact ⟨fun h => h.2, fun h => ⟨hk, h⟩⟩
      rw [this, Again.iff]
      exact ⟨fun h => ⟨hkd, hkl, h⟩, fun h => h.2.2⟩
    subst hbb
    simp only [go_sem]
    exact ⟨fun h => by simp at h, fun _ => bin_inc (by omega) (hK _ _ ⟨k + 1, rfl, by omega, e6.trans E7⟩ (by simp [upTo, nthV, iOf]; omega))⟩
end Go.Proofs.Ytokfjjjfecblgaa
