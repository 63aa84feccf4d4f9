/-
The kept nodes are numbered in order: the law FnCutNumbers returns true at every seed, and writes nothing that was there.
No condition.
-/
import Derived.Test.YtokfjjjfecblgaaCutPre
import Derived.Test.YtokfjjjfecblgaaReady0
import Derived.Test.YtokfjjjfecblgaaCFnCutNumbers
namespace Go.Proofs.Ytokfjjjfecblgaa
open Go Go.V

theorem fnCutNumbers_ok {w : World} {v : Value} {bs : List Int} (hx : RowIn .u8 w v bs) : Calls Try.prog N.laws_FnCutNumbers #[v] w (Ret fun r w' => Ext w w' ∧ r = .bool true) := by
  refine ret_k fun R hR => c_laws_FnCutNumbers _ _ _ ?_
  refine cut_pre hx (fun w' h => hR _ _ ⟨h, rfl⟩) ?_
  intro t l g n w1 p ls hp h10 hl hll hK hg hn e1
  have hok := hK.1
  have hlen : ∀ K, LenV t K = K (.int .i64 p.length) := fun K => hp.len
  have hllen : ∀ K, LenV l K = K (.int .i64 ls.length) := fun K => ints_len hl
  have hglen : ∀ K, LenV g K = K (.int .i64 (subP p (Rch p ls) id).length) := fun K => hg.len
  have hkO : keepO p ls = sel p.length (Rch p ls) := by unfold keepO; rw [if_pos hK]; rfl
  refine callV_of (implCutKeep_ok hp hl (by omega)) rfl ?_
  rintro _ w2 ⟨kv, rfl, E2, f2⟩
  rw [hkO] at f2
  generalize Rch p ls = c at *
  have hkl := @sel_len p.length c
  simp only [go_sem]
  refine loopV (fun s w' => ∃ k : Nat, s = [.int .i64 (rank c k), .int .i64 k] ∧ k ≤ p.length ∧ Ext w2 w') (upTo p.length 1) ⟨0, rfl, by omega, Ext.refl _⟩ ?_
  rintro s z w3 K ⟨k, rfl, hk, E3⟩ hK'
  have hrk := @rank_le c k
  simp only [hlen, go_sem]
  refine ⟨fun h => ?_, fun h => ?_⟩
  · have hk : k < p.length := by omega
    refine callV_of (hasInt_ok (f2.ints.ext E3) (by omega) _) rfl ?_
    rintro _ w4 ⟨E4, rfl⟩
    have e4 := E3.trans E4
    have hcl : k < (cutTo c p.length).length := by rw [cutTo_len]; exact hk
    have hat : (cutTo c p.length)[k]'hcl = (cutTo c p.length).getD k 0 := by rw [List.getD_eq_getElem?_getD, List.getElem?_eq_getElem hcl]; rfl
    simp only [go_sem]
    refine ⟨fun hin => ?_, fun hno => ?_⟩
    · have hc : c k := (mem_sel_nat.1 hin).2
      refine Ints.loadI (hn.ext (E2.trans e4)) hcl ?_
      rw [hat, cutTo_yes hk hc]
      simp only [go_sem]
      refine ⟨fun h => absurd rfl h, fun _ => bin_inc (by omega) (bin_inc (by omega) (hK' _ _ ⟨k + 1, by rw [rank_yes hc], by omega, e4⟩ (by simp [upTo, nthV, iOf]; omega)))⟩
    · have hc : ¬ c k := fun h => hno (mem_sel_nat.2 ⟨hk, h⟩)
      refine Ints.loadI (hn.ext (E2.trans e4)) hcl ?_
      rw [hat, cutTo_no hk hc]
      simp only [go_sem]
      refine ⟨fun h => absurd rfl h, fun _ => bin_inc (by omega) (hK' _ _ ⟨k + 1, by rw [rank_no hc], by omega, e4⟩ (by simp [upTo, nthV, iOf]; omega))⟩
  · have hk : k = p.length := by omega
    subst hk
    have hs : ((subP p c id).length : Int) = (rank c p.length : Nat) := by rw [subP_len]
    simp only [hglen, hs, go_sem]
    exact ⟨fun _ => hR _ _ ⟨(e1.trans E2).trans E3, by simp⟩, fun h => absurd hK (by simpa using h)⟩
end Go.Proofs.Ytokfjjjfecblgaa
