/- Plans that are held against their marks. -/
import Derived.Test.YtblgkpfnjlobjaaExact
namespace Go.Proofs.Ytblgkpfnjlobjaa
open Go Go.V

theorem heldI {w : World} {v : Value} {n k : Nat} (hx : Ints w v (marks k n)) (hk : k + n ≤ 1152921504606846976) {K : Value → World → Prop} (hK : ∀ w', Ext w w' → K (.int .i64 (k + n : Nat)) w') : CallV Try.prog N.laws_heldIntS [v, .int .i64 k] w K :=
  callV_of (heldIntS_ok hx hk) rfl (by rintro _ w' ⟨rfl, E⟩; exact hK w' E)

theorem PlanV.plan {w : World} {v : Value} {p : List Nd} (h : PlanV w v p) : PlanV w v p := h
theorem heldNodeS_ok {w : World} {v : Value} {p : List Nd} {k : Nat} (h : PlanV w v (markP p k)) (hs : ∀ i, i < p.length → Sml (nd p i)) (hk : k ≤ 1099511627776) :
    Calls Try.prog N.laws_heldNodeS #[v, .int .i64 k] w (Ret fun r w' => r = .int .i64 (k + offP p p.length : Nat) ∧ Ext w w') := by
  refine ret_k fun R hR => c_laws_heldNodeS _ _ _ _ ?_
  have hsm := h.small
  rw [markP_len] at hsm
  have hlen : ∀ K, LenV v K = K (.int .i64 p.length) := fun K => by have := h.len (K := K); rw [markP_len] at this; exact this
  refine loopV (fun s w' => ∃ j : Nat, s = [.int .i64 (k + offP p j : Nat), .int .i64 j] ∧ j ≤ p.length ∧ Ext w w') (upTo p.length 1) ⟨0, rfl, by omega, Ext.refl _⟩ ?_
  rintro s z w1 K ⟨j, rfl, hj, E1⟩ hK
  simp only [hlen, go_sem]
  refine ⟨fun hlt => ?_, fun hge => ?_⟩
  · have hj : j < p.length := by omega
    have hjl : j < (markP p k).length := by rw [markP_len]; exact hj
    have hoff := offP_le (p := p) (j := j) fun i hi => hs i (by omega)
    have hsj := hs j hj
    have hf1 := hsj.1
    have hf2 := hsj.2
    have hn : (markP p k)[j] = mkN p k j := by rw [← nd_get hjl, markP_nd hj]
    refine (h.ext E1).idx hjl fun b o fv rv h0 h1 h2 hf hr hs => ?_
    rw [hn] at h0 hf hr
    simp only [go_sem]
    refine load_cell (v := .int .i64 ((k + offP p j : Nat) : Int)) h0 ?_
    simp only [go_sem]
    refine ⟨fun h => absurd (by simp) h, fun _ => ?_⟩
    refine bin_inc (by omega) ?_
    refine (h.ext E1).idx hjl fun b o fv rv h0 h1 h2 hf hr hs => ?_
    rw [hn] at hf hr
    simp only [go_sem]
    refine load_cell h1 ?_
    refine heldI (k := k + offP p j + 1) (n := (nd p j).frm.length) hf (by omega) fun w2 E2 => ?_
    simp only [go_sem]
    refine ⟨fun h => by omega, fun _ => ?_⟩
    refine (h.ext (E1.trans E2)).idx hjl fun b o fv rv h0 h1 h2 hf hr hs => ?_
    rw [hn] at hf hr
    simp only [go_sem]
    refine load_cell h2 ?_
    refine heldI (k := k + offP p j + 1 + (nd p j).frm.length) (n := (nd p j).row.length) hr (by omega) fun w3 E3 => ?_
    simp only [go_sem]
    refine ⟨fun h => by omega, fun _ => ?_⟩
    refine bin_inc (by omega) (hK _ _ ⟨j + 1, ?_, by omega, (E1.trans E2).trans E3⟩ (by simp [upTo, nthV, iOf]; omega))
    have : k + offP p j + 1 + (nd p j).frm.length + (nd p j).row.length = k + offP p (j + 1) := by simp only [offP, ndSize]; omega
    rw [this]
  · have hj : j = p.length := by omega
    subst hj
    exact hR _ _ ⟨rfl, E1⟩
end Go.Proofs.Ytblgkpfnjlobjaa
