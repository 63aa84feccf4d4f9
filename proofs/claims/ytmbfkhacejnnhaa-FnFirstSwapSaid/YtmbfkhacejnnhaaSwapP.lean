/- A plan whose last node has what it needs in the other order: the first ones are the same. Plain. -/
import Derived.Test.YtmbfkhacejnnhaaFam
namespace Go.Proofs.Ytmbfkhacejnnhaa
open Go Go.V

theorem norm2_swap {k a b : Int} (h : kneeds k = 2) : norm2 k [a, b] = norm2 k [b, a] := by
  simp only [norm2, h, true_and]
  by_cases h1 : b < a
  · rw [if_pos h1, if_neg (by omega)]
  · by_cases h2 : a < b
    · rw [if_neg h1, if_pos h2]
    · have : a = b := by omega
      subst this; rfl
/-- Node n needs the same in the other order. -/
def swapP (p : List Nd) (n : Nat) : List Nd := p.set n ⟨(nd p n).kind, [(nd p n).frm.getD 1 0, (nd p n).frm.getD 0 0], (nd p n).row⟩
theorem swapP_len (p : List Nd) (n : Nat) : (swapP p n).length = p.length := by simp [swapP]
theorem swapP_nd {p : List Nd} {n : Nat} (hn : n < p.length) (h2 : kneeds (nd p n).kind = 2) (hok : PlanOk p) (j : Nat) :
    (nd (swapP p n) j).kind = (nd p j).kind ∧ (nd (swapP p n) j).row = (nd p j).row ∧ (∀ x, x ∈ (nd (swapP p n) j).frm ↔ x ∈ (nd p j).frm) ∧ (nd (swapP p n) j).frm.length = (nd p j).frm.length ∧ ∀ fs, normF (nd (swapP p n) j) fs = normF (nd p j) fs := by
  unfold swapP
  rw [nd_set hn]
  by_cases e : j = n
  · subst e
    rw [if_pos rfl]
    have hf := (hok.fits hn).1.1
    rw [h2] at hf
    obtain ⟨f, g, e1⟩ := two_frm (x := nd p j) (by omega)
    refine ⟨rfl, rfl, fun x => ?_, ?_, fun fs => ?_⟩
    · rw [e1]; simp [or_comm]
    · rw [e1]; rfl
    · unfold normF
      rw [e1]
      simp only [List.map_cons, List.map_nil]
      exact norm2_swap h2
  · rw [if_neg e]
    exact ⟨rfl, rfl, fun _ => Iff.rfl, rfl, fun _ => rfl⟩
theorem swapP_ok {p : List Nd} {n : Nat} (hn : n < p.length) (h2 : kneeds (nd p n).kind = 2) (hok : PlanOk p) : PlanOk (swapP p n) := by
  refine planOk_of (wd := wide p) (by rw [swapP_len]; exact hok.len) fun i hi => ?_
  rw [swapP_len] at hi
  obtain ⟨k1, k2, k3, k4, _⟩ := swapP_nd hn h2 hok i
  obtain ⟨f1, f2⟩ := hok.fits hi
  refine ⟨⟨by rw [k4, k1]; exact f1.1, fun f hf => f1.2.1 f ((k3 f).1 hf), ?_⟩, fun hk => ?_⟩
  · rw [k1, k2]; exact f1.2.2
  · rw [k2]; exact f2 (by rw [← k1]; exact hk)
theorem swapP_same {p : List Nd} {n : Nat} (hn : n < p.length) (h2 : kneeds (nd p n).kind = 2) (hok : PlanOk p) (fs : List Int) (i j : Nat) : sameK (swapP p n) fs i j ↔ sameK p fs i j := by
  obtain ⟨a1, a2, _, _, a5⟩ := swapP_nd hn h2 hok i
  obtain ⟨b1, b2, _, _, b5⟩ := swapP_nd hn h2 hok j
  unfold sameK
  rw [a1, a2, a5, b1, b2, b5]
theorem swapP_first {p : List Nd} {n : Nat} (hn : n < p.length) (h2 : kneeds (nd p n).kind = 2) (hok : PlanOk p) {fs : List Int} (h : IsFirsts p p.length fs) : IsFirsts (swapP p n) (swapP p n).length fs := by
  refine ⟨by rw [swapP_len]; exact h.len, fun i hi => ?_⟩
  rw [swapP_len] at hi
  obtain ⟨r, hr, hf⟩ := h.at_ i hi
  exact ⟨r, hr, hf.1, (swapP_same hn h2 hok fs i r).2 hf.2.1, fun k hk hs => hf.2.2 k hk ((swapP_same hn h2 hok fs i k).1 hs)⟩
end Go.Proofs.Ytmbfkhacejnnhaa
