/- Parts of a plan, with the numbers that the nodes have then. -/
import Derived.Test.YtpfabjjeacdikaaGrow
namespace Go.Proofs.Ytpfabjjeacdikaa
open Go Go.V

/-- The first nodes of a part. -/
theorem part_step {p : List Nd} {c : Nat → Prop} {g : Nat → Nat} {i : Nat} (hi : i < p.length) (hc : c i) : (subP p c g).take (rank c i + 1) = (subP p c g).take (rank c i) ++ [ren p c g i] := by
  have h1 : rank c i < (subP p c g).length := by rw [subP_len]; exact rank_lt hc hi
  have h2 := subP_nd (p := p) (c := c) (g := g) hi hc
  rw [nd_get h1] at h2
  rw [take_snoc h1, h2]
/-- The node of the whole that a node of a part was. -/
noncomputable def inv (c : Nat → Prop) (n a : Nat) : Nat := ((sel n c).getD a 0).toNat
theorem inv_rank {c : Nat → Prop} {n i : Nat} (hi : i < n) (hc : c i) : inv c n (rank c i) = i := by
  unfold inv; rw [List.getD_eq_getElem?_getD, sel_rank hi hc]; simp
theorem setF_same' {α : Type} {f : Nat → α} {n : Nat} {x : α} (h : x = f n) : setF f n x = f := by
  funext i
  by_cases e : i = n
  · subst e; rw [setF_same, h]
  · rw [setF_ne _ _ e]
open Classical in
/-- What node j needs once the first i nodes are numbered anew. -/
noncomputable def curF (p : List Nd) (c : Nat → Prop) (g : Nat → Nat) (i j : Nat) : List Int := if j < i ∧ c j then (ren p c g j).frm else (nd p j).frm
theorem curF_len (p : List Nd) (c : Nat → Prop) (g : Nat → Nat) (i j : Nat) : (curF p c g i j).length = (nd p j).frm.length := by unfold curF; split <;> simp [ren]

/-- A plan in memory of its own, out of a slice that has grown; its block is told. -/
theorem FPlan.of_own' {w : World} {lo : Nat} {B : Nat → Prop} {v : Value} {p : List Nd} {bs : Nat → Nat} {fv rv : Nat → Value} (ho : Own w lo T.impl_Node 3 v p.length (flat p fv rv)) (hin : Inner w B p bs fv rv) (hl : p.length ≤ 1048576) (hB : ∀ b, v.ownBlock = some b → B b) : FPlan w B v p := by
  obtain ⟨a, c, hv, hc, hr⟩ := Own.nodes ho rfl
  refine ⟨a, c, bs, fv, rv, hv, hc, hl, hin, fun hne => ?_⟩
  obtain ⟨b, cur, ha, hlo, hb, hsz, hcell⟩ := hr hne
  exact ⟨b, 0, cur, ha, hB b (by rw [hv, ha]; rfl), hb, hsz, hcell⟩

/-- The nodes of a part whose lists were the whole's. -/
theorem moved_plan {w w0 : World} {lo : Nat} {B0 B : Nat → Prop} {u : Value} {p : List Nd} {c : Nat → Prop} {g : Nat → Nat} {bs : Nat → Nat} {fv rv : Nat → Value} (h10 : p.length ≤ 10)
    (hou : Own w lo T.impl_Node 3 u (rank c p.length) (flat (subP p c g) (fun a => fv (inv c p.length a)) fun a => rv (inv c p.length a)))
    (hall : ∀ j, j < p.length → FInts w (· = bs (2 * j)) (fv j) (curF p c g p.length j) ∧ FInts w (· = bs (2 * j + 1)) (rv j) (nd p j).row ∧ Sml (nd p j)) (hin : Inner w0 B0 p bs fv rv)
    (hB : ∀ b, B0 b → B b) (hu : ∀ b, u.ownBlock = some b → B b) : FPlan w B u (subP p c g) := by
  have hrl := @rank_le c p.length
  rw [← subP_len p c g] at hou
  refine FPlan.of_own' (bs := fun s => bs (2 * inv c p.length (s / 2) + s % 2)) hou ⟨fun a ha => ?_, fun s hs hne => ?_, fun s s' hs hs' hne hne' e => ?_⟩ (by rw [subP_len]; omega) hu
  · rw [subP_len] at ha
    obtain ⟨i, hi, hci, rfl⟩ := rank_surj ha
    obtain ⟨k1, k2, k3⟩ := hall i hi
    have d1 : 2 * rank c i / 2 = rank c i := by omega
    have d2 : (2 * rank c i + 1) / 2 = rank c i := by omega
    have m1 : 2 * rank c i % 2 = 0 := by omega
    have m2 : (2 * rank c i + 1) % 2 = 1 := by omega
    simp only [d1, d2, m1, m2, inv_rank hi hci, Nat.add_zero]
    rw [subP_nd hi hci]
    unfold curF at k1
    rw [if_pos ⟨hi, hci⟩] at k1
    exact ⟨k1, k2, by simpa [ren] using k3.1, k3.2⟩
  · rw [subP_len] at hs
    obtain ⟨i, hi, hci, hr⟩ := rank_surj (show s / 2 < rank c p.length by omega)
    show B (bs (2 * inv c p.length (s / 2) + s % 2))
    rw [← hr, inv_rank hi hci]
    have hs2 : slot p (2 * i + s % 2) ≠ [] := by
      unfold slot at hne ⊢
      rw [← hr, subP_nd hi hci] at hne
      have a1 : (2 * i + s % 2) / 2 = i := by omega
      have a2 : (2 * i + s % 2) % 2 = s % 2 := by omega
      rw [a1, a2]
      split at hne
      · rename_i h0; rw [if_pos h0]; intro e; apply hne; simp [ren, e]
      · rename_i h0; rw [if_neg h0]; exact hne
    exact hB _ (hin.inB (2 * i + s % 2) (by omega) hs2)
  · rw [subP_len] at hs hs'
    obtain ⟨i, hi, hci, hr⟩ := rank_surj (show s / 2 < rank c p.length by omega)
    obtain ⟨j, hj, hcj, hr'⟩ := rank_surj (show s' / 2 < rank c p.length by omega)
    have e : bs (2 * inv c p.length (s / 2) + s % 2) = bs (2 * inv c p.length (s' / 2) + s' % 2) := e
    rw [← hr, inv_rank hi hci, ← hr', inv_rank hj hcj] at e
    have conv : ∀ {s i}, c i → i < p.length → rank c i = s / 2 → slot (subP p c g) s ≠ [] → slot p (2 * i + s % 2) ≠ [] := fun {s i} hci hi hr hne => by
      unfold slot at hne ⊢
      rw [← hr, subP_nd hi hci] at hne
      have a1 : (2 * i + s % 2) / 2 = i := by omega
      have a2 : (2 * i + s % 2) % 2 = s % 2 := by omega
      rw [a1, a2]
      split at hne
      · rename_i h0; rw [if_pos h0]; intro e; apply hne; simp [ren, e]
      · rename_i h0; rw [if_neg h0]; exact hne
    have := hin.inj _ _ (by omega) (by omega) (conv hci hi hr hne) (conv hcj hj hr' hne') e
    have hij : i = j := by omega
    subst hij
    omega
end Go.Proofs.Ytpfabjjeacdikaa
