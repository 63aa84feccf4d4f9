/- Sets of nodes, a bit for each one. -/
import Derived.Test.YtblgkpfnjlobjaaGraph
import Derived.Test.YtblgkpfnjlobjaaCN
namespace Go.Proofs.Ytblgkpfnjlobjaa
open Go Go.V

/-- A set of nodes as a number. -/
structure NSet (v : Value) (c : Nat → Prop) : Prop where
  out : ∃ m : Nat, v = .int .u16 m ∧ m < 65536 ∧ ∀ i, i < 10 → (m.testBit i = true ↔ c i)
theorem NSet.congr {v : Value} {c d : Nat → Prop} (h : NSet v c) (e : ∀ i, i < 10 → (c i ↔ d i)) : NSet v d := by
  obtain ⟨m, h1, h2, h3⟩ := h.out
  exact ⟨m, h1, h2, fun i hi => (h3 i hi).trans (e i hi)⟩
theorem NSet.zero : NSet (.int .u16 0) fun _ => False := ⟨0, rfl, by omega, fun i _ => by simp⟩

theorem u16_wrap {n : Nat} (h : n < 65536) : IntKind.u16.wrap (n : Int) = n := by
  simp [IntKind.wrap, IntKind.bits, IntKind.signed]; omega
theorem and_one (m i : Nat) : (BitVec.ofInt IntKind.u16.bits ((m / 2 ^ i : Nat) : Int) &&& BitVec.ofInt IntKind.u16.bits 1).toNat = if m / 2 ^ i % 2 = 1 then 1 else 0 := by
  show (BitVec.ofInt 16 ((m / 2 ^ i : Nat) : Int) &&& BitVec.ofInt 16 1).toNat = _
  rw [BitVec.toNat_and]
  have h1 : (BitVec.ofInt 16 1).toNat = 1 := by decide
  rw [h1, Nat.and_one_is_mod]
  have h2 : (BitVec.ofInt 16 ((m / 2 ^ i : Nat) : Int)).toNat = m / 2 ^ i % 65536 := by
    rw [BitVec.toNat_ofInt]; omega
  rw [h2]
  split <;> omega

theorem nsHas_ok {w : World} {v : Value} {c : Nat → Prop} (h : NSet v c) {i : Nat} (hi : i < 10) : Calls Try.prog N.impl_nodeSet_has #[v, .int .i64 i] w (Ret fun r w' => Ext w w' ∧ ∃ b : Bool, r = .bool b ∧ (b = true ↔ c i)) := by
  obtain ⟨m, rfl, hm, hc⟩ := h.out
  refine ret_k fun R hR => c_impl_nodeSet_has _ _ _ _ ?_
  refine ⟨by omega, ?_⟩
  have e1 : min (i : Int).toNat IntKind.u16.bits = i := by simp [IntKind.bits]; omega
  have e2 : (m : Int).fdiv (2 ^ i) = ((m / 2 ^ i : Nat) : Int) := by
    rw [Int.fdiv_eq_ediv_of_nonneg _ (by exact Int.le_of_lt (Int.pow_pos (by omega)))]
    simp
  show BinV .and (.int .u16 ((m : Int).fdiv (2 ^ (min (i : Int).toNat IntKind.u16.bits)))) _ _
  rw [e1, e2]
  refine ⟨rfl, ?_⟩
  show BinV .neq (.int .u16 (IntKind.u16.wrap (BitVec.ofInt IntKind.u16.bits ((m / 2 ^ i : Nat) : Int) &&& BitVec.ofInt IntKind.u16.bits 1).toNat)) _ _
  rw [and_one]
  have e4 : m.testBit i = decide (m / 2 ^ i % 2 = 1) := Nat.testBit_eq_decide_div_mod_eq
  rw [Bin_neq]
  refine hR _ _ ⟨Ext.refl _, _, rfl, ?_⟩
  rw [← hc i hi, e4]
  by_cases hb : m / 2 ^ i % 2 = 1
  · rw [if_pos hb, u16_wrap (by omega)]; simp [hb]
  · rw [if_neg hb, u16_wrap (by omega)]; simp [hb]

theorem nsWith_ok {w : World} {v : Value} {c : Nat → Prop} (h : NSet v c) {i : Nat} (hi : i < 10) :
    Calls Try.prog N.impl_nodeSet_with #[v, .int .i64 i] w (Ret fun r w' => Ext w w' ∧ ∃ m : Nat, v = .int .u16 m ∧ r = .int .u16 (m ||| 2 ^ i : Nat) ∧ NSet r fun j => c j ∨ j = i) := by
  obtain ⟨m, rfl, hm, hc⟩ := h.out
  refine ret_k fun R hR => c_impl_nodeSet_with _ _ _ _ ?_
  refine ⟨by omega, ?_⟩
  have hpw : 2 ^ i < 65536 := Nat.lt_of_le_of_lt (Nat.pow_le_pow_right (by omega) (show i ≤ 9 by omega)) (by decide)
  have e1 : min (i : Int).toNat IntKind.u16.bits = i := by simp [IntKind.bits]; omega
  have e2 : (1 : Int) * 2 ^ i = ((2 ^ i : Nat) : Int) := by simp
  show BinV .or _ (.int .u16 (IntKind.u16.wrap (1 * 2 ^ (min (i : Int).toNat IntKind.u16.bits)))) _
  rw [e1, e2, u16_wrap hpw]
  refine ⟨rfl, ?_⟩
  have e3 : (BitVec.ofInt IntKind.u16.bits (m : Int) ||| BitVec.ofInt IntKind.u16.bits ((2 ^ i : Nat) : Int)).toNat = m ||| 2 ^ i := by
    rw [BitVec.toNat_or, BitVec.toNat_ofInt, BitVec.toNat_ofInt]
    have a1 : ((m : Int) % ((2 ^ IntKind.u16.bits : Nat) : Int)).toNat = m := by simp [IntKind.bits]; omega
    have hb : IntKind.u16.bits = 16 := rfl
    have a2 : (((2 ^ i : Nat) : Int) % ((2 ^ IntKind.u16.bits : Nat) : Int)).toNat = 2 ^ i := by
      rw [hb]; generalize 2 ^ i = q at hpw; omega
    rw [a1, a2]
  have hor : m ||| 2 ^ i < 65536 := Nat.or_lt_two_pow (n := 16) hm hpw
  have hset : NSet (.int .u16 ((m ||| 2 ^ i : Nat) : Int)) fun j => c j ∨ j = i := by
    refine ⟨m ||| 2 ^ i, rfl, hor, fun j hj => ?_⟩
    rw [Nat.testBit_or, Nat.testBit_two_pow, Bool.or_eq_true, hc j hj]
    simp only [decide_eq_true_eq]
    exact ⟨fun h => h.elim .inl fun e => .inr e.symm, fun h => h.elim .inl fun e => .inr e.symm⟩
  rw [e3, u16_wrap hor]
  exact hR _ _ ⟨Ext.refl _, m, rfl, rfl, hset⟩

theorem allNodes_ok {w : World} {v lv : Value} {p : List Nd} {l : List Int} (hp : PlanV w v p) (hl : Ints w lv l) (hll : l.length ≤ 1099511627776) :
    Calls Try.prog N.impl_allNodes #[v, lv] w (Ret fun r w' => Ext w w' ∧ r = .bool (decide (∀ x ∈ l, 0 ≤ x ∧ x < (p.length : Int)))) := by
  obtain ⟨la, lc, rfl, hlc, hlcell⟩ := hl.out
  refine ret_k fun R hR => c_impl_allNodes _ _ _ _ ?_
  simp only [go_sem]
  refine loopV (fun s w' => ∃ k : Nat, s = [.int .i64 k] ∧ k ≤ l.length ∧ Ext w w' ∧ ∀ x ∈ l.take k, 0 ≤ x ∧ x < (p.length : Int)) (upTo l.length 0) ⟨0, rfl, by omega, Ext.refl _, by simp⟩ ?_
  rintro s z w1 K ⟨k, rfl, hk, E1, hin⟩ hK
  simp only [go_sem]
  refine ⟨fun h => ?_, fun h => ?_⟩
  · have hk : k < l.length := by omega
    refine idxLoad (hlcell.ext E1) rfl hk ?_
    refine callV_of (isNode_ok (hp.ext E1) _) rfl ?_
    rintro _ w2 ⟨E2, rfl⟩
    simp only [go_sem]
    refine ⟨fun h => hR _ _ ⟨E1.trans E2, by rw [decide_eq_false fun hd => h (hd _ (List.getElem_mem hk))]⟩, fun h => ?_⟩
    refine bin_inc (by omega) (hK _ _ ⟨k + 1, rfl, by omega, E1.trans E2, fun x hx => ?_⟩ (by simp [upTo, nthV, iOf]; omega))
    rw [take_snoc hk, List.mem_append, List.mem_singleton] at hx
    exact hx.elim (hin x) fun e => by rw [e]; exact h
  · rw [List.take_of_length_le (by omega)] at hin
    exact hR _ _ ⟨E1, by rw [decide_eq_true hin]⟩

theorem sel_cut {n m : Nat} {c : Nat → Prop} (h : n ≤ m) (hc : ∀ k, n ≤ k → ¬ c k) : sel m c = sel n c := by
  induction m with
  | zero => have : n = 0 := by omega
            subst this; rfl
  | succ m ih =>
    by_cases e : n = m + 1
    · subst e; rfl
    · rw [sel_no (hc m (by omega))]; exact ih (by omega)
end Go.Proofs.Ytblgkpfnjlobjaa

namespace Go.Proofs.Ytblgkpfnjlobjaa
open Go Go.V

theorem setOf_ok {w : World} {v lv : Value} {p : List Nd} {l : List Int} (hp : PlanV w v p) (h10 : p.length ≤ 10) (hl : Ints w lv l) (hll : l.length ≤ 1099511627776) :
    Calls Try.prog N.impl_setOf #[v, lv] w (Ret fun r w' => Ext w w' ∧ NSet r fun i => i < p.length ∧ (i : Int) ∈ l) := by
  obtain ⟨la, lc, rfl, hlc, hlcell⟩ := hl.out
  refine ret_k fun R hR => c_impl_setOf _ _ _ _ ?_
  simp only [go_sem]
  refine loopV (fun s w' => ∃ (k m : Nat), s = [.int .u16 m, .int .i64 k] ∧ k ≤ l.length ∧ Ext w w' ∧ NSet (.int .u16 m) fun i => i < p.length ∧ (i : Int) ∈ l.take k) (upTo l.length 1)
    ⟨0, 0, rfl, by omega, Ext.refl _, NSet.zero.congr fun i _ => by simp⟩ ?_
  rintro s z w1 K ⟨k, m, rfl, hk, E1, hs⟩ hK
  simp only [go_sem]
  refine ⟨fun h => ?_, fun h => ?_⟩
  · have hk : k < l.length := by omega
    refine idxLoad (hlcell.ext E1) rfl hk ?_
    refine callV_of (isNode_ok (hp.ext E1) _) rfl ?_
    rintro _ w2 ⟨E2, rfl⟩
    have hmem : ∀ i : Nat, (i : Int) ∈ l.take (k + 1) ↔ (i : Int) ∈ l.take k ∨ (i : Int) = l[k] := fun i => by rw [take_snoc hk, List.mem_append, List.mem_singleton]
    simp only [go_sem]
    refine ⟨fun hn => ?_, fun hn => ?_⟩
    · obtain ⟨i, hi⟩ : ∃ i : Nat, l[k] = (i : Int) := ⟨l[k].toNat, by omega⟩
      rw [hi]
      refine callV_of (nsWith_ok hs (i := i) (by omega)) rfl ?_
      rintro _ w3 ⟨E3, m', hm', rfl, hs3⟩
      cases hm'
      refine bin_inc (by omega) (hK _ _ ⟨k + 1, _, rfl, by omega, (E1.trans E2).trans E3, hs3.congr fun j _ => ?_⟩ (by simp [upTo, nthV, iOf]; omega))
      rw [hmem, hi]
      constructor
      · rintro (h | h)
        · exact ⟨h.1, .inl h.2⟩
        · subst h; exact ⟨by omega, .inr rfl⟩
      · rintro ⟨h1, h2 | h2⟩
        · exact .inl ⟨h1, h2⟩
        · exact .inr (by omega)
    · refine bin_inc (by omega) (hK _ _ ⟨k + 1, _, rfl, by omega, E1.trans E2, hs.congr fun j _ => ?_⟩ (by simp [upTo, nthV, iOf]; omega))
      rw [hmem]
      constructor
      · exact fun h => ⟨h.1, .inl h.2⟩
      · rintro ⟨h1, h2 | h2⟩
        · exact ⟨h1, h2⟩
        · exact absurd (by omega) hn
  · rw [List.take_of_length_le (by omega)] at hs
    exact hR _ _ ⟨E1, hs⟩
end Go.Proofs.Ytblgkpfnjlobjaa
