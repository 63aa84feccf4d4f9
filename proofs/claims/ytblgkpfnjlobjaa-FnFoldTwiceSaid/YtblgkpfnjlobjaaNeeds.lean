/- All that a node needs. -/
import Derived.Test.YtblgkpfnjlobjaaCopy
import Derived.Test.YtblgkpfnjlobjaaNodeSet
namespace Go.Proofs.Ytblgkpfnjlobjaa
open Go Go.V

theorem needs_step {p : List Nd} {i j m : Nat} (hj : (j : Int) ∈ fr p i) (h : Needs p j m) : Needs p i m := by
  obtain ⟨k, hk, hm⟩ := h
  refine ⟨k, hk.mono fun q hq => ?_, hm⟩
  simp at hq
  have hq : q = j := by omega
  subst hq
  exact .need (.start (by simp)) hj
theorem needs_one {p : List Nd} {i j : Nat} (hj : (j : Int) ∈ fr p i) : Needs p i j := ⟨i, .start (by simp), hj⟩

/-- What has been marked behind a call at node i. -/
structure Marked (p : List Nd) (i : Nat) (c c' : Nat → Prop) : Prop where
  more : ∀ j, c j → c' j
  mine : ∀ f ∈ fr p i, c' f.toNat
  shut : ∀ j, c' j → c j ∨ ∀ f ∈ fr p j, c' f.toNat
  sound : ∀ j, c' j → c j ∨ Needs p i j

theorem markNeeds_ok {p : List Nd} (hok : PlanOk p) {lo : Nat} {gs : Nat → Nat} {sv : Nat → Value} {sl : Nat → List Nat} : ∀ (i : Nat), i < p.length → ∀ (w : World) (b : Nat) (c : Nat → Prop), GraphV w lo p gs sv sl → Bits w b c →
    Calls Try.prog N.impl_planNode_markNeeds #[ptr (gs i), .pointer (some ⟨b, 0, none⟩)] w (Ret fun _ w' => Chg (· = b) w w' ∧ ∃ c', Bits w' b c' ∧ Marked p i c c') := by
  intro i
  induction i using Nat.strongRecOn with
  | _ i ih =>
    intro hi w b c hg hb
    refine ret_k fun R hR => c_impl_planNode_markNeeds _ _ _ _ ?_
    have h10 := hok.len
    have hbne : ∀ w' : World, ∀ c', GraphV w' lo p gs sv sl → Bits w' b c' → ∀ j, j < p.length → gs j ≠ b := fun w' c' hg hb j hj e => by
      obtain ⟨cur, h1, _⟩ := hb.out
      have := (hg.g.node j hj).2
      rw [e, h1] at this
      cases this
    simp only [go_sem, ptr]
    refine hg.g.needs hi ?_
    have hN := hg.needs i hi
    rw [Own.lenV (hg.g.slots.own (2 * i + 1) (by omega))]
    have keepG : ∀ {w' w'' : World} {c' : Nat → Prop}, GraphV w' lo p gs sv sl → Bits w' b c' → Chg (· = b) w' w'' → GraphV w'' lo p gs sv sl := fun {w' w'' c'} hg hb hc => by
      obtain ⟨cur, h1, _⟩ := hb.out
      refine ⟨⟨hg.g.slots.keep hc fun s k hs hk e => ?_, fun j hj => ⟨(hg.g.node j hj).1, hc.at (hg.g.node j hj).2 fun e => ?_⟩, hg.g.inj⟩, hg.top, hg.needs, hg.users⟩
      · obtain ⟨cur', h2⟩ := own_tag (hg.g.slots.own s hs) hk
        have e : k = b := e
        rw [e, h1] at h2; cases h2
      · exact hbne _ _ hg hb j hj e
    refine loopV (fun s w' => ∃ (k : Nat) (c' : Nat → Prop), s = [.int .i64 k] ∧ k ≤ (sl (2 * i + 1)).length ∧ Chg (· = b) w w' ∧ Bits w' b c' ∧ GraphV w' lo p gs sv sl ∧ (∀ j, c j → c' j) ∧ (∀ j ∈ (sl (2 * i + 1)).take k, c' j) ∧ (∀ j, c' j → c j ∨ ∀ f ∈ fr p j, c' f.toNat) ∧ (∀ j, c' j → c j ∨ Needs p i j)) (upTo (sl (2 * i + 1)).length 0)
      ⟨0, c, rfl, by omega, Chg.refl _ _, hb, hg, fun _ h => h, by simp, fun _ h => .inl h, fun _ h => .inl h⟩ ?_
    rintro s z w1 K ⟨k, c1, rfl, hk, C1, hb1, hg1, hmore, hmine, hshut, hsound⟩ hK
    simp only [go_sem]
    refine ⟨fun h => ?_, fun h => ?_⟩
    · have hk : k < (sl (2 * i + 1)).length := by omega
      refine ptr_at (hg1.g.slots.own (2 * i + 1) (by omega)) hk ?_
      have hj0 := (hN.1 _).1 (List.getElem_mem hk)
      generalize hje : (sl (2 * i + 1))[k] = j at hj0 ⊢
      have hjl := hok.fr_lt hj0
      have hjn : j < p.length := by omega
      refine draw_none fun w2 hs2 => ?_
      have hb2 := hb1.ext hs2.ext
      have hg2 : GraphV w2 lo p gs sv sl := ⟨hg1.g.ext hs2.ext, hg1.top, hg1.needs, hg1.users⟩
      simp only [go_sem, ptr]
      refine loadS2 (v := .int .i64 j) (hg2.g.node j hjn).2 id rfl ?_
      obtain ⟨cur, h1, h2, h3⟩ := hb2.out
      obtain ⟨m, hm, hmc⟩ := h3 j (by omega)
      refine ⟨by omega, by omega, ?_⟩
      simp only [addr_add, Int.toNat_natCast, Nat.mul_one, Nat.zero_add]
      refine loadS2 h1 id hm ?_
      simp only [go_sem]
      have hsnoc : ∀ x, x ∈ (sl (2 * i + 1)).take (k + 1) ↔ x ∈ (sl (2 * i + 1)).take k ∨ x = j := fun x => by rw [take_snoc hk, List.mem_append, List.mem_singleton, hje]
      refine ⟨fun hnot => ?_, fun hyes => ?_⟩
      · refine ⟨(· = b), fun w3 hs3 => ?_⟩
        have hb3 := hb2.ext hs3.ext
        have hg3 : GraphV w3 lo p gs sv sl := ⟨hg2.g.ext hs3.ext, hg2.top, hg2.needs, hg2.users⟩
        simp only [go_sem, ptr]
        refine loadS2 (v := .int .i64 j) (hg3.g.node j hjn).2 (hbne _ _ hg3 hb3 j hjn) rfl ?_
        refine hb3.set (by omega) fun w4 C4 s4 hb4 => ⟨C4, ?_⟩
        have hg4 := keepG hg3 hb3 C4
        refine callV_of (ih j (by omega) hjn w4 b _ hg4 hb4) rfl ?_
        rintro _ w5 ⟨C5, c5, hb5, hM⟩
        have hg5 := keepG hg4 hb4 C5
        refine bin_inc (by omega) (hK _ _ ⟨k + 1, c5, rfl, by omega, (((C1.then hs2.ext).then hs3.ext).andThen C4).andThen C5, hb5, hg5, fun q hq => hM.more q (.inl (hmore q hq)), fun q hq => ?_, fun q hq => ?_, fun q hq => ?_⟩ (by simp [upTo, nthV, iOf]; omega))
        · rcases (hsnoc q).1 hq with h | h
          · exact hM.more q (.inl (hmine q h))
          · exact hM.more q (.inr h)
        · rcases hM.shut q hq with (h | h) | h
          · rcases hshut q h with h | h
            · exact .inl h
            · exact .inr fun f hf => hM.more _ (.inl (h f hf))
          · subst h; exact .inr hM.mine
          · exact .inr h
        · rcases hM.sound q hq with (h | h) | h
          · exact hsound q h
          · subst h; exact .inr (needs_one hj0)
          · exact .inr (needs_step hj0 h)
      · have hcj : c1 j := hmc.1 (by simpa using hyes)
        refine bin_inc (by omega) (hK _ _ ⟨k + 1, c1, rfl, by omega, C1.then hs2.ext, hb2, hg2, hmore, fun q hq => ?_, hshut, hsound⟩ (by simp [upTo, nthV, iOf]; omega))
        rcases (hsnoc q).1 hq with h | h
        · exact hmine q h
        · subst h; exact hcj
    · rw [List.take_of_length_le (by omega)] at hmine
      refine hR _ _ ⟨C1, c1, hb1, hmore, fun f hf => ?_, hshut, hsound⟩
      have hl := hok.fr_lt hf
      exact hmine _ ((hN.1 _).2 (by rw [show ((f.toNat : Nat) : Int) = f by omega]; exact hf))

theorem needsL_none {p : List Nd} {a : Int} (ha : ¬ (0 ≤ a ∧ a < p.length)) : needsL p a = [] := by
  refine sel_nil fun k _ hn => ?_
  obtain ⟨j, hj, hk⟩ := hn
  have key : ∀ j, Rch p [a] j → fr p j = [] ∨ False := by
    intro j hj
    induction hj with
    | @start i h =>
      simp at h
      exact .inl (fr_none (by omega))
    | need _ hf ih => rcases ih with ih | ih
                      · rw [ih] at hf; cases hf
                      · exact ih.elim
  rcases key j hj with h | h
  · rw [h] at hk; cases hk
  · exact h

noncomputable def needsO (p : List Nd) (a : Int) : List Int := if PlanOk p then needsL p a else []
theorem needsO_len (p : List Nd) (a : Int) : (needsO p a).length ≤ p.length := by
  unfold needsO; split
  · exact sel_len
  · simp

theorem planNeeds_ok {w : World} {v : Value} {p : List Nd} (hp : PlanV w v p) (a : Int) : Calls Try.prog N.impl_PlanNeeds #[v, .int .i64 a] w (Ret (NewInts w (needsO p a))) := by
  refine ret_k fun R hR => c_impl_PlanNeeds _ _ _ _ ?_
  refine callV_of (graphOf_ok hp) rfl ?_
  rintro _ w1 ⟨E1, ⟨hok, gs, sv, sl, rfl, hg⟩ | ⟨hno, rfl⟩⟩
  rotate_left
  · simp only [go_sem]
    refine ⟨fun _ => hR _ _ ⟨E1, by rw [needsO, if_neg hno]; exact FInts.nil⟩, fun h => absurd trivial (by simp at h)⟩
  simp only [go_sem]
  rw [needsO, if_pos hok] at hR
  have h10 := hok.len
  refine ⟨fun h => by simp at h, fun _ => ?_⟩
  refine callV_of (isNode_ok (hp.ext E1) a) rfl ?_
  rintro _ w2 ⟨E2, rfl⟩
  have e2 := E1.trans E2
  simp only [go_sem]
  refine ⟨fun h => hR _ _ ⟨e2, by rw [needsL_none h]; exact FInts.nil⟩, fun h => ?_⟩
  obtain ⟨i, rfl⟩ : ∃ i : Nat, a = (i : Int) := ⟨a.toNat, by omega⟩
  have hi : i < p.length := by omega
  refine Bits.new fun w3 E3 hb3 s3 => ?_
  have e3 := e2.trans E3
  have hg3 : GraphV w3 w.heap.size p gs sv sl := ⟨(hg.g.ext E2).ext E3, hg.top, hg.needs, hg.users⟩
  have htop := hg3.g.slots.own 0 (by omega)
  rw [hg.top] at htop
  refine ptr_at htop (k := i) (by simpa using hi) ?_
  rw [List.getElem_range]
  refine callV_of (markNeeds_ok hok i hi w3 _ _ hg3 hb3) rfl ?_
  rintro _ w4 ⟨C4, c4, hb4, hM⟩
  have hiff : ∀ j, j < 10 → (c4 j ↔ Needs p i j) := by
    intro j _
    refine ⟨fun h => (hM.sound j h).resolve_left id, ?_⟩
    rintro ⟨k, hk, hj⟩
    have key : ∀ k, Rch p [(i : Int)] k → ∀ f ∈ fr p k, c4 f.toNat := by
      intro k hk
      induction hk with
      | @start q h => simp at h; have h : q = i := by omega
                      subst h; exact hM.mine
      | @need q r _ hf ih => have := ih _ hf; simp at this; exact (hM.shut q this).resolve_left id
    have := key k hk _ hj
    simpa using this
  have z2 := e2.size
  have e4 : Ext w w4 := Chg.ext (e3.then C4) fun j hj e => by omega
  obtain ⟨cur, h1, h2, h3⟩ := hb4.out
  refine ⟨cur.toList, by simp [h2], fun j u hj => ?_, ?_⟩
  · rw [addr_add, Nat.zero_add, cell_of_row w4 _ j _ _ (0, 0) h1]
    simpa using hj
  refine loopV (fun s w' => ∃ (k : Nat) (u : Value), s = [u, .int .i64 k] ∧ k ≤ 10 ∧ Ext w w' ∧ Own w' w.heap.size T.int 1 u (sel k (Needs p i)).length (ints (sel k (Needs p i)))) (upTo 10 1) ⟨0, _, rfl, by omega, e4, own_nil⟩ ?_
  rintro s z w5 K ⟨k, u, rfl, hk, E5, ho5⟩ hK
  have hsl := @sel_len k (Needs p i)
  simp only [go_sem]
  refine ⟨fun hlt => ?_, fun hge => ?_⟩
  · obtain ⟨m, hm, hmc⟩ := h3 k (by omega)
    refine ⟨by omega, by omega, .bool m, by simpa using hm, ?_⟩
    have hmc' := hmc.trans (hiff k (by omega))
    simp only [go_sem]
    refine ⟨fun ht => ?_, fun hf => ?_⟩
    · refine app1_int sl_int el_int ho5 (by omega) E5.size fun v' w6 ho6 C6 => ?_
      refine bin_inc (by omega) (hK _ _ ⟨k + 1, v', rfl, by omega, chg_own E5 ho5 C6 (Nat.le_refl _), ?_⟩ (by simp [upTo, nthV, iOf]; omega))
      rw [sel_yes (hmc'.1 ht)]; simpa using ho6
    · refine bin_inc (by omega) (hK _ _ ⟨k + 1, u, rfl, by omega, E5, ?_⟩ (by simp [upTo, nthV, iOf]; omega))
      rw [sel_no fun hc => by rw [hmc'.2 hc] at hf; cases hf]; exact ho5
  · have hk : k = 10 := by omega
    subst hk
    have e : sel 10 (Needs p i) = needsL p i := sel_cut h10 fun k hk hn => by
      obtain ⟨j, _, hj⟩ := hn
      have := hok.fr_lt hj; omega
    rw [e] at ho5
    exact hR _ _ ⟨E5, (Own.fints ho5).mono fun _ _ h => h⟩
end Go.Proofs.Ytblgkpfnjlobjaa
