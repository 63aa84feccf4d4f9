/- Kinds of nodes, rows that are valid: the program's and the reference's. -/
import Derived.Test.YtpfabjjeacdikaaPlan0
import Derived.Test.YtpfabjjeacdikaaCK
namespace Go.Proofs.Ytpfabjjeacdikaa
open Go Go.V

/-- What a kind does, as a value. -/
def workV (k : Int) : Value :=
  if k = 0 then .iface T.impl_givenWork (.agg #[]) else
  if k = 1 then .iface T.impl_pairWork (.agg #[.func (.func N.impl_RowAdd) #[] #[]]) else
  if k = 2 then .iface T.impl_pairWork (.agg #[.func (.func N.impl_RowTimes) #[] #[]]) else
  if k = 3 then .iface T.impl_loneWork (.agg #[.func (.func N.impl_RowSums) #[] #[]]) else
  if k = 4 then .iface T.impl_loneWork (.agg #[.func (.func N.impl_RowSort) #[] #[]]) else
  if k = 5 then .iface T.impl_loneWork (.agg #[.func (.func N.impl_RowTurn) #[] #[]]) else .nilIface

theorem fill0 : Instr.fill (fun i => ([] : List (Nat × Nat))[i]?) #[] [] = some #[] := rfl
theorem fill1f {g : Nat} : Instr.fill (fun i => ([(0, 1)] : List (Nat × Nat))[i]?) #[.nilFunc] [(0, .func (.func g) #[] #[])] = some #[.func (.func g) #[] #[]] := rfl

theorem workOf_ok {w : World} (k : Int) : Calls Try.prog N.impl_workOf #[.int .i64 k] w (Ret fun r w' => Ext w w' ∧ r = workV k) := by
  refine ret_k fun R hR => c_impl_workOf _ _ _ ?_
  simp only [go_sem]
  refine ⟨fun h => ⟨_, fill0, hR _ _ ⟨Ext.refl _, by simp [workV, h]⟩⟩, fun h0 => ⟨fun h => ⟨_, fill1f, hR _ _ ⟨Ext.refl _, by simp [workV, h]⟩⟩, fun h1 => ⟨fun h => ⟨_, fill1f, hR _ _ ⟨Ext.refl _, by simp [workV, h]⟩⟩, fun h2 =>
    ⟨fun h => ⟨_, fill1f, hR _ _ ⟨Ext.refl _, by simp [workV, h]⟩⟩, fun h3 => ⟨fun h => ⟨_, fill1f, hR _ _ ⟨Ext.refl _, by simp [workV, h]⟩⟩, fun h4 => ⟨fun h => ⟨_, fill1f, hR _ _ ⟨Ext.refl _, by simp [workV, h]⟩⟩, fun h5 => hR _ _ ⟨Ext.refl _, by simp [workV, *]⟩⟩⟩⟩⟩⟩⟩

theorem kind_cases {k : Int} {p : Prop} (h0 : k = 0 → p) (h1 : k = 1 → p) (h2 : k = 2 → p) (h3 : k = 3 → p) (h4 : k = 4 → p) (h5 : k = 5 → p) (h : (k < 0 ∨ 5 < k) → p) : p := by
  by_cases e0 : k = 0; · exact h0 e0
  by_cases e1 : k = 1; · exact h1 e1
  by_cases e2 : k = 2; · exact h2 e2
  by_cases e3 : k = 3; · exact h3 e3
  by_cases e4 : k = 4; · exact h4 e4
  by_cases e5 : k = 5; · exact h5 e5
  exact h (by omega)
theorem workV_none {k : Int} (h : k < 0 ∨ 5 < k) : workV k = .nilIface := by
  unfold workV
  rw [if_neg (by omega), if_neg (by omega), if_neg (by omega), if_neg (by omega), if_neg (by omega), if_neg (by omega)]
theorem kneeds_none {k : Int} (h : k < 0 ∨ 5 < k) : kneeds k = -1 := by
  unfold kneeds; rw [if_neg (by omega)]

theorem implKindValid_ok {w : World} (k : Int) : Calls Try.prog N.impl_KindValid #[.int .i64 k] w (Ret fun r w' => Ext w w' ∧ r = .bool (decide (0 ≤ k ∧ k ≤ 5))) := by
  refine ret_k fun R hR => c_impl_KindValid _ _ _ ?_
  refine callV_of (workOf_ok k) rfl ?_
  rintro _ w1 ⟨E, rfl⟩
  refine ⟨rfl, ?_⟩
  have yes : 0 ≤ k ∧ k ≤ 5 → R (.bool true) w1 := fun h => hR _ _ ⟨E, by simp [h]⟩
  refine kind_cases (k := k) (fun h => ?_) (fun h => ?_) (fun h => ?_) (fun h => ?_) (fun h => ?_) (fun h => ?_) (fun h => ?_)
  any_goals (subst h; exact yes (by omega))
  rw [workV_none h]
  exact hR _ _ ⟨E, by rw [decide_eq_false (by omega)]⟩

theorem givenNeeds_ok {w : World} : Calls Try.prog N.impl_givenWork_needs #[.agg #[]] w (Ret fun r w' => Ext w w' ∧ r = .int .i64 0) :=
  ret_k fun _ hR => c_impl_givenWork_needs _ _ _ fun _ hn => hR _ _ ⟨hn.ext, rfl⟩
theorem pairNeeds_ok {w : World} {v : Value} : Calls Try.prog N.impl_pairWork_needs #[v] w (Ret fun r w' => Ext w w' ∧ r = .int .i64 2) :=
  ret_k fun _ hR => c_impl_pairWork_needs _ _ _ fun _ hn => hR _ _ ⟨hn.ext, rfl⟩
theorem loneNeeds_ok {w : World} {v : Value} : Calls Try.prog N.impl_loneWork_needs #[v] w (Ret fun r w' => Ext w w' ∧ r = .int .i64 1) :=
  ret_k fun _ hR => c_impl_loneWork_needs _ _ _ fun _ hn => hR _ _ ⟨hn.ext, rfl⟩

theorem invGiven {w : World} {K : Value → World → Prop} (hK : ∀ w', Ext w w' → K (.int .i64 0) w') : InvokeV Try.prog (okFn Try.prog) (.iface T.impl_givenWork (.agg #[])) "loop.example/workplans/impl.needs" [] w K :=
  ⟨_, _, N.impl_givenWork_needs, .agg #[], rfl, fun w => by kernel_rfl, by kernel_rfl, callV_of givenNeeds_ok rfl (by rintro _ w1 ⟨E, rfl⟩; exact hK _ E)⟩
theorem invPair {w : World} {v : Value} {K : Value → World → Prop} (hK : ∀ w', Ext w w' → K (.int .i64 2) w') : InvokeV Try.prog (okFn Try.prog) (.iface T.impl_pairWork v) "loop.example/workplans/impl.needs" [] w K :=
  ⟨_, _, N.impl_pairWork_needs, v, rfl, fun w => by kernel_rfl, by kernel_rfl, callV_of pairNeeds_ok rfl (by rintro _ w1 ⟨E, rfl⟩; exact hK _ E)⟩
theorem invLone {w : World} {v : Value} {K : Value → World → Prop} (hK : ∀ w', Ext w w' → K (.int .i64 1) w') : InvokeV Try.prog (okFn Try.prog) (.iface T.impl_loneWork v) "loop.example/workplans/impl.needs" [] w K :=
  ⟨_, _, N.impl_loneWork_needs, v, rfl, fun w => by kernel_rfl, by kernel_rfl, callV_of loneNeeds_ok rfl (by rintro _ w1 ⟨E, rfl⟩; exact hK _ E)⟩

theorem implKindNeeds_ok {w : World} (k : Int) : Calls Try.prog N.impl_KindNeeds #[.int .i64 k] w (Ret fun r w' => Ext w w' ∧ r = .int .i64 (kneeds k)) := by
  refine ret_k fun R hR => c_impl_KindNeeds _ _ _ ?_
  refine callV_of (workOf_ok k) rfl ?_
  rintro _ w1 ⟨E, rfl⟩
  refine ⟨rfl, ?_⟩
  refine kind_cases (k := k) (fun h => ?_) (fun h => ?_) (fun h => ?_) (fun h => ?_) (fun h => ?_) (fun h => ?_) (fun h => ?_)
  · subst h; exact invGiven fun w2 E2 => hR _ _ ⟨E.trans E2, rfl⟩
  · subst h; exact invPair fun w2 E2 => hR _ _ ⟨E.trans E2, rfl⟩
  · subst h; exact invPair fun w2 E2 => hR _ _ ⟨E.trans E2, rfl⟩
  · subst h; exact invLone fun w2 E2 => hR _ _ ⟨E.trans E2, rfl⟩
  · subst h; exact invLone fun w2 E2 => hR _ _ ⟨E.trans E2, rfl⟩
  · subst h; exact invLone fun w2 E2 => hR _ _ ⟨E.trans E2, rfl⟩
  · rw [workV_none h]
    exact hR _ _ ⟨E, by rw [kneeds_none h]⟩

theorem specKindValid_ok {w : World} (k : Int) : Calls Try.prog N.spec_KindValid #[.int .i64 k] w (Ret fun r w' => Ext w w' ∧ r = .bool (decide (0 ≤ k ∧ k ≤ 5))) := by
  refine ret_k fun R hR => c_spec_KindValid _ _ _ ?_
  exact callV_of (l6In_ok _ _ _) rfl fun _ w1 h => hR _ _ h
theorem specKindNeeds_ok {w : World} (k : Int) : Calls Try.prog N.spec_KindNeeds #[.int .i64 k] w (Ret fun r w' => Ext w w' ∧ r = .int .i64 (kneeds k)) := by
  refine ret_k fun R hR => c_spec_KindNeeds _ _ _ ?_
  refine callV_of (specKindValid_ok k) rfl ?_
  rintro _ w1 ⟨E, rfl⟩
  simp only [go_sem]
  refine ⟨fun h => hR _ _ ⟨E, by rw [kneeds_none (by omega)]⟩, fun h => ?_⟩
  have e : kneeds k = if k = 0 then 0 else if k = 1 ∨ k = 2 then 2 else 1 := by unfold kneeds; rw [if_pos h]
  rw [e] at hR
  refine ⟨fun h0 => hR _ _ ⟨E, by rw [if_pos h0]⟩, fun h0 => ⟨fun h1 => hR _ _ ⟨E, by rw [if_neg h0, if_pos (.inl h1)]⟩, fun h1 => ⟨fun h2 => hR _ _ ⟨E, by rw [if_neg h0, if_pos (.inr h2)]⟩, fun h2 => hR _ _ ⟨E, by rw [if_neg h0, if_neg (by omega)]⟩⟩⟩⟩

theorem rowsValid_ok {w : World} {v : Value} {xs : List Int} (hx : Ints w v xs) (hl : xs.length ≤ 1099511627776) :
    Calls Try.prog N.impl_rowValues_valid #[v] w (Ret fun r w' => Ext w w' ∧ r = .bool (decide (RowOk xs))) := by
  obtain ⟨a, c, rfl, hc, hx⟩ := hx.out
  refine ret_k fun R hR => c_impl_rowValues_valid _ _ _ ?_
  simp only [go_sem]
  have no : ¬ RowOk xs → R (.bool false) w := fun hn => hR _ _ ⟨Ext.refl _, by simp [hn]⟩
  refine ⟨fun h => no fun hd => by have := hd.1; omega, fun h => ?_⟩
  refine loopV (fun s w' => ∃ k : Nat, s = [.int .i64 k] ∧ k ≤ xs.length ∧ w' = w ∧ ∀ i (h : i < k) (h1 : i < xs.length), 0 ≤ xs[i] ∧ xs[i] < 1009) (upTo xs.length 0) ⟨0, rfl, by omega, rfl, fun i h => by omega⟩ ?_
  rintro s z _ K ⟨k, rfl, hk, rfl, hin⟩ hK
  simp only [go_sem]
  refine ⟨fun h => ?_, fun h => ?_⟩
  · have hk : k < xs.length := by omega
    refine idxLoad hx rfl hk ?_
    simp only [go_sem]
    refine ⟨fun h => no fun hd => by have := hd.2 _ (List.getElem_mem hk); omega, fun h1 => ⟨fun h => no fun hd => by have := hd.2 _ (List.getElem_mem hk); omega, fun h2 => ?_⟩⟩
    refine bin_inc (by omega) (hK _ _ ⟨k + 1, rfl, by omega, rfl, fun i hi h1 => ?_⟩ (by simp [upTo, nthV, iOf]; omega))
    by_cases e : i = k
    · subst e; omega
    · exact hin i (by omega) h1
  · refine hR _ _ ⟨Ext.refl _, ?_⟩
    have : RowOk xs := ⟨by omega, fun x hx => by obtain ⟨i, hi, rfl⟩ := List.mem_iff_getElem.1 hx; exact hin i (by omega) hi⟩
    simp [this]
theorem implRowValid_ok {w : World} {v : Value} {xs : List Int} (hx : Ints w v xs) (hl : xs.length ≤ 1099511627776) :
    Calls Try.prog N.impl_RowValid #[v] w (Ret fun r w' => Ext w w' ∧ r = .bool (decide (RowOk xs))) := by
  refine ret_k fun R hR => c_impl_RowValid _ _ _ ?_
  exact callV_of (rowsValid_ok hx hl) rfl fun _ w1 h => hR _ _ h
theorem specRowValid_ok {w : World} {v : Value} {xs : List Int} (hx : Ints w v xs) (hl : xs.length ≤ 1099511627776) :
    Calls Try.prog N.spec_RowValid #[v] w (Ret fun r w' => Ext w w' ∧ r = .bool (decide (RowOk xs))) := by
  obtain ⟨a, c, rfl, hc, hx⟩ := hx.out
  refine ret_k fun R hR => c_spec_RowValid _ _ _ ?_
  refine loopV (fun s w' => ∃ k : Nat, s = [.int .i64 k] ∧ k ≤ xs.length ∧ Ext w w' ∧ ∀ i (h : i < k) (h1 : i < xs.length), 0 ≤ xs[i] ∧ xs[i] < 1009) (upTo xs.length 0) ⟨0, rfl, by omega, Ext.refl _, fun i h => by omega⟩ ?_
  rintro s z w1 K ⟨k, rfl, hk, E, hin⟩ hK
  simp only [go_sem]
  refine ⟨fun h => ?_, fun h => ?_⟩
  · have hk : k < xs.length := by omega
    refine idxLoad (hx.ext E) rfl hk ?_
    refine callV_of (l6In_ok _ _ _) rfl ?_
    rintro _ w2 ⟨E2, rfl⟩
    simp only [go_sem]
    refine ⟨fun h => hR _ _ ⟨E.trans E2, ?_⟩, fun h => ?_⟩
    · have : ¬ RowOk xs := fun hd => h (by have := hd.2 _ (List.getElem_mem hk); omega)
      simp [this]
    · refine bin_inc (by omega) (hK _ _ ⟨k + 1, rfl, by omega, E.trans E2, fun i hi h1 => ?_⟩ (by simp [upTo, nthV, iOf]; omega))
      by_cases e : i = k
      · subst e; omega
      · exact hin i (by omega) h1
  · have hk : k = xs.length := by omega
    subst hk
    refine hR _ _ ⟨E, ?_⟩
    congr 1
    exact decide_eq_decide.2 ⟨fun h => ⟨by omega, fun x hx => by obtain ⟨i, hi, rfl⟩ := List.mem_iff_getElem.1 hx; exact hin i (by omega) hi⟩, fun h => by have := h.1; omega⟩
end Go.Proofs.Ytpfabjjeacdikaa
