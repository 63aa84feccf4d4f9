/- Nodes and plans that are valid: the reference's way; the program's look at a node. -/
import Derived.Test.YtpfabjjeacdikaaKinds
import Derived.Test.YtpfabjjeacdikaaCP
namespace Go.Proofs.Ytpfabjjeacdikaa
open Go Go.V

theorem l3Wide_ok {w : World} {v : Value} {p : List Nd} (hp : PlanV w v p) : Calls Try.prog N.spec_l3Wide #[v] w (Ret fun r w' => Ext w w' ∧ r = .int .i64 (wide p)) := by
  have hsm := hp.small
  refine ret_k fun R hR => c_spec_l3Wide _ _ _ ?_
  refine loopV (fun s w' => ∃ k : Nat, s = [.int .i64 k] ∧ k ≤ p.length ∧ w' = w ∧ wide p = wide (p.drop k)) (upTo p.length 0) ⟨0, rfl, by omega, rfl, by simp⟩ ?_
  rintro s z _ K ⟨k, rfl, hk, rfl, hw⟩ hK
  rw [hp.len]
  simp only [go_sem]
  refine ⟨fun h => ?_, fun h => ?_⟩
  · have hk : k < p.length := by omega
    have hd := List.drop_eq_getElem_cons hk
    refine hp.idx hk fun b o fv rv h0 h1 h2 hf hr hs => ?_
    simp only [go_sem]
    refine load_cell h0 ?_
    simp only [go_sem]
    refine ⟨fun e => ?_, fun e => ?_⟩
    · refine hp.idx hk fun b o fv rv h0 h1 h2 hf hr hs => ?_
      simp only [go_sem]
      refine load_cell h2 ?_
      rw [ints_len hr]
      refine hR _ _ ⟨Ext.refl _, ?_⟩
      rw [hw, hd, wide, if_pos e]
    · refine bin_inc (by omega) (hK _ _ ⟨k + 1, rfl, by omega, rfl, ?_⟩ (by simp [upTo, nthV, iOf]; omega))
      rw [hw, hd, wide, if_neg e]
  · refine hR _ _ ⟨Ext.refl _, ?_⟩
    rw [hw, List.drop_of_length_le (by omega)]; rfl

theorem l3Node_ok {w : World} {v : Value} {x : Nd} {i wd : Nat} (hx : NdV w v x) (hi : i ≤ 1048576) :
    Calls Try.prog N.spec_l3Node #[v, .int .i64 i, .int .i64 wd] w (Ret fun r w' => Ext w w' ∧ r = .bool (decide (NdFits x i ∧ (x.kind = 0 → x.row.length = wd)))) := by
  refine ret_k fun R hR => c_spec_l3Node _ _ _ _ _ ?_
  refine box_node hx fun w1 E1 hb hlt => ?_
  have hsm := hb.sml
  have no : ∀ w', Ext w w' → ¬ (NdFits x i ∧ (x.kind = 0 → x.row.length = wd)) → R (.bool false) w' := fun w' hE hn => hR _ _ ⟨hE, by rw [decide_eq_false hn]⟩
  refine draw_none fun w2 hs => ?_
  have E2 := E1.trans hs.ext
  have hb2 := hb.ext hs.ext
  simp only [go_sem]
  refine hb2.kindS id (hb2.frmS id fun fv hf => ?_)
  rw [ints_len hf]
  refine callV_of (specKindNeeds_ok _) rfl ?_
  rintro _ w3 ⟨E3, rfl⟩
  refine ⟨E3, ?_⟩
  have hb3 := hb2.ext E3
  have e3 := E2.trans E3
  simp only [go_sem]
  refine ⟨fun h => no _ e3 fun hd => h (by rw [hd.1.1]), fun hn => ?_⟩
  refine hb3.rowS id fun rv hr => ?_
  refine callV_of (specRowValid_ok hr (by have := hsm.2; omega)) rfl ?_
  rintro _ w4 ⟨E4, rfl⟩
  refine ⟨E4, ?_⟩
  have hb4 := hb3.ext E4
  have e4 := e3.trans E4
  have hok : NdFits x i → RowOk x.row := fun hd => by
    have := hd.2.2
    split at this
    · exact this
    · rw [this]; exact ⟨by simp, by simp⟩
  simp only [go_sem]
  refine ⟨fun h => no _ e4 fun hd => h (hok hd.1), fun hrow => ?_⟩
  refine loopV (fun s w' => ∃ k : Nat, s = [.int .i64 k] ∧ k ≤ x.frm.length ∧ Ext w4 w' ∧ ∀ j (h : j < k) (h1 : j < x.frm.length), 0 ≤ x.frm[j] ∧ x.frm[j] < i) (upTo x.frm.length 0) ⟨0, rfl, by omega, Ext.refl _, fun j h => by omega⟩ ?_
  rintro s z w5 K ⟨k, rfl, hk, E5, hin⟩ hK
  have hb5 := hb4.ext E5
  simp only [go_sem]
  refine hb5.frm fun fv5 hf5 => ?_
  rw [ints_len hf5]
  have hl := hsm.1
  simp only [go_sem]
  refine ⟨fun h => ?_, fun h => ?_⟩
  · have hk : k < x.frm.length := by omega
    refine hb5.frm fun fv5 hf5 => ?_
    obtain ⟨a, c, rfl, _, hf5⟩ := hf5.out
    refine idxLoad hf5 rfl hk (bin_sub ⟨by omega, by omega⟩ ?_)
    refine callV_of (l6In_ok _ _ _) rfl ?_
    rintro _ w6 ⟨E6, rfl⟩
    simp only [go_sem]
    refine ⟨fun h => no _ ((e4.trans E5).trans E6) fun hd => h (by have := hd.1.2.1 _ (List.getElem_mem hk); omega), fun h1 => ?_⟩
    refine bin_inc (by omega) (hK _ _ ⟨k + 1, rfl, by omega, E5.trans E6, fun j hj h2 => ?_⟩ (by simp [upTo, nthV, iOf]; omega))
    by_cases e : j = k
    · subst e; omega
    · exact hin j (by omega) h2
  · have hall : ∀ f ∈ x.frm, 0 ≤ f ∧ f < (i : Int) := fun f hf => by obtain ⟨j, hj, rfl⟩ := List.mem_iff_getElem.1 hf; exact hin j (by omega) hj
    refine hb5.kind ?_
    simp only [go_sem]
    refine ⟨fun h0 => ?_, fun h0 => ?_⟩
    · refine hb5.row fun rv5 hr5 => ?_
      rw [ints_len hr5]
      simp only [go_sem]
      refine hR _ _ ⟨e4.trans E5, ?_⟩
      congr 1
      refine decide_eq_decide.2 ⟨fun h => ⟨⟨by omega, hall, by rw [if_pos h0]; exact hrow⟩, fun _ => by omega⟩, fun hd => by have := hd.2 h0; omega⟩
    · refine hb5.row fun rv5 hr5 => ?_
      rw [ints_len hr5]
      simp only [go_sem]
      refine hR _ _ ⟨e4.trans E5, ?_⟩
      congr 1
      refine decide_eq_decide.2 ⟨fun h => ⟨⟨by omega, hall, by rw [if_neg h0]; exact List.eq_nil_of_length_eq_zero (by omega)⟩, fun h => absurd h h0⟩, fun hd => by have := hd.1.2.2; rw [if_neg h0] at this; simp [this]⟩

theorem specPlanValid_ok {w : World} {v : Value} {p : List Nd} (hp : PlanV w v p) : Calls Try.prog N.spec_PlanValid #[v] w (Ret fun r w' => Ext w w' ∧ r = .bool (decide (PlanOk p))) := by
  have hsm := hp.small
  refine ret_k fun R hR => c_spec_PlanValid _ _ _ ?_
  refine loopV (fun s w' => ∃ k : Nat, s = [.int .i64 k] ∧ k ≤ p.length ∧ Ext w w' ∧ ∀ i (h : i < k) (h1 : i < p.length), NdFits p[i] i ∧ (p[i].kind = 0 → p[i].row.length = wide p)) (upTo p.length 0) ⟨0, rfl, by omega, Ext.refl _, fun i h => by omega⟩ ?_
  rintro s z w1 K ⟨k, rfl, hk, E, hin⟩ hK
  have hp1 := hp.ext E
  rw [hp1.len]
  simp only [go_sem]
  refine ⟨fun h => ?_, fun h => ?_⟩
  · have hk : k < p.length := by omega
    refine draw_none fun w2 hs => ?_
    have hp2 := hp1.ext hs.ext
    refine hp2.loadS hk (fun _ _ => id) fun xv hxv => ?_
    refine callV_of (l3Wide_ok hp2) rfl ?_
    rintro _ w3 ⟨E3, rfl⟩
    refine ⟨E3, ?_⟩
    refine callV_of (l3Node_ok (hxv.ext E3) (by omega)) rfl ?_
    rintro _ w4 ⟨E4, rfl⟩
    refine ⟨E4, ?_⟩
    have e4 := ((E.trans hs.ext).trans E3).trans E4
    simp only [go_sem]
    refine ⟨fun h => hR _ _ ⟨e4, ?_⟩, fun h => ?_⟩
    · have : ¬ PlanOk p := fun hd => h (hd.2 k hk)
      rw [decide_eq_false this]
    · refine bin_inc (by omega) (hK _ _ ⟨k + 1, rfl, by omega, e4, fun i hi h1 => ?_⟩ (by simp [upTo, nthV, iOf]; omega))
      by_cases e : i = k
      · subst e; exact h
      · exact hin i (by omega) h1
  · have hk : k = p.length := by omega
    subst hk
    rw [hp1.len]
    simp only [go_sem]
    refine hR _ _ ⟨E, ?_⟩
    congr 1
    exact decide_eq_decide.2 ⟨fun h => ⟨by omega, fun i hi => hin i hi hi⟩, fun h => by have := h.1; omega⟩

theorem nodeFits_ok {w : World} {v : Value} {x : Nd} {i : Nat} (hx : NdV w v x) :
    Calls Try.prog N.impl_nodeFits #[v, .int .i64 i] w (Ret fun r w' => Ext w w' ∧ r = .bool (decide (NdFits x i))) := by
  refine ret_k fun R hR => c_impl_nodeFits _ _ _ _ ?_
  refine box_node hx fun w1 E1 hb hlt => ?_
  have hsm := hb.sml
  have no : ∀ w', Ext w w' → ¬ NdFits x i → R (.bool false) w' := fun w' hE hn => hR _ _ ⟨hE, by rw [decide_eq_false hn]⟩
  refine draw_none fun w2 hs => ?_
  have E2 := E1.trans hs.ext
  have hb2 := hb.ext hs.ext
  simp only [go_sem]
  refine hb2.kindS id ?_
  refine callV_of (implKindValid_ok _) rfl ?_
  rintro _ w3 ⟨E3, rfl⟩
  refine ⟨E3, ?_⟩
  have hb3 := hb2.ext E3
  have e3 := E2.trans E3
  simp only [go_sem]
  refine ⟨fun h => no _ e3 fun hd => ?_, fun hkv => ?_⟩
  · have := hd.1
    rw [kneeds_none (by omega)] at this
    omega
  refine hb3.frmS id fun fv hf => ?_
  rw [ints_len hf]
  refine hb3.kindS id ?_
  refine callV_of (implKindNeeds_ok _) rfl ?_
  rintro _ w4 ⟨E4, rfl⟩
  refine ⟨E4, ?_⟩
  have hb4 := hb3.ext E4
  have e4 := e3.trans E4
  simp only [go_sem]
  refine ⟨fun h => no _ e4 fun hd => h hd.1, fun hn => ?_⟩
  refine hb4.frm fun fv4 hf4 => ?_
  obtain ⟨a, c, rfl, _, hf4⟩ := hf4.out
  simp only [go_sem]
  refine loopV (fun s w' => ∃ k : Nat, s = [.int .i64 k] ∧ k ≤ x.frm.length ∧ w' = w4 ∧ ∀ j (h : j < k) (h1 : j < x.frm.length), 0 ≤ x.frm[j] ∧ x.frm[j] < i) (upTo x.frm.length 0) ⟨0, rfl, by omega, rfl, fun j h => by omega⟩ ?_
  rintro s z w5 K ⟨k, rfl, hk, rfl, hin⟩ hK
  have hl := hsm.1
  simp only [go_sem]
  refine ⟨fun h => ?_, fun h => ?_⟩
  · have hk : k < x.frm.length := by omega
    refine idxLoad hf4 rfl hk ?_
    simp only [go_sem]
    refine ⟨fun h => no _ e4 fun hd => by have := hd.2.1 _ (List.getElem_mem hk); omega, fun h1 => ⟨fun h => no _ e4 fun hd => by have := hd.2.1 _ (List.getElem_mem hk); omega, fun h2 => ?_⟩⟩
    refine bin_inc (by omega) (hK _ _ ⟨k + 1, rfl, by omega, rfl, fun j hj h2 => ?_⟩ (by simp [upTo, nthV, iOf]; omega))
    by_cases e : j = k
    · subst e; omega
    · exact hin j (by omega) h2
  · have hall : ∀ f ∈ x.frm, 0 ≤ f ∧ f < (i : Int) := fun f hf => by obtain ⟨j, hj, rfl⟩ := List.mem_iff_getElem.1 hf; exact hin j (by omega) hj
    refine hb4.kind ?_
    simp only [go_sem]
    refine ⟨fun h0 => ?_, fun h0 => ?_⟩
    · refine hb4.row fun rv5 hr5 => ?_
      refine callV_of (implRowValid_ok hr5 (by have := hsm.2; omega)) rfl ?_
      rintro _ w6 ⟨E6, rfl⟩
      refine hR _ _ ⟨e4.trans E6, ?_⟩
      congr 1
      exact decide_eq_decide.2 ⟨fun h => ⟨by omega, hall, by rw [if_pos h0]; exact h⟩, fun hd => by have := hd.2.2; rw [if_pos h0] at this; exact this⟩
    · refine hb4.row fun rv5 hr5 => ?_
      rw [ints_len hr5]
      simp only [go_sem]
      refine hR _ _ ⟨e4, ?_⟩
      congr 1
      refine decide_eq_decide.2 ⟨fun h => ⟨by omega, hall, by rw [if_neg h0]; exact List.eq_nil_of_length_eq_zero (by omega)⟩, fun hd => by have := hd.2.2; rw [if_neg h0] at this; simp [this]⟩
end Go.Proofs.Ytpfabjjeacdikaa
