/- Orders that fit; schedules by turns. -/
import Derived.Test.YtpfabjjeacdikaaCnt
namespace Go.Proofs.Ytpfabjjeacdikaa
open Go Go.V

def FitsO (p : List Nd) (l : List Int) : Prop := PlanOk p ∧ l.length = p.length ∧ OrdOk p l
noncomputable instance (p : List Nd) (l : List Int) : Decidable (FitsO p l) := Classical.propDecidable _

theorem implOrderFits_ok {w : World} {v lv : Value} {p : List Nd} {l : List Int} (hp : PlanV w v p) (hl : Ints w lv l) (hll : l.length ≤ 1099511627776) :
    Calls Try.prog N.impl_OrderFits #[v, lv] w (Ret fun r w' => Ext w w' ∧ r = .bool (decide (FitsO p l))) := by
  refine ret_k fun R hR => c_impl_OrderFits _ _ _ _ ?_
  have hlen : ∀ K, LenV v K = K (.int .i64 p.length) := fun K => hp.len
  have hlen' : ∀ K, LenV lv K = K (.int .i64 l.length) := fun K => ints_len hl
  refine callV_of (implPlanValid_ok hp) rfl ?_
  rintro _ w1 ⟨E1, rfl⟩
  simp only [hlen, hlen', go_sem]
  have no : ∀ w', Ext w w' → ¬ FitsO p l → R (.bool false) w' := fun w' hE hn => hR _ _ ⟨hE, by rw [decide_eq_false hn]⟩
  refine ⟨fun hok => ⟨fun he => ?_, fun hne => no _ E1 fun h => hne (by rw [h.2.1])⟩, fun hno => no _ E1 fun h => hno h.1⟩
  refine callV_of (orderBegins_ok (hp.ext E1) hok (hl.ext E1) hll) rfl ?_
  rintro _ w2 ⟨E2, rfl⟩
  refine hR _ _ ⟨E1.trans E2, ?_⟩
  congr 1
  exact decide_eq_decide.2 ⟨fun h => ⟨hok, by omega, h⟩, fun h => h.2.2⟩

theorem specOrderFits_ok {w : World} {v lv : Value} {p : List Nd} {l : List Int} (hp : PlanV w v p) (hl : Ints w lv l) (hll : l.length ≤ 1099511627776) :
    Calls Try.prog N.spec_OrderFits #[v, lv] w (Ret fun r w' => Ext w w' ∧ r = .bool (decide (FitsO p l))) := by
  refine ret_k fun R hR => c_spec_OrderFits _ _ _ _ ?_
  have hlen : ∀ K, LenV v K = K (.int .i64 p.length) := fun K => hp.len
  have hsm := hp.small
  obtain ⟨la, lc, rfl, hlc, hlcell⟩ := hl.out
  simp only [hlen, go_sem]
  have no : ∀ w', Ext w w' → ¬ OrdOk p l → R (.bool false) w' := fun w' hE hn => hR _ _ ⟨hE, by rw [decide_eq_false fun h => hn h.2.2]⟩
  refine loopV (fun s w' => ∃ k : Nat, s = [.int .i64 k] ∧ k ≤ l.length ∧ Ext w w' ∧ ∀ i (_ : i < k) (h : i < l.length), (0 ≤ l[i] ∧ l[i] < p.length) ∧ l[i] ∉ l.take i ∧ ∀ f ∈ fr p l[i].toNat, f ∈ l.take i) (upTo l.length 0) ⟨0, rfl, by omega, Ext.refl _, fun i hi => by omega⟩ ?_
  rintro s z w1 K ⟨k, rfl, hk, E1, hin⟩ hK
  simp only [go_sem]
  refine ⟨fun h => ?_, fun h => ?_⟩
  · have hk : k < l.length := by omega
    refine draw_none fun w2 hs2 => ?_
    have e2 := E1.trans hs2.ext
    refine idxLoadS (hlcell.ext e2) rfl hk (fun _ _ _ => id) ?_
    refine bin_sub ⟨by omega, by omega⟩ ?_
    refine callV_of (l6In_ok _ _ _) rfl ?_
    rintro _ w3 ⟨E3, rfl⟩
    refine ⟨E3, ?_⟩
    have e3 := e2.trans E3
    simp only [go_sem]
    refine ⟨fun h => no _ e3 fun hd => h (by have := (hd k hk).1; omega), fun hnode => ?_⟩
    refine sliceHi (k := k) (by omega) ?_
    refine idxLoadS (hlcell.ext e3) rfl hk (fun _ _ _ => id) ?_
    refine callV_of (l3Has_ok (xs := l.take k) (by simpa [ints] using Cells.take (hlcell.ext e3) k) (by rw [List.length_take]; omega) (by omega) _) rfl ?_
    rintro _ w4 ⟨E4, rfl⟩
    refine ⟨E4, ?_⟩
    have e4 := e3.trans E4
    simp only [go_sem]
    refine ⟨fun h => no _ e4 fun hd => (hd k hk).2.1 h, fun hnew => ?_⟩
    refine sliceHi (k := k) (by omega) ?_
    refine idxLoadS (hlcell.ext e4) rfl hk (fun _ _ _ => id) ?_
    obtain ⟨i, hi⟩ : ∃ i : Nat, l[k] = (i : Int) := ⟨l[k].toNat, by omega⟩
    have hip : i < p.length := by omega
    rw [hi]
    refine (hp.ext e4).idx hip fun b o fv rv h0 h1 h2 hf hr hs => ?_
    simp only [go_sem]
    refine loadS_cell h1 id ?_
    have htk : Ints w4 (.slice la k lc) (l.take k) := by
      have hl' : (l.take k).length = k := by rw [List.length_take]; omega
      refine ⟨la, lc, by rw [hl'], by rw [hl']; omega, ?_⟩
      simpa [ints] using Cells.take (hlcell.ext e4) k
    refine callV_of (l5All_ok htk hf (by rw [List.length_take]; omega) (by have := hs.1; omega)) rfl ?_
    rintro _ w5 ⟨E5, rfl⟩
    refine ⟨E5, ?_⟩
    have e5 := e4.trans E5
    simp only [go_sem]
    refine ⟨fun h => no _ e5 fun hd => h ?_, fun hall => ?_⟩
    · have := (hd k hk).2.2
      rw [hi, Int.toNat_natCast, fr_get hip] at this
      exact this
    · refine bin_inc (by omega) (hK _ _ ⟨k + 1, rfl, by omega, e5, fun j hj hjl => ?_⟩ (by simp [upTo, nthV, iOf]; omega))
      by_cases e : j = k
      · subst e
        rw [hi]
        refine ⟨by omega, by rw [← hi]; exact hnew, ?_⟩
        rw [Int.toNat_natCast, fr_get hip]; exact hall
      · exact hin j (by omega) hjl
  · refine callV_of (specPlanValid_ok (hp.ext E1)) rfl ?_
    rintro _ w2 ⟨E2, rfl⟩
    have hord : OrdOk p l := fun i hi => hin i (by omega) hi
    simp only [go_sem]
    refine ⟨fun hok => hR _ _ ⟨E1.trans E2, ?_⟩, fun hno => hR _ _ ⟨E1.trans E2, by rw [decide_eq_false fun h => hno h.1]⟩⟩
    congr 1
    exact decide_eq_decide.2 ⟨fun h => ⟨hok, by omega, hord⟩, fun h => by have := h.2.1; omega⟩

end Go.Proofs.Ytpfabjjeacdikaa
