/- Plans are compared: the reference's way. -/
import Derived.Test.YtblgkpfnjlobjaaExact
import Derived.Test.YtblgkpfnjlobjaaBasics
import Derived.Test.YtblgkpfnjlobjaaCF
namespace Go.Proofs.Ytblgkpfnjlobjaa
open Go Go.V

theorem sameNode_ok {w : World} {u v : Value} {x y : Nd} (hx : NdV w u x) (hy : NdV w v y) : Calls Try.prog N.laws_sameNode #[u, v] w (Ret fun r w' => Ext w w' ∧ r = .bool (decide (x = y))) := by
  obtain ⟨fu, ru, rfl, hfu, hru, hsx⟩ := hx.out
  obtain ⟨fv, rv, rfl, hfv, hrv, hsy⟩ := hy.out
  refine ret_k fun R hR => c_laws_sameNode _ _ _ _ ?_
  intro w1 hn1
  have hb1 := new_raw hfu hru hn1
  intro w2 hn2
  have hb2 := new_raw (hfv.ext hn1.ext) (hrv.ext hn1.ext) hn2
  have hb1 := hn2.ext.at hb1
  have E2 := hn1.ext.trans hn2.ext
  have no : ∀ w', Ext w w' → x ≠ y → R (.bool false) w' := fun w' hE hn => hR _ _ ⟨hE, by rw [decide_eq_false hn]⟩
  simp only [go_sem]
  refine load2 (v := .int .i64 x.kind) hb1 rfl (load2 (v := .int .i64 y.kind) hb2 rfl ?_)
  simp only [go_sem]
  refine ⟨fun hk => ?_, fun h => no _ E2 fun e => h (by rw [e])⟩
  refine load2 (v := fu) hb1 rfl (load2 (v := fv) hb2 rfl ?_)
  refine callV_of (sameRow_ok (hfu.ext E2) (hfv.ext E2) (by have := hsx.1; omega)) rfl ?_
  rintro _ w3 ⟨E3, rfl⟩
  have e3 := E2.trans E3
  simp only [go_sem]
  refine ⟨fun hf => ?_, fun h => no _ e3 fun e => h (by rw [e])⟩
  refine load2 (v := ru) (E3.at hb1) rfl (load2 (v := rv) (E3.at hb2) rfl ?_)
  refine callV_of (sameRow_ok (hru.ext e3) (hrv.ext e3) (by have := hsx.2; omega)) rfl ?_
  rintro _ w4 ⟨E4, rfl⟩
  refine hR _ _ ⟨e3.trans E4, ?_⟩
  obtain ⟨k1, f1, r1⟩ := x
  obtain ⟨k2, f2, r2⟩ := y
  simp only at hk hf
  subst hk
  subst hf
  congr 1
  rw [Bool.eq_iff_iff, decide_eq_true_eq, decide_eq_true_eq]
  simp

theorem samePlan_ok {w : World} {u v : Value} {p q : List Nd} (hp : PlanV w u p) (hq : PlanV w v q) : Calls Try.prog N.laws_samePlan #[u, v] w (Ret fun r w' => Ext w w' ∧ r = .bool (decide (p = q))) := by
  refine ret_k fun R hR => c_laws_samePlan _ _ _ _ ?_
  have hlen : ∀ K, LenV u K = K (.int .i64 p.length) := fun K => hp.len
  have hlen' : ∀ K, LenV v K = K (.int .i64 q.length) := fun K => hq.len
  have hsm := hp.small
  have no : ∀ w', Ext w w' → p ≠ q → R (.bool false) w' := fun w' hE hn => hR _ _ ⟨hE, by rw [decide_eq_false hn]⟩
  simp only [hlen, hlen', go_sem]
  refine ⟨fun h => no _ (Ext.refl _) fun e => h (by rw [e]), fun h => ?_⟩
  have hlq : p.length = q.length := by have := Classical.not_not.1 h; omega
  refine loopV (fun s w' => ∃ k : Nat, s = [.int .i64 k] ∧ k ≤ p.length ∧ Ext w w' ∧ ∀ i (_ : i < k) (h1 : i < p.length), p[i] = q[i]'(by omega)) (upTo p.length 0) ⟨0, rfl, by omega, Ext.refl _, fun i hi => by omega⟩ ?_
  rintro s z w1 K ⟨k, rfl, hk, E1, hin⟩ hK
  simp only [go_sem]
  refine ⟨fun h => ?_, fun h => ?_⟩
  · have hk : k < p.length := by omega
    refine draw_none fun w2 hs2 => ?_
    have e2 := E1.trans hs2.ext
    refine (hp.ext e2).loadS hk (fun _ _ => id) fun x hx => ?_
    refine (hq.ext e2).loadS (i := k) (by omega) (fun _ _ => id) fun y hy => ?_
    refine callV_of (sameNode_ok hx hy) rfl ?_
    rintro _ w3 ⟨E3, rfl⟩
    refine ⟨E3, ?_⟩
    have e3 := e2.trans E3
    simp only [go_sem]
    refine ⟨fun h => no _ e3 fun e => h (by subst e; rfl), fun he => ?_⟩
    refine bin_inc (by omega) (hK _ _ ⟨k + 1, rfl, by omega, e3, fun i hi hil => ?_⟩ (by simp [upTo, nthV, iOf]; omega))
    by_cases e : i = k
    · subst e; exact he
    · exact hin i (by omega) hil
  · refine hR _ _ ⟨E1, ?_⟩
    rw [decide_eq_true]
    exact List.ext_getElem hlq fun i h1 h2 => hin i (by omega) h1
end Go.Proofs.Ytblgkpfnjlobjaa
