/-
Keeping twice is keeping once: the law FnKeepTwice returns true at every seed, and writes nothing that was there.
No condition.
-/
import Derived.Test.YtpfabjjeacdikaaDrawLC
import Derived.Test.YtpfabjjeacdikaaKeep
import Derived.Test.YtpfabjjeacdikaaEnds
import Derived.Test.YtpfabjjeacdikaaSame
import Derived.Test.YtpfabjjeacdikaaCFnKeepTwice
namespace Go.Proofs.Ytpfabjjeacdikaa
open Go Go.V

theorem keepO_ok {p : List Nd} {l : List Int} (h : KeepOk p l) : keepO p l = keepL p l := by unfold keepO; rw [if_pos h]
theorem keepL_nodes {p : List Nd} {l : List Int} : ∀ x ∈ keepL p l, 0 ≤ x ∧ x < (p.length : Int) := fun x hx => by
  obtain ⟨k, hk, _, rfl⟩ := mem_sel.1 hx; omega
theorem endsL_nodes {p : List Nd} : ∀ x ∈ endsL p, 0 ≤ x ∧ x < (p.length : Int) := fun x hx => by
  obtain ⟨k, hk, _, rfl⟩ := mem_sel.1 hx; omega

theorem fnKeepTwice_ok {w : World} {v : Value} {bs : List Int} (hx : RowIn .u8 w v bs) : Calls Try.prog N.laws_FnKeepTwice #[v] w (Ret fun r w' => Ext w w' ∧ r = .bool true) := by
  obtain ⟨a, c, hv, hc, _⟩ := hx.out
  refine ret_k fun R hR => c_laws_FnKeepTwice _ _ _ ?_
  have e0 : LenV v = LenV (.slice a bs.length c) := by rw [hv]
  rw [e0]
  simp only [go_sem]
  refine ⟨fun _ => hR _ _ ⟨Ext.refl _, rfl⟩, fun hlen => ?_⟩
  refine callV_of (drawCutKeep_ok hx) rfl ?_
  rintro _ w1 ⟨t, u, p, xs, lo, rfl, hd⟩
  have hp := hd.d.pl.plan
  have hl := hd.d.len
  have hxl := hd.len
  have hk := keepO_len p xs
  simp only [go_sem]
  refine callV_of (implCutKeep_ok hp hd.o (by omega)) rfl ?_
  rintro _ w2 ⟨g, rfl, E2, f2⟩
  simp only [go_sem]
  refine callV_of (specCutKeep_ok (hp.ext E2) (hd.o.ext E2) (by omega)) rfl ?_
  rintro _ w3 ⟨s, rfl, E3, f3⟩
  have e3 := (hd.d.ext.trans E2).trans E3
  have hlt : ∀ K, LenV t K = K (.int .i64 p.length) := fun K => hp.len
  simp only [hlt, go_sem]
  refine ⟨fun h => by simp at h, fun _ => ?_⟩
  refine callV_of (sameRow_ok (f2.ext E3).ints f3.ints (by omega)) rfl fun t4 w4 ⟨E4, h4⟩ => ?_
  subst h4
  have e4 := e3.trans E4
  simp only [go_sem]
  refine ⟨fun h => by simp at h, fun _ => ⟨fun _ => ⟨fun _ => ?_, fun h => by simp at h⟩, fun hK => ?_⟩⟩
  · refine callV_of (sameRow_ok ((f2.ext E3).ext E4).ints (f3.ext E4).ints (by omega)) rfl fun t5 w5 ⟨E5, h5⟩ => ?_
    subst h5
    exact hR _ _ ⟨e4.trans E5, by simp⟩
  · have hK : KeepOk p xs := by simpa using hK
    have hok := hK.1
    have hK2 : KeepOk p (keepO p xs) := ⟨hok, by rw [keepO_ok hK]; exact keepL_nodes⟩
    have hp4 := ((hp.ext E2).ext E3).ext E4
    refine callV_of (implCutKeep_ok hp4 ((f2.ext E3).ext E4).ints (by omega)) rfl ?_
    rintro _ w5 ⟨g5, rfl, E5, f5⟩
    simp only [go_sem]
    refine callV_of (planEnds_ok (hp4.ext E5)) rfl fun g6 w6 ⟨E6, f6⟩ => ?_
    have he := endsO_len p
    have hK3 : KeepOk p (endsO p) := ⟨hok, by unfold endsO; rw [if_pos hok]; exact endsL_nodes⟩
    refine callV_of (implCutKeep_ok ((hp4.ext E5).ext E6) f6.ints (by omega)) rfl ?_
    rintro _ w7 ⟨g7, rfl, E7, f7⟩
    have tw : keepO p (keepO p xs) = keepO p xs := by rw [keepO_ok hK2, keepO_ok hK, keep_twice hok hK.2]
    have en : (keepO p (endsO p)).length = p.length := by rw [keepO_ok hK3]; unfold endsO; rw [if_pos hok]; exact keep_ends_len hok
    simp only [decide_eq_true hK3, go_sem]
    rw [tw] at f5
    refine ⟨fun _ => ⟨fun _ => ?_, fun h => by cases h⟩, fun h => absurd hK2 h⟩
    refine callV_of (sameRow_ok ((f5.ext E6).ext E7).ints (((((f2.ext E3).ext E4).ext E5).ext E6).ext E7).ints (by omega)) rfl fun t8 w8 ⟨E8, h8⟩ => ?_
    subst h8
    have e8 := (((e4.trans E5).trans E6).trans E7).trans E8
    rw [ints_len (f7.ext E8).ints]
    simp only [hlt, en, decide_true, go_sem]
    exact ⟨fun _ => hR _ _ ⟨e8, rfl⟩, fun h => by simp at h⟩
end Go.Proofs.Ytpfabjjeacdikaa
