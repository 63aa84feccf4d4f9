/-
At first what needs nothing is ready: the law FnCountsFirst returns true at every seed, and writes nothing that was there.
No condition.
-/
import Derived.Test.YtpfabjjeacdikaaDrawC
import Derived.Test.YtpfabjjeacdikaaCReady
import Derived.Test.YtpfabjjeacdikaaSame
import Derived.Test.YtpfabjjeacdikaaCFnCountsFirst
namespace Go.Proofs.Ytpfabjjeacdikaa
open Go Go.V

theorem fnCountsFirst_ok {w : World} {v : Value} {bs : List Int} (hx : RowIn .u8 w v bs) : Calls Try.prog N.laws_FnCountsFirst #[v] w (Ret fun r w' => Ext w w' ∧ r = .bool true) := by
  obtain ⟨a, c, hv, hc, _⟩ := hx.out
  refine ret_k fun R hR => c_laws_FnCountsFirst _ _ _ ?_
  have e0 : LenV v = LenV (.slice a bs.length c) := by rw [hv]
  rw [e0]
  simp only [go_sem]
  refine ⟨fun _ => hR _ _ ⟨Ext.refl _, rfl⟩, fun hlen => ?_⟩
  refine callV_of (drawCountsOf_ok hx) rfl fun t w1 ⟨p, lo, hd⟩ => ?_
  have hp := hd.pl.plan
  have hl := hd.len
  have hz := cntO_len (p := p)
  refine callV_of (implCountsOf_ok hp) rfl fun g w2 ⟨E2, f2⟩ => ?_
  refine callV_of (specCountsOf_ok (hp.ext E2)) rfl fun s w3 ⟨E3, f3⟩ => ?_
  refine callV_of (sameRow_ok (f2.ext E3).ints f3.ints (by omega)) rfl fun t4 w4 ⟨E4, h4⟩ => ?_
  subst h4
  have e4 := ((hd.ext.trans E2).trans E3).trans E4
  have E24 := (E2.trans E3).trans E4
  simp only [go_sem]
  refine ⟨fun h => by simp at h, fun _ => ?_⟩
  have hs := (f3.ext E4).ints
  rw [ints_len hs]
  simp only [go_sem]
  refine ⟨fun _ => ?_, fun hne => ?_⟩
  · refine callV_of (sameRow_ok ((f2.ext E3).ext E4).ints hs (by omega)) rfl fun t5 w5 ⟨E5, h5⟩ => ?_
    subst h5
    exact hR _ _ ⟨e4.trans E5, by simp⟩
  · have hok : PlanOk p := Classical.byContradiction fun h => by rw [if_neg h] at hne; simp at hne
    rw [if_pos hok] at f2 hz
    have hr : (readyL p []).length ≤ p.length := sel_len
    refine callV_of (implCountsReady_ok ((f2.ext E3).ext E4).ints (by omega)) rfl fun g5 w5 ⟨E5, f5⟩ => ?_
    rw [zeros_cnt hok] at f5
    refine ⟨_, rfl, fun w6 hn6 => ?_⟩
    refine callV_of (implReadyOf_ok (((hp.ext E24).ext E5).ext hn6.ext) (Ints.empty (w := w6)) (by simp)) rfl fun g7 w7 ⟨E7, f7⟩ => ?_
    rw [if_pos hok] at f7
    refine callV_of (sameRow_ok ((f5.ext hn6.ext).ext E7).ints f7.ints (by omega)) rfl fun t8 w8 ⟨E8, h8⟩ => ?_
    subst h8
    exact hR _ _ ⟨(((e4.trans E5).trans hn6.ext).trans E7).trans E8, by simp⟩
end Go.Proofs.Ytpfabjjeacdikaa
