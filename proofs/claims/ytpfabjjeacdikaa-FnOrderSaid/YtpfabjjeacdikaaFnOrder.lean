/-
In an order each node comes once, behind what it needs: the law FnOrder returns true at every seed, and writes nothing that was there.
No condition.
-/
import Derived.Test.YtpfabjjeacdikaaDrawF
import Derived.Test.YtpfabjjeacdikaaOrd
import Derived.Test.YtpfabjjeacdikaaCFnOrder
namespace Go.Proofs.Ytpfabjjeacdikaa
open Go Go.V

theorem fnOrder_ok {w : World} {v : Value} {bs : List Int} (hx : RowIn .u8 w v bs) : Calls Try.prog N.laws_FnOrder #[v] w (Ret fun r w' => Ext w w' ∧ r = .bool true) := by
  obtain ⟨a, c, hv, hc, _⟩ := hx.out
  refine ret_k fun R hR => c_laws_FnOrder _ _ _ ?_
  have e0 : LenV v = LenV (.slice a bs.length c) := by rw [hv]
  rw [e0]
  simp only [go_sem]
  refine ⟨fun _ => hR _ _ ⟨Ext.refl _, rfl⟩, fun hlen => ?_⟩
  refine callV_of (drawOrderFits_ok hx) rfl ?_
  rintro _ w1 ⟨t, u, p, xs, lo, lo', rfl, hd⟩
  have hp := hd.d.pl.plan
  have hxs := Own.ints hd.o
  have hxl := hd.len
  simp only [go_sem]
  refine callV_of (implOrderFits_ok hp hxs (by omega)) rfl ?_
  rintro _ w2 ⟨E2, rfl⟩
  refine callV_of (specOrderFits_ok (hp.ext E2) (hxs.ext E2) (by omega)) rfl ?_
  rintro _ w3 ⟨E3, rfl⟩
  have e3 := (hd.d.ext.trans E2).trans E3
  have hlt : ∀ K, LenV t K = K (.int .i64 p.length) := fun K => hp.len
  simp only [hlt, go_sem]
  refine ⟨fun h => by simp at h, fun _ => ⟨fun h => hR _ _ ⟨e3, by simp⟩, fun hF => ?_⟩⟩
  have hF : FitsO p xs := by simpa using hF
  have hok := hF.1
  have hord := hF.2.2
  have hxs3 := (hxs.ext E2).ext E3
  obtain ⟨xa, xc, rfl, hxc, hxcell⟩ := hxs3.out
  simp only [go_sem]
  refine loopV (fun s w' => ∃ k : Nat, s = [.int .i64 k] ∧ k ≤ xs.length ∧ Ext w3 w') (upTo xs.length 0) ⟨0, rfl, by omega, Ext.refl _⟩ ?_
  rintro s z w4 K ⟨k, rfl, hk, E4⟩ hK
  simp only [go_sem]
  refine ⟨fun h => ?_, fun h => hR _ _ ⟨e3.trans E4, by rw [hF.2.1]; simp⟩⟩
  have hk : k < xs.length := by omega
  refine draw_none fun w5 hs5 => ?_
  have E5 := E4.trans hs5.ext
  refine sliceHi (k := k) (by omega) ?_
  refine idxLoadS (hxcell.ext E5) rfl hk (fun _ _ _ => id) ?_
  have htk : ∀ {w' : World}, Ext w3 w' → Ints w' (.slice xa k xc) (xs.take k) := fun {w'} hE => by
    have hl' : (xs.take k).length = k := by rw [List.length_take]; omega
    refine ⟨xa, xc, by rw [hl'], by rw [hl']; omega, ?_⟩
    simpa [ints] using Cells.take (hxcell.ext hE) k
  have htl : (xs.take k).length ≤ 11 := by rw [List.length_take]; omega
  refine callV_of (hasInt_ok (htk E5) (by omega) _) rfl ?_
  rintro _ w6 ⟨E6, rfl⟩
  refine ⟨E6, ?_⟩
  have e6 := E5.trans E6
  have hnew := (hord k hk).2.1
  simp only [go_sem]
  refine ⟨fun h => absurd h hnew, fun _ => ?_⟩
  refine sliceHi (k := k) (by omega) ?_
  refine idxLoadS (hxcell.ext e6) rfl hk (fun _ _ _ => id) ?_
  refine callV_of (implReadyOf_ok (((hp.ext E2).ext E3).ext e6) (htk e6) (by omega)) rfl fun rv w7 ⟨E7, f7⟩ => ⟨E7, ?_⟩
  rw [if_pos hok] at f7
  have hr : (readyL p (xs.take k)).length ≤ p.length := sel_len
  have hl := hd.d.len
  refine callV_of (hasInt_ok f7.ints (by omega) _) rfl ?_
  rintro _ w8 ⟨E8, rfl⟩
  refine ⟨E8, ?_⟩
  have hmem : xs[k] ∈ readyL p (xs.take k) := by
    have hn := (hord k hk).1
    refine mem_sel.2 ⟨xs[k].toNat, by omega, ⟨?_, (hord k hk).2.2⟩, by omega⟩
    rw [show ((xs[k].toNat : Nat) : Int) = xs[k] by omega]; exact hnew
  simp only [go_sem]
  refine ⟨fun h => absurd hmem h, fun _ => ?_⟩
  exact bin_inc (by omega) (hK _ _ ⟨k + 1, rfl, by omega, (e6.trans E7).trans E8⟩ (by simp [upTo, nthV, iOf]; omega))
end Go.Proofs.Ytpfabjjeacdikaa
