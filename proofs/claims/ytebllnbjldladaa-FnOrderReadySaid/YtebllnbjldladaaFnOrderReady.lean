/-
In an order there is always something ready: the law FnOrderReady returns true at every seed, and writes nothing that was there.
No condition.
-/
import Derived.Test.YtebllnbjldladaaDrawF
import Derived.Test.YtebllnbjldladaaOrd
import Derived.Test.YtebllnbjldladaaCFnOrderReady
namespace Go.Proofs.Ytebllnbjldladaa
open Go Go.V

theorem slice_ints {w : World} {v : Value} {xs : List Int} {k : Nat} (h : Ints w v xs) (hk : k ≤ xs.length) {size : Nat} {K : Value → Prop} (hK : ∀ u, Ints w u (xs.take k) → K u) : SliceV size v none (some (.int .i64 k)) K := by
  obtain ⟨a, c, rfl, hc, hcell⟩ := h.out
  refine sliceHi (by omega) (hK _ ⟨a, c, ?_, ?_, ?_⟩)
  · rw [List.length_take, Nat.min_eq_left hk]
  · rw [List.length_take]; omega
  · simpa [ints] using Cells.take hcell k

theorem fnOrderReady_ok {w : World} {v v' : Value} {bs bs' : List Int} (hx : RowIn .u8 w v bs) (hx' : RowIn .u8 w v' bs') : Calls Try.prog N.laws_FnOrderReady #[v, v'] w (Ret fun r w' => Ext w w' ∧ r = .bool true) := by
  obtain ⟨a, c, hv, hc, _⟩ := hx.out
  obtain ⟨a', c', hv', hc', _⟩ := hx'.out
  refine ret_k fun R hR => c_laws_FnOrderReady _ _ _ _ ?_
  have e0 : LenV v = LenV (.slice a bs.length c) := by rw [hv]
  have e0' : LenV v' = LenV (.slice a' bs'.length c') := by rw [hv']
  rw [e0, e0']
  simp only [go_sem]
  refine ⟨fun _ => hR _ _ ⟨Ext.refl _, rfl⟩, fun hlen => ⟨fun _ => hR _ _ ⟨Ext.refl _, rfl⟩, fun hlen' => ?_⟩⟩
  refine callV_of (drawOrderFits_ok hx) rfl ?_
  rintro _ w1 ⟨t, u, p, xs, lo, lo', rfl, hd⟩
  have hp := hd.d.pl.plan
  have hxs := Own.ints hd.o
  have hxl := hd.len
  simp only [go_sem]
  refine callV_of (implOrderFits_ok hp hxs (by omega)) rfl ?_
  rintro _ w2 ⟨E2, rfl⟩
  refine callV_of (specOrderFits_ok (hp.ext E2) (hxs.ext E2) (by omega)) rfl ?_
  rintro _ w3 ⟨E3, rfl⟩
  have e3 := (hd.d.ext.trans E2).trans E3
  have hlu : ∀ K, LenV u K = K (.int .i64 xs.length) := fun K => ints_len hxs
  simp only [hlu, go_sem]
  refine ⟨fun h => by simp at h, fun _ => ⟨fun h => hR _ _ ⟨e3, by simp⟩, fun hF => ?_⟩⟩
  have hF : FitsO p xs := by simpa using hF
  refine bin_add ⟨by omega, by omega⟩ ?_
  rw [show (xs.length : Int) + 1 = ((xs.length + 1 : Nat) : Int) by omega]
  obtain ⟨k, hk, hkl⟩ := tmod_in (show (0 : Int) ≤ bs'.length by omega) (show (0 : Int) < ((xs.length + 1 : Nat) : Int) by omega)
  refine bin_rem (by omega) ?_
  rw [hk]
  refine slice_ints ((hxs.ext E2).ext E3) (by omega) fun s hs => ?_
  refine callV_of (implReadyOf_ok ((hp.ext E2).ext E3) hs (by rw [List.length_take]; omega)) rfl fun rv w4 ⟨E4, f4⟩ => ?_
  have hok := hF.1
  rw [if_pos hok] at f4
  rw [ints_len f4.ints]
  simp only [go_sem]
  have h10 := hok.len
  have hkey : ((readyL p (xs.take k)).length : Int) = 0 ↔ (k : Int) = xs.length := by
    constructor
    · intro h
      refine Classical.byContradiction fun hne => ?_
      have hlt : (xs.take k).length < p.length := by rw [List.length_take, hF.2.1]; have := hF.2.1; omega
      obtain ⟨j, hj, hn⟩ := lt_missing hlt
      have := ready_some hok hj hn
      exact this (List.eq_nil_of_length_eq_zero (by omega))
    · intro h
      have : xs.take k = xs := List.take_of_length_le (by omega)
      rw [this, ready_none fun j hj => nodup_all hF.2.2.nodup (fun x hx => hF.2.2.mem hx) (by have := hF.2.1; omega) hj]
      rfl
  refine hR _ _ ⟨e3.trans E4, ?_⟩
  congr 1
  by_cases h : (k : Int) = xs.length
  · rw [decide_eq_true h, decide_eq_true (hkey.2 h)]; rfl
  · rw [decide_eq_false h, decide_eq_false fun h' => h (hkey.1 h')]; rfl
end Go.Proofs.Ytebllnbjldladaa
