/-
The order of folding does not count: the law FnFoldAllTurn returns true at every seed, and writes nothing that was there.
No condition.
-/
import Derived.Test.YtblgkpfnjlobjaaFoldPre
import Derived.Test.YtblgkpfnjlobjaaCFnFoldAllTurn
namespace Go.Proofs.Ytblgkpfnjlobjaa
open Go Go.V

theorem fnFoldAllTurn_ok {w : World} {v : Value} {bs : List Int} (hx : RowIn .u8 w v bs) : Calls Try.prog N.laws_FnFoldAllTurn #[v] w (Ret fun r w' => Ext w w' ∧ r = .bool true) := by
  refine ret_k fun R hR => c_laws_FnFoldAllTurn _ _ _ ?_
  obtain ⟨va, vc, hv, hvc, _⟩ := hx.out
  have e0 : LenV v = LenV (.slice va bs.length vc) := by rw [hv]
  rw [e0]
  simp only [LenV_i, Bin_gtr, Split_d]
  refine ⟨fun _ => hR _ _ ⟨Ext.refl _, rfl⟩, fun _ => ?_⟩
  refine drawFoldAll hx fun t l w1 p ls lo hd => ?_
  have hp := hd.d.pl.plan
  have hpl := hd.d.len
  have hl := hd.o
  have hll := hd.len
  simp only [Ext_20, Ext_21]
  refine fold_eq (implFoldAll_ok hp hl (by omega)) (fun w2 E => specFoldAll_ok (hp.ext E) (hl.ext E) (by omega)) (fun w' E => hR _ _ ⟨hd.d.ext.trans E, rfl⟩) fun u w2 hK hu E2 => ?_
  have hok := hK.1
  have llen : ∀ K, LenV l K = K (.int .i64 ls.length) := fun K => ints_len hl
  have hrl : ls.reverse.length = ls.length := List.length_reverse
  have hKr : KeepOk p ls.reverse := ⟨hok, fun x hx => hK.2 x (List.mem_reverse.1 hx)⟩
  have hfr : foldO p ls.reverse = foldO p ls := by
    rw [foldO_yes hK, foldO_yes hKr]
    exact foldP_congr fun i _ => List.mem_reverse
  refine ⟨_, rfl, fun w3 hn3 => ?_⟩
  have z3 := hn3.size
  simp only [llen, go_sem]
  refine bin_sub ⟨by omega, by omega⟩ ?_
  refine loopV (fun s w' => ∃ (k : Nat) (z : Value), s = [z, .int .i64 ((ls.length : Int) - 1 - k)] ∧ k ≤ ls.length ∧ Ext w2 w' ∧ w3.heap.size ≤ w'.heap.size ∧ Own w' w2.heap.size T.int 1 z k (ints (ls.reverse.take k))) (fun s _ => (iOf (nthV s 1) + 1).toNat)
    ⟨0, .slice (some ⟨w2.heap.size, 0, none⟩) 0 0, by simp, by omega, hn3.ext, Nat.le_refl _, by simpa [ints] using Own.empty (lo := w2.heap.size) hn3 (Nat.le_refl _)⟩ ?_
  rintro s zz w4 K ⟨k, z, rfl, hk, E4, z4, ho4⟩ hK'
  simp only [go_sem]
  refine ⟨fun h => ?_, fun h => ?_⟩
  · have hk : k < ls.length := by omega
    have hq : ((ls.length : Int) - 1 - k) = ((ls.length - 1 - k : Nat) : Int) := by omega
    rw [hq]
    refine Ints.loadI (hl.ext (E2.trans E4)) (q := ls.length - 1 - k) (by omega) ?_
    refine app1_int sl_int el_int ho4 (by omega) E4.size fun z' w5 ho5 C5 => ?_
    refine bin_sub ⟨by omega, by omega⟩ (hK' _ _ ⟨k + 1, z', ?_, by omega, chg_own E4 ho4 C5 (Nat.le_refl _), by have := C5.size; omega, ?_⟩ (by simp [nthV, iOf]; omega))
    · congr 3; omega
    · rw [take_snoc (by omega)]
      have : ls.reverse[k]'(by omega) = ls[ls.length - 1 - k] := by rw [List.getElem_reverse]
      rw [this]; exact ho5
  · have hk : k = ls.length := by omega
    subst hk
    rw [← hrl, List.take_length, hrl] at ho4
    refine callV_of (implFoldAll_ok (hp.ext (E2.trans E4)) (Own.ints ho4) (by omega)) rfl ?_
    rintro _ w5 ⟨x, rfl, E5, f5⟩
    rw [hfr] at f5
    simp only [go_sem]
    refine ⟨fun _ => ?_, fun h => absurd hKr h⟩
    have hu5 := hu.ext (E4.trans E5)
    refine callV_of (samePlan_ok f5.plan hu5) rfl ?_
    rintro _ w6 ⟨E6, rfl⟩
    simp only [go_sem]
    refine ⟨fun _ => ?_, fun h => absurd trivial h⟩
    have e6 := (E4.trans E5).trans E6
    refine callV_of (implFoldSame_ok (hp.ext (E2.trans e6)) (hu5.ext E6)) rfl ?_
    rintro _ w7 ⟨E7, rfl⟩
    have hs : SameO p (foldO p ls) := by
      rw [foldO_yes hK]
      exact ⟨hok, foldP_ok hok _, (foldP_vals hok _).symm⟩
    exact hR _ _ ⟨((hd.d.ext.trans E2).trans e6).trans E7, by rw [decide_eq_true hs]⟩
end Go.Proofs.Ytblgkpfnjlobjaa
