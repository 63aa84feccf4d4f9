/-
Folding twice is folding once: the law FnFoldTwice returns true at every seed, and writes nothing that was there.
No condition.
-/
import Derived.Test.YtblgkpfnjlobjaaFoldPre
import Derived.Test.YtblgkpfnjlobjaaNeeds
import Derived.Test.YtblgkpfnjlobjaaCFnFoldTwice
namespace Go.Proofs.Ytblgkpfnjlobjaa
open Go Go.V

theorem needs_fixed {p : List Nd} {i : Nat} (h : fr p i = []) : needsL p i = [] := by
  have key : ∀ j, Rch p [(i : Int)] j → j = i := by
    intro j hj
    induction hj with
    | @start j h => simp at h; omega
    | @need j k _ hf ih => subst ih; rw [h] at hf; cases hf
  refine sel_nil fun k _ ⟨j, hj, hf⟩ => ?_
  rw [key j hj, h] at hf
  cases hf

theorem fnFoldTwice_ok {w : World} {v : Value} {bs : List Int} (hx : RowIn .u8 w v bs) : Calls Try.prog N.laws_FnFoldTwice #[v] w (Ret fun r w' => Ext w w' ∧ r = .bool true) := by
  refine ret_k fun R hR => c_laws_FnFoldTwice _ _ _ ?_
  obtain ⟨va, vc, hv, hvc, _⟩ := hx.out
  have e0 : LenV v = LenV (.slice va bs.length vc) := by rw [hv]
  rw [e0]
  simp only [LenV_i, Bin_gtr, Split_d]
  refine ⟨fun _ => hR _ _ ⟨Ext.refl _, rfl⟩, fun _ => ?_⟩
  refine drawFoldNode hx fun t a w1 p lo hd => ?_
  have hp := hd.pl.plan
  simp only [Ext_20, Ext_21]
  refine fold_eq (implFoldNode_ok hp a) (fun w2 E => specFoldNode_ok (hp.ext E) a) (fun w' E => hR _ _ ⟨hd.ext.trans E, rfl⟩) fun u w2 hK hu E2 => ?_
  have hok := hK.1
  have ha := hK.2 a (by simp)
  obtain ⟨i, rfl⟩ : ∃ i : Nat, a = (i : Int) := ⟨a.toNat, by omega⟩
  have hi : i < p.length := by omega
  have hfo : foldO p [(i : Int)] = foldP p (fun j => (j : Int) ∈ [(i : Int)]) := by unfold foldO; rw [if_pos hK]
  have hfok : PlanOk (foldO p [(i : Int)]) := by rw [hfo]; exact foldP_ok hok _
  have hfl : (foldO p [(i : Int)]).length = p.length := by rw [hfo, foldP_len]
  have hK2 : KeepOk (foldO p [(i : Int)]) [(i : Int)] := ⟨hfok, fun x hx => by rw [hfl]; exact hK.2 x hx⟩
  have htwice : foldO (foldO p [(i : Int)]) [(i : Int)] = foldO p [(i : Int)] := by
    rw [foldO_yes hK2, hfo, foldP_fold hok]
    exact foldP_congr fun j _ => or_self_iff
  refine callV_of (implFoldNode_ok hu i) rfl ?_
  rintro _ w3 ⟨u2, rfl, E3, f3⟩
  rw [htwice] at f3
  have e3 := E2.trans E3
  simp only [go_sem]
  refine ⟨fun _ => ?_, fun h => absurd hK2 h⟩
  refine callV_of (samePlan_ok f3.plan (hu.ext E3)) rfl ?_
  rintro _ w4 ⟨E4, rfl⟩
  simp only [go_sem]
  refine ⟨fun _ => ?_, fun h => absurd trivial h⟩
  refine callV_of (planNeeds_ok ((hu.ext E3).ext E4) i) rfl fun l w5 ⟨E5, f5⟩ => ?_
  have hno : needsO (foldO p [(i : Int)]) i = [] := by
    unfold needsO
    rw [if_pos hfok]
    refine needs_fixed ?_
    rw [← nd_frm, hfo, foldP_yes hi (by simp)]
  rw [hno] at f5
  have hll : ∀ K, LenV l K = K (.int .i64 ([] : List Int).length) := fun K => ints_len f5.ints
  simp only [hll, go_sem]
  exact hR _ _ ⟨((hd.ext.trans e3).trans E4).trans E5, by simp⟩
end Go.Proofs.Ytblgkpfnjlobjaa
