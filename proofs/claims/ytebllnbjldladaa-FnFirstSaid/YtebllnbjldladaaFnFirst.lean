/-
The first that does the same is a node no later, of the same kind and row, and its own first: the law FnFirst returns true at every seed, and writes nothing that was there.
No condition.
-/
import Derived.Test.YtebllnbjldladaaFirstPre
import Derived.Test.YtebllnbjldladaaCFnFirst
namespace Go.Proofs.Ytebllnbjldladaa
open Go Go.V

theorem fnFirst_ok {w : World} {v : Value} {bs : List Int} (hx : RowIn .u8 w v bs) : Calls Try.prog N.laws_FnFirst #[v] w (Ret fun r w' => Ext w w' ∧ r = .bool true) := by
  refine ret_k fun R hR => c_laws_FnFirst _ _ _ ?_
  refine first_pre hx (fun w' h => hR _ _ ⟨h, rfl⟩) ?_
  intro t g w1 p hp hok hpos hg e1
  have h10 := hok.len
  have hfi := firstO_is hok
  have hfl := hfi.len
  have hlen : ∀ K, LenV t K = K (.int .i64 p.length) := fun K => hp.len
  have hglen : ∀ K, LenV g K = K (.int .i64 p.length) := fun K => by rw [ints_len hg, hfl]
  have hget : ∀ {i : Nat} (hi : i < p.length), (firstO p)[i]'(by rw [hfl]; exact hi) = (firstO p).getD i 0 := fun {i} hi => by rw [List.getD_eq_getElem?_getD, List.getElem?_eq_getElem (by rw [hfl]; exact hi)]; rfl
  refine loopV (fun s w' => ∃ k : Nat, s = [.int .i64 k] ∧ k ≤ p.length ∧ Ext w1 w') (upTo p.length 0) ⟨0, rfl, by omega, Ext.refl _⟩ ?_
  rintro s z w2 K ⟨k, rfl, hk, E2⟩ hK
  simp only [hglen, go_sem]
  refine ⟨fun h => ?_, fun _ => ?_⟩
  · have hk : k < p.length := by omega
    obtain ⟨hcast, hfa⟩ := hfi.first hk
    generalize hr : ((firstO p).getD k 0).toNat = r at hcast hfa
    have hrk := hfa.1
    have hrp : r < p.length := by omega
    refine Ints.loadI (hg.ext E2) (q := k) (by omega) ?_
    rw [hget hk, hcast]
    refine draw_none fun w3 hs3 => ?_
    have e3 := E2.trans hs3.ext
    simp only [go_sem]
    refine ⟨fun h => by omega, fun _ => ⟨fun h => by omega, fun _ => ?_⟩⟩
    have hki : (nd p r) = p[r] := nd_get hrp
    have hkk : (nd p k) = p[k] := nd_get hk
    have hsame := hfa.2.1
    refine (hp.ext e3).idx hrp fun b o fv rv h0 h1 h2 hfv hrv hsml => ?_
    refine loadS_cell h0 id ?_
    refine (hp.ext e3).idx hk fun b' o' fv' rv' h0' h1' h2' hfv' hrv' hsml' => ?_
    refine loadS_cell h0' id ?_
    simp only [go_sem]
    refine ⟨fun h => absurd (by rw [← hki, ← hkk]; exact hsame.1.symm) h, fun _ => ?_⟩
    refine (hp.ext e3).idx hrp fun b o fv rv h0 h1 h2 hfv hrv hsml => ?_
    refine loadS_cell h2 id ?_
    refine (hp.ext e3).idx hk fun b' o' fv' rv' h0' h1' h2' hfv' hrv' hsml' => ?_
    refine loadS_cell h2' id ?_
    have hsl2 : p[r].row.length ≤ 1048576 := hsml.2
    refine callV_of (sameRow_ok hrv hrv' (by omega)) rfl ?_
    rintro _ w4 ⟨E4, rfl⟩
    refine ⟨E4, ?_⟩
    have e4 := e3.trans E4
    simp only [go_sem]
    refine ⟨fun h => absurd (by rw [← hki, ← hkk]; exact hsame.2.1.symm) h, fun _ => ?_⟩
    refine Ints.loadS (hg.ext e4) (q := r) (by omega) (fun _ => id) ?_
    have hid := hfi.idem hk
    rw [hr, hcast] at hid
    rw [hget hrp, hid]
    simp only [go_sem]
    exact ⟨fun h => absurd rfl h, fun _ => bin_inc (by omega) (hK _ _ ⟨k + 1, rfl, by omega, e4⟩ (by simp [upTo, nthV, iOf]; omega))⟩
  · simp only [hlen, go_sem]
    exact hR _ _ ⟨e1.trans E2, by simp⟩
end Go.Proofs.Ytebllnbjldladaa
