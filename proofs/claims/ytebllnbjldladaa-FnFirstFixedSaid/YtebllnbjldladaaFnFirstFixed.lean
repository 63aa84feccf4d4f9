/-
Two given rows have the same first exactly where they are the same: the law FnFirstFixed returns true at every seed, and writes nothing that was there.
No condition.
-/
import Derived.Test.YtebllnbjldladaaFirstPre
import Derived.Test.YtebllnbjldladaaCFnFirstFixed
namespace Go.Proofs.Ytebllnbjldladaa
open Go Go.V

theorem fnFirstFixed_ok {w : World} {v : Value} {bs : List Int} (hx : RowIn .u8 w v bs) : Calls Try.prog N.laws_FnFirstFixed #[v] w (Ret fun r w' => Ext w w' ∧ r = .bool true) := by
  refine ret_k fun R hR => c_laws_FnFirstFixed _ _ _ ?_
  refine first_pre hx (fun w' h => hR _ _ ⟨h, rfl⟩) ?_
  intro t g w1 p hp hok hpos hg e1
  have h10 := hok.len
  have hfi := firstO_is hok
  have hfl := hfi.len
  have hlen : ∀ K, LenV t K = K (.int .i64 p.length) := fun K => hp.len
  have hglen : ∀ K, LenV g K = K (.int .i64 p.length) := fun K => by rw [ints_len hg, hfl]
  have hget : ∀ {i : Nat} (hi : i < p.length), (firstO p)[i]'(by rw [hfl]; exact hi) = (firstO p).getD i 0 := fun {i} hi => by rw [List.getD_eq_getElem?_getD, List.getElem?_eq_getElem (by rw [hfl]; exact hi)]; rfl
  refine loopV (fun s w' => ∃ k : Nat, s = [.int .i64 k] ∧ k ≤ p.length ∧ Ext w1 w') (upTo p.length 0) ⟨0, rfl, by omega, Ext.refl _⟩ ?_
  rintro s z w2 K ⟨k, rfl, hk, E2⟩ hK
  simp only [hlen, go_sem]
  refine ⟨fun h => ?_, fun _ => hR _ _ ⟨e1.trans E2, rfl⟩⟩
  have hk : k < p.length := by omega
  refine loopV (fun s w' => ∃ j : Nat, s = [.int .i64 j] ∧ j ≤ k ∧ Ext w1 w') (upTo k 0) ⟨0, rfl, by omega, E2⟩ ?_
  rintro s z w3 K' ⟨j, rfl, hj, E3⟩ hK'
  simp only [go_sem]
  refine ⟨fun h => ?_, fun _ => bin_inc (by omega) (hK _ _ ⟨k + 1, rfl, by omega, E3⟩ (by simp [upTo, nthV, iOf]; omega))⟩
  have hj : j < k := by omega
  have hjp : j < p.length := by omega
  refine draw_none fun w4 hs4 => ?_
  have e4 := E3.trans hs4.ext
  have go : ∀ {w'}, Ext w1 w' → BinV .add (.int .i64 j) (.int .i64 1) fun t => K' [t] w' := fun {w'} hE => bin_inc (by omega) (hK' _ _ ⟨j + 1, rfl, by omega, hE⟩ (by simp [upTo, nthV, iOf]; omega))
  refine (hp.ext e4).idx hk fun b o fv rv h0 h1 h2 hfv hrv hsml => ?_
  refine loadS_cell h0 id ?_
  simp only [go_sem]
  refine ⟨fun hk0 => ?_, fun _ => go e4⟩
  refine (hp.ext e4).idx hjp fun b o fv rv h0 h1 h2 hfv hrv hsml => ?_
  refine loadS_cell h0 id ?_
  simp only [go_sem]
  refine ⟨fun hj0 => ?_, fun _ => go e4⟩
  refine Ints.loadS (hg.ext e4) (q := k) (by omega) (fun _ => id) ?_
  refine Ints.loadS (hg.ext e4) (q := j) (by omega) (fun _ => id) ?_
  rw [hget hk, hget hjp]
  simp only [go_sem]
  refine (hp.ext e4).idx hk fun b o fv rv h0 h1 h2 hfv hrv hsml => ?_
  refine loadS_cell h2 id ?_
  refine (hp.ext e4).idx hjp fun b o fv' rv' h0' h1' h2' hfv' hrv' hsml' => ?_
  refine loadS_cell h2' id ?_
  have hsl2 : p[k].row.length ≤ 1048576 := hsml.2
  refine callV_of (sameRow_ok hrv hrv' (by omega)) rfl ?_
  rintro _ w5 ⟨E5, rfl⟩
  refine ⟨E5, ?_⟩
  have hkk : (nd p k) = p[k] := nd_get hk
  have hjj : (nd p j) = p[j] := nd_get hjp
  have hiff : (firstO p).getD k 0 = (firstO p).getD j 0 ↔ p[k].row = p[j].row := by
    rw [hfi.same_iff hk hjp, same_fixed hok hk hjp (by rw [hkk]; exact hk0) (by rw [hjj]; exact hj0), hkk, hjj]
  simp only [go_sem]
  exact ⟨fun h => absurd hiff (by simpa using h), fun _ => go (e4.trans E5)⟩
end Go.Proofs.Ytebllnbjldladaa
