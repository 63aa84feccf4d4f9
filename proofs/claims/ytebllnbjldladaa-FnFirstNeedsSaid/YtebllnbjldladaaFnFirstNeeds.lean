/-
Two nodes of one kind that need one row have the same first exactly where what they need has: the law FnFirstNeeds returns true at every seed, and writes nothing that was there.
No condition.
-/
import Derived.Test.YtebllnbjldladaaFirstPre
import Derived.Test.YtebllnbjldladaaCFnFirstNeeds
namespace Go.Proofs.Ytebllnbjldladaa
open Go Go.V

theorem fnFirstNeeds_ok {w : World} {v : Value} {bs : List Int} (hx : RowIn .u8 w v bs) : Calls Try.prog N.laws_FnFirstNeeds #[v] w (Ret fun r w' => Ext w w' ∧ r = .bool true) := by
  refine ret_k fun R hR => c_laws_FnFirstNeeds _ _ _ ?_
  refine first_pre hx (fun w' h => hR _ _ ⟨h, rfl⟩) ?_
  intro t g w1 p hp hok hpos hg e1
  have h10 := hok.len
  have hfi := firstO_is hok
  have hfl := hfi.len
  have hlen : ∀ K, LenV t K = K (.int .i64 p.length) := fun K => hp.len
  have hglen : ∀ K, LenV g K = K (.int .i64 p.length) := fun K => by rw [ints_len hg, hfl]
  have hget : ∀ {i : Nat} (hi : i < p.length), (firstO p)[i]'(by rw [hfl]; exact hi) = (firstO p).getD i 0 := fun {i} hi => by rw [List.getD_eq_getElem?_getD, List.getElem?_eq_getElem (by rw [hfl]; exact hi)]; rfl
  refine loopV (fun s w' => ∃ k : Nat, s = [.int .i64 k] ∧ k ≤ p.length ∧ Ext w1 w') (upTo p.length 0) ⟨0, rfl, by omega, Ext.refl _⟩ ?_
  rintro s z w2 K ⟨k, rfl, hk, E2⟩ hK
  simp only [hlen, go_sem]
  refine ⟨fun h => ?_, fun _ => hR _ _ ⟨e1.trans E2, rfl⟩⟩
  have hk : k < p.length := by omega
  refine loopV (fun s w' => ∃ j : Nat, s = [.int .i64 j] ∧ j ≤ k ∧ Ext w1 w') (upTo k 0) ⟨0, rfl, by omega, E2⟩ ?_
  rintro s z w3 K' ⟨j, rfl, hj, E3⟩ hK'
  simp only [go_sem]
  refine ⟨fun h => ?_, fun _ => bin_inc (by omega) (hK _ _ ⟨k + 1, rfl, by omega, E3⟩ (by simp [upTo, nthV, iOf]; omega))⟩
  have hj : j < k := by omega
  have hjp : j < p.length := by omega
  refine draw_none fun w4 hs4 => ?_
  have e4 := E3.trans hs4.ext
  have go : BinV .add (.int .i64 j) (.int .i64 1) fun t => K' [t] w4 := bin_inc (by omega) (hK' _ _ ⟨j + 1, rfl, by omega, e4⟩ (by simp [upTo, nthV, iOf]; omega))
  have hkk : (nd p k) = p[k] := nd_get hk
  have hjj : (nd p j) = p[j] := nd_get hjp
  refine (hp.ext e4).idx hk fun b o fv rv h0 h1 h2 hfv hrv hsml => ?_
  refine loadS_cell h1 id ?_
  rw [ints_len hfv]
  simp only [go_sem]
  refine ⟨fun hk1 => ?_, fun _ => go⟩
  refine (hp.ext e4).idx hjp fun b o fv rv h0 h1 h2 hfv hrv hsml => ?_
  refine loadS_cell h1 id ?_
  rw [ints_len hfv]
  simp only [go_sem]
  refine ⟨fun hj1 => ?_, fun _ => go⟩
  refine (hp.ext e4).idx hk fun b o fv rv h0 h1 h2 hfv hrv hsml => ?_
  refine loadS_cell h0 id ?_
  refine (hp.ext e4).idx hjp fun b o fv rv h0 h1 h2 hfv hrv hsml => ?_
  refine loadS_cell h0 id ?_
  simp only [go_sem]
  refine ⟨fun hkind => ?_, fun _ => go⟩
  obtain ⟨f, hf⟩ := one_frm (x := p[k]) (by omega)
  obtain ⟨g2, hg2⟩ := one_frm (x := p[j]) (by omega)
  have hfm : f ∈ fr p k := by rw [fr_get hk, hf]; simp
  have hgm : g2 ∈ fr p j := by rw [fr_get hjp, hg2]; simp
  have hfl2 := hok.fr_lt hfm
  have hgl2 := hok.fr_lt hgm
  obtain ⟨a, rfl⟩ : ∃ a : Nat, f = (a : Int) := ⟨f.toNat, by omega⟩
  obtain ⟨b2, rfl⟩ : ∃ b : Nat, g2 = (b : Int) := ⟨g2.toNat, by omega⟩
  have hap : a < p.length := by omega
  have hbp : b2 < p.length := by omega
  refine Ints.loadS (hg.ext e4) (q := k) (by omega) (fun _ => id) ?_
  refine Ints.loadS (hg.ext e4) (q := j) (by omega) (fun _ => id) ?_
  rw [hget hk, hget hjp]
  simp only [go_sem]
  refine (hp.ext e4).idx hk fun b o fv rv h0 h1 h2 hfv hrv hsml => ?_
  refine loadS_cell h1 id ?_
  rw [hf] at hfv
  refine Ints.loadS hfv (q := 0) (by simp) (fun _ => id) ?_
  simp only [List.getElem_cons_zero]
  refine Ints.loadS (hg.ext e4) (q := a) (by omega) (fun _ => id) ?_
  refine (hp.ext e4).idx hjp fun b o fv' rv' h0' h1' h2' hfv' hrv' hsml' => ?_
  refine loadS_cell h1' id ?_
  rw [hg2] at hfv'
  refine Ints.loadS hfv' (q := 0) (by simp) (fun _ => id) ?_
  simp only [List.getElem_cons_zero]
  refine Ints.loadS (hg.ext e4) (q := b2) (by omega) (fun _ => id) ?_
  rw [hget hap, hget hbp]
  have hiff := (hfi.same_iff hk hjp).trans (same_one hok (fs := firstO p) hk hjp (by rw [hkk]; exact hf) (by rw [hjj]; exact hg2) (by rw [hkk, hjj]; exact hkind))
  simp only [Int.toNat_natCast] at hiff
  simp only [go_sem]
  exact ⟨fun h => absurd hiff (by simpa using h), fun _ => go⟩
end Go.Proofs.Ytebllnbjldladaa
