/-
A node has the row of the first that does the same: the law FnFirstRows returns true at every seed, and writes nothing that was there.
No condition.
-/
import Derived.Test.YtmbfkhacejnnhaaFirstPre
import Derived.Test.YtmbfkhacejnnhaaValues
import Derived.Test.YtmbfkhacejnnhaaCFnFirstRows
namespace Go.Proofs.Ytmbfkhacejnnhaa
open Go Go.V

theorem first_at' {p : List Nd} {fs : List Int} (h : IsFirsts p p.length fs) {k : Nat} (hk : k < p.length) : fs[k]'(by rw [h.len]; exact hk) = (fst fs k : Int) := by
  obtain ⟨r, hr, _⟩ := h.at_ k hk
  have : fs.getD k 0 = fs[k]'(by rw [h.len]; exact hk) := by rw [List.getD_eq_getElem?_getD, List.getElem?_eq_getElem (by rw [h.len]; exact hk)]; rfl
  unfold fst
  rw [← this, hr]; simp

theorem fnFirstRows_ok {w : World} {v : Value} {bs : List Int} (hx : RowIn .u8 w v bs) : Calls Try.prog N.laws_FnFirstRows #[v] w (Ret fun r w' => Ext w w' ∧ r = .bool true) := by
  refine ret_k fun R hR => c_laws_FnFirstRows _ _ _ ?_
  refine first_pre hx (fun w' h => hR _ _ ⟨h, rfl⟩) ?_
  intro t g w1 p hp hok hpos hg e1
  have h10 := hok.len
  have hfi := firstO_is hok
  have hfl := hfi.len
  have hlen : ∀ K, LenV t K = K (.int .i64 p.length) := fun K => hp.len
  have hglen : ∀ K, LenV g K = K (.int .i64 p.length) := fun K => by rw [ints_len hg, hfl]
  have hget : ∀ {i : Nat} (hi : i < p.length), (firstO p)[i]'(by rw [hfl]; exact hi) = (firstO p).getD i 0 := fun {i} hi => by rw [List.getD_eq_getElem?_getD, List.getElem?_eq_getElem (by rw [hfl]; exact hi)]; rfl
  refine callV_of (implValuesOf_ok hp) rfl ?_
  rintro _ w2 ⟨u, rfl, E2, hl⟩
  have hvo : valsO p = vals p := by unfold valsO; rw [if_pos hok]
  rw [hvo] at hl
  have hvl := vals_len p
  have hv : ∀ {i : Nat} (hi : i < p.length), (vals p)[i]'(by rw [hvl]; exact hi) = val p i := fun {i} hi => by unfold val; rw [List.getD_eq_getElem?_getD, List.getElem?_eq_getElem (by rw [hvl]; exact hi)]; rfl
  simp only [go_sem]
  refine loopV (fun s w' => ∃ k : Nat, s = [.int .i64 k] ∧ k ≤ p.length ∧ Ext w2 w') (upTo p.length 0) ⟨0, rfl, by omega, Ext.refl _⟩ ?_
  rintro s z w3 K ⟨k, rfl, hk, E3⟩ hK
  simp only [hglen, go_sem]
  refine ⟨fun h => ?_, fun _ => hR _ _ ⟨(e1.trans E2).trans E3, by simp [hok]⟩⟩
  have hk : k < p.length := by omega
  refine draw_none fun w4 hs4 => ?_
  have e4 := E3.trans hs4.ext
  refine (hl.ext e4).loadS (i := k) (by omega) (fun _ => id) fun x hx => ?_
  refine Ints.loadS (hg.ext (E2.trans e4)) (q := k) (by omega) (fun _ => id) ?_
  rw [first_at' hfi hk]
  have hle := fst_lt hfi hk
  refine (hl.ext e4).loadS (i := fst (firstO p) k) (by omega) (fun _ => id) fun y hy => ?_
  rw [hv hk] at hx
  rw [hv (show fst (firstO p) k < p.length by omega)] at hy
  have hw := (val_row hok hk).1.1
  refine callV_of (sameRow_ok hx hy (by omega)) rfl ?_
  rintro _ w5 ⟨E5, rfl⟩
  refine ⟨E5, ?_⟩
  have hsame : val p k = val p (fst (firstO p) k) := (same_val hok hfi hk).symm
  simp only [go_sem]
  exact ⟨fun h => absurd hsame h, fun _ => bin_inc (by omega) (hK _ _ ⟨k + 1, rfl, by omega, e4.trans E5⟩ (by simp [upTo, nthV, iOf]; omega))⟩
end Go.Proofs.Ytmbfkhacejnnhaa
