/-
Cut to its ends a plan is itself, and cut to nothing it is nothing: the law FnCutAll returns true at every seed, and writes nothing that was there.
No condition.
-/
import Derived.Test.YtokfjjjfecblgaaCutPre
import Derived.Test.YtokfjjjfecblgaaEnds
import Derived.Test.YtokfjjjfecblgaaCFnCutAll
namespace Go.Proofs.Ytokfjjjfecblgaa
open Go Go.V

theorem rch_nil {p : List Nd} {j : Nat} (h : Rch p [] j) : False := by
  induction h with
  | start h => cases h
  | need _ _ ih => exact ih
theorem rank_all {c : Nat → Prop} {n : Nat} (h : ∀ k, k < n → c k) {k : Nat} (hk : k ≤ n) : rank c k = k := by
  unfold rank; exact sel_all fun j hj => h j (by omega)
theorem subP_all {p : List Nd} (hp : PlanOk p) {c : Nat → Prop} (h : ∀ k, k < p.length → c k) : subP p c id = p := by
  have hl : (subP p c id).length = p.length := by rw [subP_len, rank_all h (Nat.le_refl _)]
  refine ext_nd hl fun i hi => ?_
  rw [hl] at hi
  have h1 := subP_nd (p := p) (c := c) (g := id) hi (h i hi)
  rw [rank_all h (Nat.le_of_lt hi)] at h1
  rw [h1]
  have hf : (nd p i).frm.map (fun f => (rank c (id f.toNat) : Int)) = (nd p i).frm := by
    refine List.map_congr_left (g := id) (fun f hf => ?_) |>.trans (List.map_id _)
    have hff : f ∈ fr p i := by rw [fr_get hi, ← nd_get hi]; exact hf
    have := hp.fr_lt hff
    simp only [id]
    rw [rank_all h (by omega)]; omega
  unfold ren
  rw [hf]

theorem fnCutAll_ok {w : World} {v : Value} {bs : List Int} (hx : RowIn .u8 w v bs) : Calls Try.prog N.laws_FnCutAll #[v] w (Ret fun r w' => Ext w w' ∧ r = .bool true) := by
  refine ret_k fun R hR => c_laws_FnCutAll _ _ _ ?_
  refine cut_pre hx (fun w' h => hR _ _ ⟨h, rfl⟩) ?_
  intro t l g n w1 p ls hp h10 hl hll hK hg hn e1
  have hok := hK.1
  have hlen : ∀ K, LenV t K = K (.int .i64 p.length) := fun K => hp.len
  have hllen : ∀ K, LenV l K = K (.int .i64 ls.length) := fun K => ints_len hl
  have hglen : ∀ K, LenV g K = K (.int .i64 (subP p (Rch p ls) id).length) := fun K => hg.len
  have heo : endsO p = endsL p := by unfold endsO; rw [if_pos hok]
  have hel := endsO_len p
  refine callV_of (planEnds_ok hp) rfl fun u w2 ⟨E2, f2⟩ => ?_
  rw [heo] at f2 hel
  refine callV_of (implPlanCut_ok (hp.ext E2) f2.ints (by omega)) rfl ?_
  rintro _ w3 ⟨g3, n3, k3, rfl, E3, f3, _⟩
  have e3 := E2.trans E3
  simp only [go_sem]
  refine ⟨_, rfl, fun w4 hn4 => ?_⟩
  have e4 := e3.trans hn4.ext
  refine callV_of (implPlanCut_ok (hp.ext e4) (l := []) (FInts.nil (B := fun _ => True)).ints (by simp)) rfl ?_
  rintro _ w5 ⟨g5, n5, k5, rfl, E5, f5, _⟩
  have e5 := e4.trans E5
  have hK3 : KeepOk p (endsL p) := ⟨hok, fun x hx => by obtain ⟨k, hk, _, rfl⟩ := mem_sel.1 hx; omega⟩
  have hK5 : KeepOk p [] := ⟨hok, fun x hx => by cases hx⟩
  have h3 : cutP p (endsL p) = p := by unfold cutP; rw [if_pos hK3]; exact subP_all hok fun k hk => keep_ends hok hk
  have h5 : cutP p [] = [] := by
    unfold cutP; rw [if_pos hK5]
    refine List.eq_nil_of_length_eq_zero ?_
    rw [subP_len]
    have : sel p.length (Rch p []) = [] := sel_nil fun k _ h => rch_nil h
    unfold rank; rw [this]; rfl
  rw [h3] at f3
  rw [h5] at f5
  have l5 : ∀ K, LenV g5 K = K (.int .i64 0) := fun K => f5.plan.len
  simp only [l5, go_sem]
  refine ⟨fun _ => ⟨fun _ => ?_, fun h => absurd hK5 (by simpa using h)⟩, fun h => absurd hK3 (by simpa using h)⟩
  refine callV_of (samePlan_ok (f3.ext (hn4.ext.trans E5)).plan (hp.ext e5)) rfl fun t6 w6 ⟨E6, h6⟩ => ?_
  subst h6
  simp only [go_sem]
  exact ⟨fun _ => hR _ _ ⟨(e1.trans e5).trans E6, by simp⟩, fun h => by simp at h⟩
end Go.Proofs.Ytokfjjjfecblgaa
