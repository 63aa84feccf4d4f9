/-
Ready nodes are shared: the law FnCrewNewShare returns true at every seed, and writes nothing that was there.
No condition.
-/
import Derived.Test.YtblgkpfnjlobjaaCrewS
import Derived.Test.YtblgkpfnjlobjaaSameRows
import Derived.Test.YtblgkpfnjlobjaaDrawW
import Derived.Test.YtblgkpfnjlobjaaCFnCrewNewShare
namespace Go.Proofs.Ytblgkpfnjlobjaa
open Go Go.V

theorem sameCrew_ok {w : World} {u v : Value} {x y : Cr} (hx : CrewV w u x) (hy : CrewV w v y) : Calls Try.prog N.laws_sameCrew #[u, v] w (Ret fun r w' => Ext w w' ∧ r = .bool (decide (x = y))) := by
  obtain ⟨a, b, d, e, hu, x1, x2, x3, x4, sx⟩ := hx.out
  obtain ⟨a', b', d', e', hv, y1, y2, y3, y4, _⟩ := hy.out
  refine ret_k fun R hR => c_laws_sameCrew _ _ _ _ ?_
  refine box_crew hu fun w1 E1 hb1 => ?_
  refine box_crew hv fun w2 E2 hb2 => ?_
  have hb1 := E2.at hb1
  have e2 := E1.trans E2
  have no : ∀ w', Ext w w' → x ≠ y → R (.bool false) w' := fun w' hE hn => hR _ _ ⟨hE, by rw [decide_eq_false hn]⟩
  simp only [go_sem]
  refine load2 (v := a) hb1 rfl (load2 (v := a') hb2 rfl ?_)
  refine callV_of (sameRows_ok (x1.ext e2) (y1.ext e2) (by have := sx.deq.1; omega) fun l hl => by have := sx.deq.2 l hl; omega) rfl ?_
  rintro _ w3 ⟨E3, rfl⟩
  have e3 := e2.trans E3
  simp only [go_sem]
  refine ⟨fun q1 => ?_, fun h => no _ e3 fun e => h (by rw [e])⟩
  refine load2 (v := b) (E3.at hb1) rfl (load2 (v := b') (E3.at hb2) rfl ?_)
  refine callV_of (sameRow_ok (x2.ext e3) (y2.ext e3) (by have := sx.cnt; omega)) rfl ?_
  rintro _ w4 ⟨E4, rfl⟩
  have e4 := e3.trans E4
  have E34 := E3.trans E4
  simp only [go_sem]
  refine ⟨fun q2 => ?_, fun h => no _ e4 fun e => h (by rw [e])⟩
  refine load2 (v := d) (E34.at hb1) rfl (load2 (v := d') (E34.at hb2) rfl ?_)
  refine callV_of (sameRow_ok (x3.ext e4) (y3.ext e4) (by have := sx.done; omega)) rfl ?_
  rintro _ w5 ⟨E5, rfl⟩
  have e5 := e4.trans E5
  have E35 := E34.trans E5
  simp only [go_sem]
  refine ⟨fun q3 => ?_, fun h => no _ e5 fun e => h (by rw [e])⟩
  refine load2 (v := e) (E35.at hb1) rfl (load2 (v := e') (E35.at hb2) rfl ?_)
  refine callV_of (sameRows_ok (x4.ext e5) (y4.ext e5) (by have := sx.rows.1; omega) fun l hl => by have := sx.rows.2 l hl; omega) rfl ?_
  rintro _ w6 ⟨E6, rfl⟩
  refine hR _ _ ⟨e5.trans E6, ?_⟩
  obtain ⟨p1, p2, p3, p4⟩ := x
  obtain ⟨r1, r2, r3, r4⟩ := y
  simp only at q1 q2 q3
  subst q1 q2 q3
  congr 1
  rw [Bool.eq_iff_iff, decide_eq_true_eq, decide_eq_true_eq]
  simp

theorem fnCrewNewShare_ok {w : World} {v : Value} {bs : List Int} (hx : RowIn .u8 w v bs) : Calls Try.prog N.laws_FnCrewNewShare #[v] w (Ret fun r w' => Ext w w' ∧ r = .bool true) := by
  refine ret_k fun R hR => c_laws_FnCrewNewShare _ _ _ ?_
  obtain ⟨va, vc, hv, hvc, _⟩ := hx.out
  have e0 : LenV v = LenV (.slice va bs.length vc) := by rw [hv]
  rw [e0]
  simp only [LenV_i, Bin_gtr, Split_d]
  refine ⟨fun _ => hR _ _ ⟨Ext.refl _, rfl⟩, fun _ => ?_⟩
  refine callV_of (drawCrewNew_ok hx) rfl ?_
  rintro _ w1 ⟨t, n, p, lo, rfl, hd, _, _⟩
  have hp := hd.pl.plan
  simp only [Ext_20, Ext_21]
  refine callV_of (implCrewNew_ok hp n) rfl ?_
  rintro _ w2 ⟨g, rfl, E2, f2⟩
  simp only [Ext_20, Ext_21]
  refine crew_var f2.crew fun w3 E3 vg l3 => ?_
  have e3 := E2.trans E3
  refine callV_of (specCrewNew_ok (hp.ext e3) n) rfl ?_
  rintro _ w4 ⟨g', rfl, E4, c4⟩
  simp only [Ext_20, Ext_21]
  refine crew_var c4 fun w5 E5 vg' l5 => ?_
  have e5 := (e3.trans E4).trans E5
  have hg := f2.crew.ext ((E3.trans E4).trans E5)
  have hg' := c4.ext E5
  have vg := vg.ext (E4.trans E5)
  have ee := hd.ext.trans e5
  simp only [go_sem]
  refine ⟨fun h => by simp at h, fun _ => ?_⟩
  refine vg.load (vg'.load ?_)
  refine callV_of (sameCrew_ok hg hg') rfl ?_
  rintro _ w6 ⟨E6, rfl⟩
  have e6 := ee.trans E6
  have vg := vg.ext E6
  have vg' := vg'.ext E6
  have hg := hg.ext E6
  have hg' := hg'.ext E6
  simp only [go_sem]
  refine ⟨fun h => by simp at h, fun _ => ⟨fun _ => ⟨fun _ => ?_, fun h => by simp at h⟩, fun hC => ?_⟩⟩
  · refine vg.load (vg'.load ?_)
    refine callV_of (sameCrew_ok hg hg') rfl ?_
    rintro _ w7 ⟨E7, rfl⟩
    exact hR _ _ ⟨e6.trans E7, by simp⟩
  have hC : CrewOk p n := by simpa using hC
  obtain ⟨m, rfl⟩ : ∃ m : Nat, n = (m : Int) := ⟨n.toNat, by have := hC.2.1; omega⟩
  have hm1 := hC.2.1
  have hm4 := hC.2.2
  have h10 := hC.1.len
  have hcrew : crewO p (m : Int) = newCrew p m := by unfold crewO; rw [if_pos hC]; rfl
  rw [hcrew] at hg
  obtain ⟨a, b, d, e, rfl, hdq, _, _, _, _⟩ := hg.out
  obtain ⟨x, y, z, u, hvv, hb⟩ := vg.out
  simp only [Value.agg.injEq, Array.mk.injEq, List.cons.injEq, and_true] at hvv
  obtain ⟨rfl, rfl, rfl, rfl⟩ := hvv
  have hrl : (readyL p []).length ≤ p.length := sel_len
  have hdq : Lists w6 a (dealL (readyL p []) m (readyL p []).length) := hdq
  generalize readyL p [] = r at *
  have dlen : ∀ K, LenV a K = K (.int .i64 m) := fun K => by rw [hdq.len, dealL_len]
  have len : ∀ i, i < m → (dealt r m r.length i).length = r.length / m + if i < r.length % m then 1 else 0 := fun i hi => dealt_len r (by omega) (by omega) r.length hi
  have le : ∀ i, (dealt r m r.length i).length ≤ r.length := fun i => dealt_le _ _ _ _
  refine loopV (fun s w' => ∃ k : Nat, s = [.int .i64 k] ∧ 1 ≤ k ∧ Ext w6 w') (upTo m 0) ⟨1, rfl, Nat.le_refl _, Ext.refl _⟩ ?_
  rintro s z w7 K ⟨k, rfl, hk1, E7⟩ hK
  simp only [go_sem]
  refine load2 (v := a) (E7.at hb) rfl ?_
  rw [dlen]
  simp only [go_sem]
  refine ⟨fun h => ?_, fun _ => hR _ _ ⟨e6.trans E7, rfl⟩⟩
  have hk : k < m := by omega
  refine draw_none fun w8 hs8 => ?_
  have e8 := E7.trans hs8.ext
  have hb8 := e8.at hb
  have hd8 := hdq.ext e8
  have at_ : ∀ {i : Nat} (hi : i < m) {S : Nat → Prop} {K : Value → Prop}, (∀ b, ¬ S b) → (∀ y, (∀ K, LenV y K = K (.int .i64 (dealt r m r.length i).length)) → K y) → IdxV 1 a (.int .i64 i) fun t => LoadS S false 1 t w8 K := fun {i} hi {S K} hS hK => by
    refine hd8.loadS (i := i) (by rw [dealL_len]; exact hi) hS fun y hy => hK y fun K => ?_
    rw [ints_len hy, dealL_get]
  have q1 := len k hk
  have q2 := len (k - 1) (by omega)
  have q3 := len 0 (by omega)
  have b1 := le k
  have b2 := le 0
  have hk' : ((k : Int) - 1) = ((k - 1 : Nat) : Int) := by omega
  refine loadS2 (v := a) hb8 id rfl ?_
  refine at_ hk (fun _ => id) fun y1 hy1 => ?_
  rw [hy1]
  refine loadS2 (v := a) hb8 id rfl ?_
  refine bin_sub ⟨by omega, by omega⟩ ?_
  rw [hk']
  refine at_ (i := k - 1) (by omega) (fun _ => id) fun y2 hy2 => ?_
  rw [hy2]
  simp only [go_sem]
  refine ⟨fun h => ?_, fun _ => ?_⟩
  · exfalso
    split at q1 <;> split at q2 <;> omega
  refine loadS2 (v := a) hb8 id rfl ?_
  refine at_ (i := 0) (by omega) (fun _ => id) fun y3 hy3 => ?_
  rw [hy3]
  refine loadS2 (v := a) hb8 id rfl ?_
  refine at_ hk (fun _ => id) fun y4 hy4 => ?_
  rw [hy4]
  refine bin_sub ⟨by omega, by omega⟩ ?_
  simp only [go_sem]
  refine ⟨fun h => ?_, fun _ => ?_⟩
  · exfalso
    split at q1 <;> split at q3 <;> omega
  exact bin_inc (by omega) (hK _ _ ⟨k + 1, rfl, by omega, e8⟩ (by simp [upTo, nthV, iOf]; omega))
end Go.Proofs.Ytblgkpfnjlobjaa
