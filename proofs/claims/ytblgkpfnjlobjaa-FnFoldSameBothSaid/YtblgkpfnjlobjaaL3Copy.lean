/- A plan is copied: the reference's way. -/
import Derived.Test.YtblgkpfnjlobjaaPart
import Derived.Test.YtblgkpfnjlobjaaGraph
import Derived.Test.YtblgkpfnjlobjaaCX
namespace Go.Proofs.Ytblgkpfnjlobjaa
open Go Go.V

theorem l3Copy_grow {w : World} {v : Value} {p : List Nd} (hp : PlanV w v p) : Calls Try.prog N.spec_l3Copy #[v] w (Ret fun r w' => Ext w w' ∧ Grow w' w.heap.size w.heap.size r p) := by
  refine ret_k fun R hR => c_spec_l3Copy _ _ _ ?_
  have hlen : ∀ K, LenV v K = K (.int .i64 p.length) := fun K => hp.len
  have hpl := hp.small
  simp only [hlen, go_sem]
  refine ⟨_, rfl, fun w1 hn1 => ?_⟩
  have z1 := hn1.size
  refine loopV (fun s w' => ∃ (k : Nat) (u : Value), s = [u, .int .i64 k] ∧ k ≤ p.length ∧ Ext w w' ∧ w1.heap.size ≤ w'.heap.size ∧ Grow w' w.heap.size w.heap.size u (p.take k)) (upTo p.length 1)
    ⟨0, _, rfl, by omega, hn1.ext, Nat.le_refl _, by rw [List.take_zero]; exact Grow.new hn1 (Nat.le_refl _)⟩ ?_
  rintro s z w2 K ⟨k, u, rfl, hk, E2, z2, hg2⟩ hK
  simp only [go_sem]
  refine ⟨fun h => ?_, fun h => ?_⟩
  · have hk : k < p.length := by omega
    refine (hp.ext E2).load hk fun x hx => ?_
    obtain ⟨fv, rv, rfl, hf, hr, hs⟩ := hx.out
    refine box_set hf hr fun w4 E4 hbox z4 => ?_
    have hub : ∀ j, blkIs u j → w.heap.size ≤ j ∧ j < w2.heap.size := fun j hj => ⟨(hg2.blk hj).1, (hg2.blk hj).2.1⟩
    refine ⟨fun b => w4.heap.size ≤ b ∨ blkIs u b, fun w5 hs5 => ?_⟩
    have hnb : ¬ (w4.heap.size ≤ w2.heap.size ∨ blkIs u w2.heap.size) := fun h => by
      rcases h with h | h
      · omega
      · have := (hub _ h).2; omega
    have hb5 := hs5.ext.at hbox
    have z5 := hs5.ext.size
    have hsz : w5.heap.size = w4.heap.size := by rw [hs5.heap]
    simp only [go_sem]
    refine loadS2 (v := .int .i64 p[k].kind) hb5 hnb rfl ?_
    refine loadS2 (v := fv) hb5 hnb rfl ?_
    refine loadS2 (v := rv) hb5 hnb rfl ?_
    have e5 := E4.trans hs5.ext
    have hs1 : p[k].frm.length ≤ 1048576 := hs.1
    have hs2 : p[k].row.length ≤ 1048576 := hs.2
    refine two_copies (fun j hj => .inl (by omega)) (hf.ext e5) (hr.ext e5) (by omega) (by omega) fun f' r' w6 b1 b2 E6 f6 r6 g1 g2 g12 => ?_
    refine build_node rfl f6.cellsV.1 r6.cellsV.1 ?_
    have e6 := e5.trans E6
    refine hg2.pushS e6 (x := p[k]) rfl f6 r6 (fun _ => by omega) (fun _ => by omega) (fun _ _ => g12) E2.size E2.size hs (by rw [List.length_take]; omega) (fun j hj => .inr hj) fun u' w7 hg7 C7 => ?_
    refine bin_inc (by omega) (hK _ _ ⟨k + 1, u', rfl, by omega, ?_, ?_, ?_⟩ (by simp [upTo, nthV, iOf]; omega))
    · exact Chg.ext ((E2.trans e6).then C7) fun j hj hb => by have := (hub j hb).1; omega
    · have := C7.size; have := e6.size; omega
    · rw [take_snoc hk]; exact hg7
  · have hk : k = p.length := by omega
    subst hk
    rw [List.take_length] at hg2
    exact hR _ _ ⟨E2, hg2⟩
theorem l3Copy_ok {w : World} {v : Value} {p : List Nd} (hp : PlanV w v p) : Calls Try.prog N.spec_l3Copy #[v] w (Ret fun r w' => Ext w w' ∧ FPlan w' (Since w) r p) :=
  ret_mono (l3Copy_grow hp) fun _ _ h => ⟨h.1, h.2.fplan hp.small (Nat.le_refl _)⟩
end Go.Proofs.Ytblgkpfnjlobjaa
