/-
All nodes of a list are given: the law FnFoldAll returns true at every seed, and writes nothing that was there.
No condition.
-/
import Derived.Test.YtblgkpfnjlobjaaFoldPre
import Derived.Test.YtblgkpfnjlobjaaHas
import Derived.Test.YtblgkpfnjlobjaaCFnFoldAll
namespace Go.Proofs.Ytblgkpfnjlobjaa
open Go Go.V

theorem fnFoldAll_ok {w : World} {v : Value} {bs : List Int} (hx : RowIn .u8 w v bs) : Calls Try.prog N.laws_FnFoldAll #[v] w (Ret fun r w' => Ext w w' ∧ r = .bool true) := by
  refine ret_k fun R hR => c_laws_FnFoldAll _ _ _ ?_
  obtain ⟨va, vc, hv, hvc, _⟩ := hx.out
  have e0 : LenV v = LenV (.slice va bs.length vc) := by rw [hv]
  rw [e0]
  simp only [LenV_i, Bin_gtr, Split_d]
  refine ⟨fun _ => hR _ _ ⟨Ext.refl _, rfl⟩, fun _ => ?_⟩
  refine drawFoldAll hx fun t l w1 p ls lo hd => ?_
  have hp := hd.d.pl.plan
  have hpl := hd.d.len
  have hl := hd.o
  have hll := hd.len
  simp only [Ext_20, Ext_21]
  refine fold_eq (implFoldAll_ok hp hl (by omega)) (fun w2 E => specFoldAll_ok (hp.ext E) (hl.ext E) (by omega)) (fun w' E => hR _ _ ⟨hd.d.ext.trans E, rfl⟩) fun u w2 hK hu E2 => ?_
  have hok := hK.1
  have hfo := foldO_yes hK
  have hfok : PlanOk (foldO p ls) := by rw [hfo]; exact foldP_ok hok _
  have hfl : (foldO p ls).length = p.length := by rw [hfo, foldP_len]
  have hlen : ∀ K, LenV t K = K (.int .i64 p.length) := fun K => hp.len
  have hulen : ∀ K, LenV u K = K (.int .i64 p.length) := fun K => by rw [hu.len, hfl]
  refine loopV (fun s w' => ∃ k : Nat, s = [.int .i64 k] ∧ k ≤ p.length ∧ Ext w2 w') (upTo p.length 0) ⟨0, rfl, by omega, Ext.refl _⟩ ?_
  rintro s z w4 K ⟨k, rfl, hk, E4⟩ hK'
  have e4 := E2.trans E4
  have hu4 := hu.ext E4
  simp only [hlen, hulen, go_sem]
  refine ⟨fun h => ?_, fun _ => ?_⟩
  · have hk : k < p.length := by omega
    have hkf : k < (foldO p ls).length := by rw [hfl]; exact hk
    refine draw_none fun w5 hs5 => ?_
    have e5 := E4.trans hs5.ext
    refine callV_of (hasInt_ok (hl.ext (E2.trans e5)) (by omega) _) rfl ?_
    rintro _ w6 ⟨E6, rfl⟩
    have e6 := e5.trans E6
    refine ⟨E6, ?_⟩
    -- the second question
    have snd : ∀ {w6 : World}, Ext w2 w6 → CallV Try.prog N.laws_hasInt [l, .int .i64 k] w6 fun t71 w_13 => Chg (fun _ => False) w6 w_13 ∧ NotV t71 fun t72 => SplitV t72
        (IdxV 3 u (.int .i64 k) fun t76 => LoadS (fun _ => False) true 3 t76 w_13 fun t77 => IdxV 3 t (.int .i64 k) fun t80 => LoadS (fun _ => False) true 3 t80 w_13 fun t81 =>
          CallV Try.prog N.laws_sameNode [t77, t81] w_13 fun t82 w_14 => Chg (fun _ => False) w_13 w_14 ∧ NotV t82 fun t83 => SplitV t83 (R (.bool false) w_14) (BinV .add (.int .i64 k) (.int .i64 1) fun t56 => K [t56] w_14))
        (BinV .add (.int .i64 k) (.int .i64 1) fun t56 => K [t56] w_13) := fun {w6} e6 => by
      refine callV_of (hasInt_ok (hl.ext (E2.trans e6)) (by omega) _) rfl ?_
      rintro _ w7 ⟨E7, rfl⟩
      have e7 := e6.trans E7
      refine ⟨E7, ?_⟩
      simp only [go_sem]
      refine ⟨fun hno => ?_, fun _ => bin_inc (by omega) (hK' _ _ ⟨k + 1, rfl, by omega, e7⟩ (by simp [upTo, nthV, iOf]; omega))⟩
      refine (hu.ext e7).loadS (i := k) hkf (fun _ _ => id) fun x hxx => ?_
      refine (hp.ext (E2.trans e7)).loadS (i := k) hk (fun _ _ => id) fun x' hxx' => ?_
      refine callV_of (sameNode_ok hxx hxx') rfl ?_
      rintro _ w8 ⟨E8, rfl⟩
      refine ⟨E8, ?_⟩
      have hsame : (foldO p ls)[k]'hkf = p[k] := by rw [← nd_get hkf, ← nd_get hk, hfo, foldP_no hk hno]
      simp only [go_sem]
      exact ⟨fun h => absurd hsame h, fun _ => bin_inc (by omega) (hK' _ _ ⟨k + 1, rfl, by omega, e7.trans E8⟩ (by simp [upTo, nthV, iOf]; omega))⟩
    simp only [go_sem] at snd ⊢
    refine ⟨fun hin => ?_, fun _ => snd e6⟩
    refine (hu.ext e6).idx (i := k) hkf fun b o fv rv c0 c1 c2 hf hr hs => ?_
    have hat : (foldO p ls)[k]'hkf = ⟨0, [], val p k⟩ := by rw [← nd_get hkf, hfo, foldP_yes hk hin]
    rw [hat] at c0
    simp only [go_sem]
    refine loadS_cell c0 id ?_
    simp only [go_sem]
    exact ⟨fun h => absurd rfl h, fun _ => snd e6⟩
  · refine callV_of (implPlanValid_ok hu4) rfl ?_
    rintro _ w5 ⟨E5, rfl⟩
    simp only [go_sem]
    exact ⟨fun _ => hR _ _ ⟨(hd.d.ext.trans e4).trans E5, by simp⟩, fun h => absurd hfok h⟩
end Go.Proofs.Ytblgkpfnjlobjaa
