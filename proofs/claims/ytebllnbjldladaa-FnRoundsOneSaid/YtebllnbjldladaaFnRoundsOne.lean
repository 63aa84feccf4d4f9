/-
One worker needs a round for each node: the law FnRoundsOne returns true at every seed, and writes nothing that was there.
No condition.
-/
import Derived.Test.YtebllnbjldladaaDrawT
import Derived.Test.YtebllnbjldladaaTurns
import Derived.Test.YtebllnbjldladaaCFnRoundsOne
namespace Go.Proofs.Ytebllnbjldladaa
open Go Go.V

theorem rounds_ex {p : List Nd} (hp : PlanOk p) {w : Nat} (hw : 1 ≤ w) : ∃ r, IsRounds p w r := by
  refine Classical.byContradiction fun hn => ?_
  have h : ∀ r, ∀ j, j < r → (afterW p w j).length < p.length := by
    intro r
    induction r with
    | zero => intro j hj; omega
    | succ r ih =>
      intro j hj
      by_cases e : j = r
      · subst e
        have h1 := afterW_le (p := p) w j
        exact Nat.lt_of_le_of_ne h1 fun e => hn ⟨j, e, ih⟩
      · exact ih j (by omega)
  have h1 := (afterW_min hp hw (p.length + 1) (h _)).1
  have h2 := afterW_le (p := p) w (p.length + 1)
  omega

theorem fnRoundsOne_ok {w : World} {v : Value} {bs : List Int} (hx : RowIn .u8 w v bs) : Calls Try.prog N.laws_FnRoundsOne #[v] w (Ret fun r w' => Ext w w' ∧ r = .bool true) := by
  obtain ⟨a, c, hv, hc, _⟩ := hx.out
  refine ret_k fun R hR => c_laws_FnRoundsOne _ _ _ ?_
  have e0 : LenV v = LenV (.slice a bs.length c) := by rw [hv]
  rw [e0]
  simp only [go_sem]
  refine ⟨fun _ => hR _ _ ⟨Ext.refl _, rfl⟩, fun hlen => ?_⟩
  refine callV_of (drawScheduleTurns_ok hx) rfl ?_
  rintro _ w1 ⟨t, n, p, lo, rfl, hd, hn1, hn2⟩
  have hp := hd.pl.plan
  simp only [go_sem]
  refine callV_of (implScheduleTurns_ok hp n) rfl ?_
  rintro _ w2 ⟨rfl, E2⟩
  simp only [go_sem]
  refine callV_of (specScheduleTurns_ok (hp.ext E2) n) rfl ?_
  rintro _ w3 ⟨rfl, E3⟩
  have e3 := (hd.ext.trans E2).trans E3
  have hlen' : ∀ K, LenV t K = K (.int .i64 p.length) := fun K => hp.len
  simp only [go_sem]
  refine ⟨fun h => by simp at h, fun _ => ⟨fun h => by simp at h, fun _ => ⟨fun h => ?_, fun hT => ?_⟩⟩⟩
  · exact ⟨fun _ => hR _ _ ⟨e3, by simp⟩, fun h => by simp at h⟩
  · have hT : TurnsOk p n := by simpa using hT
    have hok := hT.1
    refine callV_of (implScheduleTurns_ok ((hp.ext E2).ext E3) 1) rfl ?_
    rintro _ w4 ⟨rfl, E4⟩
    have hT1 : TurnsOk p 1 := ⟨hok, by omega, by omega⟩
    obtain ⟨r1, h1⟩ := rounds_ex hok (w := 1) (by omega)
    obtain ⟨m, hm⟩ : ∃ m : Nat, n = (m : Int) := ⟨n.toNat, by have := hT.2; omega⟩
    have hm1 : 1 ≤ m := by have := hT.2.1; omega
    obtain ⟨r, hr⟩ := rounds_ex hok hm1
    have t1 : turnsN p 1 = p.length := by
      rw [turnsN, if_pos hT1, show (1 : Int).toNat = 1 from rfl, roundsOf_eq h1, h1.one hok]
    have t2 : turnsN p n ≤ p.length := by
      rw [turnsN, if_pos hT, hm, Int.toNat_natCast, roundsOf_eq hr]
      have := hr.le hok hm1; omega
    simp only [hlen', t1, decide_eq_true hT1, go_sem]
    have fin : R (.bool (decide (turnsN p n ≤ p.length))) w4 := hR _ _ ⟨e3.trans E4, by rw [decide_eq_true t2]⟩
    first
      | exact ⟨fun _ => fin, fun h => absurd rfl h⟩
      | exact ⟨fun _ => fin, fun h => by simp at h⟩
      | exact fin
      | exact ⟨fun _ => ⟨fun _ => fin, fun h => absurd trivial h⟩, fun h => by cases h⟩
end Go.Proofs.Ytebllnbjldladaa
