/- Schedules by turns. -/
import Derived.Test.YtebllnbjldladaaCnt
import Derived.Test.YtebllnbjldladaaOuter
namespace Go.Proofs.Ytebllnbjldladaa
open Go Go.V

/-! ### Schedules by turns -/
noncomputable def roundsOf (p : List Nd) (w : Nat) : Nat := open Classical in if h : ∃ r, IsRounds p w r then Classical.choose h else 0
theorem roundsOf_eq {p : List Nd} {w r : Nat} (h : IsRounds p w r) : roundsOf p w = r := by
  have hx : ∃ r, IsRounds p w r := ⟨r, h⟩
  unfold roundsOf
  rw [dif_pos hx]
  exact (Classical.choose_spec hx).uniq h
def TurnsOk (p : List Nd) (n : Int) : Prop := PlanOk p ∧ 1 ≤ n ∧ n ≤ 4
noncomputable instance (p : List Nd) (n : Int) : Decidable (TurnsOk p n) := Classical.propDecidable _
noncomputable def turnsN (p : List Nd) (n : Int) : Int := if TurnsOk p n then (roundsOf p n.toNat : Int) else 0

theorem workersFit_ok {w : World} (n : Int) : Calls Try.prog N.impl_workersFit #[.int .i64 n] w (Ret fun r w' => Ext w w' ∧ r = .bool (decide (1 ≤ n ∧ n ≤ 4))) := by
  refine ret_k fun R hR => c_impl_workersFit _ _ _ ?_
  simp only [go_sem]
  refine ⟨fun h => hR _ _ ⟨Ext.refl _, ?_⟩, fun h => hR _ _ ⟨Ext.refl _, by rw [decide_eq_false fun h' => h h'.1]⟩⟩
  congr 1; exact decide_eq_decide.2 ⟨fun h' => ⟨h, h'⟩, fun h' => h'.2⟩

theorem MinV_i {a b : Int} {K : Value → Prop} : MinV (.int .i64 a) (.int .i64 b) K = K (.int .i64 (if b < a then b else a)) := rfl
/-- One round: the first ready nodes are appended. -/
theorem round_step {w : World} {lo : Nat} {u rv : Value} {p : List Nd} {done : List Int} {n : Nat} (ho : Own w lo T.int 1 u done.length (ints done)) (hr : FInts w (Since w) rv (readyL p done) ∨ Ints w rv (readyL p done)) (hlo : lo ≤ w.heap.size) (hd : done.length ≤ 1048576) (hrl : (readyL p done).length ≤ 1048576) {K : Value → World → Prop}
    (hK : ∀ v' w', Own w' lo T.int 1 v' (stepW p n done).length (ints (stepW p n done)) → Chg (blkIs u) w w' → K v' w') :
    LenV rv fun t => MinV (.int .i64 n) t fun t => SliceV 1 rv none (some t) fun t => AppendV Try.prog T.sl_int u t w K := by
  have hr' : Ints w rv (readyL p done) := hr.elim (fun h => h.ints) id
  obtain ⟨a, c, rfl, hc, hcell⟩ := hr'.out
  simp only [go_sem]
  rw [MinV_i]
  have key : ∀ k : Nat, k = min n (readyL p done).length → SliceV 1 (.slice a (readyL p done).length c) none (some (.int .i64 k)) fun t => AppendV Try.prog T.sl_int u t w K := by
    intro k hk
    refine sliceHi (by omega) ?_
    have htl : ((readyL p done).take n).length = k := by rw [List.length_take]; omega
    have htk : (readyL p done).take k = (readyL p done).take n := by
      rw [hk]
      by_cases h : n ≤ (readyL p done).length
      · rw [Nat.min_eq_left h]
      · rw [Nat.min_eq_right (by omega), List.take_length, List.take_of_length_le (by omega)]
    refine appendV_src sl_int el_int (cs := ints ((readyL p done).take n)) ho ?_ (by rw [← htl]; simp [ints]) ints_one (by omega) (by omega) hlo fun v' w' ho' hC => hK v' w' ?_ hC
    · rw [← htk]
      simpa [ints] using Cells.take hcell k
    · have e1 : (stepW p n done).length = done.length + k := by rw [stepW, List.length_append, htl]
      have e2 : ints (stepW p n done) = ints done ++ ints ((readyL p done).take n) := by simp [stepW, ints]
      rw [e1, e2]; exact ho'
  by_cases h : ((readyL p done).length : Int) < n
  · rw [if_pos h]; exact key _ (by omega)
  · rw [if_neg h]; exact key _ (by omega)

theorem implScheduleTurns_ok {w : World} {v : Value} {p : List Nd} (hp : PlanV w v p) (n : Int) :
    Calls Try.prog N.impl_ScheduleTurns #[v, .int .i64 n] w (Ret fun r w' => r = .tuple #[.int .i64 (turnsN p n), .bool (decide (TurnsOk p n))] ∧ Ext w w') := by
  refine ret_k fun R hR => c_impl_ScheduleTurns _ _ _ _ ?_
  have hlen : ∀ K, LenV v K = K (.int .i64 p.length) := fun K => hp.len
  have no : ∀ w', Ext w w' → ¬ TurnsOk p n → R (.tuple #[.int .i64 0, .bool false]) w' := fun w' hE hn => hR _ _ ⟨by rw [decide_eq_false hn, turnsN, if_neg hn], hE⟩
  refine callV_of (implPlanValid_ok hp) rfl ?_
  rintro _ w1 ⟨E1, rfl⟩
  simp only [hlen, go_sem]
  refine ⟨fun hno => no _ E1 fun h => hno h.1, fun hok => ?_⟩
  refine callV_of (workersFit_ok n) rfl ?_
  rintro _ w2 ⟨E2, rfl⟩
  have e2 := E1.trans E2
  simp only [go_sem]
  refine ⟨fun hno => no _ e2 fun h => hno h.2, fun hw => ?_⟩
  obtain ⟨m, rfl⟩ : ∃ m : Nat, n = (m : Int) := ⟨n.toNat, by omega⟩
  have hT : TurnsOk p m := ⟨hok, hw⟩
  have h10 := hok.len
  refine loopV (fun s w' => ∃ (r : Nat) (u : Value), s = [u, .int .i64 r] ∧ r ≤ p.length ∧ Ext w2 w' ∧ Own w' w2.heap.size T.int 1 u (afterW p m r).length (ints (afterW p m r)) ∧ ∀ j, j < r → (afterW p m j).length < p.length) (upTo p.length 1)
    ⟨0, _, rfl, by omega, Ext.refl _, own_nil, fun j hj => by omega⟩ ?_
  rintro s z w3 K ⟨r, u, rfl, hr, E3, ho3, hall⟩ hK
  have e3 := e2.trans E3
  have hmin := afterW_min hok (w := m) (by omega) r hall
  have hle := afterW_le (p := p) m r
  simp only [go_sem]
  rw [Own.lenN ho3]
  simp only [go_sem]
  refine ⟨fun h => ?_, fun h => ?_⟩
  · obtain ⟨ua, uc, rfl, hucap, _, hucell⟩ := Own.cells ho3
    refine callV_of (implReadyOf_ok (hp.ext e3) (Own.ints ho3) (by omega)) rfl fun rv w4 ⟨E4, f4⟩ => ?_
    rw [if_pos hok] at f4
    have hrl := @sel_len p.length fun k => (k : Int) ∉ afterW p m r ∧ ∀ f ∈ fr p k, f ∈ afterW p m r
    have E34 := E3.trans E4
    refine round_step (n := m) (Own.ext ho3 E4) (.inr f4.ints) E34.size (by omega) (by unfold readyL; omega) fun v' w5 ho5 C5 => ?_
    refine bin_inc (by omega) (hK _ _ ⟨r + 1, v', rfl, by omega, chg_own E34 (Own.ext ho3 E4) C5 (Nat.le_refl _), ho5, fun j hj => ?_⟩ (by simp [upTo, nthV, iOf]; omega))
    by_cases e : j = r
    · subst e; omega
    · exact hall j (by omega)
  · have hrr : IsRounds p m r := ⟨by omega, hall⟩
    refine hR _ _ ⟨?_, e3⟩
    rw [decide_eq_true hT, turnsN, if_pos hT, Int.toNat_natCast, roundsOf_eq hrr]

theorem specScheduleTurns_ok {w : World} {v : Value} {p : List Nd} (hp : PlanV w v p) (n : Int) :
    Calls Try.prog N.spec_ScheduleTurns #[v, .int .i64 n] w (Ret fun r w' => r = .tuple #[.int .i64 (turnsN p n), .bool (decide (TurnsOk p n))] ∧ Ext w w') := by
  refine ret_k fun R hR => c_spec_ScheduleTurns _ _ _ _ ?_
  have hlen : ∀ K, LenV v K = K (.int .i64 p.length) := fun K => hp.len
  have no : ∀ w', Ext w w' → ¬ TurnsOk p n → R (.tuple #[.int .i64 0, .bool false]) w' := fun w' hE hn => hR _ _ ⟨by rw [decide_eq_false hn, turnsN, if_neg hn], hE⟩
  refine callV_of (specPlanValid_ok hp) rfl ?_
  rintro _ w1 ⟨E1, rfl⟩
  simp only [hlen, go_sem]
  refine ⟨fun hno => no _ E1 fun h => hno h.1, fun hok => ?_⟩
  refine callV_of (l6In_ok _ _ _) rfl ?_
  rintro _ w2 ⟨E2, rfl⟩
  have e2 := E1.trans E2
  simp only [go_sem]
  refine ⟨fun hno => no _ e2 fun h => hno h.2, fun hw => ?_⟩
  obtain ⟨m, rfl⟩ : ∃ m : Nat, n = (m : Int) := ⟨n.toNat, by omega⟩
  have hT : TurnsOk p m := ⟨hok, hw⟩
  have h10 := hok.len
  refine ⟨_, rfl, fun w2' hn2 => ?_⟩
  refine loopV (fun s w' => ∃ (r : Nat) (u : Value), s = [u, .int .i64 r] ∧ r ≤ p.length ∧ Ext w2 w' ∧ Own w' w2.heap.size T.int 1 u (afterW p m r).length (ints (afterW p m r)) ∧ ∀ j, j < r → (afterW p m j).length < p.length) (upTo p.length 1)
    ⟨0, _, rfl, by omega, hn2.ext, Own.empty hn2 (Nat.le_refl _), fun j hj => by omega⟩ ?_
  rintro s z w3 K ⟨r, u, rfl, hr, E3, ho3, hall⟩ hK
  have e3 := e2.trans E3
  have hmin := afterW_min hok (w := m) (by omega) r hall
  have hle := afterW_le (p := p) m r
  simp only [go_sem]
  rw [Own.lenN ho3]
  simp only [go_sem]
  refine ⟨fun h => ?_, fun h => ?_⟩
  · obtain ⟨ua, uc, rfl, hucap, _, hucell⟩ := Own.cells ho3
    refine callV_of (specReadyOf_ok (hp.ext e3) (Own.ints ho3) (by omega)) rfl fun rv w4 ⟨E4, f4⟩ => ?_
    rw [if_pos hok] at f4
    have hrl := @sel_len p.length fun k => (k : Int) ∉ afterW p m r ∧ ∀ f ∈ fr p k, f ∈ afterW p m r
    have E34 := E3.trans E4
    refine round_step (n := m) (Own.ext ho3 E4) (.inr f4.ints) E34.size (by omega) (by unfold readyL; omega) fun v' w5 ho5 C5 => ?_
    refine bin_inc (by omega) (hK _ _ ⟨r + 1, v', rfl, by omega, chg_own E34 (Own.ext ho3 E4) C5 (Nat.le_refl _), ho5, fun j hj => ?_⟩ (by simp [upTo, nthV, iOf]; omega))
    by_cases e : j = r
    · subst e; omega
    · exact hall j (by omega)
  · have hrr : IsRounds p m r := ⟨by omega, hall⟩
    refine hR _ _ ⟨?_, e3⟩
    rw [decide_eq_true hT, turnsN, if_pos hT, Int.toNat_natCast, roundsOf_eq hrr]
end Go.Proofs.Ytebllnbjldladaa
