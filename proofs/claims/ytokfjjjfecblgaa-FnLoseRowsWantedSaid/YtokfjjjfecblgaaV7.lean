/- Code and functions are sound. -/
import Derived.Test.YtokfjjjfecblgaaV6
namespace Go.V
open Go

theorem mem_dstsL {l : List Oper} {o : Oper} (h : o ∈ l) {n : Nat} (hn : o.dst = some n) : n ∈ dstsL l := by
  induction l with
  | nil => cases h
  | cons x l ih =>
    unfold dstsL
    rcases List.mem_cons.1 h with e | h
    · subst e; rw [hn]; simp
    · split
      · simp [ih h]
      · exact ih h

def okE : Exit → Bool
  | .normal => true
  | .exit _ => true
  | .ret => true
  | _ => false

/-- What soundness shows of a piece of code. -/
def LiftQ (d : List Deferred) (ds : List Nat) (F : Fr) (Q : Kt) : Exit → Act → World → Prop :=
  fun e a w => okE e = true ∧ ∃ F', a = act F' d ∧ Agree ds F F' ∧ Q e F' w

theorem LiftQ.mono {d : List Deferred} {ds es : List Nat} {F G : Fr} {Q Q' : Kt} {e : Exit} {a : Act} {w : World} (h : LiftQ d ds G Q e a w)
    (hA : Agree es F G) (h1 : ∀ t ∈ es, t ∈ ds) (hq : ∀ F w, Q e F w → Q' e F w) : LiftQ d ds F Q' e a w := by
  obtain ⟨ho, F', ha, hA', hQ⟩ := h
  exact ⟨ho, F', ha, hA.trans hA' h1 (fun _ h => h), hq _ _ hQ⟩

theorem LiftQ.more {d : List Deferred} {ds es : List Nat} {F : Fr} {Q : Kt} {e : Exit} {a : Act} {w : World} (h : LiftQ d ds F Q e a w)
    (h1 : ∀ t ∈ ds, t ∈ es) : LiftQ d es F Q e a w := by
  obtain ⟨ho, F', ha, hA', hQ⟩ := h
  exact ⟨ho, F', ha, ⟨hA'.1, fun t ht => hA'.2 t fun m => ht (h1 t m)⟩, hQ⟩

theorem havoc_length (F : Fr) (ds : List Nat) (g : Nat → Value) : (havoc F ds g).length = F.length := by
  induction ds with
  | nil => rfl
  | cons d ds ih => simp [havoc, updO_length, ih]

theorem sets_length (F : Fr) (ms : List Nat) (s : List Value) (k : Nat) : (sets F ms s k).length = F.length := by
  induction ms generalizing k with
  | nil => rfl
  | cons m ms ih => simp [sets, updO_length, ih]

theorem havoc_other (F : Fr) (ds : List Nat) (g : Nat → Value) {t : Nat} (h : t ∉ ds) : nthO (havoc F ds g) t = nthO F t := by
  induction ds with
  | nil => rfl
  | cons d ds ih =>
    simp only [havoc]
    rw [nthO_upd_ne _ _ (by intro e; subst e; simp at h)]
    exact ih (by simp at h; exact h.2)

theorem havoc_mem (F : Fr) (ds : List Nat) (g : Nat → Value) {t : Nat} (ht : t < F.length) (h : t ∈ ds) : nthO (havoc F ds g) t = some (g t) := by
  induction ds with
  | nil => cases h
  | cons d ds ih =>
    simp only [havoc]
    by_cases e : d = t
    · subst e; rw [nthO_upd_same _ _ (by rw [havoc_length]; exact ht)]
    · rw [nthO_upd_ne _ _ e]
      rcases List.mem_cons.1 h with e' | h
      · exact absurd e'.symm e
      · exact ih h

theorem sets_other (F : Fr) (ms : List Nat) (s : List Value) (k : Nat) {t : Nat} (h : t ∉ ms) : nthO (sets F ms s k) t = nthO F t := by
  induction ms generalizing k with
  | nil => rfl
  | cons m ms ih =>
    simp only [sets]
    rw [nthO_upd_ne _ _ (by intro e; subst e; simp at h)]
    exact ih _ (by simp at h; exact h.2)

theorem nthV_drop (F : Fr) (ms : List Nat) : ∀ (k : Nat) (pre : List Value), pre.length = k → ∀ j, nthV (pre ++ gets F ms) (k + j) = nthV (gets F ms) j := by
  intro k
  induction k with
  | zero => intro pre h j; cases pre with
    | nil => simp
    | cons => simp at h
  | succ k ih => intro pre h j; cases pre with
    | nil => simp at h
    | cons x pre =>
      have := ih pre (by simpa using h) j
      rw [show k + 1 + j = (k + j) + 1 by omega]
      simpa [nthV] using this

/-- Slots set to what a frame has there: the frame with its slots there. -/
theorem sets_gets (F G : Fr) : ∀ (ms : List Nat) (pre : List Value) {t : Nat}, t < F.length → t ∈ ms →
    getU (nthO (sets F ms (pre ++ gets G ms) pre.length) t) = getU (nthO G t)
  | [], _, _, _, h => by cases h
  | m :: ms, pre, t, ht, h => by
    simp only [sets]
    by_cases e : m = t
    · subst e
      rw [nthO_upd_same _ _ (by rw [sets_length]; exact ht)]
      have := nthV_drop G (m :: ms) pre.length pre rfl 0
      simp only [Nat.add_zero] at this
      rw [this]; rfl
    · rw [nthO_upd_ne _ _ e]
      rcases List.mem_cons.1 h with e' | h
      · exact absurd e'.symm e
      · have := sets_gets F G ms (pre ++ [getU (nthO G m)]) ht h
        simpa [gets] using this

theorem agree_act {F G : Fr} {d : List Deferred} (hl : F.length = G.length) (h : ∀ t, t < F.length → getU (nthO F t) = getU (nthO G t)) : act F d = act G d := by
  unfold act
  rw [ext_nth (f := den F) (g := den G) (by simp [den_length, hl]) fun t ht => by rw [nth_den, nth_den]; exact h t (by simpa [den_length] using ht)]

/-- A frame that agrees outside ds is the head's frame, havocked and set. -/
theorem head_agree {F G : Fr} {ds ms : List Nat} (h : Agree ds F G) :
    Agree [] G (sets (havoc F ds fun n => getU (nthO G n)) ms (gets G ms) 0) := by
  refine ⟨by rw [sets_length, havoc_length, h.1], fun t _ => ?_⟩
  by_cases hl : t < F.length
  · by_cases hm : t ∈ ms
    · have := sets_gets (havoc F ds fun n => getU (nthO G n)) G ms [] (t := t) (by rw [havoc_length]; exact hl) hm
      simpa only [List.nil_append, List.length_nil] using this
    · rw [sets_other _ _ _ _ hm]
      by_cases hd : t ∈ ds
      · rw [havoc_mem _ _ _ hl hd]; rfl
      · rw [havoc_other _ _ _ hd]; exact (h.2 t hd).symm
  · rw [nthO_ge _ (by rw [sets_length, havoc_length]; omega), nthO_ge G (by rw [h.1]; omega)]

theorem head_act {F G : Fr} {d : List Deferred} {ds ms : List Nat} (h : Agree ds F G) :
    act G d = act (sets (havoc F ds fun n => getU (nthO G n)) ms (gets G ms) 0) d := by
  have := head_agree (ms := ms) h
  exact agree_act this.1.symm fun t _ => (this.2 t (by simp)).symm

theorem agree_head (F : Fr) (ds ms : List Nat) (s : List Value) (g : Nat → Value) {es : List Nat} (h1 : ∀ t ∈ ds, t ∈ es) (h2 : ∀ t ∈ ms, t ∈ es) : Agree es F (sets (havoc F ds g) ms s 0) :=
  ⟨by rw [sets_length, havoc_length], fun t ht => by rw [sets_other _ _ _ _ fun m => ht (h2 t m), havoc_other _ _ _ fun m => ht (h1 t m)]⟩

theorem liftQ_of {d : List Deferred} {ds : List Nat} {F F' : Fr} {Q : Kt} {e : Exit} {w : World} (ho : okE e = true) (hA : Agree ds F F') (h : Q e F' w) : LiftQ d ds F Q e (act F' d) w :=
  ⟨ho, F', rfl, hA, h⟩

theorem litC_act {F : Fr} {c : Operand} {b : Bool} (d : List Deferred) (h : evO F c = .bool b) : act (litC F c b) d = act F d ∧ ∀ ds, Agree ds F (litC F c b) := by
  unfold litC
  split
  · exact ⟨act_same F d h, Agree.same h⟩
  · exact ⟨rfl, fun _ => Agree.refl _ _⟩

theorem dvc_sound {P : Program} {an : Ann} {d : List Deferred} : ∀ (c : Code) (F : Fr) (w : World) (Q : Kt), dvc P an c F w Q →
    c.wp P (LiftQ d (wr an c) F Q) (act F d) w
  | .skip, F, w, Q, h => wp_skip (liftQ_of rfl (Agree.refl _ _) h)
  | .region id ops draw, F, w, Q, h => by
    unfold dvc at h
    cases draw with
    | false =>
      refine wp_region_list ?_
      have := vops_sound (d := d) (Q := LiftQ d (wr an (.region id ops false)) F Q) (ds := dstsL ops.toList) ops.toList F w _ (fun o ho n hn => mem_dstsL ho hn) h
        (fun F' w' hA hk => liftQ_of rfl hA hk)
      simpa using this
    | true =>
      simp only at h
      split at h
      · rename_i hm
        simp only [Bool.and_eq_true] at hm
        obtain ⟨S, hS⟩ := h
        refine wp_region_any hm.1 (wpAny_of_G (wa := waF (an.late.any (Nat.beq id)) ops) (C := Chg S { w with drawn := w.drawn + 1 }) _ _ _ _ ?_)
        exact vdraw_sound (ds := dstsL ops.toList) (fun i o hi n hn => mem_dstsL (by
            have := Array.mem_of_getElem? hi
            simpa using this) hn) hm.2 (fun c a w hq => by simp [LiftQ, okE] at hq) _ _ _ _ _ (closed_none _ _) (by simp)
          (hS _ ⟨rfl, rfl, rfl, rfl⟩) (fun F' w' hA hk => liftQ_of rfl hA hk)
      · exact h.elim
  | .seq a b, F, w, Q, h => by
    have key : ∀ {K : Fr → World → Prop} {es : List Nat}, dvc P an a F w (thenQ K Q) → (∀ F' w', Agree (wr an a) F F' → K F' w' → b.wp P (LiftQ d es F Q) (act F' d) w') →
        (∀ t ∈ wr an a, t ∈ es) → (Code.seq a b).wp P (LiftQ d es F Q) (act F d) w := by
      intro K es ha hb hes
      refine wp_seq (wp_mono (dvc_sound a F w _ ha) fun e a' w' hq => ?_)
      obtain ⟨ho, F', rfl, hA, hq⟩ := hq
      cases e <;> first
        | exact hb F' w' hA hq
        | exact ⟨rfl, F', rfl, ⟨hA.1, fun t ht => hA.2 t fun m => ht (hes t m)⟩, hq⟩
        | (simp [okE] at ho)
    have plain : dvc P an a F w (thenQ (fun F' w' => dvc P an b F' w' Q) Q) → (Code.seq a b).wp P (LiftQ d (wr an (.seq a b)) F Q) (act F d) w := fun ha =>
      key ha (fun F' w' hA hk => wp_mono (dvc_sound b F' w' Q hk) fun e a w hq => by
        obtain ⟨ho, F'', rfl, hA', hq⟩ := hq
        exact ⟨ho, F'', rfl, hA.trans hA' (fun t ht => by simp [wr, ht]) (fun t ht => by simp [wr, ht]), hq⟩) (fun t ht => by simp [wr, ht])
    unfold dvc at h
    split at h
    · exact plain h
    · rename_i r hr
      split at h
      · exact plain h
      · rename_i ms hms
        obtain ⟨M, ha, hb⟩ := h
        refine key ha (fun F' w' hA hk => ?_) (fun t ht => by simp [wr, ht])
        rw [head_act (ms := ms) hA]
        refine wp_mono (dvc_sound b _ w' Q (hb _ (fun n => getU (nthO F' n)) _ hk)) fun e a w hq => ?_
        obtain ⟨ho, F'', rfl, hA', hq⟩ := hq
        refine ⟨ho, F'', rfl, (agree_head F (wr an a) ms _ _ ?_ ?_).trans hA' (fun t ht => ht) ?_, hq⟩
        · intro t ht; simp [wr, ht]
        · intro t ht; simp [wr, hr, hms, ht]
        · intro t ht; simp [wr, ht]
  | .cond c a b, F, w, Q, h => by
    unfold dvc at h
    unfold SplitV at h
    have he : (act F d).eval c = evO F c := by rw [act_evO]
    split at h
    · rename_i hc
      refine wp_cond_true (by rw [he, hc]) ?_
      obtain ⟨h1, h2⟩ := litC_act d hc
      rw [← h1]
      exact wp_mono (dvc_sound a _ w Q h) fun e a w hq => by
        obtain ⟨ho, F'', rfl, hA', hq⟩ := hq
        exact ⟨ho, F'', rfl, (h2 []).trans hA' (fun t ht => by cases ht) (fun t ht => by simp [wr, ht]), hq⟩
    · rename_i hc
      refine wp_cond_false (by rw [he, hc]) ?_
      obtain ⟨h1, h2⟩ := litC_act d hc
      rw [← h1]
      exact wp_mono (dvc_sound b _ w Q h) fun e a w hq => by
        obtain ⟨ho, F'', rfl, hA', hq⟩ := hq
        exact ⟨ho, F'', rfl, (h2 []).trans hA' (fun t ht => by cases ht) (fun t ht => by simp [wr, ht]), hq⟩
    · exact h.elim
  | .block id c, F, w, Q, h => by
    unfold dvc at h
    refine wp_block (wp_mono (dvc_sound c F w _ h) fun e a w hq => ?_)
    obtain ⟨ho, F', rfl, hA, hq⟩ := hq
    cases e with
    | normal => exact ⟨rfl, F', rfl, hA, hq⟩
    | exit i =>
      simp only [blockQ] at hq
      simp only [Exit.inBlock]
      by_cases hi : i = id
      · subst hi
        simp only [Nat.beq_refl] at hq
        rw [if_pos rfl]
        exact ⟨rfl, F', rfl, hA, hq⟩
      · have : Nat.beq i id = false := by
          cases hb : Nat.beq i id with
          | false => rfl
          | true => exact absurd (Nat.eq_of_beq_eq_true hb) hi
        simp only [this] at hq
        rw [if_neg hi]
        exact ⟨rfl, F', rfl, hA, hq⟩
    | ret => exact ⟨rfl, F', rfl, hA, hq⟩
    | _ => simp [okE] at ho
  | .loop c, F, w, Q, h => by
    unfold dvc at h
    split at h
    · exact h.elim
    · rename_i r hr
      split at h
      · exact h.elim
      · rename_i ms hms
        obtain ⟨I, μ, h0, hround⟩ := h
        have hwr : ∀ t ∈ ms, t ∈ wr an (.loop c) := fun t ht => by simp [wr, hr, hms, ht]
        have hwc : ∀ t ∈ wr an c, t ∈ wr an (.loop c) := fun t ht => by simp [wr, ht]
        have hmu : ∀ G : Fr, (ms.map fun m => (act G d).tmps.getD m undef) = gets G ms := by
          intro G
          clear h0 hround hms hwr
          induction ms with
          | nil => rfl
          | cons m ms ih =>
            simp only [List.map_cons, gets]
            rw [ih]
            congr 1
            unfold act; rw [nth_eq, nth_den]
        refine wp_loop (fun a w => ∃ G, a = act G d ∧ Agree (wr an c) F G ∧ I (gets G ms) w)
          (fun a w => μ (ms.map fun m => a.tmps.getD m undef) w) ⟨F, rfl, Agree.refl _ _, h0⟩ ?_
        rintro a w' ⟨G, rfl, hA, hI⟩
        have hag := head_agree (ms := ms) hA
        have hact := head_act (d := d) (ms := ms) hA
        have hb := hround _ (fun n => getU (nthO G n)) _ hI
        have hd := dvc_sound c _ w' _ hb (d := d)
        rw [← hact] at hd
        refine wp_mono hd fun e a w'' hq => ?_
        obtain ⟨ho, F'', rfl, hA', hq⟩ := hq
        have hA2 : Agree (wr an c) F F'' := (hA.trans hag (fun t ht => ht) (fun t ht => by cases ht)).trans hA' (fun t ht => ht) (fun t ht => ht)
        cases e with
        | normal =>
          simp only [Exit.then]
          rw [hmu, hmu]
          exact ⟨⟨F'', rfl, hA2, hq.1⟩, hq.2⟩
        | exit i => exact ⟨rfl, F'', rfl, ⟨hA2.1, fun t ht => hA2.2 t fun m => ht (hwc t m)⟩, hq⟩
        | ret => exact ⟨rfl, F'', rfl, ⟨hA2.1, fun t ht => hA2.2 t fun m => ht (hwc t m)⟩, hq⟩
        | _ => simp [okE] at ho
  | .exit i, F, w, Q, h => wp_exit (liftQ_of rfl (Agree.refl _ _) h)
  | .ret, F, w, Q, h => wp_ret (liftQ_of rfl (Agree.refl _ _) h)
  | .rangeFunc _ _ _ _, _, _, _, h => h.elim
  | .scope _, _, _, _, h => h.elim
  | .label _, _, _, _, h => h.elim
  | .goto _, _, _, _, h => h.elim
  | .refuse _, _, _, _, h => h.elim

/-! ### Functions -/
def resV (P : Program) : List ResultVar → Fr → World → (List Value → Prop) → Prop
  | [], _, _, K => K []
  | .tmp t :: rs, F, w, K => resV P rs F w fun vs => K (getU (nthO F t) :: vs)
  | .cell a t :: rs, F, w, K => match aggOf P t, sizeN P t with
    | some g, some n => LoadV g n (getU (nthO F a)) w fun v => resV P rs F w fun vs => K (v :: vs)
    | _, _ => False

def tupV : List Value → Value
  | [v] => v
  | vs => .tuple vs.toArray

def retQ (P : Program) (rs : List ResultVar) (R : Value → World → Prop) : Kt
  | .normal, F, w => resV P rs F w fun vs => R (tupV vs) w
  | .ret, F, w => resV P rs F w fun vs => R (tupV vs) w
  | _, _, _ => False

def resOne (a : Act) : ResultVar → Sem Value
  | .tmp t => pure (a.tmps.getD t undef)
  | .cell p t => do loadVar t (← asAddr (a.tmps.getD p undef))

theorem results_eq (fn : Func) (a : Act) : results fn a.tmps = (do
    let vs ← fn.results.mapM (resOne a)
    pure (if h : vs.size = 1 then vs[0] else .tuple vs)) := by
  unfold results
  congr 2

theorem resV_sound {P : Program} : ∀ (rs : List ResultVar) (F : Fr) (w : World) (d : List Deferred) (K : List Value → Prop), resV P rs F w K →
    ∃ vs, (rs.mapM (resOne (act F d))).run P w = .ok vs w ∧ K vs
  | [], F, w, d, K, h => ⟨[], by simp, h⟩
  | .tmp t :: rs, F, w, d, K, h => by
    obtain ⟨vs, hr, hK⟩ := resV_sound rs F w d _ h
    refine ⟨_, ?_, hK⟩
    have e : (act F d).tmps.getD t undef = getU (nthO F t) := by unfold act; rw [nth_eq, nth_den]
    simp only [List.mapM_cons, resOne, Sem.run_bind, Sem.run_pure, Result.andThen_ok, e, hr]
  | .cell a t :: rs, F, w, d, K, h => by
    unfold resV at h
    split at h
    · rename_i g n hg hn
      obtain ⟨v, hl, h'⟩ := load_sound hg hn h
      obtain ⟨vs, hr, hK⟩ := resV_sound rs F w d _ h'
      refine ⟨_, ?_, hK⟩
      have e : (act F d).tmps.getD a undef = getU (nthO F a) := by unfold act; rw [nth_eq, nth_den]
      unfold LoadV at h
      split at h
      · rename_i ad hp
        rw [hp] at hl e
        simp only [Instr.loadAt, Instr.sureAddr, Sem.run_bind, Sem.run_pure, Result.andThen_ok] at hl
        have ha : (asAddr (.pointer (some ad))).run P w = .ok ad w := rfl
        simp only [List.mapM_cons, resOne, Sem.run_bind, Sem.run_pure, Result.andThen_ok, e, ha, hl, hr]
      · exact h.elim
    · exact h.elim

theorem results_run {P : Program} {fn : Func} {F : Fr} {w : World} {d : List Deferred} {R : Value → World → Prop} (h : resV P fn.results.toList F w fun vs => R (tupV vs) w) :
    ∃ v, (results fn (act F d).tmps).run P w = .ok v w ∧ R v w := by
  obtain ⟨vs, hr, hR⟩ := resV_sound _ F w d _ h
  refine ⟨_, ?_, hR⟩
  rw [results_eq, Array.mapM_eq_mapM_toList]
  simp only [Sem.run_bind, Sem.run_map, hr, Result.andThen_ok, Sem.run_pure]
  congr 1
  match vs with
  | [] => rfl
  | [v] => rfl
  | v :: u :: vs => simp [tupV]

def frame0 (args : List Value) (n : Nat) : Fr := args.map some ++ List.replicate (n - args.length) none

def annOf : List (Nat × List Nat) → Nat → Option (List Nat)
  | [], _ => none
  | (k, l) :: r, n => match Nat.beq k n with | true => some l | false => annOf r n

def bodyOf (fn : Func) : Code := match fn.body with | some c => c | none => .skip

/-- **A call, out of its text's conditions.** -/
theorem calls_of_dvc {P : Program} {f : FuncId} {fn : Func} {c : Code} {args : List Value} {w : World} {R : Value → World → Prop} (an : Ann)
    (hf : P.funcs[f]? = some fn) (hb : fn.body = some c) (h : dvc P an c (frame0 args fn.ntmps) w (retQ P fn.results.toList R)) :
    Calls P f args.toArray w (Ret R) := by
  refine calls_of_wp hf hb ?_
  have he : ({ tmps := args.toArray ++ Array.replicate (fn.ntmps - args.toArray.size) undef, defers := [] } : Act) = act (frame0 args fn.ntmps) [] := by
    unfold act den frame0
    simp only [List.map_append, List.map_map, List.map_replicate, getU, List.size_toArray]
    congr 1
    apply Array.toList_inj.1
    simp [Function.comp_def, getU]
  rw [he]
  refine wp_mono (dvc_sound c _ w _ h) fun e a w' hq => ?_
  obtain ⟨ho, F', rfl, hA, hq⟩ := hq
  cases e with
  | normal =>
    obtain ⟨v, hr, hR⟩ := results_run (d := []) (fn := fn) hq
    exact ⟨rfl, v, hr, v, rfl, hR⟩
  | ret =>
    obtain ⟨v, hr, hR⟩ := results_run (d := []) (fn := fn) hq
    exact ⟨rfl, v, hr, v, rfl, hR⟩
  | exit i => exact hq.elim
  | _ => simp [okE] at ho

theorem callsB {P : Program} {f : FuncId} {fn : Func} {args : List Value} {w : World} {R : Value → World → Prop} (an : Ann)
    (hf : P.funcs[f]? = some fn) (hb : fn.body.isSome = true) (h : dvc P an (bodyOf fn) (frame0 args fn.ntmps) w (retQ P fn.results.toList R)) :
    Calls P f args.toArray w (Ret R) := by
  cases hc : fn.body with
  | none => rw [hc] at hb; cases hb
  | some c => exact calls_of_dvc an hf hc (by unfold bodyOf at h; rw [hc] at h; exact h)
end Go.V
