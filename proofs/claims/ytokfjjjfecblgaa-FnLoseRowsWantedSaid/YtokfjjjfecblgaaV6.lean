/- Regions that draw their order; code; functions. -/
import Derived.Test.YtokfjjjfecblgaaV5
namespace Go.V
open Go

def NotIn (S : Nat → Prop) (p : Value) : Prop := match p with | .pointer (some a) => ¬ S a.block | _ => False

def LoadS (S : Nat → Prop) (agg : Bool) (n : Nat) (p : Value) (w : World) (K : Value → Prop) : Prop := NotIn S p ∧ LoadV agg n p w K

def isDet (P : Program) (op : Op) : Bool :=
  match op with
  | .load _ _ | .move _ | .assign _ | .pick _ _ _ | .unOp _ _ _ | .convert _ _ _ | .nilCheck _ | .fieldAddr _ _ _ | .indexAddr _ _ _ | .slice _ _ _ _ _
  | .build _ _ | .extract _ _ | .makeInterface _ _ | .makeFunc _ _ _ | .typeAssert _ _ _ _ => true
  | .binOp _ t _ _ _ => match P.underlying t with | some (.pointer _) => false | _ => true
  | .call { callee := .builtin .len, args := _, argTypes := ts } => match ts.toList with
    | [t] => match P.underlying t with | some (.slice _) => true | _ => false
    | _ => false
  | .call { callee := .builtin .min, args := _, argTypes := _ } => true
  | .call { callee := .builtin .max, args := _, argTypes := _ } => true
  | _ => false

def vdet (P : Program) (S : Nat → Prop) (ρ : Operand → Value) (op : Op) (w : World) (K : Value → Prop) : Prop :=
  match op with
  | .load t a => match aggOf P t, sizeN P t with
    | some g, some n => LoadS S g n (ρ a) w K
    | _, _ => False
  | op => vpure P ρ op K

theorem vdet_sound {P : Program} {S : Nat → Prop} {F : Fr} {o : Oper} {w : World} {K : Value → Prop} (h : vdet P S (evO F) o.op w K) :
    ∃ v, (∀ w', Chg S w w' → (execOp (evO F) o).run P w' = .ok (.value v) w') ∧ K v := by
  obtain ⟨dst, op, type, pos, after, guard⟩ := o
  simp only at h
  unfold vdet at h
  split at h
  · rename_i t a
    split at h
    · rename_i g n hg hn
      obtain ⟨hni, hl⟩ := h
      unfold LoadV at hl
      unfold NotIn at hni
      split at hl
      · rename_i ad hp
        rw [hp] at hni
        simp only at hni
        have keep : ∀ w', Chg S w w' → ∀ (j : Nat) (v : Value), w.cell? (ad.add j) = some v → w'.cell? (ad.add j) = some v := by
          intro w' hc j v hv
          have hb : (ad.add j).block = ad.block := by unfold Addr.add; split <;> rfl
          have hlt := World.block_lt_of_cell? w _ hv
          rw [World.cell?_of_block (w := w) (hc.block _ hlt (by rw [hb]; exact hni))]
          exact hv
        split at hl
        · obtain ⟨vs, hlen, hc, hK⟩ := hl
          refine ⟨_, fun w' hw' => ?_, hK⟩
          obtain ⟨v, hr, he⟩ := load_sound (P := P) (p := .pointer (some ad)) (w := w') (K := fun v => v = .agg vs.toArray) hg hn ⟨vs, hlen, fun j v hj => keep w' hw' j v (hc j v hj), rfl⟩
          subst he
          simp [execOp, hp, hr]
        · obtain ⟨v, hc, hK⟩ := hl
          refine ⟨v, fun w' hw' => ?_, hK⟩
          have hc0 : w.cell? (ad.add 0) = some v := by simpa [Addr.add] using hc
          have hc' := keep w' hw' 0 v hc0
          obtain ⟨u, hr, he⟩ := load_sound (P := P) (p := .pointer (some ad)) (w := w') (K := fun u => u = v) hg hn ⟨v, by simpa [Addr.add] using hc', rfl⟩
          subst he
          simp [execOp, hp, hr]
      · exact hl.elim
    · exact h.elim
  · obtain ⟨v, hr, hK⟩ := vpure_sound (ρ := evO F) (o := ⟨dst, op, type, pos, after, guard⟩) (fun v => rfl) h
    exact ⟨v, fun w' _ => hr w', hK⟩

def pickDet (P : Program) (ops : Array Oper) (listed : Array Bool) : List Nat → Option Nat
  | [] => none
  | i :: rs => match ops[i]? with
    | some o => match isDet P o.op && Region.free .any ops listed i with
      | true => some i
      | false => pickDet P ops listed rs
    | none => none

def allOf (B : Nat → Prop) : List Nat → Prop
  | [] => True
  | [i] => B i
  | i :: rs => B i ∧ allOf B rs

/-- One operation whose value does not hang on what the region's other operations do. -/
def vdet1 (P : Program) (S : Nat → Prop) (all : List Oper) (w0 : World) (o : Oper) (f : Fr) (K : Fr → Prop) : Prop :=
  match o.guard with
  | none => vdet P S (evO f) o.op w0 fun v => K (putO f o.dst (some v))
  | some (j, want) => match guardDst all j with
    | none => False
    | some g => match nthO f g with
      | none => K (putO f o.dst none)
      | some x => SplitV x
          (match want with
            | true => vdet P S (evO (updO f g (some (.bool true)))) o.op w0 fun v => K (putO (updO f g (some (.bool true))) o.dst (some v))
            | false => K (putO (updO f g (some (.bool true))) o.dst none))
          (match want with
            | true => K (putO (updO f g (some (.bool false))) o.dst none)
            | false => vdet P S (evO (updO f g (some (.bool false)))) o.op w0 fun v => K (putO (updO f g (some (.bool false))) o.dst (some v)))

/-- Any other operation. -/
def vop1 (P : Program) (all : List Oper) (o : Oper) (f : Fr) (w : World) (K : Fr → World → Prop) (N : Fr → Prop) : Prop :=
  match o.guard with
  | none => vop P (evO f) o.op w fun v w' => K (putO f o.dst (some v)) w'
  | some (j, want) => match guardDst all j with
    | none => False
    | some g => match nthO f g with
      | none => N (putO f o.dst none)
      | some x => SplitV x
          (match want with
            | true => vop P (evO (updO f g (some (.bool true)))) o.op w fun v w' => K (putO (updO f g (some (.bool true))) o.dst (some v)) w'
            | false => N (putO (updO f g (some (.bool true))) o.dst none))
          (match want with
            | true => N (putO (updO f g (some (.bool false))) o.dst none)
            | false => vop P (evO (updO f g (some (.bool false)))) o.op w fun v w' => K (putO (updO f g (some (.bool false))) o.dst (some v)) w')

/-- Operation j waits for every other one: when it may come up, it is the last. -/
def waitsAll (ops : Array Oper) (j : Nat) : Bool :=
  match ops[j]? with
  | some o => (List.range ops.size).all fun i => Nat.beq i j || o.after.any fun e => Region.binds .any e && e.on == i
  | none => false

/-- Operation j waits for i, by way of others too. -/
def waitsOn (ops : Array Oper) : Nat → Nat → Nat → Bool
  | 0, _, _ => false
  | n + 1, j, i => match ops[j]? with
    | some o => o.after.any fun e => Region.binds .any e && (Nat.beq e.on i || waitsOn ops n e.on i)
    | none => false
def waitsT (ops : Array Oper) (j : Nat) : Bool :=
  match ops[j]? with
  | some _ => (List.range ops.size).all fun i => Nat.beq i j || waitsOn ops 8 j i
  | none => false
def waF (late : Bool) (ops : Array Oper) : Nat → Bool := match late with | true => waitsT ops | false => waitsAll ops

def vdraw (P : Program) (S : Nat → Prop) (ops : Array Oper) (wa : Nat → Bool) : Nat → Array Bool → Fr → World → (Fr → World → Prop) → Prop
  | 0, listed, f, w, K => match Region.ready .any ops listed with
    | [] => K f w
    | _ => False
  | n + 1, listed, f, w, K => match Region.ready .any ops listed with
    | [] => K f w
    | rs => match pickDet P ops listed rs with
      | some i => match ops[i]? with
        | some o => vdet1 P S ops.toList w o f fun f' => vdraw P S ops wa n (listed.setIfInBounds i true) f' w K
        | none => False
      | none => allOf (fun i => match ops[i]? with
        | some o => vop1 P ops.toList o f w
            (fun f' w' => match wa i with
              | true => vdraw P S ops wa n (listed.setIfInBounds i true) f' w' K
              | false => Chg S w w' ∧ vdraw P S ops wa n (listed.setIfInBounds i true) f' w' K)
            (fun f' => vdraw P S ops wa n (listed.setIfInBounds i true) f' w K)
        | none => False) rs

/-- Whatever order is picked; C holds behind every operation but one that is the last anyhow. -/
def wpAnyG (P : Program) (ops : Array Oper) (wa : Nat → Bool) (Q : Exit → Act → World → Prop) (C : World → Prop) : Nat → Array Bool → Act → World → Prop
  | 0, listed, a, w => Region.ready .any ops listed = [] ∧ Q .normal a w
  | n + 1, listed, a, w => (Region.ready .any ops listed = [] → Q .normal a w) ∧
      ∀ i ∈ Region.ready .any ops listed, wpOp P ops Q i (fun a' w' => (wa i = false → C w') ∧ wpAnyG P ops wa Q C n (listed.setIfInBounds i true) a' w') a w

theorem wpAny_of_G {P : Program} {ops : Array Oper} {wa : Nat → Bool} {Q : Exit → Act → World → Prop} {C : World → Prop} : ∀ (n : Nat) (listed : Array Bool) (a : Act) (w : World),
    wpAnyG P ops wa Q C n listed a w → wpAny P .any ops Q n listed a w
  | 0, _, _, _, h => h
  | n + 1, _, _, _, h => ⟨h.1, fun i hi => wpOp_mono (fun a' w' k => wpAny_of_G n _ a' w' k.2) (h.2 i hi)⟩

theorem wpAnyG_mono {P : Program} {ops : Array Oper} {wa : Nat → Bool} {Q : Exit → Act → World → Prop} {C C' : World → Prop} (h : ∀ w, C w → C' w) : ∀ (n : Nat) (listed : Array Bool) (a : Act) (w : World),
    wpAnyG P ops wa Q C n listed a w → wpAnyG P ops wa Q C' n listed a w
  | 0, _, _, _, hh => hh
  | n + 1, _, _, _, hh => ⟨hh.1, fun i hi => wpOp_mono (fun a' w' k => ⟨fun hl => h _ (k.1 hl), wpAnyG_mono h n _ a' w' k.2⟩) (hh.2 i hi)⟩

theorem wpAnyG_done {P : Program} {ops : Array Oper} {wa : Nat → Bool} {Q : Exit → Act → World → Prop} {C : World → Prop} {listed : Array Bool} {a : Act} {w : World} (hr : Region.ready .any ops listed = []) (h : Q .normal a w) :
    ∀ n, wpAnyG P ops wa Q C n listed a w
  | 0 => ⟨hr, h⟩
  | _ + 1 => ⟨fun _ => h, fun i hi => by rw [hr] at hi; cases hi⟩

/-- What is listed has all that it waits for listed. -/
def Closed (ops : Array Oper) (listed : Array Bool) : Prop := ∀ k o, ops[k]? = some o → listed.getD k false = true → ∀ e ∈ o.after, Region.binds .any e = true → listed.getD e.on false = true
theorem closed_none (ops : Array Oper) (n : Nat) : Closed ops (Array.replicate n false) := by
  intro k o _ h
  rcases Nat.lt_or_ge k n with hk | hk
  · simp [hk] at h
  · simp [Array.getD] at h
theorem getD_set_true {listed : Array Bool} {i k : Nat} (h : listed.getD k false = true) : (listed.setIfInBounds i true).getD k false = true := by
  by_cases e : i = k
  · subst e
    rcases Nat.lt_or_ge i listed.size with hk | hk
    · simp [hk]
    · simp [Array.getElem?_eq_none hk] at h
  · rw [getD_set_ne false e]; exact h
theorem Closed.set {ops : Array Oper} {listed : Array Bool} {i : Nat} (h : Closed ops listed) (hi : i ∈ Region.ready .any ops listed) : Closed ops (listed.setIfInBounds i true) := by
  intro k o hk hl e he hb
  obtain ⟨_, oi, hoi, hall⟩ := mem_ready.1 hi
  by_cases e' : i = k
  · subst e'
    rw [hoi] at hk; cases hk
    exact getD_set_true (hall e he hb)
  · rw [getD_set_ne false e'] at hl
    exact getD_set_true (h k o hk hl e he hb)
theorem waitsOn_listed {ops : Array Oper} {listed : Array Bool} (hc : Closed ops listed) {i : Nat} : ∀ (n j : Nat), (∀ o, ops[j]? = some o → ∀ e ∈ o.after, Region.binds .any e = true → listed.getD e.on false = true) →
    waitsOn ops n j i = true → listed.getD i false = true
  | 0, _, _, h => by simp [waitsOn] at h
  | n + 1, j, hd, h => by
    unfold waitsOn at h
    split at h
    · rename_i o ho
      obtain ⟨e, he, hbe⟩ := Array.any_eq_true'.1 h
      simp only [Bool.and_eq_true, Bool.or_eq_true] at hbe
      have h1 := hd o ho e he hbe.1
      rcases hbe.2 with h2 | h2
      · rw [Nat.eq_of_beq_eq_true h2] at h1; exact h1
      · exact waitsOn_listed hc n e.on (fun o' ho' => hc _ _ ho' h1) h2
    · cases h
theorem getD_both {listed : Array Bool} {i : Nat} (h : listed.getD i true = false) (h' : listed.getD i false = true) : False := by
  rcases Nat.lt_or_ge i listed.size with hk | hk
  · simp [hk] at h h'; rw [h] at h'; cases h'
  · simp [Array.getElem?_eq_none hk] at h

/-- What waits for all is not ready while another one is. -/
theorem not_waitsAll {ops : Array Oper} {listed : Array Bool} {i j : Nat} (hj : j ∈ Region.ready .any ops listed) (hi : i ∈ Region.ready .any ops listed) (hne : j ≠ i) : waitsAll ops j = false := by
  cases hw : waitsAll ops j with
  | false => rfl
  | true =>
    exfalso
    obtain ⟨_, o, ho, hall⟩ := mem_ready.1 hj
    obtain ⟨hiu, oi, hoi, _⟩ := mem_ready.1 hi
    have hlt : i < ops.size := (Array.getElem?_eq_some_iff.1 hoi).1
    simp only [waitsAll, ho, List.all_eq_true, List.mem_range] at hw
    have h1 := hw i hlt
    have hb : Nat.beq i j = false := by
      cases hb : Nat.beq i j with
      | false => rfl
      | true => exact absurd (Nat.eq_of_beq_eq_true hb).symm hne
    rw [hb, Bool.false_or] at h1
    obtain ⟨e, he, hbe⟩ := Array.any_eq_true'.1 h1
    simp only [Bool.and_eq_true, beq_iff_eq] at hbe
    have h2 := hall e he hbe.1
    rw [hbe.2] at h2
    rcases Nat.lt_or_ge i listed.size with hl | hl
    · simp [hl] at hiu h2
      rw [hiu] at h2; cases h2
    · simp [Array.getElem?_eq_none hl] at h2

theorem not_waitsT {ops : Array Oper} {listed : Array Bool} (hc : Closed ops listed) {i j : Nat} (hj : j ∈ Region.ready .any ops listed) (hi : i ∈ Region.ready .any ops listed) (hne : j ≠ i) : waitsT ops j = false := by
  cases hw : waitsT ops j with
  | false => rfl
  | true =>
    exfalso
    obtain ⟨_, o, ho, hall⟩ := mem_ready.1 hj
    obtain ⟨hiu, oi, hoi, _⟩ := mem_ready.1 hi
    have hlt : i < ops.size := (Array.getElem?_eq_some_iff.1 hoi).1
    simp only [waitsT, ho, List.all_eq_true, List.mem_range] at hw
    have h1 := hw i hlt
    have hb : Nat.beq i j = false := by
      cases hb : Nat.beq i j with
      | false => rfl
      | true => exact absurd (Nat.eq_of_beq_eq_true hb).symm hne
    rw [hb, Bool.false_or] at h1
    have h2 := waitsOn_listed hc 8 j (fun o' ho' => by rw [ho] at ho'; cases ho'; exact hall) h1
    exact getD_both hiu h2
theorem not_wa {late : Bool} {ops : Array Oper} {listed : Array Bool} (hc : Closed ops listed) {i j : Nat} (hj : j ∈ Region.ready .any ops listed) (hi : i ∈ Region.ready .any ops listed) (hne : j ≠ i) : waF late ops j = false := by
  cases late with
  | true => exact not_waitsT hc hj hi hne
  | false => exact not_waitsAll hj hi hne

/-- An operation that is ready, that yields its value in every world of the class, and that no other one minds, may be taken first. -/
theorem wpAnyG_take {P : Program} {ops : Array Oper} {late : Bool} {Q : Exit → Act → World → Prop} {C : World → Prop} {i : Nat} {oi : Oper} {v : Value} (hi : ops[i]? = some oi) (hs : Region.noSelect ops = true)
    (hQ : ∀ c a w, ¬ Q (.panic c) a w) : ∀ (n : Nat) (listed : Array Bool) (a : Act) (w : World), Closed ops listed →
    (∀ j oj, ops[j]? = some oj → j ≠ i → listed.getD j true = false → (∀ e ∈ oj.after, Region.binds .any e = true → e.on ≠ i) → oi.apart ops oj = true) →
    i ∈ Region.ready .any ops listed → YieldsIf P ops C oi v a → C w → wpAnyG P ops (waF late ops) Q C n (listed.setIfInBounds i true) (a.put oi.dst v) w → wpAnyG P ops (waF late ops) Q C (n + 1) listed a w := by
  have hsel := Region.noSelect_spec hs
  intro n
  induction n with
  | zero =>
    intro listed a w _ _ hr hy hC H
    refine ⟨fun h0 => (by rw [h0] at hr; cases hr), fun j hj => ?_⟩
    by_cases hji : j = i
    · subst hji; exact hy.wpOp hi hC ⟨fun _ => hC, H⟩
    · have h1 := ready_mono hj hji
      rw [H.1] at h1; cases h1
  | succ n ih =>
    intro listed a w hcl hfree hr hy hC H
    refine ⟨fun h0 => (by rw [h0] at hr; cases hr), fun j hj => ?_⟩
    by_cases hji : j = i
    · subst hji; exact hy.wpOp hi hC ⟨fun _ => hC, H⟩
    · have hnw := not_wa (late := late) hcl hj hr hji
      have h1 := H.2 j (ready_mono hj hji)
      obtain ⟨hju, oj, hoj, hall⟩ := mem_ready.1 hj
      have hiu : listed.getD i true = false := (mem_ready.1 hr).1
      have hno : ∀ e ∈ oj.after, Region.binds .any e = true → e.on ≠ i := by
        intro e he hb heq
        have h2 := hall e he hb
        rw [heq] at h2
        rcases Nat.lt_or_ge i listed.size with hl | hl
        · simp [hl] at hiu h2
          rw [hiu] at h2; cases h2
        · simp [Array.getElem?_eq_none hl] at h2
      have h2 := wpOp_putIf hoj (hfree j oj hoj hji hju hno) (fun cs b => hsel i oi cs b hi) (fun cs b => hsel j oj cs b hoj) (fun c a w hq => (hQ _ _ _ hq).elim) hy h1
      refine wpOp_mono (fun a' w' h3 => ⟨h3.2.1, ?_⟩) h2
      refine ih (listed.setIfInBounds j true) a' w' (hcl.set hj) ?_ (ready_mono hr (Ne.symm hji)) h3.1 (h3.2.1 hnw) ?_
      · intro k ok hk hki hun hno'
        refine hfree k ok hk hki ?_ hno'
        by_cases hjk : j = k
        · subst hjk; exact hju
        · rw [getD_set_ne true hjk] at hun; exact hun
      · rw [Array.setIfInBounds_comm _ _ hji]
        exact h3.2.2

theorem pickDet_spec {P : Program} {ops : Array Oper} {listed : Array Bool} : ∀ {rs : List Nat} {i : Nat}, pickDet P ops listed rs = some i →
    i ∈ rs ∧ Region.free .any ops listed i = true
  | [], _, h => by cases h
  | j :: rs, i, h => by
    unfold pickDet at h
    split at h
    · split at h
      · rename_i hd
        cases h
        simp only [Bool.and_eq_true] at hd
        exact ⟨by simp, hd.2⟩
      · have := pickDet_spec h
        exact ⟨by simp [this.1], this.2⟩
    · cases h

theorem allOf_spec {B : Nat → Prop} : ∀ {rs : List Nat}, allOf B rs → ∀ i ∈ rs, B i
  | [], _, i, hi => by cases hi
  | [j], h, i, hi => by simp at hi; subst hi; exact h
  | j :: k :: rs, h, i, hi => by
    rcases List.mem_cons.1 hi with e | hi
    · subst e; exact h.1
    · exact allOf_spec h.2 i hi

theorem vdet1_sound {P : Program} {S : Nat → Prop} {ops : Array Oper} {w0 : World} {o : Oper} {F : Fr} {d : List Deferred} {K : Fr → Prop} {ds : List Nat} (hd0 : ∀ n, o.dst = some n → n ∈ ds) (h : vdet1 P S ops.toList w0 o F K) :
    ∃ v F', YieldsIf P ops (Chg S w0) o v (act F d) ∧ (act F d).put o.dst v = act F' d ∧ Agree ds F F' ∧ K F' := by
  unfold vdet1 at h
  split at h
  · rename_i hgd
    obtain ⟨v, hr, hK⟩ := vdet_sound h
    exact ⟨v, _, .inl ⟨by simp [Region.wanted, hgd], fun w hw => by rw [act_evO]; exact hr w hw⟩, act_putO F d o.dst (some v), Agree.putO hd0, hK⟩
  · rename_i j want hgd
    split at h
    · exact h.elim
    · rename_i g hg
      have hy := yielded_act (F := F) (d := d) hg
      simp only [Array.toArray_toList] at hy
      split at h
      · rename_i hx
        rw [hx] at hy
        exact ⟨undef, _, .inr ⟨by simp [Region.wanted, hgd, hy, getU, undef], rfl⟩, act_putO F d o.dst none, Agree.putO hd0, h⟩
      · rename_i x hx
        rw [hx] at hy
        unfold SplitV at h
        split at h
        · have hs := act_same F d (n := g) (v := .bool true) (by rw [hx]; rfl)
          have hA0 : Agree ds F (updO F g (some (.bool true))) := Agree.same (by rw [hx]; rfl) _
          split at h
          · obtain ⟨v, hr, hK⟩ := vdet_sound h
            refine ⟨v, _, .inl ⟨by simp [Region.wanted, hgd, hy, getU], fun w hw => ?_⟩, ?_, hA0.trans (Agree.putO hd0) (fun _ h => h) (fun _ h => h), hK⟩
            · rw [← hs, act_evO]; exact hr w hw
            · rw [← hs]; exact act_putO _ d o.dst (some v)
          · exact ⟨undef, _, .inr ⟨by simp [Region.wanted, hgd, hy, getU], rfl⟩, by rw [← hs]; exact act_putO _ d o.dst none, hA0.trans (Agree.putO hd0) (fun _ h => h) (fun _ h => h), h⟩
        · have hs := act_same F d (n := g) (v := .bool false) (by rw [hx]; rfl)
          have hA0 : Agree ds F (updO F g (some (.bool false))) := Agree.same (by rw [hx]; rfl) _
          split at h
          · exact ⟨undef, _, .inr ⟨by simp [Region.wanted, hgd, hy, getU], rfl⟩, by rw [← hs]; exact act_putO _ d o.dst none, hA0.trans (Agree.putO hd0) (fun _ h => h) (fun _ h => h), h⟩
          · obtain ⟨v, hr, hK⟩ := vdet_sound h
            refine ⟨v, _, .inl ⟨by simp [Region.wanted, hgd, hy, getU], fun w hw => ?_⟩, ?_, hA0.trans (Agree.putO hd0) (fun _ h => h) (fun _ h => h), hK⟩
            · rw [← hs, act_evO]; exact hr w hw
            · rw [← hs]; exact act_putO _ d o.dst (some v)
        · exact h.elim

theorem vop1_sound {P : Program} {ops : Array Oper} {o : Oper} {F : Fr} {d : List Deferred} {w : World} {K : Fr → World → Prop} {N : Fr → Prop} {Q : Exit → Act → World → Prop} {K' : Act → World → Prop} {i : Nat} {ds : List Nat} (hd0 : ∀ n, o.dst = some n → n ∈ ds)
    (hi : ops[i]? = some o) (h : vop1 P ops.toList o F w K N) (hK : ∀ F' w', Agree ds F F' → K F' w' → K' (act F' d) w') (hN : ∀ F', Agree ds F F' → N F' → K' (act F' d) w) : wpOp P ops Q i K' (act F d) w := by
  unfold wpOp
  simp only [hi]
  unfold vop1 at h
  split at h
  · rename_i hgd
    rw [if_pos (by simp [Region.wanted, hgd])]
    exact .inl (vop_soundO h fun v w' hk => hK _ _ (Agree.putO hd0) hk)
  · rename_i j want hgd
    split at h
    · exact h.elim
    · rename_i g hg
      have hy := yielded_act (F := F) (d := d) hg
      simp only [Array.toArray_toList] at hy
      split at h
      · rename_i hx
        rw [hx] at hy
        rw [if_neg (by simp [Region.wanted, hgd, hy, getU, undef])]
        have := act_putO F d o.dst none
        simp only [getU] at this
        rw [this]
        exact hN _ (Agree.putO hd0) h
      · rename_i x hx
        rw [hx] at hy
        unfold SplitV at h
        split at h
        · have hs := act_same F d (n := g) (v := .bool true) (by rw [hx]; rfl)
          have hA0 : Agree ds F (updO F g (some (.bool true))) := Agree.same (by rw [hx]; rfl) _
          split at h
          · rw [if_pos (by simp [Region.wanted, hgd, hy, getU]), ← hs]
            exact .inl (vop_soundO h fun v w' hk => hK _ _ (hA0.trans (Agree.putO hd0) (fun _ h => h) (fun _ h => h)) hk)
          · rw [if_neg (by simp [Region.wanted, hgd, hy, getU]), ← hs]
            have := act_putO (updO F g (some (.bool true))) d o.dst none
            simp only [getU] at this
            rw [this]
            exact hN _ (hA0.trans (Agree.putO hd0) (fun _ h => h) (fun _ h => h)) h
        · have hs := act_same F d (n := g) (v := .bool false) (by rw [hx]; rfl)
          have hA0 : Agree ds F (updO F g (some (.bool false))) := Agree.same (by rw [hx]; rfl) _
          split at h
          · rw [if_neg (by simp [Region.wanted, hgd, hy, getU]), ← hs]
            have := act_putO (updO F g (some (.bool false))) d o.dst none
            simp only [getU] at this
            rw [this]
            exact hN _ (hA0.trans (Agree.putO hd0) (fun _ h => h) (fun _ h => h)) h
          · rw [if_pos (by simp [Region.wanted, hgd, hy, getU]), ← hs]
            exact .inl (vop_soundO h fun v w' hk => hK _ _ (hA0.trans (Agree.putO hd0) (fun _ h => h) (fun _ h => h)) hk)
        · exact h.elim

/-- Behind an operation that waits for all, no other one comes up. -/
theorem ready_last {ops : Array Oper} {listed : Array Bool} {i : Nat} {o : Oper} (ho : ops[i]? = some o) (hw : waitsAll ops i = true) (hi : i ∈ Region.ready .any ops listed) (hsz : listed.size = ops.size) :
    Region.ready .any ops (listed.setIfInBounds i true) = [] := by
  cases hr : Region.ready .any ops (listed.setIfInBounds i true) with
  | nil => rfl
  | cons j rs =>
    exfalso
    have hj : j ∈ Region.ready .any ops (listed.setIfInBounds i true) := by rw [hr]; simp
    obtain ⟨hju, oj, hoj, _⟩ := mem_ready.1 hj
    obtain ⟨_, o', ho', hall⟩ := mem_ready.1 hi
    rw [ho] at ho'; cases ho'
    have hlt : j < ops.size := (Array.getElem?_eq_some_iff.1 hoj).1
    by_cases hji : j = i
    · subst hji
      simp [hsz, hlt] at hju
    · simp only [waitsAll, ho, List.all_eq_true, List.mem_range] at hw
      have h1 := hw j hlt
      have hb : Nat.beq j i = false := by
        cases hb : Nat.beq j i with
        | false => rfl
        | true => exact absurd (Nat.eq_of_beq_eq_true hb) hji
      rw [hb, Bool.false_or] at h1
      obtain ⟨e, he, hbe⟩ := Array.any_eq_true'.1 h1
      simp only [Bool.and_eq_true, beq_iff_eq] at hbe
      have h2 := hall e he hbe.1
      rw [hbe.2] at h2
      rw [getD_set_ne true (Ne.symm hji)] at hju
      have hl : j < listed.size := by omega
      simp [hl] at hju h2
      rw [hju] at h2; cases h2

theorem ready_lastT {ops : Array Oper} {listed : Array Bool} (hc : Closed ops listed) {i : Nat} {o : Oper} (ho : ops[i]? = some o) (hw : waitsT ops i = true) (hi : i ∈ Region.ready .any ops listed) (hsz : listed.size = ops.size) :
    Region.ready .any ops (listed.setIfInBounds i true) = [] := by
  cases hr : Region.ready .any ops (listed.setIfInBounds i true) with
  | nil => rfl
  | cons j rs =>
    exfalso
    have hj : j ∈ Region.ready .any ops (listed.setIfInBounds i true) := by rw [hr]; simp
    obtain ⟨hju, oj, hoj, _⟩ := mem_ready.1 hj
    obtain ⟨_, o', ho', hall⟩ := mem_ready.1 hi
    rw [ho] at ho'; cases ho'
    have hlt : j < ops.size := (Array.getElem?_eq_some_iff.1 hoj).1
    by_cases hji : j = i
    · subst hji
      simp [hsz, hlt] at hju
    · simp only [waitsT, ho, List.all_eq_true, List.mem_range] at hw
      have h1 := hw j hlt
      have hb : Nat.beq j i = false := by
        cases hb : Nat.beq j i with
        | false => rfl
        | true => exact absurd (Nat.eq_of_beq_eq_true hb) hji
      rw [hb, Bool.false_or] at h1
      have h2 := waitsOn_listed hc 8 i (fun o' ho' => by rw [ho] at ho'; cases ho'; exact hall) h1
      rw [getD_set_ne true (Ne.symm hji)] at hju
      exact getD_both hju h2
theorem ready_lastF {late : Bool} {ops : Array Oper} {listed : Array Bool} (hc : Closed ops listed) {i : Nat} {o : Oper} (ho : ops[i]? = some o) (hw : waF late ops i = true) (hi : i ∈ Region.ready .any ops listed) (hsz : listed.size = ops.size) :
    Region.ready .any ops (listed.setIfInBounds i true) = [] := by
  cases late with
  | true => exact ready_lastT hc ho hw hi hsz
  | false => exact ready_last ho hw hi hsz

theorem vdraw_sound {P : Program} {S : Nat → Prop} {ops : Array Oper} {late : Bool} {d : List Deferred} {Q : Exit → Act → World → Prop} {ds : List Nat} (hds : ∀ (i : Nat) (o : Oper), ops[i]? = some o → ∀ n, o.dst = some n → n ∈ ds) (hs : Region.noSelect ops = true)
    (hp : ∀ c a w, ¬ Q (.panic c) a w) : ∀ (n : Nat) (listed : Array Bool) (F : Fr) (w : World) (K : Fr → World → Prop), Closed ops listed → listed.size = ops.size →
    vdraw P S ops (waF late ops) n listed F w K → (∀ F' w', Agree ds F F' → K F' w' → Q .normal (act F' d) w') → wpAnyG P ops (waF late ops) Q (Chg S w) n listed (act F d) w
  | 0, listed, F, w, K, _, hz, h, hK => by
    unfold vdraw at h
    split at h
    · rename_i hr; exact ⟨hr, hK _ _ (Agree.refl _ _) h⟩
    · exact h.elim
  | n + 1, listed, F, w, K, hcl, hz, h, hK => by
    unfold vdraw at h
    split at h
    · rename_i hr; exact wpAnyG_done hr (hK _ _ (Agree.refl _ _) h) _
    · rename_i rs hne
      split at h
      · rename_i i hi
        obtain ⟨hmem, hfree⟩ := pickDet_spec hi
        split at h
        · rename_i o ho
          obtain ⟨v, F', hy, hput, hA, hk⟩ := vdet1_sound (d := d) (hds _ _ ho) h
          refine wpAnyG_take ho hs hp n listed _ w hcl (Region.free_spec ho hfree) hmem hy (Chg.refl _ _) ?_
          rw [hput]
          exact vdraw_sound hds hs hp n _ F' w K (hcl.set hmem) (by simpa using hz) hk fun F'' w'' hA' hh => hK _ _ (hA.trans hA' (fun _ h => h) (fun _ h => h)) hh
        · exact h.elim
      · refine ⟨fun h0 => absurd h0 hne, fun i hi => ?_⟩
        have hb := allOf_spec h i hi
        split at hb
        · rename_i o ho
          refine vop1_sound (hds _ _ ho) ho hb (fun F' w' hA hk => ?_)
            (fun F' hA hk => ⟨fun _ => Chg.refl _ _, vdraw_sound hds hs hp n _ F' w K (hcl.set hi) (by simpa using hz) hk fun F'' w'' hA' hh => hK _ _ (hA.trans hA' (fun _ h => h) (fun _ h => h)) hh⟩)
          split at hk
          · rename_i hwa
            refine ⟨fun hf => (by rw [hwa] at hf; cases hf), ?_⟩
            have hnil := ready_lastF hcl ho hwa hi hz
            unfold vdraw at hk
            split at hk <;> (rw [hnil] at hk; exact wpAnyG_done hnil (hK _ _ hA hk) _)
          · exact ⟨fun _ => hk.1, wpAnyG_mono (fun w'' hc => hk.1.andThen hc) n _ _ _ (vdraw_sound hds hs hp n _ F' w' K (hcl.set hi) (by simpa using hz) hk.2 fun F'' w'' hA' hh => hK _ _ (hA.trans hA' (fun _ h => h) (fun _ h => h)) hh)⟩
        · exact hb.elim

def DrawV (w : World) (B : (Nat → Prop) → World → Prop) : Prop := ∃ S : Nat → Prop, ∀ w0, Same w w0 → B S w0

/-! ### Code -/
abbrev Kt := Exit → Fr → World → Prop

structure Ann where
  loop : Nat → Option (List Nat)
  join : Nat → Option (List Nat)
  late : List Nat

def firstR : Code → Option Nat
  | .region id _ _ => some id
  | .seq a b => match firstR a with | some i => some i | none => firstR b
  | .cond _ a b => match firstR a with | some i => some i | none => firstR b
  | .block _ c => firstR c
  | .loop c => firstR c
  | _ => none

def dstsL : List Oper → List Nat
  | [] => []
  | o :: l => match o.dst with | some d => d :: dstsL l | none => dstsL l

/-- The slots that a piece of code writes. -/
def wr (an : Ann) : Code → List Nat
  | .region _ ops _ => dstsL ops.toList
  | .seq a b => (match firstR b with
    | some r => match an.join r with | some ms => ms | none => []
    | none => []) ++ wr an a ++ wr an b
  | .cond _ a b => wr an a ++ wr an b
  | .block _ c => wr an c
  | .loop c => (match firstR c with
    | some r => match an.loop r with | some ms => ms | none => []
    | none => []) ++ wr an c
  | _ => []

def nthV : List Value → Nat → Value
  | [], _ => undef
  | v :: _, 0 => v
  | _ :: f, n + 1 => nthV f n

def havoc (F : Fr) : List Nat → (Nat → Value) → Fr
  | [], _ => F
  | d :: ds, g => updO (havoc F ds g) d (some (g d))

def sets (F : Fr) : List Nat → List Value → Nat → Fr
  | [], _, _ => F
  | m :: ms, s, k => updO (sets F ms s (k + 1)) m (some (nthV s k))

def gets (F : Fr) : List Nat → List Value
  | [] => []
  | m :: ms => getU (nthO F m) :: gets F ms

def LoopV (init : List Value) (w : World) (B : List Value → (Nat → Value) → World → (List Value → World → Prop) → Prop) : Prop :=
  ∃ (I : List Value → World → Prop) (μ : List Value → World → Nat), I init w ∧
    ∀ s z w, I s w → B s z w (fun s' w' => I s' w' ∧ μ s' w' < μ s w)

def JoinV (A : (List Value → World → Prop) → Prop) (B : List Value → (Nat → Value) → World → Prop) : Prop :=
  ∃ M : List Value → World → Prop, A M ∧ ∀ s z w, M s w → B s z w

def thenQ (K : Fr → World → Prop) (Q : Kt) : Kt
  | .normal, F, w => K F w
  | .exit i, F, w => Q (.exit i) F w
  | .ret, F, w => Q .ret F w
  | _, _, _ => False

def blockQ (id : Nat) (Q : Kt) : Kt
  | .normal, F, w => Q .normal F w
  | .exit i, F, w => match Nat.beq i id with
    | true => Q .normal F w
    | false => Q (.exit i) F w
  | .ret, F, w => Q .ret F w
  | _, _, _ => False

def litC (F : Fr) (c : Operand) (b : Bool) : Fr :=
  match c with
  | .tmp t => updO F t (some (.bool b))
  | _ => F

def regQ (Q : Kt) (F : Fr) (w : World) : Prop := Q .normal F w

def dvc (P : Program) (an : Ann) : Code → Fr → World → Kt → Prop
  | .skip, F, w, Q => Q .normal F w
  | .region id ops draw, F, w, Q => match draw with
    | false => vops P ops.toList ops.toList F w fun F' w' => Q .normal F' w'
    | true => match P.follows .mixedOrders && Region.noSelect ops with
      | true => DrawV w fun S w0 => vdraw P S ops (waF (an.late.any (Nat.beq id)) ops) ops.size (Array.replicate ops.size false) F w0 fun F' w' => Q .normal F' w'
      | false => False
  | .seq a b, F, w, Q => match firstR b with
    | none => dvc P an a F w (thenQ (fun F' w' => dvc P an b F' w' Q) Q)
    | some r => match an.join r with
      | none => dvc P an a F w (thenQ (fun F' w' => dvc P an b F' w' Q) Q)
      | some ms => JoinV (fun M => dvc P an a F w (thenQ (fun F' w' => M (gets F' ms) w') Q))
          (fun s z w' => dvc P an b (sets (havoc F (wr an a) z) ms s 0) w' Q)
  | .cond c a b, F, w, Q => SplitV (evO F c) (dvc P an a (litC F c true) w Q) (dvc P an b (litC F c false) w Q)
  | .block id c, F, w, Q => dvc P an c F w (blockQ id Q)
  | .loop c, F, w, Q => match firstR c with
    | none => False
    | some r => match an.loop r with
      | none => False
      | some ms => LoopV (gets F ms) w fun s z w' K => dvc P an c (sets (havoc F (wr an c) z) ms s 0) w' (thenQ (fun F' w' => K (gets F' ms) w') Q)
  | .exit i, F, w, Q => Q (.exit i) F w
  | .ret, F, w, Q => Q .ret F w
  | _, _, _, _ => False

end Go.V
