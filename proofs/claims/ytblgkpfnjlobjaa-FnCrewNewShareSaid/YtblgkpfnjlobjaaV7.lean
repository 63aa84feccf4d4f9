/- Operations, lists of operations. -/
import Derived.Test.YtblgkpfnjlobjaaV4
namespace Go.V
open Go

theorem wp_value {P : Program} {o : Oper} {a : Act} {w w' : World} {next : Act → World → Prop} {Q : Exit → Act → World → Prop} {v : Value}
    (h : (execOp a.eval o).run P w = .ok (.value v) w') (hn : next (a.put o.dst v) w') : o.wp P a w next Q := by
  unfold Oper.wp; rw [h]; exact hn

theorem wp_skip' {P : Program} {o : Oper} {a : Act} {w w' : World} {next : Act → World → Prop} {Q : Exit → Act → World → Prop}
    (h : (execOp a.eval o).run P w = .ok .skip w') (hn : next (a.put o.dst undef) w') : o.wp P a w next Q := by
  unfold Oper.wp; rw [h]; exact hn

theorem wp_call {P : Program} {o : Oper} {a : Act} {w : World} {next : Act → World → Prop} {Q : Exit → Act → World → Prop} {g : FuncId} {args : Array Value} {K : Value → World → Prop}
    (h : (execOp a.eval o).run P w = .ok (.enter g args) w) (hc : Calls P g args w (Ret K)) (hn : ∀ v w', K v w' → next (a.put o.dst v) w') : o.wp P a w next Q := by
  unfold Oper.wp; rw [h]
  exact hc.mono fun e w' ⟨v, he, hv⟩ => by subst he; exact hn _ _ hv

theorem callFunc_run {P : Program} {g : FuncId} (h : okFn P g = true) (args : Array Value) (w : World) : (callFunc g args).run P w = .ok (.enter g args) w := by
  unfold okFn at h
  split at h
  · rename_i fn hf
    simp at h
    simp [callFunc, hf, h.1]
    intro hb; rw [hb] at h; simp at h
  · cases h

theorem vop_sound {P : Program} {f : List Value} {d : List Deferred} {o : Oper} {w : World} {K : Value → World → Prop} {next : Act → World → Prop} {Q : Exit → Act → World → Prop}
    (h : vop P (ev f) o.op w K) (hn : ∀ v w', K v w' → next ((⟨f.toArray, d⟩ : Act).put o.dst v) w') : o.wp P ⟨f.toArray, d⟩ w next Q := by
  have pure_case : ∀ {op : Op}, o.op = op → vpure P (ev f) op (fun v => K v w) → o.wp P ⟨f.toArray, d⟩ w next Q := by
    intro op ho hp
    subst ho
    obtain ⟨v, hr, hK⟩ := vpure_sound (fun v => rfl) hp
    exact wp_value (by rw [act_eval]; exact hr w) (hn _ _ hK)
  obtain ⟨dst, op, type, pos, after, guard⟩ := o
  simp only at h pure_case
  unfold vop at h
  split at h
  · split at h
    · rename_i g n hg hs
      obtain ⟨v, hr, hK⟩ := load_sound hg hs h
      exact wp_value (by rw [act_eval]; simp [execOp, hr]) (hn _ _ hK)
    · exact h.elim
  · split at h
    · rename_i n hs
      obtain ⟨w', hr, hK⟩ := store_sound hs h
      exact wp_skip' (by rw [act_eval]; simp [execOp, hr]) (hn _ _ hK)
    · exact h.elim
  · split at h
    · rename_i z hz
      obtain ⟨v, w', hr, hK⟩ := alloc_sound hz h
      exact wp_value (by rw [act_eval]; simp [execOp, hr]) (hn _ _ hK)
    · exact h.elim
  · obtain ⟨v, w', hr, hK⟩ := box_sound (P := P) h
    exact wp_value (by rw [act_eval]; simp [execOp, hr]) (hn _ _ hK)
  · rename_i t len parts
    split at h
    · rename_i e ht
      split at h
      · rename_i n z hs hz
        split at h
        · rename_i hd
          obtain ⟨v, w', hr, hK⟩ := bslice_sound (parts := parts.map fun (i, x) => (i, ev f x)) ht hs hz (of_decide_eq_true hd) (by simpa using h)
          exact wp_value (by rw [act_eval]; simp only [execOp]; simp [hr]) (hn _ _ hK)
        · exact h.elim
      · exact h.elim
    · exact h.elim
  · split at h
    · rename_i e ht
      split at h
      · rename_i n z b hs hz hb
        obtain ⟨v, w', hr, hK⟩ := makeSlice_sound ht hs hz hb h
        exact wp_value (by rw [act_eval]; simp [execOp, hr]) (hn _ _ hK)
      · exact h.elim
    · exact h.elim
  · exact wp_value (v := .map (some w.heap.size)) (by rw [act_eval]; simp [execOp, Instr.makeMap]) (hn _ _ (h _ (new_alloc w _)))
  · obtain ⟨v, w', hr, hK⟩ := h
    exact wp_value (by rw [act_eval]; simp [execOp, hr]) (hn _ _ hK)
  · obtain ⟨w', hr, hK⟩ := h
    exact wp_skip' (by rw [act_eval]; simp [execOp, hr]) (hn _ _ hK)
  · rename_i bop t x y yt
    split at h
    · rename_i e ht
      split at h
      · rename_i n hs
        obtain ⟨v, hr, hK⟩ := peqv_sound (neg := false) ht hs h
        have := run_mapN (hr x y)
        exact wp_value (by rw [act_eval]; simp only [execOp]; simpa using this) (hn _ _ hK)
      · rename_i n hs
        obtain ⟨v, hr, hK⟩ := peqv_sound (neg := true) ht hs h
        have := run_mapN (hr x y)
        exact wp_value (by rw [act_eval]; simp only [execOp]; simpa using this) (hn _ _ hK)
      · exact h.elim
    · exact pure_case rfl h
  · rename_i g args ts
    split at h
    · rename_i hok
      refine wp_call (g := g) (args := args.map (ev f)) ?_ (by
        have e : (args.toList.map (ev f)).toArray = args.map (ev f) := by apply Array.toList_inj.1; simp
        rw [← e]; exact h) hn
      rw [act_eval]
      simp [execOp, resolve, Deferred.ofValue, ev, invoke, callFunc_run hok]
    · exact h.elim
  · rename_i fo args ts hne
    unfold CallFV at h
    split at h
    · rename_i g first cap hf
      obtain ⟨hok, hc⟩ := h
      refine wp_call (g := g) (args := first ++ args.map (ev f) ++ cap) ?_ (by
        have e : (first.toList ++ args.toList.map (ev f) ++ cap.toList).toArray = first ++ args.map (ev f) ++ cap := by
          apply Array.toList_inj.1; simp
        rw [← e]; exact hc) hn
      rw [act_eval]
      simp [execOp, resolve, hf, Deferred.ofValue, invoke, callFunc_run hok]
    · exact h.elim
  · rename_i r name args ts
    obtain ⟨t, v, g, x, hr, hm, hok, hc⟩ := h
    refine wp_call (g := g) (args := #[x] ++ args.map (ev f)) ?_ (by
        have e : (x :: args.toList.map (ev f)).toArray = #[x] ++ args.map (ev f) := by
          apply Array.toList_inj.1; simp
        rw [← e]; exact hc) hn
    rw [act_eval]
    have e0 : (#[Value.iface t v] ++ args.map (ev f))[0]? = some (Value.iface t v) := by simp [Array.getElem?_append]
    have e1 : (args.map (ev f)).extract 0 args.size = args.map (ev f) := by
      apply Array.toList_inj.1; simp [List.take_of_length_le]
    simp [execOp, resolve, hr, invoke, e0, e1, callMethod, hm, callFunc_run hok]
  · rename_i args ts
    split at h
    · rename_i s x t u ha hts
      split at h
      · rename_i htu
        have htu' : t = u := Nat.eq_of_beq_eq_true htu
        subst htu'
        obtain ⟨v, w', hr, hK⟩ := h
        have ha' : args = #[s, x] := by rw [← Array.toArray_toList (xs := args), ha]
        have ht' : ts = #[t, t] := by rw [← Array.toArray_toList (xs := ts), hts]
        subst ha' ht'
        exact wp_value (by rw [act_eval]; simp [execOp, resolve, invoke, builtin, hr]) (hn _ _ hK)
      · exact h.elim
    · exact h.elim
  · rename_i args ts
    split at h
    · rename_i s x ha
      obtain ⟨v, w', hr, hK⟩ := h
      have ha' : args = #[s, x] := by rw [← Array.toArray_toList (xs := args), ha]
      subst ha'
      exact wp_value (by rw [act_eval]; simp [execOp, resolve, invoke, builtin, hr]) (hn _ _ hK)
    · exact h.elim
  · rename_i args ts
    split at h
    · rename_i x t ha hts
      split at h
      · rename_i k e ht
        unfold LenMV at h
        split at h
        · rename_i r hx
          obtain ⟨es, c, hes, hK⟩ := h
          have ha' : args = #[x] := by rw [← Array.toArray_toList (xs := args), ha]
          have ht' : ts = #[t] := by rw [← Array.toArray_toList (xs := ts), hts]
          subst ha' ht'
          refine wp_value (v := .int .i64 es.size) (w' := w) ?_ (hn _ _ hK)
          have hg : (getObj r).run P w = .ok (.map es c) w := by simp [getObj, Sem.run, hes]
          rw [act_eval]
          simp [execOp, resolve, invoke, builtin, Builtin.len_, run_und ht, hx, hg, goInt]
        · exact h.elim
      · exact pure_case rfl h
    · exact h.elim
  · exact pure_case rfl h

/-! ### Lists of operations, in the order of the text -/
abbrev Fr := List (Option Value)

def getU : Option Value → Value
  | some v => v
  | none => undef

def den (F : Fr) : List Value := F.map getU

def nthO : Fr → Nat → Option Value
  | [], _ => none
  | v :: _, 0 => v
  | _ :: f, n + 1 => nthO f n

def updO : Fr → Nat → Option Value → Fr
  | [], _, _ => []
  | _ :: f, 0, v => v :: f
  | x :: f, n + 1, v => x :: updO f n v

def putO (f : Fr) : Option Nat → Option Value → Fr
  | some d, v => updO f d v
  | none, _ => f

def evO (f : Fr) : Operand → Value
  | .tmp t => getU (nthO f t)
  | .const v => v
  | .global g => .pointer (some ⟨g, 0, none⟩)
  | .func g => .func (.func g) #[] #[]

theorem nth_den (F : Fr) (n : Nat) : nth (den F) n = getU (nthO F n) := by
  induction F generalizing n with
  | nil => rfl
  | cons x f ih => cases n with
    | zero => rfl
    | succ n => exact ih n

theorem upd_den (F : Fr) (n : Nat) (o : Option Value) : den (updO F n o) = upd (den F) n (getU o) := by
  induction F generalizing n with
  | nil => rfl
  | cons x f ih => cases n with
    | zero => rfl
    | succ n => simp only [updO, den, List.map_cons, upd] at ih ⊢; rw [← ih n]

theorem put_den (F : Fr) (d : Option Nat) (o : Option Value) : den (putO F d o) = putD (den F) d (getU o) := by
  cases d with
  | none => rfl
  | some n => exact upd_den F n o

theorem ev_den (F : Fr) : ev (den F) = evO F := by
  funext x
  cases x with
  | tmp t => exact nth_den F t
  | _ => rfl

theorem den_length (F : Fr) : (den F).length = F.length := by simp [den]

/-- The state that a frame stands for. -/
def act (F : Fr) (d : List Deferred) : Act := ⟨(den F).toArray, d⟩

theorem act_putO (F : Fr) (d : List Deferred) (o : Option Nat) (v : Option Value) : (act F d).put o (getU v) = act (putO F o v) d := by
  unfold act; rw [act_put, put_den]

theorem act_evO (F : Fr) (d : List Deferred) : (act F d).eval = evO F := by
  unfold act; rw [act_eval, ev_den]

/-- A slot is set to what it holds. -/
theorem act_same (F : Fr) (d : List Deferred) {n : Nat} {v : Value} (h : getU (nthO F n) = v) : act (updO F n (some v)) d = act F d := by
  unfold act; rw [upd_den]
  have : upd (den F) n (getU (some v)) = den F := by
    conv => rhs; rw [← upd_nth (den F) n]
    rw [nth_den, h]; rfl
  rw [this]

def guardDst (all : List Oper) (j : Nat) : Option Nat := match all[j]? with | some o => o.dst | none => none

def vops (P : Program) (all : List Oper) : List Oper → Fr → World → (Fr → World → Prop) → Prop
  | [], f, w, K => K f w
  | o :: rest, f, w, K =>
    match o.guard with
    | none => vop P (evO f) o.op w fun v w' => vops P all rest (putO f o.dst (some v)) w' K
    | some (j, want) => match guardDst all j with
      | none => False
      | some g => match nthO f g with
        | none => vops P all rest (putO f o.dst none) w K
        | some x => SplitV x
            (match want with
              | true => vop P (evO (updO f g (some (.bool true)))) o.op w fun v w' => vops P all rest (putO (updO f g (some (.bool true))) o.dst (some v)) w' K
              | false => vops P all rest (putO (updO f g (some (.bool true))) o.dst none) w K)
            (match want with
              | true => vops P all rest (putO (updO f g (some (.bool false))) o.dst none) w K
              | false => vop P (evO (updO f g (some (.bool false)))) o.op w fun v w' => vops P all rest (putO (updO f g (some (.bool false))) o.dst (some v)) w' K)

theorem yielded_act {all : List Oper} {F : Fr} {d : List Deferred} {j g : Nat} (hg : guardDst all j = some g) :
    yielded all.toArray (act F d).tmps j = match getU (nthO F g) with | .bool b => some b | _ => none := by
  have hd : ((all.toArray[j]?).bind (·.dst)) = some g := by
    unfold guardDst at hg
    simp only [List.getElem?_toArray]
    cases h : all[j]? with
    | none => simp [h] at hg
    | some o => simpa [h] using hg
  unfold yielded
  rw [hd]
  have e : (act F d).tmps.getD g undef = getU (nthO F g) := by
    unfold act; rw [nth_eq, nth_den]
  cases hx : (act F d).tmps[g]? with
  | none =>
    have : getU (nthO F g) = undef := by rw [← e]; simp [hx]
    simp [hx, this, undef]
  | some v =>
    have : getU (nthO F g) = v := by rw [← e]; simp [hx]
    simp [hx, this]
    cases v <;> rfl

theorem vop_soundO {P : Program} {F : Fr} {d : List Deferred} {o : Oper} {w : World} {K : Value → World → Prop} {next : Act → World → Prop} {Q : Exit → Act → World → Prop}
    (h : vop P (evO F) o.op w K) (hn : ∀ v w', K v w' → next (act (putO F o.dst (some v)) d) w') : o.wp P (act F d) w next Q := by
  rw [← ev_den] at h
  exact vop_sound h fun v w' hk => by
    have := hn v w' hk
    rw [← act_putO] at this
    exact this

/-! ### Frames that agree -/
/-- Outside ds the frames stand for the same. -/
def Agree (ds : List Nat) (F F' : Fr) : Prop := F'.length = F.length ∧ ∀ t, t ∉ ds → getU (nthO F' t) = getU (nthO F t)

theorem Agree.refl (ds : List Nat) (F : Fr) : Agree ds F F := ⟨rfl, fun _ _ => rfl⟩
theorem Agree.trans {ds es fs : List Nat} {F G H : Fr} (h : Agree ds F G) (k : Agree es G H) (h1 : ∀ t ∈ ds, t ∈ fs) (h2 : ∀ t ∈ es, t ∈ fs) : Agree fs F H :=
  ⟨k.1.trans h.1, fun t ht => (k.2 t fun m => ht (h2 t m)).trans (h.2 t fun m => ht (h1 t m))⟩

theorem updO_length (F : Fr) (n : Nat) (v : Option Value) : (updO F n v).length = F.length := by
  induction F generalizing n with
  | nil => rfl
  | cons x f ih => cases n with
    | zero => rfl
    | succ n => simp [updO, ih]

theorem nthO_upd_ne (F : Fr) {n m : Nat} (v : Option Value) (h : n ≠ m) : nthO (updO F n v) m = nthO F m := by
  induction F generalizing n m with
  | nil => rfl
  | cons x f ih => cases n with
    | zero => cases m with
      | zero => exact absurd rfl h
      | succ m => rfl
    | succ n => cases m with
      | zero => rfl
      | succ m => simp only [updO, nthO]; exact ih (by omega)

theorem nthO_upd_same (F : Fr) {n : Nat} (v : Option Value) (h : n < F.length) : nthO (updO F n v) n = v := by
  induction F generalizing n with
  | nil => simp at h
  | cons x f ih => cases n with
    | zero => rfl
    | succ n => simp only [updO, nthO]; exact ih (by simpa using h)

theorem nthO_ge (F : Fr) {n : Nat} (h : F.length ≤ n) : nthO F n = none := by
  induction F generalizing n with
  | nil => rfl
  | cons x f ih => cases n with
    | zero => simp at h
    | succ n => simp only [nthO]; exact ih (by simpa using h)

theorem Agree.put {F : Fr} {d : Nat} {v : Option Value} {ds : List Nat} (h : d ∈ ds) : Agree ds F (updO F d v) :=
  ⟨updO_length _ _ _, fun t ht => by rw [nthO_upd_ne]; intro e; subst e; exact ht h⟩

theorem Agree.putO {F : Fr} {d : Option Nat} {v : Option Value} {ds : List Nat} (h : ∀ n, d = some n → n ∈ ds) : Agree ds F (putO F d v) := by
  cases d with
  | none => exact Agree.refl _ _
  | some n => exact Agree.put (h n rfl)

theorem Agree.same {F : Fr} {n : Nat} {v : Value} (h : getU (nthO F n) = v) (ds : List Nat) : Agree ds F (updO F n (some v)) := by
  refine ⟨updO_length _ _ _, fun t _ => ?_⟩
  by_cases e : n = t
  · subst e
    by_cases hl : n < F.length
    · rw [nthO_upd_same F _ hl, h]; rfl
    · rw [nthO_ge _ (by rw [updO_length]; omega), nthO_ge F (by omega)]
  · rw [nthO_upd_ne F _ e]

theorem vops_sound {P : Program} {all : List Oper} {d : List Deferred} {Q : Exit → Act → World → Prop} {ds : List Nat} : ∀ (l : List Oper) (F : Fr) (w : World) (K : Fr → World → Prop),
    (∀ o ∈ l, ∀ n, o.dst = some n → n ∈ ds) → vops P all l F w K → (∀ F' w', Agree ds F F' → K F' w' → Q .normal (act F' d) w') → wpList P all.toArray Q l (act F d) w
  | [], F, w, K, _, h, hQ => hQ _ _ (Agree.refl _ _) h
  | o :: rest, F, w, K, hds, h, hQ => by
    have hds' : ∀ o ∈ rest, ∀ n, o.dst = some n → n ∈ ds := fun o' ho' => hds o' (by simp [ho'])
    have hd0 : ∀ n, o.dst = some n → n ∈ ds := hds o (by simp)
    unfold vops at h
    split at h
    · rename_i hgd
      refine wpList_plain hgd fun next hnext => ?_
      exact vop_soundO h fun v w' hk => hnext _ _ (vops_sound rest _ _ K hds' hk fun F' w' hA hK => hQ F' w' ((Agree.putO hd0).trans hA (fun _ h => h) (fun _ h => h)) hK)
    · rename_i j want hgd
      split at h
      · exact h.elim
      · rename_i g hg
        have hy := yielded_act (F := F) (d := d) hg
        split at h
        · rename_i hx
          rw [hx] at hy
          refine wpList_skip (by simp [Region.wanted, hgd, hy, getU, undef]) ?_
          have := act_putO F d o.dst none
          simp only [getU] at this
          rw [this]
          exact vops_sound rest _ _ K hds' h fun F' w' hA hK => hQ F' w' ((Agree.putO hd0).trans hA (fun _ h => h) (fun _ h => h)) hK
        · rename_i x hx
          rw [hx] at hy
          unfold SplitV at h
          split at h
          · have hs := act_same F d (n := g) (v := .bool true) (by rw [hx]; rfl)
            have hA0 : Agree ds F (updO F g (some (.bool true))) := Agree.same (by rw [hx]; rfl) _
            split at h
            · unfold wpList
              rw [if_pos (by simp [Region.wanted, hgd, hy, getU])]
              rw [← hs]
              exact .inl (vop_soundO h fun v w' hk => vops_sound rest _ _ K hds' hk fun F' w' hA hK => hQ F' w' ((hA0.trans (Agree.putO hd0) (fun _ h => h) (fun _ h => h)).trans hA (fun _ h => h) (fun _ h => h)) hK)
            · refine wpList_skip (by simp [Region.wanted, hgd, hy, getU]) ?_
              rw [← hs]
              have := act_putO (updO F g (some (.bool true))) d o.dst none
              simp only [getU] at this
              rw [this]
              exact vops_sound rest _ _ K hds' h fun F' w' hA hK => hQ F' w' ((hA0.trans (Agree.putO hd0) (fun _ h => h) (fun _ h => h)).trans hA (fun _ h => h) (fun _ h => h)) hK
          · have hs := act_same F d (n := g) (v := .bool false) (by rw [hx]; rfl)
            have hA0 : Agree ds F (updO F g (some (.bool false))) := Agree.same (by rw [hx]; rfl) _
            split at h
            · refine wpList_skip (by simp [Region.wanted, hgd, hy, getU]) ?_
              rw [← hs]
              have := act_putO (updO F g (some (.bool false))) d o.dst none
              simp only [getU] at this
              rw [this]
              exact vops_sound rest _ _ K hds' h fun F' w' hA hK => hQ F' w' ((hA0.trans (Agree.putO hd0) (fun _ h => h) (fun _ h => h)).trans hA (fun _ h => h) (fun _ h => h)) hK
            · unfold wpList
              rw [if_pos (by simp [Region.wanted, hgd, hy, getU])]
              rw [← hs]
              exact .inl (vop_soundO h fun v w' hk => vops_sound rest _ _ K hds' hk fun F' w' hA hK => hQ F' w' ((hA0.trans (Agree.putO hd0) (fun _ h => h) (fun _ h => h)).trans hA (fun _ h => h) (fun _ h => h)) hK)
          · exact h.elim
end Go.V

/- Regions that draw their order; code; functions. -/
namespace Go.V
open Go

def NotIn (S : Nat → Prop) (p : Value) : Prop := match p with | .pointer (some a) => ¬ S a.block | _ => False

def LoadS (S : Nat → Prop) (agg : Bool) (n : Nat) (p : Value) (w : World) (K : Value → Prop) : Prop := NotIn S p ∧ LoadV agg n p w K

def isDet (P : Program) (op : Op) : Bool :=
  match op with
  | .load _ _ | .move _ | .assign _ | .pick _ _ _ | .unOp _ _ _ | .convert _ _ _ | .nilCheck _ | .fieldAddr _ _ _ | .indexAddr _ _ _ | .slice _ _ _ _ _
  | .build _ _ | .extract _ _ | .makeInterface _ _ | .makeFunc _ _ _ | .typeAssert _ _ _ _ => true
  | .binOp _ t _ _ _ => match P.underlying t with | some (.pointer _) => false | _ => true
  | .call { callee := .builtin .len, args := _, argTypes := ts } => match ts.toList with
    | [t] => match P.underlying t with | some (.slice _) => true | _ => false
    | _ => false
  | .call { callee := .builtin .min, args := _, argTypes := _ } => true
  | .call { callee := .builtin .max, args := _, argTypes := _ } => true
  | _ => false

def vdet (P : Program) (S : Nat → Prop) (ρ : Operand → Value) (op : Op) (w : World) (K : Value → Prop) : Prop :=
  match op with
  | .load t a => match aggOf P t, sizeN P t with
    | some g, some n => LoadS S g n (ρ a) w K
    | _, _ => False
  | op => vpure P ρ op K

theorem vdet_sound {P : Program} {S : Nat → Prop} {F : Fr} {o : Oper} {w : World} {K : Value → Prop} (h : vdet P S (evO F) o.op w K) :
    ∃ v, (∀ w', Chg S w w' → (execOp (evO F) o).run P w' = .ok (.value v) w') ∧ K v := by
  obtain ⟨dst, op, type, pos, after, guard⟩ := o
  simp only at h
  unfold vdet at h
  split at h
  · rename_i t a
    split at h
    · rename_i g n hg hn
      obtain ⟨hni, hl⟩ := h
      unfold LoadV at hl
      unfold NotIn at hni
      split at hl
      · rename_i ad hp
        rw [hp] at hni
        simp only at hni
        have keep : ∀ w', Chg S w w' → ∀ (j : Nat) (v : Value), w.cell? (ad.add j) = some v → w'.cell? (ad.add j) = some v := by
          intro w' hc j v hv
          have hb : (ad.add j).block = ad.block := by unfold Addr.add; split <;> rfl
          have hlt := World.block_lt_of_cell? w _ hv
          rw [World.cell?_of_block (w := w) (hc.block _ hlt (by rw [hb]; exact hni))]
          exact hv
        split at hl
        · obtain ⟨vs, hlen, hc, hK⟩ := hl
          refine ⟨_, fun w' hw' => ?_, hK⟩
          obtain ⟨v, hr, he⟩ := load_sound (P := P) (p := .pointer (some ad)) (w := w') (K := fun v => v = .agg vs.toArray) hg hn ⟨vs, hlen, fun j v hj => keep w' hw' j v (hc j v hj), rfl⟩
          subst he
          simp [execOp, hp, hr]
        · obtain ⟨v, hc, hK⟩ := hl
          refine ⟨v, fun w' hw' => ?_, hK⟩
          have hc0 : w.cell? (ad.add 0) = some v := by simpa [Addr.add] using hc
          have hc' := keep w' hw' 0 v hc0
          obtain ⟨u, hr, he⟩ := load_sound (P := P) (p := .pointer (some ad)) (w := w') (K := fun u => u = v) hg hn ⟨v, by simpa [Addr.add] using hc', rfl⟩
          subst he
          simp [execOp, hp, hr]
      · exact hl.elim
    · exact h.elim
  · obtain ⟨v, hr, hK⟩ := vpure_sound (ρ := evO F) (o := ⟨dst, op, type, pos, after, guard⟩) (fun v => rfl) h
    exact ⟨v, fun w' _ => hr w', hK⟩

def pickDet (P : Program) (ops : Array Oper) (listed : Array Bool) : List Nat → Option Nat
  | [] => none
  | i :: rs => match ops[i]? with
    | some o => match isDet P o.op && Region.free .any ops listed i with
      | true => some i
      | false => pickDet P ops listed rs
    | none => none

def allOf (B : Nat → Prop) : List Nat → Prop
  | [] => True
  | [i] => B i
  | i :: rs => B i ∧ allOf B rs

/-- One operation whose value does not hang on what the region's other operations do. -/
def vdet1 (P : Program) (S : Nat → Prop) (all : List Oper) (w0 : World) (o : Oper) (f : Fr) (K : Fr → Prop) : Prop :=
  match o.guard with
  | none => vdet P S (evO f) o.op w0 fun v => K (putO f o.dst (some v))
  | some (j, want) => match guardDst all j with
    | none => False
    | some g => match nthO f g with
      | none => K (putO f o.dst none)
      | some x => SplitV x
          (match want with
            | true => vdet P S (evO (updO f g (some (.bool true)))) o.op w0 fun v => K (putO (updO f g (some (.bool true))) o.dst (some v))
            | false => K (putO (updO f g (some (.bool true))) o.dst none))
          (match want with
            | true => K (putO (updO f g (some (.bool false))) o.dst none)
            | false => vdet P S (evO (updO f g (some (.bool false)))) o.op w0 fun v => K (putO (updO f g (some (.bool false))) o.dst (some v)))

/-- Any other operation. -/
def vop1 (P : Program) (all : List Oper) (o : Oper) (f : Fr) (w : World) (K : Fr → World → Prop) (N : Fr → Prop) : Prop :=
  match o.guard with
  | none => vop P (evO f) o.op w fun v w' => K (putO f o.dst (some v)) w'
  | some (j, want) => match guardDst all j with
    | none => False
    | some g => match nthO f g with
      | none => N (putO f o.dst none)
      | some x => SplitV x
          (match want with
            | true => vop P (evO (updO f g (some (.bool true)))) o.op w fun v w' => K (putO (updO f g (some (.bool true))) o.dst (some v)) w'
            | false => N (putO (updO f g (some (.bool true))) o.dst none))
          (match want with
            | true => N (putO (updO f g (some (.bool false))) o.dst none)
            | false => vop P (evO (updO f g (some (.bool false)))) o.op w fun v w' => K (putO (updO f g (some (.bool false))) o.dst (some v)) w')

/-- Operation j waits for every other one: when it may come up, it is the last. -/
def waitsAll (ops : Array Oper) (j : Nat) : Bool :=
  match ops[j]? with
  | some o => (List.range ops.size).all fun i => Nat.beq i j || o.after.any fun e => Region.binds .any e && e.on == i
  | none => false

/-- Operation j waits for i, by way of others too. -/
def waitsOn (ops : Array Oper) : Nat → Nat → Nat → Bool
  | 0, _, _ => false
  | n + 1, j, i => match ops[j]? with
    | some o => o.after.any fun e => Region.binds .any e && (Nat.beq e.on i || waitsOn ops n e.on i)
    | none => false
def waitsT (ops : Array Oper) (j : Nat) : Bool :=
  match ops[j]? with
  | some _ => (List.range ops.size).all fun i => Nat.beq i j || waitsOn ops 8 j i
  | none => false
def waF (late : Bool) (ops : Array Oper) : Nat → Bool := match late with | true => waitsT ops | false => waitsAll ops

/-- All operations that may change the world wait for operation i: it comes up before all of them. -/
def earlyB (P : Program) (ea : Bool) (ops : Array Oper) (i : Nat) : Bool :=
  match ea with
  | true => (List.range ops.size).all fun j => Nat.beq j i || (match ops[j]? with | some o => isDet P o.op || waitsOn ops 8 j i | none => true)
  | false => false
def puF (P : Program) (ea : Bool) (ops : Array Oper) (j : Nat) : Bool :=
  match ea with
  | true => match ops[j]? with | some o => isDet P o.op | none => false
  | false => false
def earlyS (e : Bool) (S : Nat → Prop) : Nat → Prop := match e with | true => fun _ => False | false => S

def vdraw (P : Program) (S : Nat → Prop) (ops : Array Oper) (wa ea pu : Nat → Bool) : Nat → Array Bool → Fr → World → (Fr → World → Prop) → Prop
  | 0, listed, f, w, K => match Region.ready .any ops listed with
    | [] => K f w
    | _ => False
  | n + 1, listed, f, w, K => match Region.ready .any ops listed with
    | [] => K f w
    | rs => match pickDet P ops listed rs with
      | some i => match ops[i]? with
        | some o => vdet1 P (earlyS (ea i) S) ops.toList w o f fun f' => vdraw P S ops wa ea pu n (listed.setIfInBounds i true) f' w K
        | none => False
      | none => allOf (fun i => match pu i with
        | true => False
        | false => match ops[i]? with
          | some o => vop1 P ops.toList o f w
              (fun f' w' => match wa i with
                | true => vdraw P S ops wa ea pu n (listed.setIfInBounds i true) f' w' K
                | false => Chg S w w' ∧ vdraw P S ops wa ea pu n (listed.setIfInBounds i true) f' w' K)
              (fun f' => vdraw P S ops wa ea pu n (listed.setIfInBounds i true) f' w K)
          | none => False) rs

/-- Whatever order is picked; C holds behind every operation but one that is the last anyhow. -/
def wpAnyG (P : Program) (ops : Array Oper) (wa pu : Nat → Bool) (Q : Exit → Act → World → Prop) (C : World → Prop) : Nat → Array Bool → Act → World → Prop
  | 0, listed, a, w => Region.ready .any ops listed = [] ∧ Q .normal a w
  | n + 1, listed, a, w => (Region.ready .any ops listed = [] → Q .normal a w) ∧
      ∀ i ∈ Region.ready .any ops listed, wpOp P ops Q i (fun a' w' => (wa i = false → C w') ∧ (pu i = true → w' = w) ∧ wpAnyG P ops wa pu Q C n (listed.setIfInBounds i true) a' w') a w

theorem wpAny_of_G {P : Program} {ops : Array Oper} {wa pu : Nat → Bool} {Q : Exit → Act → World → Prop} {C : World → Prop} : ∀ (n : Nat) (listed : Array Bool) (a : Act) (w : World),
    wpAnyG P ops wa pu Q C n listed a w → wpAny P .any ops Q n listed a w
  | 0, _, _, _, h => h
  | n + 1, _, _, _, h => ⟨h.1, fun i hi => wpOp_mono (fun a' w' k => wpAny_of_G n _ a' w' k.2.2) (h.2 i hi)⟩

theorem wpAnyG_mono {P : Program} {ops : Array Oper} {wa pu : Nat → Bool} {Q : Exit → Act → World → Prop} {C C' : World → Prop} (h : ∀ w, C w → C' w) : ∀ (n : Nat) (listed : Array Bool) (a : Act) (w : World),
    wpAnyG P ops wa pu Q C n listed a w → wpAnyG P ops wa pu Q C' n listed a w
  | 0, _, _, _, hh => hh
  | n + 1, _, _, _, hh => ⟨hh.1, fun i hi => wpOp_mono (fun a' w' k => ⟨fun hl => h _ (k.1 hl), k.2.1, wpAnyG_mono h n _ a' w' k.2.2⟩) (hh.2 i hi)⟩

theorem wpAnyG_done {P : Program} {ops : Array Oper} {wa pu : Nat → Bool} {Q : Exit → Act → World → Prop} {C : World → Prop} {listed : Array Bool} {a : Act} {w : World} (hr : Region.ready .any ops listed = []) (h : Q .normal a w) :
    ∀ n, wpAnyG P ops wa pu Q C n listed a w
  | 0 => ⟨hr, h⟩
  | _ + 1 => ⟨fun _ => h, fun i hi => by rw [hr] at hi; cases hi⟩

/-- What is listed has all that it waits for listed. -/
def Closed (ops : Array Oper) (listed : Array Bool) : Prop := ∀ k o, ops[k]? = some o → listed.getD k false = true → ∀ e ∈ o.after, Region.binds .any e = true → listed.getD e.on false = true
theorem closed_none (ops : Array Oper) (n : Nat) : Closed ops (Array.replicate n false) := by
  intro k o _ h
  rcases Nat.lt_or_ge k n with hk | hk
  · simp [hk] at h
  · simp [Array.getD] at h
theorem getD_set_true {listed : Array Bool} {i k : Nat} (h : listed.getD k false = true) : (listed.setIfInBounds i true).getD k false = true := by
  by_cases e : i = k
  · subst e
    rcases Nat.lt_or_ge i listed.size with hk | hk
    · simp [hk]
    · simp [Array.getElem?_eq_none hk] at h
  · rw [getD_set_ne false e]; exact h
theorem Closed.set {ops : Array Oper} {listed : Array Bool} {i : Nat} (h : Closed ops listed) (hi : i ∈ Region.ready .any ops listed) : Closed ops (listed.setIfInBounds i true) := by
  intro k o hk hl e he hb
  obtain ⟨_, oi, hoi, hall⟩ := mem_ready.1 hi
  by_cases e' : i = k
  · subst e'
    rw [hoi] at hk; cases hk
    exact getD_set_true (hall e he hb)
  · rw [getD_set_ne false e'] at hl
    exact getD_set_true (h k o hk hl e he hb)
theorem waitsOn_listed {ops : Array Oper} {listed : Array Bool} (hc : Closed ops listed) {i : Nat} : ∀ (n j : Nat), (∀ o, ops[j]? = some o → ∀ e ∈ o.after, Region.binds .any e = true → listed.getD e.on false = true) →
    waitsOn ops n j i = true → listed.getD i false = true
  | 0, _, _, h => by simp [waitsOn] at h
  | n + 1, j, hd, h => by
    unfold waitsOn at h
    split at h
    · rename_i o ho
      obtain ⟨e, he, hbe⟩ := Array.any_eq_true'.1 h
      simp only [Bool.and_eq_true, Bool.or_eq_true] at hbe
      have h1 := hd o ho e he hbe.1
      rcases hbe.2 with h2 | h2
      · rw [Nat.eq_of_beq_eq_true h2] at h1; exact h1
      · exact waitsOn_listed hc n e.on (fun o' ho' => hc _ _ ho' h1) h2
    · cases h
theorem getD_both {listed : Array Bool} {i : Nat} (h : listed.getD i true = false) (h' : listed.getD i false = true) : False := by
  rcases Nat.lt_or_ge i listed.size with hk | hk
  · simp [hk] at h h'; rw [h] at h'; cases h'
  · simp [Array.getElem?_eq_none hk] at h

/-- What waits for all is not ready while another one is. -/
theorem not_waitsAll {ops : Array Oper} {listed : Array Bool} {i j : Nat} (hj : j ∈ Region.ready .any ops listed) (hi : i ∈ Region.ready .any ops listed) (hne : j ≠ i) : waitsAll ops j = false := by
  cases hw : waitsAll ops j with
  | false => rfl
  | true =>
    exfalso
    obtain ⟨_, o, ho, hall⟩ := mem_ready.1 hj
    obtain ⟨hiu, oi, hoi, _⟩ := mem_ready.1 hi
    have hlt : i < ops.size := (Array.getElem?_eq_some_iff.1 hoi).1
    simp only [waitsAll, ho, List.all_eq_true, List.mem_range] at hw
    have h1 := hw i hlt
    have hb : Nat.beq i j = false := by
      cases hb : Nat.beq i j with
      | false => rfl
      | true => exact absurd (Nat.eq_of_beq_eq_true hb).symm hne
    rw [hb, Bool.false_or] at h1
    obtain ⟨e, he, hbe⟩ := Array.any_eq_true'.1 h1
    simp only [Bool.and_eq_true, beq_iff_eq] at hbe
    have h2 := hall e he hbe.1
    rw [hbe.2] at h2
    rcases Nat.lt_or_ge i listed.size with hl | hl
    · simp [hl] at hiu h2
      rw [hiu] at h2; cases h2
    · simp [Array.getElem?_eq_none hl] at h2

theorem not_waitsT {ops : Array Oper} {listed : Array Bool} (hc : Closed ops listed) {i j : Nat} (hj : j ∈ Region.ready .any ops listed) (hi : i ∈ Region.ready .any ops listed) (hne : j ≠ i) : waitsT ops j = false := by
  cases hw : waitsT ops j with
  | false => rfl
  | true =>
    exfalso
    obtain ⟨_, o, ho, hall⟩ := mem_ready.1 hj
    obtain ⟨hiu, oi, hoi, _⟩ := mem_ready.1 hi
    have hlt : i < ops.size := (Array.getElem?_eq_some_iff.1 hoi).1
    simp only [waitsT, ho, List.all_eq_true, List.mem_range] at hw
    have h1 := hw i hlt
    have hb : Nat.beq i j = false := by
      cases hb : Nat.beq i j with
      | false => rfl
      | true => exact absurd (Nat.eq_of_beq_eq_true hb).symm hne
    rw [hb, Bool.false_or] at h1
    have h2 := waitsOn_listed hc 8 j (fun o' ho' => by rw [ho] at ho'; cases ho'; exact hall) h1
    exact getD_both hiu h2
theorem not_wa {late : Bool} {ops : Array Oper} {listed : Array Bool} (hc : Closed ops listed) {i j : Nat} (hj : j ∈ Region.ready .any ops listed) (hi : i ∈ Region.ready .any ops listed) (hne : j ≠ i) : waF late ops j = false := by
  cases late with
  | true => exact not_waitsT hc hj hi hne
  | false => exact not_waitsAll hj hi hne

/-- An operation that is ready, that yields its value in every world of the class, and that no other one minds, may be taken first. -/
theorem wpAnyG_take {P : Program} {ops : Array Oper} {late : Bool} {pu : Nat → Bool} {Q : Exit → Act → World → Prop} {C : World → Prop} {i : Nat} {oi : Oper} {v : Value} (hi : ops[i]? = some oi) (hs : Region.noSelect ops = true)
    (hQ : ∀ c a w, ¬ Q (.panic c) a w) : ∀ (n : Nat) (listed : Array Bool) (a : Act) (w : World), Closed ops listed →
    (∀ j oj, ops[j]? = some oj → j ≠ i → listed.getD j true = false → (∀ e ∈ oj.after, Region.binds .any e = true → e.on ≠ i) → oi.apart ops oj = true) →
    i ∈ Region.ready .any ops listed → YieldsIf P ops C oi v a → C w → wpAnyG P ops (waF late ops) pu Q C n (listed.setIfInBounds i true) (a.put oi.dst v) w → wpAnyG P ops (waF late ops) pu Q C (n + 1) listed a w := by
  have hsel := Region.noSelect_spec hs
  intro n
  induction n with
  | zero =>
    intro listed a w _ _ hr hy hC H
    refine ⟨fun h0 => (by rw [h0] at hr; cases hr), fun j hj => ?_⟩
    by_cases hji : j = i
    · subst hji; exact hy.wpOp hi hC ⟨fun _ => hC, fun _ => rfl, H⟩
    · have h1 := ready_mono hj hji
      rw [H.1] at h1; cases h1
  | succ n ih =>
    intro listed a w hcl hfree hr hy hC H
    refine ⟨fun h0 => (by rw [h0] at hr; cases hr), fun j hj => ?_⟩
    by_cases hji : j = i
    · subst hji; exact hy.wpOp hi hC ⟨fun _ => hC, fun _ => rfl, H⟩
    · have hnw := not_wa (late := late) hcl hj hr hji
      have h1 := H.2 j (ready_mono hj hji)
      obtain ⟨hju, oj, hoj, hall⟩ := mem_ready.1 hj
      have hiu : listed.getD i true = false := (mem_ready.1 hr).1
      have hno : ∀ e ∈ oj.after, Region.binds .any e = true → e.on ≠ i := by
        intro e he hb heq
        have h2 := hall e he hb
        rw [heq] at h2
        rcases Nat.lt_or_ge i listed.size with hl | hl
        · simp [hl] at hiu h2
          rw [hiu] at h2; cases h2
        · simp [Array.getElem?_eq_none hl] at h2
      have h2 := wpOp_putIf hoj (hfree j oj hoj hji hju hno) (fun cs b => hsel i oi cs b hi) (fun cs b => hsel j oj cs b hoj) (fun c a w hq => (hQ _ _ _ hq).elim) hy h1
      refine wpOp_mono (fun a' w' h3 => ⟨h3.2.1, h3.2.2.1, ?_⟩) h2
      refine ih (listed.setIfInBounds j true) a' w' (hcl.set hj) ?_ (ready_mono hr (Ne.symm hji)) h3.1 (h3.2.1 hnw) ?_
      · intro k ok hk hki hun hno'
        refine hfree k ok hk hki ?_ hno'
        by_cases hjk : j = k
        · subst hjk; exact hju
        · rw [getD_set_ne true hjk] at hun; exact hun
      · rw [Array.setIfInBounds_comm _ _ hji]
        exact h3.2.2.2

/-- The same of an operation that all that change the world wait for: only the present world counts. -/
theorem wpAnyG_takeE {P : Program} {ops : Array Oper} {late : Bool} {pu : Nat → Bool} {Q : Exit → Act → World → Prop} {C : World → Prop} {i : Nat} {oi : Oper} {v : Value} (hi : ops[i]? = some oi) (hs : Region.noSelect ops = true)
    (hQ : ∀ c a w, ¬ Q (.panic c) a w) (hE : ∀ j oj, ops[j]? = some oj → j ≠ i → pu j = false → waitsOn ops 8 j i = true) : ∀ (n : Nat) (listed : Array Bool) (a : Act) (w : World), Closed ops listed →
    (∀ j oj, ops[j]? = some oj → j ≠ i → listed.getD j true = false → (∀ e ∈ oj.after, Region.binds .any e = true → e.on ≠ i) → oi.apart ops oj = true) →
    i ∈ Region.ready .any ops listed → YieldsIf P ops (· = w) oi v a → C w → wpAnyG P ops (waF late ops) pu Q C n (listed.setIfInBounds i true) (a.put oi.dst v) w → wpAnyG P ops (waF late ops) pu Q C (n + 1) listed a w := by
  have hsel := Region.noSelect_spec hs
  intro n
  induction n with
  | zero =>
    intro listed a w _ _ hr hy hC H
    refine ⟨fun h0 => (by rw [h0] at hr; cases hr), fun j hj => ?_⟩
    by_cases hji : j = i
    · subst hji; exact hy.wpOp hi rfl ⟨fun _ => hC, fun _ => rfl, H⟩
    · have h1 := ready_mono hj hji
      rw [H.1] at h1; cases h1
  | succ n ih =>
    intro listed a w hcl hfree hr hy hC H
    refine ⟨fun h0 => (by rw [h0] at hr; cases hr), fun j hj => ?_⟩
    by_cases hji : j = i
    · subst hji; exact hy.wpOp hi rfl ⟨fun _ => hC, fun _ => rfl, H⟩
    · have hnw := not_wa (late := late) hcl hj hr hji
      have h1 := H.2 j (ready_mono hj hji)
      obtain ⟨hju, oj, hoj, hall⟩ := mem_ready.1 hj
      have hiu : listed.getD i true = false := (mem_ready.1 hr).1
      have hno : ∀ e ∈ oj.after, Region.binds .any e = true → e.on ≠ i := by
        intro e he hb heq
        have h2 := hall e he hb
        rw [heq] at h2
        rcases Nat.lt_or_ge i listed.size with hl | hl
        · simp [hl] at hiu h2
          rw [hiu] at h2; cases h2
        · simp [Array.getElem?_eq_none hl] at h2
      have hpu : pu j = true := by
        cases hp : pu j with
        | true => rfl
        | false => exact (getD_both hiu (waitsOn_listed hcl 8 j (fun o' ho' => by rw [hoj] at ho'; cases ho'; exact hall) (hE j oj hoj hji hp))).elim
      have h2 := wpOp_putIf hoj (hfree j oj hoj hji hju hno) (fun cs b => hsel i oi cs b hi) (fun cs b => hsel j oj cs b hoj) (fun c a w hq => (hQ _ _ _ hq).elim) hy h1
      refine wpOp_mono (fun a' w' h3 => ⟨h3.2.1, h3.2.2.1, ?_⟩) h2
      have hw := h3.2.2.1 hpu
      subst hw
      refine ih (listed.setIfInBounds j true) a' w' (hcl.set hj) ?_ (ready_mono hr (Ne.symm hji)) h3.1 (h3.2.1 hnw) ?_
      · intro k ok hk hki hun hno'
        refine hfree k ok hk hki ?_ hno'
        by_cases hjk : j = k
        · subst hjk; exact hju
        · rw [getD_set_ne true hjk] at hun; exact hun
      · rw [Array.setIfInBounds_comm _ _ hji]
        exact h3.2.2.2

theorem pickDet_spec {P : Program} {ops : Array Oper} {listed : Array Bool} : ∀ {rs : List Nat} {i : Nat}, pickDet P ops listed rs = some i →
    i ∈ rs ∧ Region.free .any ops listed i = true
  | [], _, h => by cases h
  | j :: rs, i, h => by
    unfold pickDet at h
    split at h
    · split at h
      · rename_i hd
        cases h
        simp only [Bool.and_eq_true] at hd
        exact ⟨by simp, hd.2⟩
      · have := pickDet_spec h
        exact ⟨by simp [this.1], this.2⟩
    · cases h

theorem allOf_spec {B : Nat → Prop} : ∀ {rs : List Nat}, allOf B rs → ∀ i ∈ rs, B i
  | [], _, i, hi => by cases hi
  | [j], h, i, hi => by simp at hi; subst hi; exact h
  | j :: k :: rs, h, i, hi => by
    rcases List.mem_cons.1 hi with e | hi
    · subst e; exact h.1
    · exact allOf_spec h.2 i hi

theorem vdet1_sound {P : Program} {S : Nat → Prop} {ops : Array Oper} {w0 : World} {o : Oper} {F : Fr} {d : List Deferred} {K : Fr → Prop} {ds : List Nat} (hd0 : ∀ n, o.dst = some n → n ∈ ds) (h : vdet1 P S ops.toList w0 o F K) :
    ∃ v F', YieldsIf P ops (Chg S w0) o v (act F d) ∧ (act F d).put o.dst v = act F' d ∧ Agree ds F F' ∧ K F' := by
  unfold vdet1 at h
  split at h
  · rename_i hgd
    obtain ⟨v, hr, hK⟩ := vdet_sound h
    exact ⟨v, _, .inl ⟨by simp [Region.wanted, hgd], fun w hw => by rw [act_evO]; exact hr w hw⟩, act_putO F d o.dst (some v), Agree.putO hd0, hK⟩
  · rename_i j want hgd
    split at h
    · exact h.elim
    · rename_i g hg
      have hy := yielded_act (F := F) (d := d) hg
      simp only [Array.toArray_toList] at hy
      split at h
      · rename_i hx
        rw [hx] at hy
        exact ⟨undef, _, .inr ⟨by simp [Region.wanted, hgd, hy, getU, undef], rfl⟩, act_putO F d o.dst none, Agree.putO hd0, h⟩
      · rename_i x hx
        rw [hx] at hy
        unfold SplitV at h
        split at h
        · have hs := act_same F d (n := g) (v := .bool true) (by rw [hx]; rfl)
          have hA0 : Agree ds F (updO F g (some (.bool true))) := Agree.same (by rw [hx]; rfl) _
          split at h
          · obtain ⟨v, hr, hK⟩ := vdet_sound h
            refine ⟨v, _, .inl ⟨by simp [Region.wanted, hgd, hy, getU], fun w hw => ?_⟩, ?_, hA0.trans (Agree.putO hd0) (fun _ h => h) (fun _ h => h), hK⟩
            · rw [← hs, act_evO]; exact hr w hw
            · rw [← hs]; exact act_putO _ d o.dst (some v)
          · exact ⟨undef, _, .inr ⟨by simp [Region.wanted, hgd, hy, getU], rfl⟩, by rw [← hs]; exact act_putO _ d o.dst none, hA0.trans (Agree.putO hd0) (fun _ h => h) (fun _ h => h), h⟩
        · have hs := act_same F d (n := g) (v := .bool false) (by rw [hx]; rfl)
          have hA0 : Agree ds F (updO F g (some (.bool false))) := Agree.same (by rw [hx]; rfl) _
          split at h
          · exact ⟨undef, _, .inr ⟨by simp [Region.wanted, hgd, hy, getU], rfl⟩, by rw [← hs]; exact act_putO _ d o.dst none, hA0.trans (Agree.putO hd0) (fun _ h => h) (fun _ h => h), h⟩
          · obtain ⟨v, hr, hK⟩ := vdet_sound h
            refine ⟨v, _, .inl ⟨by simp [Region.wanted, hgd, hy, getU], fun w hw => ?_⟩, ?_, hA0.trans (Agree.putO hd0) (fun _ h => h) (fun _ h => h), hK⟩
            · rw [← hs, act_evO]; exact hr w hw
            · rw [← hs]; exact act_putO _ d o.dst (some v)
        · exact h.elim

theorem vop1_sound {P : Program} {ops : Array Oper} {o : Oper} {F : Fr} {d : List Deferred} {w : World} {K : Fr → World → Prop} {N : Fr → Prop} {Q : Exit → Act → World → Prop} {K' : Act → World → Prop} {i : Nat} {ds : List Nat} (hd0 : ∀ n, o.dst = some n → n ∈ ds)
    (hi : ops[i]? = some o) (h : vop1 P ops.toList o F w K N) (hK : ∀ F' w', Agree ds F F' → K F' w' → K' (act F' d) w') (hN : ∀ F', Agree ds F F' → N F' → K' (act F' d) w) : wpOp P ops Q i K' (act F d) w := by
  unfold wpOp
  simp only [hi]
  unfold vop1 at h
  split at h
  · rename_i hgd
    rw [if_pos (by simp [Region.wanted, hgd])]
    exact .inl (vop_soundO h fun v w' hk => hK _ _ (Agree.putO hd0) hk)
  · rename_i j want hgd
    split at h
    · exact h.elim
    · rename_i g hg
      have hy := yielded_act (F := F) (d := d) hg
      simp only [Array.toArray_toList] at hy
      split at h
      · rename_i hx
        rw [hx] at hy
        rw [if_neg (by simp [Region.wanted, hgd, hy, getU, undef])]
        have := act_putO F d o.dst none
        simp only [getU] at this
        rw [this]
        exact hN _ (Agree.putO hd0) h
      · rename_i x hx
        rw [hx] at hy
        unfold SplitV at h
        split at h
        · have hs := act_same F d (n := g) (v := .bool true) (by rw [hx]; rfl)
          have hA0 : Agree ds F (updO F g (some (.bool true))) := Agree.same (by rw [hx]; rfl) _
          split at h
          · rw [if_pos (by simp [Region.wanted, hgd, hy, getU]), ← hs]
            exact .inl (vop_soundO h fun v w' hk => hK _ _ (hA0.trans (Agree.putO hd0) (fun _ h => h) (fun _ h => h)) hk)
          · rw [if_neg (by simp [Region.wanted, hgd, hy, getU]), ← hs]
            have := act_putO (updO F g (some (.bool true))) d o.dst none
            simp only [getU] at this
            rw [this]
            exact hN _ (hA0.trans (Agree.putO hd0) (fun _ h => h) (fun _ h => h)) h
        · have hs := act_same F d (n := g) (v := .bool false) (by rw [hx]; rfl)
          have hA0 : Agree ds F (updO F g (some (.bool false))) := Agree.same (by rw [hx]; rfl) _
          split at h
          · rw [if_neg (by simp [Region.wanted, hgd, hy, getU]), ← hs]
            have := act_putO (updO F g (some (.bool false))) d o.dst none
            simp only [getU] at this
            rw [this]
            exact hN _ (hA0.trans (Agree.putO hd0) (fun _ h => h) (fun _ h => h)) h
          · rw [if_pos (by simp [Region.wanted, hgd, hy, getU]), ← hs]
            exact .inl (vop_soundO h fun v w' hk => hK _ _ (hA0.trans (Agree.putO hd0) (fun _ h => h) (fun _ h => h)) hk)
        · exact h.elim

/-- Behind an operation that waits for all, no other one comes up. -/
theorem ready_last {ops : Array Oper} {listed : Array Bool} {i : Nat} {o : Oper} (ho : ops[i]? = some o) (hw : waitsAll ops i = true) (hi : i ∈ Region.ready .any ops listed) (hsz : listed.size = ops.size) :
    Region.ready .any ops (listed.setIfInBounds i true) = [] := by
  cases hr : Region.ready .any ops (listed.setIfInBounds i true) with
  | nil => rfl
  | cons j rs =>
    exfalso
    have hj : j ∈ Region.ready .any ops (listed.setIfInBounds i true) := by rw [hr]; simp
    obtain ⟨hju, oj, hoj, _⟩ := mem_ready.1 hj
    obtain ⟨_, o', ho', hall⟩ := mem_ready.1 hi
    rw [ho] at ho'; cases ho'
    have hlt : j < ops.size := (Array.getElem?_eq_some_iff.1 hoj).1
    by_cases hji : j = i
    · subst hji
      simp [hsz, hlt] at hju
    · simp only [waitsAll, ho, List.all_eq_true, List.mem_range] at hw
      have h1 := hw j hlt
      have hb : Nat.beq j i = false := by
        cases hb : Nat.beq j i with
        | false => rfl
        | true => exact absurd (Nat.eq_of_beq_eq_true hb) hji
      rw [hb, Bool.false_or] at h1
      obtain ⟨e, he, hbe⟩ := Array.any_eq_true'.1 h1
      simp only [Bool.and_eq_true, beq_iff_eq] at hbe
      have h2 := hall e he hbe.1
      rw [hbe.2] at h2
      rw [getD_set_ne true (Ne.symm hji)] at hju
      have hl : j < listed.size := by omega
      simp [hl] at hju h2
      rw [hju] at h2; cases h2

theorem ready_lastT {ops : Array Oper} {listed : Array Bool} (hc : Closed ops listed) {i : Nat} {o : Oper} (ho : ops[i]? = some o) (hw : waitsT ops i = true) (hi : i ∈ Region.ready .any ops listed) (hsz : listed.size = ops.size) :
    Region.ready .any ops (listed.setIfInBounds i true) = [] := by
  cases hr : Region.ready .any ops (listed.setIfInBounds i true) with
  | nil => rfl
  | cons j rs =>
    exfalso
    have hj : j ∈ Region.ready .any ops (listed.setIfInBounds i true) := by rw [hr]; simp
    obtain ⟨hju, oj, hoj, _⟩ := mem_ready.1 hj
    obtain ⟨_, o', ho', hall⟩ := mem_ready.1 hi
    rw [ho] at ho'; cases ho'
    have hlt : j < ops.size := (Array.getElem?_eq_some_iff.1 hoj).1
    by_cases hji : j = i
    · subst hji
      simp [hsz, hlt] at hju
    · simp only [waitsT, ho, List.all_eq_true, List.mem_range] at hw
      have h1 := hw j hlt
      have hb : Nat.beq j i = false := by
        cases hb : Nat.beq j i with
        | false => rfl
        | true => exact absurd (Nat.eq_of_beq_eq_true hb) hji
      rw [hb, Bool.false_or] at h1
      have h2 := waitsOn_listed hc 8 i (fun o' ho' => by rw [ho] at ho'; cases ho'; exact hall) h1
      rw [getD_set_ne true (Ne.symm hji)] at hju
      exact getD_both hju h2
theorem ready_lastF {late : Bool} {ops : Array Oper} {listed : Array Bool} (hc : Closed ops listed) {i : Nat} {o : Oper} (ho : ops[i]? = some o) (hw : waF late ops i = true) (hi : i ∈ Region.ready .any ops listed) (hsz : listed.size = ops.size) :
    Region.ready .any ops (listed.setIfInBounds i true) = [] := by
  cases late with
  | true => exact ready_lastT hc ho hw hi hsz
  | false => exact ready_last ho hw hi hsz

theorem vdraw_sound {P : Program} {S : Nat → Prop} {ops : Array Oper} {late ea : Bool} {d : List Deferred} {Q : Exit → Act → World → Prop} {ds : List Nat} (hds : ∀ (i : Nat) (o : Oper), ops[i]? = some o → ∀ n, o.dst = some n → n ∈ ds) (hs : Region.noSelect ops = true)
    (hp : ∀ c a w, ¬ Q (.panic c) a w) : ∀ (n : Nat) (listed : Array Bool) (F : Fr) (w : World) (K : Fr → World → Prop), Closed ops listed → listed.size = ops.size →
    vdraw P S ops (waF late ops) (earlyB P ea ops) (puF P ea ops) n listed F w K → (∀ F' w', Agree ds F F' → K F' w' → Q .normal (act F' d) w') → wpAnyG P ops (waF late ops) (puF P ea ops) Q (Chg S w) n listed (act F d) w
  | 0, listed, F, w, K, _, hz, h, hK => by
    unfold vdraw at h
    split at h
    · rename_i hr; exact ⟨hr, hK _ _ (Agree.refl _ _) h⟩
    · exact h.elim
  | n + 1, listed, F, w, K, hcl, hz, h, hK => by
    unfold vdraw at h
    split at h
    · rename_i hr; exact wpAnyG_done hr (hK _ _ (Agree.refl _ _) h) _
    · rename_i rs hne
      split at h
      · rename_i i hi
        obtain ⟨hmem, hfree⟩ := pickDet_spec hi
        split at h
        · rename_i o ho
          obtain ⟨v, F', hy, hput, hA, hk⟩ := vdet1_sound (d := d) (hds _ _ ho) h
          have hk' : wpAnyG P ops (waF late ops) (puF P ea ops) Q (Chg S w) n (listed.setIfInBounds i true) ((act F d).put o.dst v) w := by
            rw [hput]
            exact vdraw_sound hds hs hp n _ F' w K (hcl.set hmem) (by simpa using hz) hk fun F'' w'' hA' hh => hK _ _ (hA.trans hA' (fun _ h => h) (fun _ h => h)) hh
          cases he : earlyB P ea ops i with
          | false =>
            rw [he] at hy
            exact wpAnyG_take ho hs hp n listed _ w hcl (Region.free_spec ho hfree) hmem hy (Chg.refl _ _) hk'
          | true =>
            rw [he] at hy
            refine wpAnyG_takeE ho hs hp (fun j oj hj hji hpj => ?_) n listed _ w hcl (Region.free_spec ho hfree) hmem ?_ (Chg.refl _ _) hk'
            · cases ea with
              | false => cases he
              | true =>
                simp only [earlyB, List.all_eq_true, List.mem_range] at he
                have h1 := he j (Array.getElem?_eq_some_iff.1 hj).1
                simp only [puF, hj] at hpj
                simp only [hj, hpj, Bool.false_or, Bool.or_eq_true] at h1
                rcases h1 with h1 | h1
                · exact absurd (Nat.eq_of_beq_eq_true h1) hji
                · exact h1
            · rcases hy with ⟨h1, h2⟩ | h
              · exact .inl ⟨h1, fun w' hw' => by rw [hw']; exact h2 w (Chg.refl _ _)⟩
              · exact .inr h
        · exact h.elim
      · refine ⟨fun h0 => absurd h0 hne, fun i hi => ?_⟩
        have hb := allOf_spec h i hi
        split at hb
        · exact hb.elim
        rename_i hpu
        split at hb
        · rename_i o ho
          refine vop1_sound (hds _ _ ho) ho hb (fun F' w' hA hk => ?_)
            (fun F' hA hk => ⟨fun _ => Chg.refl _ _, fun _ => rfl, vdraw_sound hds hs hp n _ F' w K (hcl.set hi) (by simpa using hz) hk fun F'' w'' hA' hh => hK _ _ (hA.trans hA' (fun _ h => h) (fun _ h => h)) hh⟩)
          split at hk
          · rename_i hwa
            refine ⟨fun hf => (by rw [hwa] at hf; cases hf), fun h => (by rw [hpu] at h; cases h), ?_⟩
            have hnil := ready_lastF hcl ho hwa hi hz
            unfold vdraw at hk
            split at hk <;> (rw [hnil] at hk; exact wpAnyG_done hnil (hK _ _ hA hk) _)
          · exact ⟨fun _ => hk.1, fun h => (by rw [hpu] at h; cases h), wpAnyG_mono (fun w'' hc => hk.1.andThen hc) n _ _ _ (vdraw_sound hds hs hp n _ F' w' K (hcl.set hi) (by simpa using hz) hk.2 fun F'' w'' hA' hh => hK _ _ (hA.trans hA' (fun _ h => h) (fun _ h => h)) hh)⟩
        · exact hb.elim

def DrawV (w : World) (B : (Nat → Prop) → World → Prop) : Prop := ∃ S : Nat → Prop, ∀ w0, Same w w0 → B S w0

/-! ### Code -/
abbrev Kt := Exit → Fr → World → Prop

structure Ann where
  loop : Nat → Option (List Nat)
  join : Nat → Option (List Nat)
  late : List Nat

def firstR : Code → Option Nat
  | .region id _ _ => some id
  | .seq a b => match firstR a with | some i => some i | none => firstR b
  | .cond _ a b => match firstR a with | some i => some i | none => firstR b
  | .block _ c => firstR c
  | .loop c => firstR c
  | _ => none

def dstsL : List Oper → List Nat
  | [] => []
  | o :: l => match o.dst with | some d => d :: dstsL l | none => dstsL l

/-- The slots that a piece of code writes. -/
def wr (an : Ann) : Code → List Nat
  | .region _ ops _ => dstsL ops.toList
  | .seq a b => (match firstR b with
    | some r => match an.join r with | some ms => ms | none => []
    | none => []) ++ wr an a ++ wr an b
  | .cond _ a b => wr an a ++ wr an b
  | .block _ c => wr an c
  | .loop c => (match firstR c with
    | some r => match an.loop r with | some ms => ms | none => []
    | none => []) ++ wr an c
  | _ => []

def nthV : List Value → Nat → Value
  | [], _ => undef
  | v :: _, 0 => v
  | _ :: f, n + 1 => nthV f n

def havoc (F : Fr) : List Nat → (Nat → Value) → Fr
  | [], _ => F
  | d :: ds, g => updO (havoc F ds g) d (some (g d))

def sets (F : Fr) : List Nat → List Value → Nat → Fr
  | [], _, _ => F
  | m :: ms, s, k => updO (sets F ms s (k + 1)) m (some (nthV s k))

def gets (F : Fr) : List Nat → List Value
  | [] => []
  | m :: ms => getU (nthO F m) :: gets F ms

def LoopV (init : List Value) (w : World) (B : List Value → (Nat → Value) → World → (List Value → World → Prop) → Prop) : Prop :=
  ∃ (I : List Value → World → Prop) (μ : List Value → World → Nat), I init w ∧
    ∀ s z w, I s w → B s z w (fun s' w' => I s' w' ∧ μ s' w' < μ s w)

def JoinV (A : (List Value → World → Prop) → Prop) (B : List Value → (Nat → Value) → World → Prop) : Prop :=
  ∃ M : List Value → World → Prop, A M ∧ ∀ s z w, M s w → B s z w

def thenQ (K : Fr → World → Prop) (Q : Kt) : Kt
  | .normal, F, w => K F w
  | .exit i, F, w => Q (.exit i) F w
  | .ret, F, w => Q .ret F w
  | _, _, _ => False

def blockQ (id : Nat) (Q : Kt) : Kt
  | .normal, F, w => Q .normal F w
  | .exit i, F, w => match Nat.beq i id with
    | true => Q .normal F w
    | false => Q (.exit i) F w
  | .ret, F, w => Q .ret F w
  | _, _, _ => False

def litC (F : Fr) (c : Operand) (b : Bool) : Fr :=
  match c with
  | .tmp t => updO F t (some (.bool b))
  | _ => F

def regQ (Q : Kt) (F : Fr) (w : World) : Prop := Q .normal F w

def dvc (P : Program) (an : Ann) : Code → Fr → World → Kt → Prop
  | .skip, F, w, Q => Q .normal F w
  | .region id ops draw, F, w, Q => match draw with
    | false => vops P ops.toList ops.toList F w fun F' w' => Q .normal F' w'
    | true => match P.follows .mixedOrders && Region.noSelect ops with
      | true => DrawV w fun S w0 => vdraw P S ops (waF (an.late.any (Nat.beq id)) ops) (earlyB P (an.late.any (Nat.beq (id + 1000))) ops) (puF P (an.late.any (Nat.beq (id + 1000))) ops) ops.size (Array.replicate ops.size false) F w0 fun F' w' => Q .normal F' w'
      | false => False
  | .seq a b, F, w, Q => match firstR b with
    | none => dvc P an a F w (thenQ (fun F' w' => dvc P an b F' w' Q) Q)
    | some r => match an.join r with
      | none => dvc P an a F w (thenQ (fun F' w' => dvc P an b F' w' Q) Q)
      | some ms => JoinV (fun M => dvc P an a F w (thenQ (fun F' w' => M (gets F' ms) w') Q))
          (fun s z w' => dvc P an b (sets (havoc F (wr an a) z) ms s 0) w' Q)
  | .cond c a b, F, w, Q => SplitV (evO F c) (dvc P an a (litC F c true) w Q) (dvc P an b (litC F c false) w Q)
  | .block id c, F, w, Q => dvc P an c F w (blockQ id Q)
  | .loop c, F, w, Q => match firstR c with
    | none => False
    | some r => match an.loop r with
      | none => False
      | some ms => LoopV (gets F ms) w fun s z w' K => dvc P an c (sets (havoc F (wr an c) z) ms s 0) w' (thenQ (fun F' w' => K (gets F' ms) w') Q)
  | .exit i, F, w, Q => Q (.exit i) F w
  | .ret, F, w, Q => Q .ret F w
  | _, _, _, _ => False

end Go.V

/- Code and functions are sound. -/
namespace Go.V
open Go

theorem mem_dstsL {l : List Oper} {o : Oper} (h : o ∈ l) {n : Nat} (hn : o.dst = some n) : n ∈ dstsL l := by
  induction l with
  | nil => cases h
  | cons x l ih =>
    unfold dstsL
    rcases List.mem_cons.1 h with e | h
    · subst e; rw [hn]; simp
    · split
      · simp [ih h]
      · exact ih h

def okE : Exit → Bool
  | .normal => true
  | .exit _ => true
  | .ret => true
  | _ => false

/-- What soundness shows of a piece of code. -/
def LiftQ (d : List Deferred) (ds : List Nat) (F : Fr) (Q : Kt) : Exit → Act → World → Prop :=
  fun e a w => okE e = true ∧ ∃ F', a = act F' d ∧ Agree ds F F' ∧ Q e F' w

theorem LiftQ.mono {d : List Deferred} {ds es : List Nat} {F G : Fr} {Q Q' : Kt} {e : Exit} {a : Act} {w : World} (h : LiftQ d ds G Q e a w)
    (hA : Agree es F G) (h1 : ∀ t ∈ es, t ∈ ds) (hq : ∀ F w, Q e F w → Q' e F w) : LiftQ d ds F Q' e a w := by
  obtain ⟨ho, F', ha, hA', hQ⟩ := h
  exact ⟨ho, F', ha, hA.trans hA' h1 (fun _ h => h), hq _ _ hQ⟩

theorem LiftQ.more {d : List Deferred} {ds es : List Nat} {F : Fr} {Q : Kt} {e : Exit} {a : Act} {w : World} (h : LiftQ d ds F Q e a w)
    (h1 : ∀ t ∈ ds, t ∈ es) : LiftQ d es F Q e a w := by
  obtain ⟨ho, F', ha, hA', hQ⟩ := h
  exact ⟨ho, F', ha, ⟨hA'.1, fun t ht => hA'.2 t fun m => ht (h1 t m)⟩, hQ⟩

theorem havoc_length (F : Fr) (ds : List Nat) (g : Nat → Value) : (havoc F ds g).length = F.length := by
  induction ds with
  | nil => rfl
  | cons d ds ih => simp [havoc, updO_length, ih]

theorem sets_length (F : Fr) (ms : List Nat) (s : List Value) (k : Nat) : (sets F ms s k).length = F.length := by
  induction ms generalizing k with
  | nil => rfl
  | cons m ms ih => simp [sets, updO_length, ih]

theorem havoc_other (F : Fr) (ds : List Nat) (g : Nat → Value) {t : Nat} (h : t ∉ ds) : nthO (havoc F ds g) t = nthO F t := by
  induction ds with
  | nil => rfl
  | cons d ds ih =>
    simp only [havoc]
    rw [nthO_upd_ne _ _ (by intro e; subst e; simp at h)]
    exact ih (by simp at h; exact h.2)

theorem havoc_mem (F : Fr) (ds : List Nat) (g : Nat → Value) {t : Nat} (ht : t < F.length) (h : t ∈ ds) : nthO (havoc F ds g) t = some (g t) := by
  induction ds with
  | nil => cases h
  | cons d ds ih =>
    simp only [havoc]
    by_cases e : d = t
    · subst e; rw [nthO_upd_same _ _ (by rw [havoc_length]; exact ht)]
    · rw [nthO_upd_ne _ _ e]
      rcases List.mem_cons.1 h with e' | h
      · exact absurd e'.symm e
      · exact ih h

theorem sets_other (F : Fr) (ms : List Nat) (s : List Value) (k : Nat) {t : Nat} (h : t ∉ ms) : nthO (sets F ms s k) t = nthO F t := by
  induction ms generalizing k with
  | nil => rfl
  | cons m ms ih =>
    simp only [sets]
    rw [nthO_upd_ne _ _ (by intro e; subst e; simp at h)]
    exact ih _ (by simp at h; exact h.2)

theorem nthV_drop (F : Fr) (ms : List Nat) : ∀ (k : Nat) (pre : List Value), pre.length = k → ∀ j, nthV (pre ++ gets F ms) (k + j) = nthV (gets F ms) j := by
  intro k
  induction k with
  | zero => intro pre h j; cases pre with
    | nil => simp
    | cons => simp at h
  | succ k ih => intro pre h j; cases pre with
    | nil => simp at h
    | cons x pre =>
      have := ih pre (by simpa using h) j
      rw [show k + 1 + j = (k + j) + 1 by omega]
      simpa [nthV] using this

/-- Slots set to what a frame has there: the frame with its slots there. -/
theorem sets_gets (F G : Fr) : ∀ (ms : List Nat) (pre : List Value) {t : Nat}, t < F.length → t ∈ ms →
    getU (nthO (sets F ms (pre ++ gets G ms) pre.length) t) = getU (nthO G t)
  | [], _, _, _, h => by cases h
  | m :: ms, pre, t, ht, h => by
    simp only [sets]
    by_cases e : m = t
    · subst e
      rw [nthO_upd_same _ _ (by rw [sets_length]; exact ht)]
      have := nthV_drop G (m :: ms) pre.length pre rfl 0
      simp only [Nat.add_zero] at this
      rw [this]; rfl
    · rw [nthO_upd_ne _ _ e]
      rcases List.mem_cons.1 h with e' | h
      · exact absurd e'.symm e
      · have := sets_gets F G ms (pre ++ [getU (nthO G m)]) ht h
        simpa [gets] using this

theorem agree_act {F G : Fr} {d : List Deferred} (hl : F.length = G.length) (h : ∀ t, t < F.length → getU (nthO F t) = getU (nthO G t)) : act F d = act G d := by
  unfold act
  rw [ext_nth (f := den F) (g := den G) (by simp [den_length, hl]) fun t ht => by rw [nth_den, nth_den]; exact h t (by simpa [den_length] using ht)]

/-- A frame that agrees outside ds is the head's frame, havocked and set. -/
theorem head_agree {F G : Fr} {ds ms : List Nat} (h : Agree ds F G) :
    Agree [] G (sets (havoc F ds fun n => getU (nthO G n)) ms (gets G ms) 0) := by
  refine ⟨by rw [sets_length, havoc_length, h.1], fun t _ => ?_⟩
  by_cases hl : t < F.length
  · by_cases hm : t ∈ ms
    · have := sets_gets (havoc F ds fun n => getU (nthO G n)) G ms [] (t := t) (by rw [havoc_length]; exact hl) hm
      simpa only [List.nil_append, List.length_nil] using this
    · rw [sets_other _ _ _ _ hm]
      by_cases hd : t ∈ ds
      · rw [havoc_mem _ _ _ hl hd]; rfl
      · rw [havoc_other _ _ _ hd]; exact (h.2 t hd).symm
  · rw [nthO_ge _ (by rw [sets_length, havoc_length]; omega), nthO_ge G (by rw [h.1]; omega)]

theorem head_act {F G : Fr} {d : List Deferred} {ds ms : List Nat} (h : Agree ds F G) :
    act G d = act (sets (havoc F ds fun n => getU (nthO G n)) ms (gets G ms) 0) d := by
  have := head_agree (ms := ms) h
  exact agree_act this.1.symm fun t _ => (this.2 t (by simp)).symm

theorem agree_head (F : Fr) (ds ms : List Nat) (s : List Value) (g : Nat → Value) {es : List Nat} (h1 : ∀ t ∈ ds, t ∈ es) (h2 : ∀ t ∈ ms, t ∈ es) : Agree es F (sets (havoc F ds g) ms s 0) :=
  ⟨by rw [sets_length, havoc_length], fun t ht => by rw [sets_other _ _ _ _ fun m => ht (h2 t m), havoc_other _ _ _ fun m => ht (h1 t m)]⟩

theorem liftQ_of {d : List Deferred} {ds : List Nat} {F F' : Fr} {Q : Kt} {e : Exit} {w : World} (ho : okE e = true) (hA : Agree ds F F') (h : Q e F' w) : LiftQ d ds F Q e (act F' d) w :=
  ⟨ho, F', rfl, hA, h⟩

theorem litC_act {F : Fr} {c : Operand} {b : Bool} (d : List Deferred) (h : evO F c = .bool b) : act (litC F c b) d = act F d ∧ ∀ ds, Agree ds F (litC F c b) := by
  unfold litC
  split
  · exact ⟨act_same F d h, Agree.same h⟩
  · exact ⟨rfl, fun _ => Agree.refl _ _⟩

theorem dvc_sound {P : Program} {an : Ann} {d : List Deferred} : ∀ (c : Code) (F : Fr) (w : World) (Q : Kt), dvc P an c F w Q →
    c.wp P (LiftQ d (wr an c) F Q) (act F d) w
  | .skip, F, w, Q, h => wp_skip (liftQ_of rfl (Agree.refl _ _) h)
  | .region id ops draw, F, w, Q, h => by
    unfold dvc at h
    cases draw with
    | false =>
      refine wp_region_list ?_
      have := vops_sound (d := d) (Q := LiftQ d (wr an (.region id ops false)) F Q) (ds := dstsL ops.toList) ops.toList F w _ (fun o ho n hn => mem_dstsL ho hn) h
        (fun F' w' hA hk => liftQ_of rfl hA hk)
      simpa using this
    | true =>
      simp only at h
      split at h
      · rename_i hm
        simp only [Bool.and_eq_true] at hm
        obtain ⟨S, hS⟩ := h
        refine wp_region_any hm.1 (wpAny_of_G (wa := waF (an.late.any (Nat.beq id)) ops) (pu := puF P (an.late.any (Nat.beq (id + 1000))) ops) (C := Chg S { w with drawn := w.drawn + 1 }) _ _ _ _ ?_)
        exact vdraw_sound (ds := dstsL ops.toList) (fun i o hi n hn => mem_dstsL (by
            have := Array.mem_of_getElem? hi
            simpa using this) hn) hm.2 (fun c a w hq => by simp [LiftQ, okE] at hq) _ _ _ _ _ (closed_none _ _) (by simp)
          (hS _ ⟨rfl, rfl, rfl, rfl⟩) (fun F' w' hA hk => liftQ_of rfl hA hk)
      · exact h.elim
  | .seq a b, F, w, Q, h => by
    have key : ∀ {K : Fr → World → Prop} {es : List Nat}, dvc P an a F w (thenQ K Q) → (∀ F' w', Agree (wr an a) F F' → K F' w' → b.wp P (LiftQ d es F Q) (act F' d) w') →
        (∀ t ∈ wr an a, t ∈ es) → (Code.seq a b).wp P (LiftQ d es F Q) (act F d) w := by
      intro K es ha hb hes
      refine wp_seq (wp_mono (dvc_sound a F w _ ha) fun e a' w' hq => ?_)
      obtain ⟨ho, F', rfl, hA, hq⟩ := hq
      cases e <;> first
        | exact hb F' w' hA hq
        | exact ⟨rfl, F', rfl, ⟨hA.1, fun t ht => hA.2 t fun m => ht (hes t m)⟩, hq⟩
        | (simp [okE] at ho)
    have plain : dvc P an a F w (thenQ (fun F' w' => dvc P an b F' w' Q) Q) → (Code.seq a b).wp P (LiftQ d (wr an (.seq a b)) F Q) (act F d) w := fun ha =>
      key ha (fun F' w' hA hk => wp_mono (dvc_sound b F' w' Q hk) fun e a w hq => by
        obtain ⟨ho, F'', rfl, hA', hq⟩ := hq
        exact ⟨ho, F'', rfl, hA.trans hA' (fun t ht => by simp [wr, ht]) (fun t ht => by simp [wr, ht]), hq⟩) (fun t ht => by simp [wr, ht])
    unfold dvc at h
    split at h
    · exact plain h
    · rename_i r hr
      split at h
      · exact plain h
      · rename_i ms hms
        obtain ⟨M, ha, hb⟩ := h
        refine key ha (fun F' w' hA hk => ?_) (fun t ht => by simp [wr, ht])
        rw [head_act (ms := ms) hA]
        refine wp_mono (dvc_sound b _ w' Q (hb _ (fun n => getU (nthO F' n)) _ hk)) fun e a w hq => ?_
        obtain ⟨ho, F'', rfl, hA', hq⟩ := hq
        refine ⟨ho, F'', rfl, (agree_head F (wr an a) ms _ _ ?_ ?_).trans hA' (fun t ht => ht) ?_, hq⟩
        · intro t ht; simp [wr, ht]
        · intro t ht; simp [wr, hr, hms, ht]
        · intro t ht; simp [wr, ht]
  | .cond c a b, F, w, Q, h => by
    unfold dvc at h
    unfold SplitV at h
    have he : (act F d).eval c = evO F c := by rw [act_evO]
    split at h
    · rename_i hc
      refine wp_cond_true (by rw [he, hc]) ?_
      obtain ⟨h1, h2⟩ := litC_act d hc
      rw [← h1]
      exact wp_mono (dvc_sound a _ w Q h) fun e a w hq => by
        obtain ⟨ho, F'', rfl, hA', hq⟩ := hq
        exact ⟨ho, F'', rfl, (h2 []).trans hA' (fun t ht => by cases ht) (fun t ht => by simp [wr, ht]), hq⟩
    · rename_i hc
      refine wp_cond_false (by rw [he, hc]) ?_
      obtain ⟨h1, h2⟩ := litC_act d hc
      rw [← h1]
      exact wp_mono (dvc_sound b _ w Q h) fun e a w hq => by
        obtain ⟨ho, F'', rfl, hA', hq⟩ := hq
        exact ⟨ho, F'', rfl, (h2 []).trans hA' (fun t ht => by cases ht) (fun t ht => by simp [wr, ht]), hq⟩
    · exact h.elim
  | .block id c, F, w, Q, h => by
    unfold dvc at h
    refine wp_block (wp_mono (dvc_sound c F w _ h) fun e a w hq => ?_)
    obtain ⟨ho, F', rfl, hA, hq⟩ := hq
    cases e with
    | normal => exact ⟨rfl, F', rfl, hA, hq⟩
    | exit i =>
      simp only [blockQ] at hq
      simp only [Exit.inBlock]
      by_cases hi : i = id
      · subst hi
        simp only [Nat.beq_refl] at hq
        rw [if_pos rfl]
        exact ⟨rfl, F', rfl, hA, hq⟩
      · have : Nat.beq i id = false := by
          cases hb : Nat.beq i id with
          | false => rfl
          | true => exact absurd (Nat.eq_of_beq_eq_true hb) hi
        simp only [this] at hq
        rw [if_neg hi]
        exact ⟨rfl, F', rfl, hA, hq⟩
    | ret => exact ⟨rfl, F', rfl, hA, hq⟩
    | _ => simp [okE] at ho
  | .loop c, F, w, Q, h => by
    unfold dvc at h
    split at h
    · exact h.elim
    · rename_i r hr
      split at h
      · exact h.elim
      · rename_i ms hms
        obtain ⟨I, μ, h0, hround⟩ := h
        have hwr : ∀ t ∈ ms, t ∈ wr an (.loop c) := fun t ht => by simp [wr, hr, hms, ht]
        have hwc : ∀ t ∈ wr an c, t ∈ wr an (.loop c) := fun t ht => by simp [wr, ht]
        have hmu : ∀ G : Fr, (ms.map fun m => (act G d).tmps.getD m undef) = gets G ms := by
          intro G
          clear h0 hround hms hwr
          induction ms with
          | nil => rfl
          | cons m ms ih =>
            simp only [List.map_cons, gets]
            rw [ih]
            congr 1
            unfold act; rw [nth_eq, nth_den]
        refine wp_loop (fun a w => ∃ G, a = act G d ∧ Agree (wr an c) F G ∧ I (gets G ms) w)
          (fun a w => μ (ms.map fun m => a.tmps.getD m undef) w) ⟨F, rfl, Agree.refl _ _, h0⟩ ?_
        rintro a w' ⟨G, rfl, hA, hI⟩
        have hag := head_agree (ms := ms) hA
        have hact := head_act (d := d) (ms := ms) hA
        have hb := hround _ (fun n => getU (nthO G n)) _ hI
        have hd := dvc_sound c _ w' _ hb (d := d)
        rw [← hact] at hd
        refine wp_mono hd fun e a w'' hq => ?_
        obtain ⟨ho, F'', rfl, hA', hq⟩ := hq
        have hA2 : Agree (wr an c) F F'' := (hA.trans hag (fun t ht => ht) (fun t ht => by cases ht)).trans hA' (fun t ht => ht) (fun t ht => ht)
        cases e with
        | normal =>
          simp only [Exit.then]
          rw [hmu, hmu]
          exact ⟨⟨F'', rfl, hA2, hq.1⟩, hq.2⟩
        | exit i => exact ⟨rfl, F'', rfl, ⟨hA2.1, fun t ht => hA2.2 t fun m => ht (hwc t m)⟩, hq⟩
        | ret => exact ⟨rfl, F'', rfl, ⟨hA2.1, fun t ht => hA2.2 t fun m => ht (hwc t m)⟩, hq⟩
        | _ => simp [okE] at ho
  | .exit i, F, w, Q, h => wp_exit (liftQ_of rfl (Agree.refl _ _) h)
  | .ret, F, w, Q, h => wp_ret (liftQ_of rfl (Agree.refl _ _) h)
  | .rangeFunc _ _ _ _, _, _, _, h => h.elim
  | .scope _, _, _, _, h => h.elim
  | .label _, _, _, _, h => h.elim
  | .goto _, _, _, _, h => h.elim
  | .refuse _, _, _, _, h => h.elim

/-! ### Functions -/
def resV (P : Program) : List ResultVar → Fr → World → (List Value → Prop) → Prop
  | [], _, _, K => K []
  | .tmp t :: rs, F, w, K => resV P rs F w fun vs => K (getU (nthO F t) :: vs)
  | .cell a t :: rs, F, w, K => match aggOf P t, sizeN P t with
    | some g, some n => LoadV g n (getU (nthO F a)) w fun v => resV P rs F w fun vs => K (v :: vs)
    | _, _ => False

def tupV : List Value → Value
  | [v] => v
  | vs => .tuple vs.toArray

def retQ (P : Program) (rs : List ResultVar) (R : Value → World → Prop) : Kt
  | .normal, F, w => resV P rs F w fun vs => R (tupV vs) w
  | .ret, F, w => resV P rs F w fun vs => R (tupV vs) w
  | _, _, _ => False

def resOne (a : Act) : ResultVar → Sem Value
  | .tmp t => pure (a.tmps.getD t undef)
  | .cell p t => do loadVar t (← asAddr (a.tmps.getD p undef))

theorem results_eq (fn : Func) (a : Act) : results fn a.tmps = (do
    let vs ← fn.results.mapM (resOne a)
    pure (if h : vs.size = 1 then vs[0] else .tuple vs)) := by
  unfold results
  congr 2

theorem resV_sound {P : Program} : ∀ (rs : List ResultVar) (F : Fr) (w : World) (d : List Deferred) (K : List Value → Prop), resV P rs F w K →
    ∃ vs, (rs.mapM (resOne (act F d))).run P w = .ok vs w ∧ K vs
  | [], F, w, d, K, h => ⟨[], by simp, h⟩
  | .tmp t :: rs, F, w, d, K, h => by
    obtain ⟨vs, hr, hK⟩ := resV_sound rs F w d _ h
    refine ⟨_, ?_, hK⟩
    have e : (act F d).tmps.getD t undef = getU (nthO F t) := by unfold act; rw [nth_eq, nth_den]
    simp only [List.mapM_cons, resOne, Sem.run_bind, Sem.run_pure, Result.andThen_ok, e, hr]
  | .cell a t :: rs, F, w, d, K, h => by
    unfold resV at h
    split at h
    · rename_i g n hg hn
      obtain ⟨v, hl, h'⟩ := load_sound hg hn h
      obtain ⟨vs, hr, hK⟩ := resV_sound rs F w d _ h'
      refine ⟨_, ?_, hK⟩
      have e : (act F d).tmps.getD a undef = getU (nthO F a) := by unfold act; rw [nth_eq, nth_den]
      unfold LoadV at h
      split at h
      · rename_i ad hp
        rw [hp] at hl e
        simp only [Instr.loadAt, Instr.sureAddr, Sem.run_bind, Sem.run_pure, Result.andThen_ok] at hl
        have ha : (asAddr (.pointer (some ad))).run P w = .ok ad w := rfl
        simp only [List.mapM_cons, resOne, Sem.run_bind, Sem.run_pure, Result.andThen_ok, e, ha, hl, hr]
      · exact h.elim
    · exact h.elim

theorem results_run {P : Program} {fn : Func} {F : Fr} {w : World} {d : List Deferred} {R : Value → World → Prop} (h : resV P fn.results.toList F w fun vs => R (tupV vs) w) :
    ∃ v, (results fn (act F d).tmps).run P w = .ok v w ∧ R v w := by
  obtain ⟨vs, hr, hR⟩ := resV_sound _ F w d _ h
  refine ⟨_, ?_, hR⟩
  rw [results_eq, Array.mapM_eq_mapM_toList]
  simp only [Sem.run_bind, Sem.run_map, hr, Result.andThen_ok, Sem.run_pure]
  congr 1
  match vs with
  | [] => rfl
  | [v] => rfl
  | v :: u :: vs => simp [tupV]

def frame0 (args : List Value) (n : Nat) : Fr := args.map some ++ List.replicate (n - args.length) none

def annOf : List (Nat × List Nat) → Nat → Option (List Nat)
  | [], _ => none
  | (k, l) :: r, n => match Nat.beq k n with | true => some l | false => annOf r n

def bodyOf (fn : Func) : Code := match fn.body with | some c => c | none => .skip

/-- **A call, out of its text's conditions.** -/
theorem calls_of_dvc {P : Program} {f : FuncId} {fn : Func} {c : Code} {args : List Value} {w : World} {R : Value → World → Prop} (an : Ann)
    (hf : P.funcs[f]? = some fn) (hb : fn.body = some c) (h : dvc P an c (frame0 args fn.ntmps) w (retQ P fn.results.toList R)) :
    Calls P f args.toArray w (Ret R) := by
  refine calls_of_wp hf hb ?_
  have he : ({ tmps := args.toArray ++ Array.replicate (fn.ntmps - args.toArray.size) undef, defers := [] } : Act) = act (frame0 args fn.ntmps) [] := by
    unfold act den frame0
    simp only [List.map_append, List.map_map, List.map_replicate, getU, List.size_toArray]
    congr 1
    apply Array.toList_inj.1
    simp [Function.comp_def, getU]
  rw [he]
  refine wp_mono (dvc_sound c _ w _ h) fun e a w' hq => ?_
  obtain ⟨ho, F', rfl, hA, hq⟩ := hq
  cases e with
  | normal =>
    obtain ⟨v, hr, hR⟩ := results_run (d := []) (fn := fn) hq
    exact ⟨rfl, v, hr, v, rfl, hR⟩
  | ret =>
    obtain ⟨v, hr, hR⟩ := results_run (d := []) (fn := fn) hq
    exact ⟨rfl, v, hr, v, rfl, hR⟩
  | exit i => exact hq.elim
  | _ => simp [okE] at ho

theorem callsB {P : Program} {f : FuncId} {fn : Func} {args : List Value} {w : World} {R : Value → World → Prop} (an : Ann)
    (hf : P.funcs[f]? = some fn) (hb : fn.body.isSome = true) (h : dvc P an (bodyOf fn) (frame0 args fn.ntmps) w (retQ P fn.results.toList R)) :
    Calls P f args.toArray w (Ret R) := by
  cases hc : fn.body with
  | none => rw [hc] at hb; cases hb
  | some c => exact calls_of_dvc an hf hc (by unfold bodyOf at h; rw [hc] at h; exact h)
end Go.V
