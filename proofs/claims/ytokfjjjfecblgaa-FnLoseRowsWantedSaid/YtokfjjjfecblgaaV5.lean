/- Operations, lists of operations. -/
import Derived.Test.YtokfjjjfecblgaaV4
namespace Go.V
open Go

theorem wp_value {P : Program} {o : Oper} {a : Act} {w w' : World} {next : Act → World → Prop} {Q : Exit → Act → World → Prop} {v : Value}
    (h : (execOp a.eval o).run P w = .ok (.value v) w') (hn : next (a.put o.dst v) w') : o.wp P a w next Q := by
  unfold Oper.wp; rw [h]; exact hn

theorem wp_skip' {P : Program} {o : Oper} {a : Act} {w w' : World} {next : Act → World → Prop} {Q : Exit → Act → World → Prop}
    (h : (execOp a.eval o).run P w = .ok .skip w') (hn : next (a.put o.dst undef) w') : o.wp P a w next Q := by
  unfold Oper.wp; rw [h]; exact hn

theorem wp_call {P : Program} {o : Oper} {a : Act} {w : World} {next : Act → World → Prop} {Q : Exit → Act → World → Prop} {g : FuncId} {args : Array Value} {K : Value → World → Prop}
    (h : (execOp a.eval o).run P w = .ok (.enter g args) w) (hc : Calls P g args w (Ret K)) (hn : ∀ v w', K v w' → next (a.put o.dst v) w') : o.wp P a w next Q := by
  unfold Oper.wp; rw [h]
  exact hc.mono fun e w' ⟨v, he, hv⟩ => by subst he; exact hn _ _ hv

theorem callFunc_run {P : Program} {g : FuncId} (h : okFn P g = true) (args : Array Value) (w : World) : (callFunc g args).run P w = .ok (.enter g args) w := by
  unfold okFn at h
  split at h
  · rename_i fn hf
    simp at h
    simp [callFunc, hf, h.1]
    intro hb; rw [hb] at h; simp at h
  · cases h

theorem vop_sound {P : Program} {f : List Value} {d : List Deferred} {o : Oper} {w : World} {K : Value → World → Prop} {next : Act → World → Prop} {Q : Exit → Act → World → Prop}
    (h : vop P (ev f) o.op w K) (hn : ∀ v w', K v w' → next ((⟨f.toArray, d⟩ : Act).put o.dst v) w') : o.wp P ⟨f.toArray, d⟩ w next Q := by
  have pure_case : ∀ {op : Op}, o.op = op → vpure P (ev f) op (fun v => K v w) → o.wp P ⟨f.toArray, d⟩ w next Q := by
    intro op ho hp
    subst ho
    obtain ⟨v, hr, hK⟩ := vpure_sound (fun v => rfl) hp
    exact wp_value (by rw [act_eval]; exact hr w) (hn _ _ hK)
  obtain ⟨dst, op, type, pos, after, guard⟩ := o
  simp only at h pure_case
  unfold vop at h
  split at h
  · split at h
    · rename_i g n hg hs
      obtain ⟨v, hr, hK⟩ := load_sound hg hs h
      exact wp_value (by rw [act_eval]; simp [execOp, hr]) (hn _ _ hK)
    · exact h.elim
  · split at h
    · rename_i n hs
      obtain ⟨w', hr, hK⟩ := store_sound hs h
      exact wp_skip' (by rw [act_eval]; simp [execOp, hr]) (hn _ _ hK)
    · exact h.elim
  · split at h
    · rename_i z hz
      obtain ⟨v, w', hr, hK⟩ := alloc_sound hz h
      exact wp_value (by rw [act_eval]; simp [execOp, hr]) (hn _ _ hK)
    · exact h.elim
  · obtain ⟨v, w', hr, hK⟩ := box_sound (P := P) h
    exact wp_value (by rw [act_eval]; simp [execOp, hr]) (hn _ _ hK)
  · rename_i t len parts
    split at h
    · rename_i e ht
      split at h
      · rename_i n z hs hz
        split at h
        · rename_i hd
          obtain ⟨v, w', hr, hK⟩ := bslice_sound (parts := parts.map fun (i, x) => (i, ev f x)) ht hs hz (of_decide_eq_true hd) (by simpa using h)
          exact wp_value (by rw [act_eval]; simp only [execOp]; simp [hr]) (hn _ _ hK)
        · exact h.elim
      · exact h.elim
    · exact h.elim
  · split at h
    · rename_i e ht
      split at h
      · rename_i n z b hs hz hb
        obtain ⟨v, w', hr, hK⟩ := makeSlice_sound ht hs hz hb h
        exact wp_value (by rw [act_eval]; simp [execOp, hr]) (hn _ _ hK)
      · exact h.elim
    · exact h.elim
  · exact wp_value (v := .map (some w.heap.size)) (by rw [act_eval]; simp [execOp, Instr.makeMap]) (hn _ _ (h _ (new_alloc w _)))
  · obtain ⟨v, w', hr, hK⟩ := h
    exact wp_value (by rw [act_eval]; simp [execOp, hr]) (hn _ _ hK)
  · obtain ⟨w', hr, hK⟩ := h
    exact wp_skip' (by rw [act_eval]; simp [execOp, hr]) (hn _ _ hK)
  · rename_i bop t x y yt
    split at h
    · rename_i e ht
      split at h
      · rename_i n hs
        obtain ⟨v, hr, hK⟩ := peqv_sound (neg := false) ht hs h
        have := run_mapN (hr x y)
        exact wp_value (by rw [act_eval]; simp only [execOp]; simpa using this) (hn _ _ hK)
      · rename_i n hs
        obtain ⟨v, hr, hK⟩ := peqv_sound (neg := true) ht hs h
        have := run_mapN (hr x y)
        exact wp_value (by rw [act_eval]; simp only [execOp]; simpa using this) (hn _ _ hK)
      · exact h.elim
    · exact pure_case rfl h
  · rename_i g args ts
    split at h
    · rename_i hok
      refine wp_call (g := g) (args := args.map (ev f)) ?_ (by
        have e : (args.toList.map (ev f)).toArray = args.map (ev f) := by apply Array.toList_inj.1; simp
        rw [← e]; exact h) hn
      rw [act_eval]
      simp [execOp, resolve, Deferred.ofValue, ev, invoke, callFunc_run hok]
    · exact h.elim
  · rename_i fo args ts hne
    unfold CallFV at h
    split at h
    · rename_i g first cap hf
      obtain ⟨hok, hc⟩ := h
      refine wp_call (g := g) (args := first ++ args.map (ev f) ++ cap) ?_ (by
        have e : (first.toList ++ args.toList.map (ev f) ++ cap.toList).toArray = first ++ args.map (ev f) ++ cap := by
          apply Array.toList_inj.1; simp
        rw [← e]; exact hc) hn
      rw [act_eval]
      simp [execOp, resolve, hf, Deferred.ofValue, invoke, callFunc_run hok]
    · exact h.elim
  · rename_i r name args ts
    obtain ⟨t, v, g, x, hr, hm, hok, hc⟩ := h
    refine wp_call (g := g) (args := #[x] ++ args.map (ev f)) ?_ (by
        have e : (x :: args.toList.map (ev f)).toArray = #[x] ++ args.map (ev f) := by
          apply Array.toList_inj.1; simp
        rw [← e]; exact hc) hn
    rw [act_eval]
    have e0 : (#[Value.iface t v] ++ args.map (ev f))[0]? = some (Value.iface t v) := by simp [Array.getElem?_append]
    have e1 : (args.map (ev f)).extract 0 args.size = args.map (ev f) := by
      apply Array.toList_inj.1; simp [List.take_of_length_le]
    simp [execOp, resolve, hr, invoke, e0, e1, callMethod, hm, callFunc_run hok]
  · rename_i args ts
    split at h
    · rename_i s x t u ha hts
      split at h
      · rename_i htu
        have htu' : t = u := Nat.eq_of_beq_eq_true htu
        subst htu'
        obtain ⟨v, w', hr, hK⟩ := h
        have ha' : args = #[s, x] := by rw [← Array.toArray_toList (xs := args), ha]
        have ht' : ts = #[t, t] := by rw [← Array.toArray_toList (xs := ts), hts]
        subst ha' ht'
        exact wp_value (by rw [act_eval]; simp [execOp, resolve, invoke, builtin, hr]) (hn _ _ hK)
      · exact h.elim
    · exact h.elim
  · rename_i args ts
    split at h
    · rename_i s x ha
      obtain ⟨v, w', hr, hK⟩ := h
      have ha' : args = #[s, x] := by rw [← Array.toArray_toList (xs := args), ha]
      subst ha'
      exact wp_value (by rw [act_eval]; simp [execOp, resolve, invoke, builtin, hr]) (hn _ _ hK)
    · exact h.elim
  · rename_i args ts
    split at h
    · rename_i x t ha hts
      split at h
      · rename_i k e ht
        unfold LenMV at h
        split at h
        · rename_i r hx
          obtain ⟨es, c, hes, hK⟩ := h
          have ha' : args = #[x] := by rw [← Array.toArray_toList (xs := args), ha]
          have ht' : ts = #[t] := by rw [← Array.toArray_toList (xs := ts), hts]
          subst ha' ht'
          refine wp_value (v := .int .i64 es.size) (w' := w) ?_ (hn _ _ hK)
          have hg : (getObj r).run P w = .ok (.map es c) w := by simp [getObj, Sem.run, hes]
          rw [act_eval]
          simp [execOp, resolve, invoke, builtin, Builtin.len_, run_und ht, hx, hg, goInt]
        · exact h.elim
      · exact pure_case rfl h
    · exact h.elim
  · exact pure_case rfl h

/-! ### Lists of operations, in the order of the text -/
abbrev Fr := List (Option Value)

def getU : Option Value → Value
  | some v => v
  | none => undef

def den (F : Fr) : List Value := F.map getU

def nthO : Fr → Nat → Option Value
  | [], _ => none
  | v :: _, 0 => v
  | _ :: f, n + 1 => nthO f n

def updO : Fr → Nat → Option Value → Fr
  | [], _, _ => []
  | _ :: f, 0, v => v :: f
  | x :: f, n + 1, v => x :: updO f n v

def putO (f : Fr) : Option Nat → Option Value → Fr
  | some d, v => updO f d v
  | none, _ => f

def evO (f : Fr) : Operand → Value
  | .tmp t => getU (nthO f t)
  | .const v => v
  | .global g => .pointer (some ⟨g, 0, none⟩)
  | .func g => .func (.func g) #[] #[]

theorem nth_den (F : Fr) (n : Nat) : nth (den F) n = getU (nthO F n) := by
  induction F generalizing n with
  | nil => rfl
  | cons x f ih => cases n with
    | zero => rfl
    | succ n => exact ih n

theorem upd_den (F : Fr) (n : Nat) (o : Option Value) : den (updO F n o) = upd (den F) n (getU o) := by
  induction F generalizing n with
  | nil => rfl
  | cons x f ih => cases n with
    | zero => rfl
    | succ n => simp only [updO, den, List.map_cons, upd] at ih ⊢; rw [← ih n]

theorem put_den (F : Fr) (d : Option Nat) (o : Option Value) : den (putO F d o) = putD (den F) d (getU o) := by
  cases d with
  | none => rfl
  | some n => exact upd_den F n o

theorem ev_den (F : Fr) : ev (den F) = evO F := by
  funext x
  cases x with
  | tmp t => exact nth_den F t
  | _ => rfl

theorem den_length (F : Fr) : (den F).length = F.length := by simp [den]

/-- The state that a frame stands for. -/
def act (F : Fr) (d : List Deferred) : Act := ⟨(den F).toArray, d⟩

theorem act_putO (F : Fr) (d : List Deferred) (o : Option Nat) (v : Option Value) : (act F d).put o (getU v) = act (putO F o v) d := by
  unfold act; rw [act_put, put_den]

theorem act_evO (F : Fr) (d : List Deferred) : (act F d).eval = evO F := by
  unfold act; rw [act_eval, ev_den]

/-- A slot is set to what it holds. -/
theorem act_same (F : Fr) (d : List Deferred) {n : Nat} {v : Value} (h : getU (nthO F n) = v) : act (updO F n (some v)) d = act F d := by
  unfold act; rw [upd_den]
  have : upd (den F) n (getU (some v)) = den F := by
    conv => rhs; rw [← upd_nth (den F) n]
    rw [nth_den, h]; rfl
  rw [this]

def guardDst (all : List Oper) (j : Nat) : Option Nat := match all[j]? with | some o => o.dst | none => none

def vops (P : Program) (all : List Oper) : List Oper → Fr → World → (Fr → World → Prop) → Prop
  | [], f, w, K => K f w
  | o :: rest, f, w, K =>
    match o.guard with
    | none => vop P (evO f) o.op w fun v w' => vops P all rest (putO f o.dst (some v)) w' K
    | some (j, want) => match guardDst all j with
      | none => False
      | some g => match nthO f g with
        | none => vops P all rest (putO f o.dst none) w K
        | some x => SplitV x
            (match want with
              | true => vop P (evO (updO f g (some (.bool true)))) o.op w fun v w' => vops P all rest (putO (updO f g (some (.bool true))) o.dst (some v)) w' K
              | false => vops P all rest (putO (updO f g (some (.bool true))) o.dst none) w K)
            (match want with
              | true => vops P all rest (putO (updO f g (some (.bool false))) o.dst none) w K
              | false => vop P (evO (updO f g (some (.bool false)))) o.op w fun v w' => vops P all rest (putO (updO f g (some (.bool false))) o.dst (some v)) w' K)

theorem yielded_act {all : List Oper} {F : Fr} {d : List Deferred} {j g : Nat} (hg : guardDst all j = some g) :
    yielded all.toArray (act F d).tmps j = match getU (nthO F g) with | .bool b => some b | _ => none := by
  have hd : ((all.toArray[j]?).bind (·.dst)) = some g := by
    unfold guardDst at hg
    simp only [List.getElem?_toArray]
    cases h : all[j]? with
    | none => simp [h] at hg
    | some o => simpa [h] using hg
  unfold yielded
  rw [hd]
  have e : (act F d).tmps.getD g undef = getU (nthO F g) := by
    unfold act; rw [nth_eq, nth_den]
  cases hx : (act F d).tmps[g]? with
  | none =>
    have : getU (nthO F g) = undef := by rw [← e]; simp [hx]
    simp [hx, this, undef]
  | some v =>
    have : getU (nthO F g) = v := by rw [← e]; simp [hx]
    simp [hx, this]
    cases v <;> rfl

theorem vop_soundO {P : Program} {F : Fr} {d : List Deferred} {o : Oper} {w : World} {K : Value → World → Prop} {next : Act → World → Prop} {Q : Exit → Act → World → Prop}
    (h : vop P (evO F) o.op w K) (hn : ∀ v w', K v w' → next (act (putO F o.dst (some v)) d) w') : o.wp P (act F d) w next Q := by
  rw [← ev_den] at h
  exact vop_sound h fun v w' hk => by
    have := hn v w' hk
    rw [← act_putO] at this
    exact this

/-! ### Frames that agree -/
/-- Outside ds the frames stand for the same. -/
def Agree (ds : List Nat) (F F' : Fr) : Prop := F'.length = F.length ∧ ∀ t, t ∉ ds → getU (nthO F' t) = getU (nthO F t)

theorem Agree.refl (ds : List Nat) (F : Fr) : Agree ds F F := ⟨rfl, fun _ _ => rfl⟩
theorem Agree.trans {ds es fs : List Nat} {F G H : Fr} (h : Agree ds F G) (k : Agree es G H) (h1 : ∀ t ∈ ds, t ∈ fs) (h2 : ∀ t ∈ es, t ∈ fs) : Agree fs F H :=
  ⟨k.1.trans h.1, fun t ht => (k.2 t fun m => ht (h2 t m)).trans (h.2 t fun m => ht (h1 t m))⟩

theorem updO_length (F : Fr) (n : Nat) (v : Option Value) : (updO F n v).length = F.length := by
  induction F generalizing n with
  | nil => rfl
  | cons x f ih => cases n with
    | zero => rfl
    | succ n => simp [updO, ih]

theorem nthO_upd_ne (F : Fr) {n m : Nat} (v : Option Value) (h : n ≠ m) : nthO (updO F n v) m = nthO F m := by
  induction F generalizing n m with
  | nil => rfl
  | cons x f ih => cases n with
    | zero => cases m with
      | zero => exact absurd rfl h
      | succ m => rfl
    | succ n => cases m with
      | zero => rfl
      | succ m => simp only [updO, nthO]; exact ih (by omega)

theorem nthO_upd_same (F : Fr) {n : Nat} (v : Option Value) (h : n < F.length) : nthO (updO F n v) n = v := by
  induction F generalizing n with
  | nil => simp at h
  | cons x f ih => cases n with
    | zero => rfl
    | succ n => simp only [updO, nthO]; exact ih (by simpa using h)

theorem nthO_ge (F : Fr) {n : Nat} (h : F.length ≤ n) : nthO F n = none := by
  induction F generalizing n with
  | nil => rfl
  | cons x f ih => cases n with
    | zero => simp at h
    | succ n => simp only [nthO]; exact ih (by simpa using h)

theorem Agree.put {F : Fr} {d : Nat} {v : Option Value} {ds : List Nat} (h : d ∈ ds) : Agree ds F (updO F d v) :=
  ⟨updO_length _ _ _, fun t ht => by rw [nthO_upd_ne]; intro e; subst e; exact ht h⟩

theorem Agree.putO {F : Fr} {d : Option Nat} {v : Option Value} {ds : List Nat} (h : ∀ n, d = some n → n ∈ ds) : Agree ds F (putO F d v) := by
  cases d with
  | none => exact Agree.refl _ _
  | some n => exact Agree.put (h n rfl)

theorem Agree.same {F : Fr} {n : Nat} {v : Value} (h : getU (nthO F n) = v) (ds : List Nat) : Agree ds F (updO F n (some v)) := by
  refine ⟨updO_length _ _ _, fun t _ => ?_⟩
  by_cases e : n = t
  · subst e
    by_cases hl : n < F.length
    · rw [nthO_upd_same F _ hl, h]; rfl
    · rw [nthO_ge _ (by rw [updO_length]; omega), nthO_ge F (by omega)]
  · rw [nthO_upd_ne F _ e]

theorem vops_sound {P : Program} {all : List Oper} {d : List Deferred} {Q : Exit → Act → World → Prop} {ds : List Nat} : ∀ (l : List Oper) (F : Fr) (w : World) (K : Fr → World → Prop),
    (∀ o ∈ l, ∀ n, o.dst = some n → n ∈ ds) → vops P all l F w K → (∀ F' w', Agree ds F F' → K F' w' → Q .normal (act F' d) w') → wpList P all.toArray Q l (act F d) w
  | [], F, w, K, _, h, hQ => hQ _ _ (Agree.refl _ _) h
  | o :: rest, F, w, K, hds, h, hQ => by
    have hds' : ∀ o ∈ rest, ∀ n, o.dst = some n → n ∈ ds := fun o' ho' => hds o' (by simp [ho'])
    have hd0 : ∀ n, o.dst = some n → n ∈ ds := hds o (by simp)
    unfold vops at h
    split at h
    · rename_i hgd
      refine wpList_plain hgd fun next hnext => ?_
      exact vop_soundO h fun v w' hk => hnext _ _ (vops_sound rest _ _ K hds' hk fun F' w' hA hK => hQ F' w' ((Agree.putO hd0).trans hA (fun _ h => h) (fun _ h => h)) hK)
    · rename_i j want hgd
      split at h
      · exact h.elim
      · rename_i g hg
        have hy := yielded_act (F := F) (d := d) hg
        split at h
        · rename_i hx
          rw [hx] at hy
          refine wpList_skip (by simp [Region.wanted, hgd, hy, getU, undef]) ?_
          have := act_putO F d o.dst none
          simp only [getU] at this
          rw [this]
          exact vops_sound rest _ _ K hds' h fun F' w' hA hK => hQ F' w' ((Agree.putO hd0).trans hA (fun _ h => h) (fun _ h => h)) hK
        · rename_i x hx
          rw [hx] at hy
          unfold SplitV at h
          split at h
          · have hs := act_same F d (n := g) (v := .bool true) (by rw [hx]; rfl)
            have hA0 : Agree ds F (updO F g (some (.bool true))) := Agree.same (by rw [hx]; rfl) _
            split at h
            · unfold wpList
              rw [if_pos (by simp [Region.wanted, hgd, hy, getU])]
              rw [← hs]
              exact .inl (vop_soundO h fun v w' hk => vops_sound rest _ _ K hds' hk fun F' w' hA hK => hQ F' w' ((hA0.trans (Agree.putO hd0) (fun _ h => h) (fun _ h => h)).trans hA (fun _ h => h) (fun _ h => h)) hK)
            · refine wpList_skip (by simp [Region.wanted, hgd, hy, getU]) ?_
              rw [← hs]
              have := act_putO (updO F g (some (.bool true))) d o.dst none
              simp only [getU] at this
              rw [this]
              exact vops_sound rest _ _ K hds' h fun F' w' hA hK => hQ F' w' ((hA0.trans (Agree.putO hd0) (fun _ h => h) (fun _ h => h)).trans hA (fun _ h => h) (fun _ h => h)) hK
          · have hs := act_same F d (n := g) (v := .bool false) (by rw [hx]; rfl)
            have hA0 : Agree ds F (updO F g (some (.bool false))) := Agree.same (by rw [hx]; rfl) _
            split at h
            · refine wpList_skip (by simp [Region.wanted, hgd, hy, getU]) ?_
              rw [← hs]
              have := act_putO (updO F g (some (.bool false))) d o.dst none
              simp only [getU] at this
              rw [this]
              exact vops_sound rest _ _ K hds' h fun F' w' hA hK => hQ F' w' ((hA0.trans (Agree.putO hd0) (fun _ h => h) (fun _ h => h)).trans hA (fun _ h => h) (fun _ h => h)) hK
            · unfold wpList
              rw [if_pos (by simp [Region.wanted, hgd, hy, getU])]
              rw [← hs]
              exact .inl (vop_soundO h fun v w' hk => vops_sound rest _ _ K hds' hk fun F' w' hA hK => hQ F' w' ((hA0.trans (Agree.putO hd0) (fun _ h => h) (fun _ h => h)).trans hA (fun _ h => h) (fun _ h => h)) hK)
          · exact h.elim
end Go.V
