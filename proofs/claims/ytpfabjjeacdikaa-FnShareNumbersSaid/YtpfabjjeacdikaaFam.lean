/- Plans that lie in memory of their own: each list in a block of its own. -/
import Derived.Test.YtpfabjjeacdikaaUses
import Derived.Test.YtpfabjjeacdikaaSame
namespace Go.Proofs.Ytpfabjjeacdikaa
open Go Go.V

theorem FInts.one {w : World} {B : Nat → Prop} {v : Value} {xs : List Int} (h : FInts w B v xs) : ∃ b, FInts w (· = b) v xs ∧ (xs ≠ [] → B b ∧ b < w.heap.size) := by
  obtain ⟨a, c, hv, hc, hr⟩ := h.out
  by_cases hne : xs = []
  · subst hne; exact ⟨0, ⟨a, c, hv, hc, fun h => absurd rfl h⟩, fun h => absurd rfl h⟩
  · obtain ⟨b, off, cur, ha, h1, hb, r⟩ := hr hne
    exact ⟨b, ⟨a, c, hv, hc, fun _ => ⟨b, off, cur, ha, rfl, hb, r⟩⟩, fun _ => ⟨h1, lt_of_at hb⟩⟩
theorem FInts.lt {w : World} {b : Nat} {v : Value} {xs : List Int} (h : FInts w (· = b) v xs) (hne : xs ≠ []) : b < w.heap.size ∧ ∃ cur, w.heap[b]? = some (.cells cur T.int (0, 0)) := by
  obtain ⟨a, c, hv, hc, hr⟩ := h.out
  obtain ⟨b', off, cur, ha, rfl, hb, _⟩ := hr hne
  exact ⟨lt_of_at hb, cur, hb⟩
/-- An empty list lies in no block. -/
theorem FInts.keep1 {w w' : World} {b : Nat} {v : Value} {xs : List Int} (h : FInts w (· = b) v xs) {S : Nat → Prop} (hc : Chg S w w') (hs : xs ≠ [] → ¬ S b) : FInts w' (· = b) v xs := by
  by_cases hne : xs = []
  · subst hne
    obtain ⟨a, c, hv, hc, _⟩ := h.out
    exact ⟨a, c, hv, hc, fun h => absurd rfl h⟩
  · exact h.keep hc fun k hk => by subst hk; exact hs hne

/-- The lists of a plan: 2i is what node i needs, 2i + 1 its row. -/
def slot (p : List Nd) (s : Nat) : List Int := if s % 2 = 0 then (nd p (s / 2)).frm else (nd p (s / 2)).row
theorem slot_f (p : List Nd) (i : Nat) : slot p (2 * i) = (nd p i).frm := by unfold slot; rw [if_pos (by omega), show 2 * i / 2 = i by omega]
theorem slot_r (p : List Nd) (i : Nat) : slot p (2 * i + 1) = (nd p i).row := by unfold slot; rw [if_neg (by omega), show (2 * i + 1) / 2 = i by omega]

structure Inner (w : World) (B : Nat → Prop) (p : List Nd) (bs : Nat → Nat) (fv rv : Nat → Value) : Prop where
  ints : ∀ i, i < p.length → FInts w (· = bs (2 * i)) (fv i) (nd p i).frm ∧ FInts w (· = bs (2 * i + 1)) (rv i) (nd p i).row ∧ Sml (nd p i)
  inB : ∀ s, s < 2 * p.length → slot p s ≠ [] → B (bs s)
  inj : ∀ s t, s < 2 * p.length → t < 2 * p.length → slot p s ≠ [] → slot p t ≠ [] → bs s = bs t → s = t

theorem Inner.lt {w : World} {B : Nat → Prop} {p : List Nd} {bs : Nat → Nat} {fv rv : Nat → Value} (h : Inner w B p bs fv rv) {s : Nat} (hs : s < 2 * p.length) (hne : slot p s ≠ []) : bs s < w.heap.size ∧ ∃ cur, w.heap[bs s]? = some (.cells cur T.int (0, 0)) := by
  obtain ⟨i, rfl | rfl⟩ : ∃ i, s = 2 * i ∨ s = 2 * i + 1 := ⟨s / 2, by omega⟩
  · rw [slot_f] at hne; exact (h.ints i (by omega)).1.lt hne
  · rw [slot_r] at hne; exact (h.ints i (by omega)).2.1.lt hne
theorem Inner.keep {w w' : World} {B : Nat → Prop} {p : List Nd} {bs : Nat → Nat} {fv rv : Nat → Value} (h : Inner w B p bs fv rv) {S : Nat → Prop} (hc : Chg S w w') (hs : ∀ s, s < 2 * p.length → slot p s ≠ [] → ¬ S (bs s)) : Inner w' B p bs fv rv :=
  ⟨fun i hi => by
    obtain ⟨h1, h2, h3⟩ := h.ints i hi
    exact ⟨h1.keep1 hc fun hne => hs (2 * i) (by omega) (by rw [slot_f]; exact hne), h2.keep1 hc fun hne => hs (2 * i + 1) (by omega) (by rw [slot_r]; exact hne), h3⟩, h.inB, h.inj⟩
theorem Inner.ext {w w' : World} {B : Nat → Prop} {p : List Nd} {bs : Nat → Nat} {fv rv : Nat → Value} (h : Inner w B p bs fv rv) (hc : Ext w w') : Inner w' B p bs fv rv := h.keep hc fun _ _ _ => id
theorem Inner.mono {w : World} {B B' : Nat → Prop} {p : List Nd} {bs : Nat → Nat} {fv rv : Nat → Value} (h : Inner w B p bs fv rv) (hb : ∀ b, b < w.heap.size → B b → B' b) : Inner w B' p bs fv rv :=
  ⟨h.ints, fun s hs hne => hb _ (h.lt hs hne).1 (h.inB s hs hne), h.inj⟩
theorem Inner.nil {w : World} {B : Nat → Prop} {bs : Nat → Nat} {fv rv : Nat → Value} : Inner w B [] bs fv rv :=
  ⟨fun i hi => by simp at hi, fun s hs => by simp at hs, fun s t hs => by simp at hs⟩

/-- A new node as a value: its lists lie in blocks that came after w. -/
structure NewNd (w w' : World) (v : Value) (x : Nd) : Prop where
  out : ∃ fv rv b1 b2, v = .agg #[.int .i64 x.kind, fv, rv] ∧ FInts w' (· = b1) fv x.frm ∧ FInts w' (· = b2) rv x.row ∧ (x.frm ≠ [] → w.heap.size ≤ b1) ∧ (x.row ≠ [] → w.heap.size ≤ b2) ∧ (x.frm ≠ [] → x.row ≠ [] → b1 ≠ b2)

theorem nd_snoc_lt {p : List Nd} {x : Nd} {i : Nat} (h : i < p.length) : nd (p ++ [x]) i = nd p i := by unfold nd; rw [List.getElem?_append_left h]
theorem nd_snoc {p : List Nd} {x : Nd} : nd (p ++ [x]) p.length = x := by unfold nd; rw [List.getElem?_append_right (Nat.le_refl _)]; simp
theorem slot_snoc_lt {p : List Nd} {x : Nd} {s : Nat} (h : s < 2 * p.length) : slot (p ++ [x]) s = slot p s := by unfold slot; rw [nd_snoc_lt (by omega)]

/-- A new node more. -/
theorem Inner.push {w w' : World} {B : Nat → Prop} {p : List Nd} {bs : Nat → Nat} {fv rv : Nat → Value} (h : Inner w B p bs fv rv) (hE : Ext w w') {x : Nd} {f r : Value} {b1 b2 : Nat} (hf : FInts w' (· = b1) f x.frm) (hr : FInts w' (· = b2) r x.row)
    (h1 : x.frm ≠ [] → w.heap.size ≤ b1) (h2 : x.row ≠ [] → w.heap.size ≤ b2) (h3 : x.frm ≠ [] → x.row ≠ [] → b1 ≠ b2) (hB : ∀ b, w.heap.size ≤ b → B b) (hs : Sml x) :
    Inner w' B (p ++ [x]) (setF (setF bs (2 * p.length) b1) (2 * p.length + 1) b2) (setF fv p.length f) (setF rv p.length r) := by
  have old : ∀ s, s < 2 * p.length → setF (setF bs (2 * p.length) b1) (2 * p.length + 1) b2 s = bs s := fun s hs => by rw [setF_ne _ _ (by omega), setF_ne _ _ (by omega)]
  have nf : setF (setF bs (2 * p.length) b1) (2 * p.length + 1) b2 (2 * p.length) = b1 := by rw [setF_ne _ _ (by omega), setF_same]
  have nr : setF (setF bs (2 * p.length) b1) (2 * p.length + 1) b2 (2 * p.length + 1) = b2 := setF_same _ _ _
  have sf : slot (p ++ [x]) (2 * p.length) = x.frm := by rw [slot_f, nd_snoc]
  have sr : slot (p ++ [x]) (2 * p.length + 1) = x.row := by rw [slot_r, nd_snoc]
  have cases3 : ∀ s, s < 2 * (p ++ [x]).length → s < 2 * p.length ∨ s = 2 * p.length ∨ s = 2 * p.length + 1 := fun s hs => by simp at hs; omega
  refine ⟨fun i hi => ?_, fun s hs hne => ?_, fun s t hs ht hsn htn e => ?_⟩
  · by_cases e : i = p.length
    · subst e
      rw [nf, nr, setF_same, setF_same, nd_snoc]
      exact ⟨hf, hr, hs⟩
    · have hi' : i < p.length := by simp at hi; omega
      rw [old _ (by omega), old _ (by omega), setF_ne _ _ e, setF_ne _ _ e, nd_snoc_lt hi']
      obtain ⟨k1, k2, k3⟩ := h.ints i hi'
      exact ⟨k1.ext hE, k2.ext hE, k3⟩
  · rcases cases3 s hs with hs | rfl | rfl
    · rw [old _ hs]; rw [slot_snoc_lt hs] at hne; exact h.inB s hs hne
    · rw [nf]; rw [sf] at hne; exact hB _ (h1 hne)
    · rw [nr]; rw [sr] at hne; exact hB _ (h2 hne)
  · rcases cases3 s hs with hs | rfl | rfl <;> rcases cases3 t ht with ht | rfl | rfl
    · rw [old _ hs, old _ ht] at e; rw [slot_snoc_lt hs] at hsn; rw [slot_snoc_lt ht] at htn; exact h.inj s t hs ht hsn htn e
    · rw [old _ hs, nf] at e; rw [slot_snoc_lt hs] at hsn; rw [sf] at htn; have := (h.lt hs hsn).1; have := h1 htn; omega
    · rw [old _ hs, nr] at e; rw [slot_snoc_lt hs] at hsn; rw [sr] at htn; have := (h.lt hs hsn).1; have := h2 htn; omega
    · rw [old _ ht, nf] at e; rw [slot_snoc_lt ht] at htn; rw [sf] at hsn; have := (h.lt ht htn).1; have := h1 hsn; omega
    · rfl
    · rw [nf, nr] at e; rw [sf] at hsn; rw [sr] at htn; exact absurd e (h3 hsn htn)
    · rw [old _ ht, nr] at e; rw [slot_snoc_lt ht] at htn; rw [sr] at hsn; have := (h.lt ht htn).1; have := h2 hsn; omega
    · rw [nf, nr] at e; rw [sr] at hsn; rw [sf] at htn; exact absurd e.symm (h3 htn hsn)
    · rfl

/-- The cells of a plan's array. -/
def FCells (cur : Array Value) (off : Nat) (p : List Nd) (fv rv : Nat → Value) (n : Nat) : Prop :=
  ∀ i, i < n → cur[off + 3 * i]? = some (.int .i64 (nd p i).kind) ∧ cur[off + 3 * i + 1]? = some (fv i) ∧ cur[off + 3 * i + 2]? = some (rv i)

/-- A plan in unshared memory that meets B, each list in a block of its own. -/
structure FPlan (w : World) (B : Nat → Prop) (v : Value) (p : List Nd) : Prop where
  out : ∃ a c bs fv rv, v = .slice a p.length c ∧ p.length ≤ c ∧ p.length ≤ 1048576 ∧ Inner w B p bs fv rv ∧
    (p ≠ [] → ∃ b off cur, a = some ⟨b, off, none⟩ ∧ B b ∧ w.heap[b]? = some (.cells cur T.impl_Node (0, 0)) ∧ off + 3 * p.length ≤ cur.size ∧ FCells cur off p fv rv p.length)

theorem FPlan.plan {w : World} {B : Nat → Prop} {v : Value} {p : List Nd} (h : FPlan w B v p) : PlanV w v p := by
  obtain ⟨a, c, bs, fv, rv, hv, hc, hl, hin, hr⟩ := h.out
  refine ⟨a, c, hv, hc, hl, fun i x hi => ?_⟩
  obtain ⟨hlt, rfl⟩ := List.getElem?_eq_some_iff.1 hi
  obtain ⟨b, off, cur, ha, _, hb, _, hcell⟩ := hr (List.ne_nil_of_length_pos (by omega))
  obtain ⟨c1, c2, c3⟩ := hcell i hlt
  obtain ⟨h1, h2, h3⟩ := hin.ints i hlt
  rw [nd_get hlt] at c1 h1 h2 h3
  exact ⟨b, off, fv i, rv i, ha, by rw [cell_of_row w b _ _ _ (0, 0) hb]; exact c1, by rw [cell_of_row w b _ _ _ (0, 0) hb]; exact c2, by rw [cell_of_row w b _ _ _ (0, 0) hb]; exact c3, h1.ints, h2.ints, h3⟩

theorem tags2 : T.int ≠ T.impl_Node := by decide

theorem FPlan.keep {w w' : World} {B : Nat → Prop} {v : Value} {p : List Nd} (h : FPlan w B v p) {S : Nat → Prop} (hc : Chg S w w') (hs : ∀ k, k < w.heap.size → B k → ¬ S k) : FPlan w' B v p := by
  obtain ⟨a, c, bs, fv, rv, hv, hcp, hl, hin, hr⟩ := h.out
  refine ⟨a, c, bs, fv, rv, hv, hcp, hl, hin.keep hc fun s hs' hne => hs _ (hin.lt hs' hne).1 (hin.inB s hs' hne), fun hne => ?_⟩
  obtain ⟨b, off, cur, ha, hB, hb, r⟩ := hr hne
  exact ⟨b, off, cur, ha, hB, hc.at hb (hs b (lt_of_at hb) hB), r⟩
theorem FPlan.ext {w w' : World} {B : Nat → Prop} {v : Value} {p : List Nd} (h : FPlan w B v p) (hc : Ext w w') : FPlan w' B v p := h.keep hc fun _ _ _ => id
theorem FPlan.mono {w : World} {B B' : Nat → Prop} {v : Value} {p : List Nd} (h : FPlan w B v p) (hb : ∀ b, b < w.heap.size → B b → B' b) : FPlan w B' v p := by
  obtain ⟨a, c, bs, fv, rv, hv, hcp, hl, hin, hr⟩ := h.out
  refine ⟨a, c, bs, fv, rv, hv, hcp, hl, hin.mono hb, fun hne => ?_⟩
  obtain ⟨b, off, cur, ha, hB, hh, r⟩ := hr hne
  exact ⟨b, off, cur, ha, hb b (lt_of_at hh) hB, hh, r⟩
theorem FPlan.nil {w : World} {B : Nat → Prop} {a : Option Addr} {c : Nat} : FPlan w B (.slice a 0 c) [] :=
  ⟨a, c, fun _ => 0, fun _ => .slice none 0 0, fun _ => .slice none 0 0, rfl, Nat.zero_le _, by simp, Inner.nil, fun h => absurd rfl h⟩
def NewPlan (w : World) (p : List Nd) (v : Value) (w' : World) : Prop := Ext w w' ∧ FPlan w' (Since w) v p

/-! ### Marks -/
def ndSize (x : Nd) : Nat := 1 + x.frm.length + x.row.length
def offP (p : List Nd) : Nat → Nat
  | 0 => 0
  | j + 1 => offP p j + ndSize (nd p j)
def mkN (p : List Nd) (k j : Nat) : Nd := ⟨((k + offP p j : Nat) : Int), marks ((k + offP p j + 1 : Nat) : Int) (nd p j).frm.length, marks ((k + offP p j + 1 + (nd p j).frm.length : Nat) : Int) (nd p j).row.length⟩
def markP (p : List Nd) (k : Nat) : List Nd := (List.range p.length).map (mkN p k)
theorem markP_len (p : List Nd) (k : Nat) : (markP p k).length = p.length := by simp [markP]
theorem markP_nd {p : List Nd} {k i : Nat} (h : i < p.length) : nd (markP p k) i = mkN p k i := by rw [nd_get (by rw [markP_len]; exact h)]; simp [markP]

theorem nd_set {p : List Nd} {i j : Nat} {x : Nd} (hi : i < p.length) : nd (p.set i x) j = if j = i then x else nd p j := by
  unfold nd
  by_cases e : j = i
  · subst e; simp [hi]
  · rw [if_neg e, List.getElem?_set_ne (fun h => e h.symm)]
theorem slot_set {p : List Nd} {i : Nat} {x : Nd} (hi : i < p.length) (s : Nat) : slot (p.set i x) s = if s / 2 = i then (if s % 2 = 0 then x.frm else x.row) else slot p s := by
  unfold slot; rw [nd_set hi]; by_cases e : s / 2 = i
  · rw [if_pos e, if_pos e]
  · rw [if_neg e, if_neg e]

/-- A list of a plan is written anew, of the same length. -/
theorem FPlan.setFrm {w : World} {B : Nat → Prop} {v : Value} {p : List Nd} {i : Nat} (hi : i < p.length) {a : Option Addr} {c : Nat} {bs : Nat → Nat} {fv rv : Nat → Value} (hv : v = .slice a p.length c) (hcp : p.length ≤ c) (hl : p.length ≤ 1048576) (hin : Inner w B p bs fv rv)
    (hr : p ≠ [] → ∃ b off cur, a = some ⟨b, off, none⟩ ∧ B b ∧ w.heap[b]? = some (.cells cur T.impl_Node (0, 0)) ∧ off + 3 * p.length ≤ cur.size ∧ FCells cur off p fv rv p.length)
    {w' : World} {S : Nat → Prop} {xs : List Int} (hc : Chg S w w') (hS : ∀ k, S k → (nd p i).frm ≠ [] ∧ k = bs (2 * i)) (hx : FInts w' (· = bs (2 * i)) (fv i) xs) (hlen : xs.length = (nd p i).frm.length) :
    FPlan w' B v (p.set i ⟨(nd p i).kind, xs, (nd p i).row⟩) := by
  have hempty : ∀ {ys : List Int}, ys.length = xs.length → (ys = [] ↔ xs = []) := fun h => ⟨fun e => List.eq_nil_of_length_eq_zero (by rw [← h, e]; rfl), fun e => List.eq_nil_of_length_eq_zero (by rw [h, e]; rfl)⟩
  have hslot : ∀ s, slot (p.set i ⟨(nd p i).kind, xs, (nd p i).row⟩) s ≠ [] → slot p s ≠ [] := by
    intro s hs
    rw [slot_set hi] at hs
    by_cases e : s / 2 = i
    · rw [if_pos e] at hs
      by_cases e2 : s % 2 = 0
      · rw [if_pos e2] at hs
        have : s = 2 * i := by omega
        subst this
        rw [slot_f]; exact fun h => hs ((hempty hlen.symm).1 h)
      · rw [if_neg e2] at hs
        have : s = 2 * i + 1 := by omega
        subst this
        rw [slot_r]; exact hs
    · rw [if_neg e] at hs; exact hs
  refine ⟨a, c, bs, fv, rv, by rw [List.length_set]; exact hv, by rw [List.length_set]; exact hcp, by rw [List.length_set]; exact hl, ⟨fun j hj => ?_, fun s hs hne => ?_, fun s t hs ht h1 h2 e => ?_⟩, fun hne => ?_⟩
  · rw [List.length_set] at hj
    obtain ⟨k1, k2, k3⟩ := hin.ints j hj
    rw [nd_set hi]
    by_cases e : j = i
    · subst e
      rw [if_pos rfl]
      refine ⟨hx, k2.keep1 hc fun hne hs => ?_, ?_⟩
      · obtain ⟨n1, n2⟩ := hS _ hs
        have := hin.inj (2 * j + 1) (2 * j) (by omega) (by omega) (by rw [slot_r]; exact hne) (by rw [slot_f]; exact n1) n2
        omega
      · exact ⟨by show xs.length ≤ _; rw [hlen]; exact k3.1, k3.2⟩
    · rw [if_neg e]
      refine ⟨k1.keep1 hc fun hne hs => ?_, k2.keep1 hc fun hne hs => ?_, k3⟩
      · obtain ⟨n1, n2⟩ := hS _ hs
        have := hin.inj (2 * j) (2 * i) (by omega) (by omega) (by rw [slot_f]; exact hne) (by rw [slot_f]; exact n1) n2
        omega
      · obtain ⟨n1, n2⟩ := hS _ hs
        have := hin.inj (2 * j + 1) (2 * i) (by omega) (by omega) (by rw [slot_r]; exact hne) (by rw [slot_f]; exact n1) n2
        omega
  · rw [List.length_set] at hs; exact hin.inB s hs (hslot s hne)
  · rw [List.length_set] at hs ht; exact hin.inj s t hs ht (hslot s h1) (hslot t h2) e
  · have hne' : p ≠ [] := List.ne_nil_of_length_pos (by omega)
    obtain ⟨b, off, cur, ha, hB, hb, hsz, hcell⟩ := hr hne'
    refine ⟨b, off, cur, ha, hB, hc.at hb fun hs => ?_, by rw [List.length_set]; exact hsz, fun j hj => ?_⟩
    · obtain ⟨n1, n2⟩ := hS _ hs
      obtain ⟨_, cur', hb'⟩ := hin.lt (s := 2 * i) (by omega) (by rw [slot_f]; exact n1)
      rw [← n2, hb] at hb'; cases hb'
    · rw [List.length_set] at hj
      have := hcell j hj
      rw [nd_set hi]
      by_cases e : j = i
      · subst e; rw [if_pos rfl]; exact this
      · rw [if_neg e]; exact this
theorem FPlan.setRow {w : World} {B : Nat → Prop} {v : Value} {p : List Nd} {i : Nat} (hi : i < p.length) {a : Option Addr} {c : Nat} {bs : Nat → Nat} {fv rv : Nat → Value} (hv : v = .slice a p.length c) (hcp : p.length ≤ c) (hl : p.length ≤ 1048576) (hin : Inner w B p bs fv rv)
    (hr : p ≠ [] → ∃ b off cur, a = some ⟨b, off, none⟩ ∧ B b ∧ w.heap[b]? = some (.cells cur T.impl_Node (0, 0)) ∧ off + 3 * p.length ≤ cur.size ∧ FCells cur off p fv rv p.length)
    {w' : World} {S : Nat → Prop} {xs : List Int} (hc : Chg S w w') (hS : ∀ k, S k → (nd p i).row ≠ [] ∧ k = bs (2 * i + 1)) (hx : FInts w' (· = bs (2 * i + 1)) (rv i) xs) (hlen : xs.length = (nd p i).row.length) :
    FPlan w' B v (p.set i ⟨(nd p i).kind, (nd p i).frm, xs⟩) := by
  have hslot : ∀ s, slot (p.set i ⟨(nd p i).kind, (nd p i).frm, xs⟩) s ≠ [] → slot p s ≠ [] := by
    intro s hs
    rw [slot_set hi] at hs
    by_cases e : s / 2 = i
    · rw [if_pos e] at hs
      by_cases e2 : s % 2 = 0
      · rw [if_pos e2] at hs
        have : s = 2 * i := by omega
        subst this
        rw [slot_f]; exact hs
      · rw [if_neg e2] at hs
        have : s = 2 * i + 1 := by omega
        subst this
        rw [slot_r]; exact fun h => hs (List.eq_nil_of_length_eq_zero (by rw [hlen, h]; rfl))
    · rw [if_neg e] at hs; exact hs
  refine ⟨a, c, bs, fv, rv, by rw [List.length_set]; exact hv, by rw [List.length_set]; exact hcp, by rw [List.length_set]; exact hl, ⟨fun j hj => ?_, fun s hs hne => ?_, fun s t hs ht h1 h2 e => ?_⟩, fun hne => ?_⟩
  · rw [List.length_set] at hj
    obtain ⟨k1, k2, k3⟩ := hin.ints j hj
    rw [nd_set hi]
    by_cases e : j = i
    · subst e
      rw [if_pos rfl]
      refine ⟨k1.keep1 hc fun hne hs => ?_, hx, ?_⟩
      · obtain ⟨n1, n2⟩ := hS _ hs
        have := hin.inj (2 * j) (2 * j + 1) (by omega) (by omega) (by rw [slot_f]; exact hne) (by rw [slot_r]; exact n1) n2
        omega
      · exact ⟨k3.1, by show xs.length ≤ _; rw [hlen]; exact k3.2⟩
    · rw [if_neg e]
      refine ⟨k1.keep1 hc fun hne hs => ?_, k2.keep1 hc fun hne hs => ?_, k3⟩
      · obtain ⟨n1, n2⟩ := hS _ hs
        have := hin.inj (2 * j) (2 * i + 1) (by omega) (by omega) (by rw [slot_f]; exact hne) (by rw [slot_r]; exact n1) n2
        omega
      · obtain ⟨n1, n2⟩ := hS _ hs
        have := hin.inj (2 * j + 1) (2 * i + 1) (by omega) (by omega) (by rw [slot_r]; exact hne) (by rw [slot_r]; exact n1) n2
        omega
  · rw [List.length_set] at hs; exact hin.inB s hs (hslot s hne)
  · rw [List.length_set] at hs ht; exact hin.inj s t hs ht (hslot s h1) (hslot t h2) e
  · have hne' : p ≠ [] := List.ne_nil_of_length_pos (by omega)
    obtain ⟨b, off, cur, ha, hB, hb, hsz, hcell⟩ := hr hne'
    refine ⟨b, off, cur, ha, hB, hc.at hb fun hs => ?_, by rw [List.length_set]; exact hsz, fun j hj => ?_⟩
    · obtain ⟨n1, n2⟩ := hS _ hs
      obtain ⟨_, cur', hb'⟩ := hin.lt (s := 2 * i + 1) (by omega) (by rw [slot_r]; exact n1)
      rw [← n2, hb] at hb'; cases hb'
    · rw [List.length_set] at hj
      have := hcell j hj
      rw [nd_set hi]
      by_cases e : j = i
      · subst e; rw [if_pos rfl]; exact this
      · rw [if_neg e]; exact this
theorem FPlan.setKind {w : World} {B : Nat → Prop} {v : Value} {p : List Nd} {i : Nat} (hi : i < p.length) {b off c : Nat} {bs : Nat → Nat} {fv rv : Nat → Value} {cur : Array Value} (hv : v = .slice (some ⟨b, off, none⟩) p.length c) (hcp : p.length ≤ c) (hl : p.length ≤ 1048576) (hin : Inner w B p bs fv rv)
    (hB : B b) (hb : w.heap[b]? = some (.cells cur T.impl_Node (0, 0))) (hsz : off + 3 * p.length ≤ cur.size) (hcell : FCells cur off p fv rv p.length) {k : Int} {w' : World} (hp : Put w b (.cells (cur.setIfInBounds (off + 3 * i) (.int .i64 k)) T.impl_Node (0, 0)) w') :
    FPlan w' B v (p.set i ⟨k, (nd p i).frm, (nd p i).row⟩) := by
  have hslot : ∀ s, slot (p.set i ⟨k, (nd p i).frm, (nd p i).row⟩) s = slot p s := by
    intro s
    rw [slot_set hi]
    split
    · rename_i e; subst e; rfl
    · rfl
  have hin' : Inner w' B p bs fv rv := hin.keep hp.chg fun s hs hne e => by
    obtain ⟨_, cur', hb'⟩ := hin.lt hs hne
    have e : bs s = b := e
    rw [e, hb] at hb'; cases hb'
  refine ⟨some ⟨b, off, none⟩, c, bs, fv, rv, by rw [List.length_set]; exact hv, by rw [List.length_set]; exact hcp, by rw [List.length_set]; exact hl, ⟨fun j hj => ?_, fun s hs hne => ?_, fun s t hs ht h1 h2 e => ?_⟩, fun _ => ⟨b, off, _, rfl, hB, hp.here, by simpa using hsz, fun j hj => ?_⟩⟩
  · rw [List.length_set] at hj
    have := hin'.ints j hj
    rw [nd_set hi]
    split
    · rename_i e; subst e; exact this
    · exact this
  · rw [List.length_set] at hs; rw [hslot] at hne; exact hin.inB s hs hne
  · rw [List.length_set] at hs ht; rw [hslot] at h1 h2; exact hin.inj s t hs ht h1 h2 e
  · rw [List.length_set] at hj
    obtain ⟨c1, c2, c3⟩ := hcell j hj
    have g : ∀ m, m ≠ off + 3 * i → (cur.setIfInBounds (off + 3 * i) (.int .i64 k))[m]? = cur[m]? := fun m hm => Array.getElem?_setIfInBounds_ne (by omega)
    rw [nd_set hi, g (off + 3 * j + 1) (by omega), g (off + 3 * j + 2) (by omega)]
    by_cases e : j = i
    · subst e
      rw [if_pos rfl, Array.getElem?_setIfInBounds_self_of_lt (by omega)]
      exact ⟨rfl, c2, c3⟩
    · rw [if_neg e, g (off + 3 * j) (by omega)]
      exact ⟨c1, c2, c3⟩
end Go.Proofs.Ytpfabjjeacdikaa
