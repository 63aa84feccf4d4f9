/- Plans that lie in memory of their own: each list in a block of its own. -/
import Derived.Test.YtblgkpfnjlobjaaGraph
import Derived.Test.YtblgkpfnjlobjaaBasics
namespace Go.Proofs.Ytblgkpfnjlobjaa
open Go Go.V

theorem FInts.one {w : World} {B : Nat → Prop} {v : Value} {xs : List Int} (h : FInts w B v xs) : ∃ b, FInts w (· = b) v xs ∧ (xs ≠ [] → B b ∧ b < w.heap.size) := by
  obtain ⟨a, c, hv, hc, hr⟩ := h.out
  by_cases hne : xs = []
  · subst hne; exact ⟨0, ⟨a, c, hv, hc, fun h => absurd rfl h⟩, fun h => absurd rfl h⟩
  · obtain ⟨b, off, cur, ha, h1, hb, r⟩ := hr hne
    exact ⟨b, ⟨a, c, hv, hc, fun _ => ⟨b, off, cur, ha, rfl, hb, r⟩⟩, fun _ => ⟨h1, lt_of_at hb⟩⟩
theorem FInts.lt {w : World} {b : Nat} {v : Value} {xs : List Int} (h : FInts w (· = b) v xs) (hne : xs ≠ []) : b < w.heap.size ∧ ∃ cur, w.heap[b]? = some (.cells cur T.int (0, 0)) := by
  obtain ⟨a, c, hv, hc, hr⟩ := h.out
  obtain ⟨b', off, cur, ha, rfl, hb, _⟩ := hr hne
  exact ⟨lt_of_at hb, cur, hb⟩
/-- An empty list lies in no block. -/
theorem FInts.keep1 {w w' : World} {b : Nat} {v : Value} {xs : List Int} (h : FInts w (· = b) v xs) {S : Nat → Prop} (hc : Chg S w w') (hs : xs ≠ [] → ¬ S b) : FInts w' (· = b) v xs := by
  by_cases hne : xs = []
  · subst hne
    obtain ⟨a, c, hv, hc, _⟩ := h.out
    exact ⟨a, c, hv, hc, fun h => absurd rfl h⟩
  · exact h.keep hc fun k hk => by subst hk; exact hs hne

/-- The lists of a plan: 2i is what node i needs, 2i + 1 its row. -/
def slot (p : List Nd) (s : Nat) : List Int := if s % 2 = 0 then (nd p (s / 2)).frm else (nd p (s / 2)).row
theorem slot_f (p : List Nd) (i : Nat) : slot p (2 * i) = (nd p i).frm := by unfold slot; rw [if_pos (by omega), show 2 * i / 2 = i by omega]
theorem slot_r (p : List Nd) (i : Nat) : slot p (2 * i + 1) = (nd p i).row := by unfold slot; rw [if_neg (by omega), show (2 * i + 1) / 2 = i by omega]

structure Inner (w : World) (B : Nat → Prop) (p : List Nd) (bs : Nat → Nat) (fv rv : Nat → Value) : Prop where
  ints : ∀ i, i < p.length → FInts w (· = bs (2 * i)) (fv i) (nd p i).frm ∧ FInts w (· = bs (2 * i + 1)) (rv i) (nd p i).row ∧ Sml (nd p i)
  inB : ∀ s, s < 2 * p.length → slot p s ≠ [] → B (bs s)
  inj : ∀ s t, s < 2 * p.length → t < 2 * p.length → slot p s ≠ [] → slot p t ≠ [] → bs s = bs t → s = t

theorem Inner.lt {w : World} {B : Nat → Prop} {p : List Nd} {bs : Nat → Nat} {fv rv : Nat → Value} (h : Inner w B p bs fv rv) {s : Nat} (hs : s < 2 * p.length) (hne : slot p s ≠ []) : bs s < w.heap.size ∧ ∃ cur, w.heap[bs s]? = some (.cells cur T.int (0, 0)) := by
  obtain ⟨i, rfl | rfl⟩ : ∃ i, s = 2 * i ∨ s = 2 * i + 1 := ⟨s / 2, by omega⟩
  · rw [slot_f] at hne; exact (h.ints i (by omega)).1.lt hne
  · rw [slot_r] at hne; exact (h.ints i (by omega)).2.1.lt hne
theorem Inner.keep {w w' : World} {B : Nat → Prop} {p : List Nd} {bs : Nat → Nat} {fv rv : Nat → Value} (h : Inner w B p bs fv rv) {S : Nat → Prop} (hc : Chg S w w') (hs : ∀ s, s < 2 * p.length → slot p s ≠ [] → ¬ S (bs s)) : Inner w' B p bs fv rv :=
  ⟨fun i hi => by
    obtain ⟨h1, h2, h3⟩ := h.ints i hi
    exact ⟨h1.keep1 hc fun hne => hs (2 * i) (by omega) (by rw [slot_f]; exact hne), h2.keep1 hc fun hne => hs (2 * i + 1) (by omega) (by rw [slot_r]; exact hne), h3⟩, h.inB, h.inj⟩
theorem Inner.ext {w w' : World} {B : Nat → Prop} {p : List Nd} {bs : Nat → Nat} {fv rv : Nat → Value} (h : Inner w B p bs fv rv) (hc : Ext w w') : Inner w' B p bs fv rv := h.keep hc fun _ _ _ => id
theorem Inner.mono {w : World} {B B' : Nat → Prop} {p : List Nd} {bs : Nat → Nat} {fv rv : Nat → Value} (h : Inner w B p bs fv rv) (hb : ∀ b, b < w.heap.size → B b → B' b) : Inner w B' p bs fv rv :=
  ⟨h.ints, fun s hs hne => hb _ (h.lt hs hne).1 (h.inB s hs hne), h.inj⟩
theorem Inner.nil {w : World} {B : Nat → Prop} {bs : Nat → Nat} {fv rv : Nat → Value} : Inner w B [] bs fv rv :=
  ⟨fun i hi => by simp at hi, fun s hs => by simp at hs, fun s t hs => by simp at hs⟩

/-- A new node as a value: its lists lie in blocks that came after w. -/
structure NewNd (w w' : World) (v : Value) (x : Nd) : Prop where
  out : ∃ fv rv b1 b2, v = .agg #[.int .i64 x.kind, fv, rv] ∧ FInts w' (· = b1) fv x.frm ∧ FInts w' (· = b2) rv x.row ∧ (x.frm ≠ [] → w.heap.size ≤ b1) ∧ (x.row ≠ [] → w.heap.size ≤ b2) ∧ (x.frm ≠ [] → x.row ≠ [] → b1 ≠ b2)

theorem nd_snoc_lt {p : List Nd} {x : Nd} {i : Nat} (h : i < p.length) : nd (p ++ [x]) i = nd p i := by unfold nd; rw [List.getElem?_append_left h]
theorem nd_snoc {p : List Nd} {x : Nd} : nd (p ++ [x]) p.length = x := by unfold nd; rw [List.getElem?_append_right (Nat.le_refl _)]; simp
theorem slot_snoc_lt {p : List Nd} {x : Nd} {s : Nat} (h : s < 2 * p.length) : slot (p ++ [x]) s = slot p s := by unfold slot; rw [nd_snoc_lt (by omega)]

/-- A new node more. -/
theorem Inner.push {w w' : World} {B : Nat → Prop} {p : List Nd} {bs : Nat → Nat} {fv rv : Nat → Value} (h : Inner w B p bs fv rv) (hE : Ext w w') {x : Nd} {f r : Value} {b1 b2 : Nat} (hf : FInts w' (· = b1) f x.frm) (hr : FInts w' (· = b2) r x.row)
    (h1 : x.frm ≠ [] → w.heap.size ≤ b1) (h2 : x.row ≠ [] → w.heap.size ≤ b2) (h3 : x.frm ≠ [] → x.row ≠ [] → b1 ≠ b2) (hB : ∀ b, w.heap.size ≤ b → B b) (hs : Sml x) :
    Inner w' B (p ++ [x]) (setF (setF bs (2 * p.length) b1) (2 * p.length + 1) b2) (setF fv p.length f) (setF rv p.length r) := by
  have old : ∀ s, s < 2 * p.length → setF (setF bs (2 * p.length) b1) (2 * p.length + 1) b2 s = bs s := fun s hs => by rw [setF_ne _ _ (by omega), setF_ne _ _ (by omega)]
  have nf : setF (setF bs (2 * p.length) b1) (2 * p.length + 1) b2 (2 * p.length) = b1 := by rw [setF_ne _ _ (by omega), setF_same]
  have nr : setF (setF bs (2 * p.length) b1) (2 * p.length + 1) b2 (2 * p.length + 1) = b2 := setF_same _ _ _
  have sf : slot (p ++ [x]) (2 * p.length) = x.frm := by rw [slot_f, nd_snoc]
  have sr : slot (p ++ [x]) (2 * p.length + 1) = x.row := by rw [slot_r, nd_snoc]
  have cases3 : ∀ s, s < 2 * (p ++ [x]).length → s < 2 * p.length ∨ s = 2 * p.length ∨ s = 2 * p.length + 1 := fun s hs => by simp at hs; omega
  refine ⟨fun i hi => ?_, fun s hs hne => ?_, fun s t hs ht hsn htn e => ?_⟩
  · by_cases e : i = p.length
    · subst e
      rw [nf, nr, setF_same, setF_same, nd_snoc]
      exact ⟨hf, hr, hs⟩
    · have hi' : i < p.length := by simp at hi; omega
      rw [old _ (by omega), old _ (by omega), setF_ne _ _ e, setF_ne _ _ e, nd_snoc_lt hi']
      obtain ⟨k1, k2, k3⟩ := h.ints i hi'
      exact ⟨k1.ext hE, k2.ext hE, k3⟩
  · rcases cases3 s hs with hs | rfl | rfl
    · rw [old _ hs]; rw [slot_snoc_lt hs] at hne; exact h.inB s hs hne
    · rw [nf]; rw [sf] at hne; exact hB _ (h1 hne)
    · rw [nr]; rw [sr] at hne; exact hB _ (h2 hne)
  · rcases cases3 s hs with hs | rfl | rfl <;> rcases cases3 t ht with ht | rfl | rfl
    · rw [old _ hs, old _ ht] at e; rw [slot_snoc_lt hs] at hsn; rw [slot_snoc_lt ht] at htn; exact h.inj s t hs ht hsn htn e
    · rw [old _ hs, nf] at e; rw [slot_snoc_lt hs] at hsn; rw [sf] at htn; have := (h.lt hs hsn).1; have := h1 htn; omega
    · rw [old _ hs, nr] at e; rw [slot_snoc_lt hs] at hsn; rw [sr] at htn; have := (h.lt hs hsn).1; have := h2 htn; omega
    · rw [old _ ht, nf] at e; rw [slot_snoc_lt ht] at htn; rw [sf] at hsn; have := (h.lt ht htn).1; have := h1 hsn; omega
    · rfl
    · rw [nf, nr] at e; rw [sf] at hsn; rw [sr] at htn; exact absurd e (h3 hsn htn)
    · rw [old _ ht, nr] at e; rw [slot_snoc_lt ht] at htn; rw [sr] at hsn; have := (h.lt ht htn).1; have := h2 hsn; omega
    · rw [nf, nr] at e; rw [sr] at hsn; rw [sf] at htn; exact absurd e.symm (h3 htn hsn)
    · rfl

/-- The cells of a plan's array. -/
def FCells (cur : Array Value) (off : Nat) (p : List Nd) (fv rv : Nat → Value) (n : Nat) : Prop :=
  ∀ i, i < n → cur[off + 3 * i]? = some (.int .i64 (nd p i).kind) ∧ cur[off + 3 * i + 1]? = some (fv i) ∧ cur[off + 3 * i + 2]? = some (rv i)

/-- A plan in unshared memory that meets B, each list in a block of its own. -/
structure FPlan (w : World) (B : Nat → Prop) (v : Value) (p : List Nd) : Prop where
  out : ∃ a c bs fv rv, v = .slice a p.length c ∧ p.length ≤ c ∧ p.length ≤ 1048576 ∧ Inner w B p bs fv rv ∧
    (p ≠ [] → ∃ b off cur, a = some ⟨b, off, none⟩ ∧ B b ∧ w.heap[b]? = some (.cells cur T.impl_Node (0, 0)) ∧ off + 3 * p.length ≤ cur.size ∧ FCells cur off p fv rv p.length)

theorem FPlan.plan {w : World} {B : Nat → Prop} {v : Value} {p : List Nd} (h : FPlan w B v p) : PlanV w v p := by
  obtain ⟨a, c, bs, fv, rv, hv, hc, hl, hin, hr⟩ := h.out
  refine ⟨a, c, hv, hc, hl, fun i x hi => ?_⟩
  obtain ⟨hlt, rfl⟩ := List.getElem?_eq_some_iff.1 hi
  obtain ⟨b, off, cur, ha, _, hb, _, hcell⟩ := hr (List.ne_nil_of_length_pos (by omega))
  obtain ⟨c1, c2, c3⟩ := hcell i hlt
  obtain ⟨h1, h2, h3⟩ := hin.ints i hlt
  rw [nd_get hlt] at c1 h1 h2 h3
  exact ⟨b, off, fv i, rv i, ha, by rw [cell_of_row w b _ _ _ (0, 0) hb]; exact c1, by rw [cell_of_row w b _ _ _ (0, 0) hb]; exact c2, by rw [cell_of_row w b _ _ _ (0, 0) hb]; exact c3, h1.ints, h2.ints, h3⟩

theorem tags2 : T.int ≠ T.impl_Node := by decide

theorem FPlan.keep {w w' : World} {B : Nat → Prop} {v : Value} {p : List Nd} (h : FPlan w B v p) {S : Nat → Prop} (hc : Chg S w w') (hs : ∀ k, k < w.heap.size → B k → ¬ S k) : FPlan w' B v p := by
  obtain ⟨a, c, bs, fv, rv, hv, hcp, hl, hin, hr⟩ := h.out
  refine ⟨a, c, bs, fv, rv, hv, hcp, hl, hin.keep hc fun s hs' hne => hs _ (hin.lt hs' hne).1 (hin.inB s hs' hne), fun hne => ?_⟩
  obtain ⟨b, off, cur, ha, hB, hb, r⟩ := hr hne
  exact ⟨b, off, cur, ha, hB, hc.at hb (hs b (lt_of_at hb) hB), r⟩
theorem FPlan.ext {w w' : World} {B : Nat → Prop} {v : Value} {p : List Nd} (h : FPlan w B v p) (hc : Ext w w') : FPlan w' B v p := h.keep hc fun _ _ _ => id
theorem FPlan.mono {w : World} {B B' : Nat → Prop} {v : Value} {p : List Nd} (h : FPlan w B v p) (hb : ∀ b, b < w.heap.size → B b → B' b) : FPlan w B' v p := by
  obtain ⟨a, c, bs, fv, rv, hv, hcp, hl, hin, hr⟩ := h.out
  refine ⟨a, c, bs, fv, rv, hv, hcp, hl, hin.mono hb, fun hne => ?_⟩
  obtain ⟨b, off, cur, ha, hB, hh, r⟩ := hr hne
  exact ⟨b, off, cur, ha, hb b (lt_of_at hh) hB, hh, r⟩
theorem FPlan.nil {w : World} {B : Nat → Prop} {a : Option Addr} {c : Nat} : FPlan w B (.slice a 0 c) [] :=
  ⟨a, c, fun _ => 0, fun _ => .slice none 0 0, fun _ => .slice none 0 0, rfl, Nat.zero_le _, by simp, Inner.nil, fun h => absurd rfl h⟩
def NewPlan (w : World) (p : List Nd) (v : Value) (w' : World) : Prop := Ext w w' ∧ FPlan w' (Since w) v p

/-! ### Marks -/
def ndSize (x : Nd) : Nat := 1 + x.frm.length + x.row.length
def offP (p : List Nd) : Nat → Nat
  | 0 => 0
  | j + 1 => offP p j + ndSize (nd p j)
def mkN (p : List Nd) (k j : Nat) : Nd := ⟨((k + offP p j : Nat) : Int), marks ((k + offP p j + 1 : Nat) : Int) (nd p j).frm.length, marks ((k + offP p j + 1 + (nd p j).frm.length : Nat) : Int) (nd p j).row.length⟩
def markP (p : List Nd) (k : Nat) : List Nd := (List.range p.length).map (mkN p k)
theorem markP_len (p : List Nd) (k : Nat) : (markP p k).length = p.length := by simp [markP]
theorem markP_nd {p : List Nd} {k i : Nat} (h : i < p.length) : nd (markP p k) i = mkN p k i := by rw [nd_get (by rw [markP_len]; exact h)]; simp [markP]

theorem nd_set {p : List Nd} {i j : Nat} {x : Nd} (hi : i < p.length) : nd (p.set i x) j = if j = i then x else nd p j := by
  unfold nd
  by_cases e : j = i
  · subst e; simp [hi]
  · rw [if_neg e, List.getElem?_set_ne (fun h => e h.symm)]
theorem slot_set {p : List Nd} {i : Nat} {x : Nd} (hi : i < p.length) (s : Nat) : slot (p.set i x) s = if s / 2 = i then (if s % 2 = 0 then x.frm else x.row) else slot p s := by
  unfold slot; rw [nd_set hi]; by_cases e : s / 2 = i
  · rw [if_pos e, if_pos e]
  · rw [if_neg e, if_neg e]

/-- A list of a plan is written anew, of the same length. -/
theorem FPlan.setFrm {w : World} {B : Nat → Prop} {v : Value} {p : List Nd} {i : Nat} (hi : i < p.length) {a : Option Addr} {c : Nat} {bs : Nat → Nat} {fv rv : Nat → Value} (hv : v = .slice a p.length c) (hcp : p.length ≤ c) (hl : p.length ≤ 1048576) (hin : Inner w B p bs fv rv)
    (hr : p ≠ [] → ∃ b off cur, a = some ⟨b, off, none⟩ ∧ B b ∧ w.heap[b]? = some (.cells cur T.impl_Node (0, 0)) ∧ off + 3 * p.length ≤ cur.size ∧ FCells cur off p fv rv p.length)
    {w' : World} {S : Nat → Prop} {xs : List Int} (hc : Chg S w w') (hS : ∀ k, S k → (nd p i).frm ≠ [] ∧ k = bs (2 * i)) (hx : FInts w' (· = bs (2 * i)) (fv i) xs) (hlen : xs.length = (nd p i).frm.length) :
    FPlan w' B v (p.set i ⟨(nd p i).kind, xs, (nd p i).row⟩) := by
  have hempty : ∀ {ys : List Int}, ys.length = xs.length → (ys = [] ↔ xs = []) := fun h => ⟨fun e => List.eq_nil_of_length_eq_zero (by rw [← h, e]; rfl), fun e => List.eq_nil_of_length_eq_zero (by rw [h, e]; rfl)⟩
  have hslot : ∀ s, slot (p.set i ⟨(nd p i).kind, xs, (nd p i).row⟩) s ≠ [] → slot p s ≠ [] := by
    intro s hs
    rw [slot_set hi] at hs
    by_cases e : s / 2 = i
    · rw [if_pos e] at hs
      by_cases e2 : s % 2 = 0
      · rw [if_pos e2] at hs
        have : s = 2 * i := by omega
        subst this
        rw [slot_f]; exact fun h => hs ((hempty hlen.symm).1 h)
      · rw [if_neg e2] at hs
        have : s = 2 * i + 1 := by omega
        subst this
        rw [slot_r]; exact hs
    · rw [if_neg e] at hs; exact hs
  refine ⟨a, c, bs, fv, rv, by rw [List.length_set]; exact hv, by rw [List.length_set]; exact hcp, by rw [List.length_set]; exact hl, ⟨fun j hj => ?_, fun s hs hne => ?_, fun s t hs ht h1 h2 e => ?_⟩, fun hne => ?_⟩
  · rw [List.length_set] at hj
    obtain ⟨k1, k2, k3⟩ := hin.ints j hj
    rw [nd_set hi]
    by_cases e : j = i
    · subst e
      rw [if_pos rfl]
      refine ⟨hx, k2.keep1 hc fun hne hs => ?_, ?_⟩
      · obtain ⟨n1, n2⟩ := hS _ hs
        have := hin.inj (2 * j + 1) (2 * j) (by omega) (by omega) (by rw [slot_r]; exact hne) (by rw [slot_f]; exact n1) n2
        omega
      · exact ⟨by show xs.length ≤ _; rw [hlen]; exact k3.1, k3.2⟩
    · rw [if_neg e]
      refine ⟨k1.keep1 hc fun hne hs => ?_, k2.keep1 hc fun hne hs => ?_, k3⟩
      · obtain ⟨n1, n2⟩ := hS _ hs
        have := hin.inj (2 * j) (2 * i) (by omega) (by omega) (by rw [slot_f]; exact hne) (by rw [slot_f]; exact n1) n2
        omega
      · obtain ⟨n1, n2⟩ := hS _ hs
        have := hin.inj (2 * j + 1) (2 * i) (by omega) (by omega) (by rw [slot_r]; exact hne) (by rw [slot_f]; exact n1) n2
        omega
  · rw [List.length_set] at hs; exact hin.inB s hs (hslot s hne)
  · rw [List.length_set] at hs ht; exact hin.inj s t hs ht (hslot s h1) (hslot t h2) e
  · have hne' : p ≠ [] := List.ne_nil_of_length_pos (by omega)
    obtain ⟨b, off, cur, ha, hB, hb, hsz, hcell⟩ := hr hne'
    refine ⟨b, off, cur, ha, hB, hc.at hb fun hs => ?_, by rw [List.length_set]; exact hsz, fun j hj => ?_⟩
    · obtain ⟨n1, n2⟩ := hS _ hs
      obtain ⟨_, cur', hb'⟩ := hin.lt (s := 2 * i) (by omega) (by rw [slot_f]; exact n1)
      rw [← n2, hb] at hb'; cases hb'
    · rw [List.length_set] at hj
      have := hcell j hj
      rw [nd_set hi]
      by_cases e : j = i
      · subst e; rw [if_pos rfl]; exact this
      · rw [if_neg e]; exact this
theorem FPlan.setRow {w : World} {B : Nat → Prop} {v : Value} {p : List Nd} {i : Nat} (hi : i < p.length) {a : Option Addr} {c : Nat} {bs : Nat → Nat} {fv rv : Nat → Value} (hv : v = .slice a p.length c) (hcp : p.length ≤ c) (hl : p.length ≤ 1048576) (hin : Inner w B p bs fv rv)
    (hr : p ≠ [] → ∃ b off cur, a = some ⟨b, off, none⟩ ∧ B b ∧ w.heap[b]? = some (.cells cur T.impl_Node (0, 0)) ∧ off + 3 * p.length ≤ cur.size ∧ FCells cur off p fv rv p.length)
    {w' : World} {S : Nat → Prop} {xs : List Int} (hc : Chg S w w') (hS : ∀ k, S k → (nd p i).row ≠ [] ∧ k = bs (2 * i + 1)) (hx : FInts w' (· = bs (2 * i + 1)) (rv i) xs) (hlen : xs.length = (nd p i).row.length) :
    FPlan w' B v (p.set i ⟨(nd p i).kind, (nd p i).frm, xs⟩) := by
  have hslot : ∀ s, slot (p.set i ⟨(nd p i).kind, (nd p i).frm, xs⟩) s ≠ [] → slot p s ≠ [] := by
    intro s hs
    rw [slot_set hi] at hs
    by_cases e : s / 2 = i
    · rw [if_pos e] at hs
      by_cases e2 : s % 2 = 0
      · rw [if_pos e2] at hs
        have : s = 2 * i := by omega
        subst this
        rw [slot_f]; exact hs
      · rw [if_neg e2] at hs
        have : s = 2 * i + 1 := by omega
        subst this
        rw [slot_r]; exact fun h => hs (List.eq_nil_of_length_eq_zero (by rw [hlen, h]; rfl))
    · rw [if_neg e] at hs; exact hs
  refine ⟨a, c, bs, fv, rv, by rw [List.length_set]; exact hv, by rw [List.length_set]; exact hcp, by rw [List.length_set]; exact hl, ⟨fun j hj => ?_, fun s hs hne => ?_, fun s t hs ht h1 h2 e => ?_⟩, fun hne => ?_⟩
  · rw [List.length_set] at hj
    obtain ⟨k1, k2, k3⟩ := hin.ints j hj
    rw [nd_set hi]
    by_cases e : j = i
    · subst e
      rw [if_pos rfl]
      refine ⟨k1.keep1 hc fun hne hs => ?_, hx, ?_⟩
      · obtain ⟨n1, n2⟩ := hS _ hs
        have := hin.inj (2 * j) (2 * j + 1) (by omega) (by omega) (by rw [slot_f]; exact hne) (by rw [slot_r]; exact n1) n2
        omega
      · exact ⟨k3.1, by show xs.length ≤ _; rw [hlen]; exact k3.2⟩
    · rw [if_neg e]
      refine ⟨k1.keep1 hc fun hne hs => ?_, k2.keep1 hc fun hne hs => ?_, k3⟩
      · obtain ⟨n1, n2⟩ := hS _ hs
        have := hin.inj (2 * j) (2 * i + 1) (by omega) (by omega) (by rw [slot_f]; exact hne) (by rw [slot_r]; exact n1) n2
        omega
      · obtain ⟨n1, n2⟩ := hS _ hs
        have := hin.inj (2 * j + 1) (2 * i + 1) (by omega) (by omega) (by rw [slot_r]; exact hne) (by rw [slot_r]; exact n1) n2
        omega
  · rw [List.length_set] at hs; exact hin.inB s hs (hslot s hne)
  · rw [List.length_set] at hs ht; exact hin.inj s t hs ht (hslot s h1) (hslot t h2) e
  · have hne' : p ≠ [] := List.ne_nil_of_length_pos (by omega)
    obtain ⟨b, off, cur, ha, hB, hb, hsz, hcell⟩ := hr hne'
    refine ⟨b, off, cur, ha, hB, hc.at hb fun hs => ?_, by rw [List.length_set]; exact hsz, fun j hj => ?_⟩
    · obtain ⟨n1, n2⟩ := hS _ hs
      obtain ⟨_, cur', hb'⟩ := hin.lt (s := 2 * i + 1) (by omega) (by rw [slot_r]; exact n1)
      rw [← n2, hb] at hb'; cases hb'
    · rw [List.length_set] at hj
      have := hcell j hj
      rw [nd_set hi]
      by_cases e : j = i
      · subst e; rw [if_pos rfl]; exact this
      · rw [if_neg e]; exact this
theorem FPlan.setKind {w : World} {B : Nat → Prop} {v : Value} {p : List Nd} {i : Nat} (hi : i < p.length) {b off c : Nat} {bs : Nat → Nat} {fv rv : Nat → Value} {cur : Array Value} (hv : v = .slice (some ⟨b, off, none⟩) p.length c) (hcp : p.length ≤ c) (hl : p.length ≤ 1048576) (hin : Inner w B p bs fv rv)
    (hB : B b) (hb : w.heap[b]? = some (.cells cur T.impl_Node (0, 0))) (hsz : off + 3 * p.length ≤ cur.size) (hcell : FCells cur off p fv rv p.length) {k : Int} {w' : World} (hp : Put w b (.cells (cur.setIfInBounds (off + 3 * i) (.int .i64 k)) T.impl_Node (0, 0)) w') :
    FPlan w' B v (p.set i ⟨k, (nd p i).frm, (nd p i).row⟩) := by
  have hslot : ∀ s, slot (p.set i ⟨k, (nd p i).frm, (nd p i).row⟩) s = slot p s := by
    intro s
    rw [slot_set hi]
    split
    · rename_i e; subst e; rfl
    · rfl
  have hin' : Inner w' B p bs fv rv := hin.keep hp.chg fun s hs hne e => by
    obtain ⟨_, cur', hb'⟩ := hin.lt hs hne
    have e : bs s = b := e
    rw [e, hb] at hb'; cases hb'
  refine ⟨some ⟨b, off, none⟩, c, bs, fv, rv, by rw [List.length_set]; exact hv, by rw [List.length_set]; exact hcp, by rw [List.length_set]; exact hl, ⟨fun j hj => ?_, fun s hs hne => ?_, fun s t hs ht h1 h2 e => ?_⟩, fun _ => ⟨b, off, _, rfl, hB, hp.here, by simpa using hsz, fun j hj => ?_⟩⟩
  · rw [List.length_set] at hj
    have := hin'.ints j hj
    rw [nd_set hi]
    split
    · rename_i e; subst e; exact this
    · exact this
  · rw [List.length_set] at hs; rw [hslot] at hne; exact hin.inB s hs hne
  · rw [List.length_set] at hs ht; rw [hslot] at h1 h2; exact hin.inj s t hs ht h1 h2 e
  · rw [List.length_set] at hj
    obtain ⟨c1, c2, c3⟩ := hcell j hj
    have g : ∀ m, m ≠ off + 3 * i → (cur.setIfInBounds (off + 3 * i) (.int .i64 k))[m]? = cur[m]? := fun m hm => Array.getElem?_setIfInBounds_ne (by omega)
    rw [nd_set hi, g (off + 3 * j + 1) (by omega), g (off + 3 * j + 2) (by omega)]
    by_cases e : j = i
    · subst e
      rw [if_pos rfl, Array.getElem?_setIfInBounds_self_of_lt (by omega)]
      exact ⟨rfl, c2, c3⟩
    · rw [if_neg e, g (off + 3 * j) (by omega)]
      exact ⟨c1, c2, c3⟩
end Go.Proofs.Ytblgkpfnjlobjaa

namespace Go.Proofs.Ytblgkpfnjlobjaa
open Go Go.V

theorem sl_node : Try.prog.underlying T.sl_impl_Node = some (.slice T.impl_Node) := by kernel_rfl
theorem el_node : ElemT Try.prog T.impl_Node 3 56 (.agg #[.int .i64 0, .slice none 0 0, .slice none 0 0]) := ⟨by kernel_rfl, rfl, by decide⟩

/-- The cells of a plan's array, one behind the other. -/
def flatN (p : List Nd) (fv rv : Nat → Value) : Nat → List Value
  | 0 => []
  | n + 1 => flatN p fv rv n ++ [.int .i64 (nd p n).kind, fv n, rv n]
def flat (p : List Nd) (fv rv : Nat → Value) : List Value := flatN p fv rv p.length
theorem flatN_len (p : List Nd) (fv rv : Nat → Value) (n : Nat) : (flatN p fv rv n).length = 3 * n := by
  induction n with
  | zero => rfl
  | succ n ih => simp [flatN, ih]; omega
theorem flatN_congr {p q : List Nd} {fv rv fv' rv' : Nat → Value} {n : Nat} (h : ∀ i, i < n → (nd p i).kind = (nd q i).kind ∧ fv i = fv' i ∧ rv i = rv' i) : flatN p fv rv n = flatN q fv' rv' n := by
  induction n with
  | zero => rfl
  | succ n ih =>
    obtain ⟨h1, h2, h3⟩ := h n (by omega)
    rw [flatN, flatN, ih fun i hi => h i (by omega), h1, h2, h3]
theorem flatN_get {p : List Nd} {fv rv : Nat → Value} {n i : Nat} (h : i < n) : (flatN p fv rv n)[3 * i]? = some (.int .i64 (nd p i).kind) ∧ (flatN p fv rv n)[3 * i + 1]? = some (fv i) ∧ (flatN p fv rv n)[3 * i + 2]? = some (rv i) := by
  induction n with
  | zero => omega
  | succ n ih =>
    by_cases e : i = n
    · subst e
      rw [flatN]
      have hl := flatN_len p fv rv i
      refine ⟨?_, ?_, ?_⟩
      · rw [List.getElem?_append_right (by omega), hl]; simp
      · rw [List.getElem?_append_right (by omega), hl, show 3 * i + 1 - 3 * i = 1 by omega]; rfl
      · rw [List.getElem?_append_right (by omega), hl, show 3 * i + 2 - 3 * i = 2 by omega]; rfl
    · have := ih (by omega)
      have hl := flatN_len p fv rv n
      rw [flatN, List.getElem?_append_left (by omega), List.getElem?_append_left (by omega), List.getElem?_append_left (by omega)]
      exact this
theorem flat_snoc {p : List Nd} {fv rv : Nat → Value} {x : Nd} {f r : Value} : flat (p ++ [x]) (setF fv p.length f) (setF rv p.length r) = flat p fv rv ++ [.int .i64 x.kind, f, r] := by
  unfold flat
  rw [List.length_append, List.length_singleton, flatN, nd_snoc, setF_same, setF_same]
  rw [flatN_congr (q := p) (fv' := fv) (rv' := rv) fun i hi => ⟨by rw [nd_snoc_lt hi], setF_ne _ _ (by omega), setF_ne _ _ (by omega)⟩]

/-- An owned slice of nodes, as cells. -/
theorem Own.nodes {w : World} {lo n : Nat} {v : Value} {p : List Nd} {fv rv : Nat → Value} (h : Own w lo T.impl_Node 3 v n (flat p fv rv)) (hn : n = p.length) :
    ∃ a c, v = .slice a p.length c ∧ p.length ≤ c ∧ (p ≠ [] → ∃ b cur, a = some ⟨b, 0, none⟩ ∧ lo ≤ b ∧ w.heap[b]? = some (.cells cur T.impl_Node (0, 0)) ∧ 0 + 3 * p.length ≤ cur.size ∧ FCells cur 0 p fv rv p.length) := by
  subst hn
  rcases h.2 with ⟨rfl, h0⟩ | ⟨g, cap, cur, rfl, hb, hg, hnc, hcm, hcs, htake⟩
  · refine ⟨none, 0, by rw [h0], by omega, fun hne => absurd (List.eq_nil_of_length_eq_zero h0) hne⟩
  · refine ⟨_, cap, rfl, hnc, fun _ => ⟨g, cur, rfl, hb, hg, by omega, fun i hi => ?_⟩⟩
    have hgot : ∀ (j : Nat) (u : Value), (flat p fv rv)[j]? = some u → cur[j]? = some u := by
      intro j u hj
      rw [← htake, List.getElem?_take] at hj
      split at hj
      · simpa using hj
      · cases hj
    obtain ⟨h1, h2, h3⟩ := flatN_get (p := p) (fv := fv) (rv := rv) hi
    simp only [Nat.zero_add]
    exact ⟨hgot _ _ h1, hgot _ _ h2, hgot _ _ h3⟩
theorem Own.lenN {w : World} {lo e size n : Nat} {v : Value} {cs : List Value} (h : Own w lo e size v n cs) (K : Value → Prop) : LenV v K = K (.int .i64 n) := by
  rcases h.2 with ⟨rfl, rfl⟩ | ⟨g, cap, cur, rfl, _⟩ <;> rfl

/-- One node is appended. -/
theorem app_node {w : World} {lo : Nat} {v : Value} {p : List Nd} {fv rv : Nat → Value} (ho : Own w lo T.impl_Node 3 v p.length (flat p fv rv)) {x : Nd} {f r : Value} {k : Int} (hk : k = x.kind) (hf : f.cells = #[f] ∧ f.oneCell' = true) (hr : r.cells = #[r] ∧ r.oneCell' = true)
    (hn : p.length ≤ 1048576) (hlo : lo ≤ w.heap.size) {K : Value → World → Prop}
    (hK : ∀ v' w', Own w' lo T.impl_Node 3 v' (p ++ [x]).length (flat (p ++ [x]) (setF fv p.length f) (setF rv p.length r)) → Chg (blkIs v) w w' → K v' w') :
    BSliceV T.impl_Node 3 1 #[.int .i64 0, .slice none 0 0, .slice none 0 0] [(0, .agg #[.int .i64 k, f, r])] w fun t w1 => AppendV Try.prog T.sl_impl_Node v t w1 K := by
  subst hk
  refine app1 sl_node el_node ho (news := [.int .i64 x.kind, f, r]) rfl ?_ rfl ?_ (by omega) (by omega) hlo fun v' w' ho' hc => hK v' w' ?_ hc
  · simp [Instr.fill, rowOf, Value.cells]
    refine Array.ext (by simp) fun i hi _ => ?_
    simp at hi
    match i, hi with
    | 0, _ => simp
    | 1, _ => simp
    | 2, _ => simp
  · intro u hu
    simp at hu
    rcases hu with rfl | rfl | rfl
    · rfl
    · exact hf.2
    · exact hr.2
  · rw [flat_snoc]; simpa using ho'

theorem FInts.cellsV {w : World} {B : Nat → Prop} {v : Value} {xs : List Int} (h : FInts w B v xs) : v.cells = #[v] ∧ v.oneCell' = true := ints_cells h.ints

/-- A plan in memory of its own; of its lists nothing is said but that they lie in such memory. -/
structure DPlan (w : World) (lo : Nat) (v : Value) (p : List Nd) : Prop where
  out : ∃ fv rv, Own w lo T.impl_Node 3 v p.length (flat p fv rv) ∧ p.length ≤ 1048576 ∧ ∀ i, i < p.length → FInts w (lo ≤ ·) (fv i) (nd p i).frm ∧ FInts w (lo ≤ ·) (rv i) (nd p i).row ∧ Sml (nd p i)
theorem DPlan.plan {w : World} {lo : Nat} {v : Value} {p : List Nd} (h : DPlan w lo v p) : PlanV w v p := by
  obtain ⟨fv, rv, ho, hl, hin⟩ := h.out
  obtain ⟨a, c, hv, hc, hr⟩ := Own.nodes ho rfl
  refine ⟨a, c, hv, hc, hl, fun i x hi => ?_⟩
  obtain ⟨hlt, rfl⟩ := List.getElem?_eq_some_iff.1 hi
  obtain ⟨b, cur, ha, _, hb, _, hcell⟩ := hr (List.ne_nil_of_length_pos (by omega))
  obtain ⟨c1, c2, c3⟩ := hcell i hlt
  obtain ⟨h1, h2, h3⟩ := hin i hlt
  rw [nd_get hlt] at c1 h1 h2 h3
  exact ⟨b, 0, fv i, rv i, ha, by rw [cell_of_row w b _ _ _ (0, 0) hb]; exact c1, by rw [cell_of_row w b _ _ _ (0, 0) hb]; exact c2, by rw [cell_of_row w b _ _ _ (0, 0) hb]; exact c3, h1.ints, h2.ints, h3⟩
theorem DPlan.keep {w w' : World} {lo : Nat} {v : Value} {p : List Nd} (h : DPlan w lo v p) {S : Nat → Prop} (hc : Chg S w w') (hs : ∀ k, lo ≤ k → ¬ S k) : DPlan w' lo v p := by
  obtain ⟨fv, rv, ho, hl, hin⟩ := h.out
  exact ⟨fv, rv, Own.keep ho hc fun k hk => hs k (Own.lt ho hk).1, hl, fun i hi => ⟨(hin i hi).1.keep hc fun k hk => hs k hk, (hin i hi).2.1.keep hc fun k hk => hs k hk, (hin i hi).2.2⟩⟩
theorem DPlan.ext {w w' : World} {lo : Nat} {v : Value} {p : List Nd} (h : DPlan w lo v p) (hc : Ext w w') : DPlan w' lo v p := h.keep hc fun _ _ => id
theorem DPlan.nil {w w' : World} {lo : Nat} {z : Array Value} (hn : New w (.cells (rowOf z (0 * 3)) T.impl_Node (0, 0)) w') (hl : lo ≤ w.heap.size) : DPlan w' lo (.slice (some ⟨w.heap.size, 0, none⟩) 0 0) [] :=
  ⟨fun _ => .slice none 0 0, fun _ => .slice none 0 0, Own.empty hn hl, by simp, fun i hi => by simp at hi⟩
theorem DPlan.nil0 {w : World} {lo : Nat} : DPlan w lo (.slice none 0 0) [] :=
  ⟨fun _ => .slice none 0 0, fun _ => .slice none 0 0, Own.nil, by simp, fun i hi => by simp at hi⟩
theorem DPlan.blk {w : World} {lo k : Nat} {v : Value} {p : List Nd} (h : DPlan w lo v p) (hk : v.ownBlock = some k) : lo ≤ k ∧ k < w.heap.size := by
  obtain ⟨_, _, ho, _⟩ := h.out
  exact Own.lt ho hk

theorem own_tagN {w : World} {lo n k size : Nat} {v : Value} {cs : List Value} {e : Nat} (h : Own w lo e size v n cs) (hk : v.ownBlock = some k) : ∃ cur, w.heap[k]? = some (.cells cur e (0, 0)) := by
  rcases h.2 with ⟨rfl, _⟩ | ⟨g, cap, cur, rfl, _, hg, _⟩
  · cases hk
  · cases hk; exact ⟨cur, hg⟩
/-- Lists of numbers stay as they were when a slice of nodes grows. -/
theorem FInts.beside {w w' : World} {lo n : Nat} {B : Nat → Prop} {v u : Value} {xs : List Int} {cs : List Value} (h : FInts w B u xs) (ho : Own w lo T.impl_Node 3 v n cs) (hc : Chg (blkIs v) w w') : FInts w' B u xs := by
  obtain ⟨a, c, hv, hc', hr⟩ := h.out
  refine ⟨a, c, hv, hc', fun hne => ?_⟩
  obtain ⟨b, off, cur, ha, h1, hb, r⟩ := hr hne
  refine ⟨b, off, cur, ha, h1, hc.at hb fun hk => ?_, r⟩
  obtain ⟨cur', hb'⟩ := own_tagN ho hk
  rw [hb] at hb'; cases hb'
theorem Inner.beside {w w' : World} {lo n : Nat} {B : Nat → Prop} {v : Value} {p : List Nd} {bs : Nat → Nat} {fv rv : Nat → Value} {cs : List Value} (h : Inner w B p bs fv rv) (ho : Own w lo T.impl_Node 3 v n cs) (hc : Chg (blkIs v) w w') : Inner w' B p bs fv rv :=
  ⟨fun i hi => ⟨(h.ints i hi).1.beside ho hc, (h.ints i hi).2.1.beside ho hc, (h.ints i hi).2.2⟩, h.inB, h.inj⟩

/-- A node with lists in memory of its own is appended to such a plan. -/
theorem DPlan.push {w : World} {lo : Nat} {v : Value} {p : List Nd} (h : DPlan w lo v p) {x : Nd} {f r : Value} {k : Int} (hk : k = x.kind) (hf : FInts w (lo ≤ ·) f x.frm) (hr : FInts w (lo ≤ ·) r x.row) (hs : Sml x)
    (hn : p.length < 1048576) (hlo : lo ≤ w.heap.size) {K : Value → World → Prop} (hK : ∀ v' w', DPlan w' lo v' (p ++ [x]) → Chg (blkIs v) w w' → K v' w') :
    BSliceV T.impl_Node 3 1 #[.int .i64 0, .slice none 0 0, .slice none 0 0] [(0, .agg #[.int .i64 k, f, r])] w fun t w1 => AppendV Try.prog T.sl_impl_Node v t w1 K := by
  obtain ⟨fv, rv, ho, hl, hin⟩ := h.out
  refine app_node (x := x) ho hk hf.cellsV hr.cellsV (by omega) hlo fun v' w' ho' hc => hK v' w' ⟨_, _, ho', by simp; omega, fun i hi => ?_⟩ hc
  by_cases e : i = p.length
  · subst e
    rw [setF_same, setF_same, nd_snoc]
    exact ⟨hf.beside ho hc, hr.beside ho hc, hs⟩
  · have hi' : i < p.length := by simp at hi; omega
    rw [setF_ne _ _ e, setF_ne _ _ e, nd_snoc_lt hi']
    exact ⟨(hin i hi').1.beside ho hc, (hin i hi').2.1.beside ho hc, (hin i hi').2.2⟩

/-- A plan whose lists lie in blocks of their own, out of a slice that has grown. -/
theorem FPlan.of_own {w : World} {lo : Nat} {B : Nat → Prop} {v : Value} {p : List Nd} {bs : Nat → Nat} {fv rv : Nat → Value} (ho : Own w lo T.impl_Node 3 v p.length (flat p fv rv)) (hin : Inner w B p bs fv rv) (hl : p.length ≤ 1048576) (hB : ∀ b, lo ≤ b → B b) : FPlan w B v p := by
  obtain ⟨a, c, hv, hc, hr⟩ := Own.nodes ho rfl
  refine ⟨a, c, bs, fv, rv, hv, hc, hl, hin, fun hne => ?_⟩
  obtain ⟨b, cur, ha, hlo, hb, hsz, hcell⟩ := hr hne
  exact ⟨b, 0, cur, ha, hB b hlo, hb, hsz, hcell⟩
end Go.Proofs.Ytblgkpfnjlobjaa
