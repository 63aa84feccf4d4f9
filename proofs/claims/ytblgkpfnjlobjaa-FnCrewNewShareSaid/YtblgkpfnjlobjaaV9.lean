/- How the combinators are met: rules at values that are written out; slices of integers. -/
import Derived.Test.YtblgkpfnjlobjaaV7
import Derived.Laws.AppendOwnNone
import Derived.Laws.OwnMore
namespace Go.V
open Go

/-! ### Rules -/
theorem LenV_i {a : Option Addr} {n c : Nat} {K : Value → Prop} : LenV (.slice a n c) K = K (.int .i64 n) := rfl
theorem Split_i {b : Bool} {A B : Prop} : SplitV (.bool b) A B = ((b = true → A) ∧ (b = false → B)) := by
  cases b <;> simp [SplitV]
theorem Split_t {A B : Prop} : SplitV (.bool true) A B = A := rfl
theorem Split_f {A B : Prop} : SplitV (.bool false) A B = B := rfl
theorem Split_d {p : Prop} [Decidable p] {A B : Prop} : SplitV (.bool (decide p)) A B = ((p → A) ∧ (¬ p → B)) := by
  by_cases h : p <;> simp [SplitV, h]
theorem Pick_i {b : Bool} {x y : Value} {K : Value → Prop} : PickV (.bool b) x y K = ((b = true → K x) ∧ (b = false → K y)) := by
  cases b <;> simp [PickV]
theorem Not_i {b : Bool} {K : Value → Prop} : NotV (.bool b) K = K (.bool !b) := rfl
theorem Bin_lss {k : IntKind} {a b : Int} {K : Value → Prop} : BinV .lss (.int k a) (.int k b) K = K (.bool (decide (a < b))) := by simp [BinV]
theorem Bin_leq {k : IntKind} {a b : Int} {K : Value → Prop} : BinV .leq (.int k a) (.int k b) K = K (.bool (decide (a ≤ b))) := by simp [BinV]
theorem Bin_gtr {k : IntKind} {a b : Int} {K : Value → Prop} : BinV .gtr (.int k a) (.int k b) K = K (.bool (decide (b < a))) := by simp [BinV]
theorem Bin_geq {k : IntKind} {a b : Int} {K : Value → Prop} : BinV .geq (.int k a) (.int k b) K = K (.bool (decide (b ≤ a))) := by simp [BinV]
theorem Bin_eql {k : IntKind} {a b : Int} {K : Value → Prop} : BinV .eql (.int k a) (.int k b) K = K (.bool (decide (a = b))) := by
  have : (a == b) = decide (a = b) := by by_cases h : a = b <;> simp [h]
  simp [BinV, this]
theorem Bin_neq {k : IntKind} {a b : Int} {K : Value → Prop} : BinV .neq (.int k a) (.int k b) K = K (.bool (decide (a ≠ b))) := by
  have : (a != b) = decide (a ≠ b) := by by_cases h : a = b <;> simp [h]
  simp [BinV, this]
theorem Bool_eql {a b : Bool} {K : Value → Prop} : BoolV .eql (.bool a) (.bool b) K = K (.bool (a == b)) := rfl
theorem Bool_neq {a b : Bool} {K : Value → Prop} : BoolV .neq (.bool a) (.bool b) K = K (.bool (!(a == b))) := rfl
theorem Nil_i {a : Addr} {K : Value → Prop} : NilV (.pointer (some a)) K = K (.pointer (some a)) := rfl
theorem Ext_i {vs : Array Value} {i : Nat} {K : Value → Prop} : ExtractV (.tuple vs) i K = ∃ u, vs[i]? = some u ∧ K u := rfl
theorem Ext_20 {a b : Value} {K : Value → Prop} : ExtractV (.tuple #[a, b]) 0 K = K a := by simp [ExtractV]
theorem Ext_21 {a b : Value} {K : Value → Prop} : ExtractV (.tuple #[a, b]) 1 K = K b := by simp [ExtractV]
theorem Ext_30 {a b c : Value} {K : Value → Prop} : ExtractV (.tuple #[a, b, c]) 0 K = K a := by simp [ExtractV]
theorem Ext_31 {a b c : Value} {K : Value → Prop} : ExtractV (.tuple #[a, b, c]) 1 K = K b := by simp [ExtractV]
theorem Ext_32 {a b c : Value} {K : Value → Prop} : ExtractV (.tuple #[a, b, c]) 2 K = K c := by simp [ExtractV]
theorem FAddr_i {off b o : Nat} {K : Value → Prop} : FAddrV off (.pointer (some ⟨b, o, none⟩)) K = K (.pointer (some ⟨b, o + off, none⟩)) := by
  simp [FAddrV, addr_add]

/-- In the range of an int. -/
def In64 (n : Int) : Prop := -9223372036854775808 ≤ n ∧ n ≤ 9223372036854775807
theorem In64.inK {n : Int} (h : In64 n) : InK .i64 n := by
  obtain ⟨h1, h2⟩ := h
  unfold InK
  simp [IntKind.wrap, IntKind.bits, IntKind.signed]; omega
theorem in64 {n : Int} (h1 : -9223372036854775808 ≤ n) (h2 : n ≤ 9223372036854775807) : In64 n := ⟨h1, h2⟩
theorem bin_add {a b : Int} {K : Value → Prop} (h : In64 (a + b)) (hK : K (.int .i64 (a + b))) : BinV .add (.int .i64 a) (.int .i64 b) K := ⟨rfl, h.inK, hK⟩
theorem bin_sub {a b : Int} {K : Value → Prop} (h : In64 (a - b)) (hK : K (.int .i64 (a - b))) : BinV .sub (.int .i64 a) (.int .i64 b) K := ⟨rfl, h.inK, hK⟩
theorem bin_mul {a b : Int} {K : Value → Prop} (h : In64 (a * b)) (hK : K (.int .i64 (a * b))) : BinV .mul (.int .i64 a) (.int .i64 b) K := ⟨rfl, h.inK, hK⟩
theorem bin_rem {a b : Int} {K : Value → Prop} (h : b ≠ 0) (hK : K (.int .i64 (a.tmod b))) : BinV .rem (.int .i64 a) (.int .i64 b) K := ⟨rfl, h, hK⟩
/-- A counter goes up. -/
theorem bin_inc {k : Nat} {K : Value → Prop} (h : k < 9223372036854775807) (hK : K (.int .i64 (k + 1 : Nat))) : BinV .add (.int .i64 k) (.int .i64 1) K := by
  refine bin_add ⟨by omega, by omega⟩ ?_
  simpa using hK

/-! ### Calls -/
theorem callV_of {P : Program} {g : FuncId} {args : List Value} {arr : Array Value} {w : World} {R K : Value → World → Prop} (h : Calls P g arr w (Ret R)) (ha : args.toArray = arr) (hK : ∀ v w', R v w' → K v w') : CallV P g args w K := by
  subst ha
  exact h.mono fun e w' ⟨v, he, hv⟩ => ⟨v, he, hK _ _ hv⟩
theorem ret_mono {P : Program} {g : FuncId} {args : Array Value} {w : World} {R R' : Value → World → Prop} (h : Calls P g args w (Ret R)) (hr : ∀ v w', R v w' → R' v w') : Calls P g args w (Ret R') :=
  h.mono fun _ _ ⟨v, he, hv⟩ => ⟨v, he, hr _ _ hv⟩

/-! ### Draws -/
theorem draw_none {w : World} {B : (Nat → Prop) → World → Prop} (h : ∀ w0, Same w w0 → B (fun _ => False) w0) : DrawV w B := ⟨_, h⟩
theorem Same.at {w w' : World} (h : Same w w') {k : Nat} {o : Obj} (hk : w.heap[k]? = some o) : w'.heap[k]? = some o := by rw [h.heap]; exact hk
theorem Same.size {w w' : World} (h : Same w w') : w'.heap.size = w.heap.size := by rw [h.heap]

/-! ### Slices of one-cell elements -/
/-- The slice (a, n, c) reads as the cells cs. -/
def Cells (w : World) (a : Option Addr) (cs : List Value) : Prop :=
  ∀ i u, cs[i]? = some u → ∃ b off, a = some ⟨b, off, none⟩ ∧ w.cell? ⟨b, off + i, none⟩ = some u

theorem cell_keep {S : Nat → Prop} {w w' : World} (h : Chg S w w') {b o : Nat} {u : Value} (hc : w.cell? ⟨b, o, none⟩ = some u) (hs : ¬ S b) : w'.cell? ⟨b, o, none⟩ = some u := by
  rw [World.cell?_of_block (w := w) (h.block b (World.block_lt_of_cell? w _ hc) hs)]
  exact hc

theorem Cells.ext {w w' : World} {a : Option Addr} {cs : List Value} (h : Cells w a cs) (e : Ext w w') : Cells w' a cs := by
  intro i u hi
  obtain ⟨b, off, ha, hc⟩ := h i u hi
  exact ⟨b, off, ha, cell_keep e hc id⟩

theorem Cells.nil {w : World} {a : Option Addr} : Cells w a [] := by intro i u h; simp at h

/-- A slice of integers. -/
def ints (xs : List Int) : List Value := xs.map (Value.int .i64)

structure Ints (w : World) (v : Value) (xs : List Int) : Prop where
  out : ∃ a c, v = .slice a xs.length c ∧ xs.length ≤ c ∧ Cells w a (ints xs)

theorem Ints.mk' {w : World} {a : Option Addr} {c : Nat} {xs : List Int} (hc : xs.length ≤ c) (h : Cells w a (ints xs)) : Ints w (.slice a xs.length c) xs := ⟨a, c, rfl, hc, h⟩
theorem Ints.ext {w w' : World} {v : Value} {xs : List Int} (h : Ints w v xs) (e : Ext w w') : Ints w' v xs := by
  obtain ⟨a, c, hv, hc, hh⟩ := h.out
  exact ⟨a, c, hv, hc, hh.ext e⟩
theorem Ints.nil {w : World} : Ints w (.slice none 0 0) [] := ⟨none, 0, rfl, Nat.le_refl _, Cells.nil⟩
theorem Ints.empty {w : World} {a : Option Addr} {c : Nat} : Ints w (.slice a 0 c) [] := ⟨a, c, rfl, Nat.zero_le _, Cells.nil⟩

theorem ints_get {xs : List Int} {i : Nat} (h : i < xs.length) : (ints xs)[i]? = some (.int .i64 xs[i]) := by
  simp [ints, h]

/-- An element's address is made. -/
theorem idx_i {w : World} {a : Option Addr} {c : Nat} {cs : List Value} {k n : Nat} {K : Value → Prop} (h : Cells w a cs) (hn : n = cs.length) (hk : k < n)
    (hK : ∀ b off, a = some ⟨b, off, none⟩ → w.cell? ⟨b, off + k, none⟩ = cs[k]? → K (.pointer (some ⟨b, off + k, none⟩))) : IdxV 1 (.slice a n c) (.int .i64 k) K := by
  subst hn
  obtain ⟨b, off, ha, hc⟩ := h k cs[k] (by simp [hk])
  subst ha
  refine ⟨by omega, by omega, ?_⟩
  have := hK b off rfl (by simp [hk, hc])
  simpa [addr_add] using this

/-- An element is read. -/
theorem idxLoad {w : World} {a : Option Addr} {c n k : Nat} {xs : List Int} {K : Value → Prop} (h : Cells w a (ints xs)) (hn : n = xs.length) (hk : k < xs.length)
    (hK : K (.int .i64 xs[k])) : IdxV 1 (.slice a n c) (.int .i64 k) fun p => LoadV false 1 p w K := by
  subst hn
  refine idx_i h (by simp [ints]) (by simpa [ints] using hk) fun b off _ hc => ?_
  rw [ints_get hk] at hc
  exact ⟨_, hc, hK⟩

theorem idxLoadS {S : Nat → Prop} {w : World} {a : Option Addr} {c n k : Nat} {xs : List Int} {K : Value → Prop} (h : Cells w a (ints xs)) (hn : n = xs.length) (hk : k < xs.length)
    (hS : ∀ b off, a = some ⟨b, off, none⟩ → ¬ S b) (hK : K (.int .i64 xs[k])) : IdxV 1 (.slice a n c) (.int .i64 k) fun p => LoadS S false 1 p w K := by
  subst hn
  refine idx_i h (by simp [ints]) (by simpa [ints] using hk) fun b off ha hc => ?_
  rw [ints_get hk] at hc
  exact ⟨hS b off ha, _, hc, hK⟩
end Go.V

/- Loops, owned slices, append. -/
namespace Go.V
open Go

attribute [go_sem] LenV_i Bin_lss Bin_leq Bin_gtr Bin_geq Bin_eql Bin_neq Split_t Split_f Split_d Split_i Pick_i Not_i Bool_eql Bool_neq Nil_i Ext_20 Ext_21 Ext_30 Ext_31 Ext_32 FAddr_i nthV decide_eq_true_eq decide_eq_false_iff_not Bool.not_eq_true' Bool.not_eq_false'

theorem ret_k {P : Program} {f : FuncId} {args : Array Value} {w : World} {Q : Value → World → Prop} (h : ∀ R : Value → World → Prop, (∀ v w', Q v w' → R v w') → Calls P f args w (Ret R)) : Calls P f args w (Ret Q) :=
  h Q fun _ _ h => h

theorem loopV {init : List Value} {w : World} {B : List Value → (Nat → Value) → World → (List Value → World → Prop) → Prop} (I : List Value → World → Prop) (μ : List Value → World → Nat)
    (h0 : I init w) (h : ∀ s z w (K : List Value → World → Prop), I s w → (∀ s' w', I s' w' → μ s' w' < μ s w → K s' w') → B s z w K) : LoopV init w B :=
  ⟨I, μ, h0, fun s z w hI => h s z w _ hI fun _ _ h1 h2 => ⟨h1, h2⟩⟩

theorem joinV {A : (List Value → World → Prop) → Prop} {B : List Value → (Nat → Value) → World → Prop} (M : List Value → World → Prop)
    (h0 : ∀ K : List Value → World → Prop, (∀ s w, M s w → K s w) → A K) (h : ∀ s z w, M s w → B s z w) : JoinV A B :=
  ⟨M, h0 M fun _ _ h => h, h⟩

/-- The number in a value. -/
def iOf : Value → Int | .int _ q => q | _ => 0
/-- A measure: what is left up to n of the counter at place j. -/
def upTo (n : Nat) (j : Nat) (s : List Value) (_ : World) : Nat := n - (iOf (nthV s j)).toNat

/-- What the kit's table says of an element's type. -/
def ElemT (P : Program) (e size bytes : Nat) (z : Value) : Prop :=
  (P.info? e).map (fun i => (i.zero, i.size, i.bytes)) = some (some z, size, bytes) ∧ z.cells.size = size ∧ 0 < size
theorem ElemT.out {P : Program} {e size bytes : Nat} {z : Value} (h : ElemT P e size bytes z) : ∃ i, P.info? e = some i ∧ i.zero = some z ∧ i.size = size ∧ i.bytes = bytes ∧ z.cells.size = size ∧ 0 < size := by
  obtain ⟨h1, h2, h3⟩ := h
  cases hi : P.info? e with
  | none => simp [hi] at h1
  | some i => simp [hi] at h1; exact ⟨i, rfl, h1.1, h1.2.1, h1.2.2, h2, h3⟩

/-- The call's own slice: nil, or at the head of a block from lo on, which nobody else has. -/
abbrev Own (w : World) (lo e size : Nat) (v : Value) (n : Nat) (cs : List Value) : Prop := w.ownsRow lo e size v n cs

def blkIs (v : Value) (k : Nat) : Prop := v.ownBlock = some k

theorem chg_of_grown {w w' : World} {v : Value} (h : w.grownBy w' v.ownBlock) : Chg (blkIs v) w w' :=
  ⟨h.os, h.tape, h.output, h.size, fun k hk hn => h.block k hk fun e => hn e.symm⟩

theorem Own.keep {w w' : World} {lo e size : Nat} {v : Value} {n : Nat} {cs : List Value} (h : Own w lo e size v n cs) {S : Nat → Prop} (hc : Chg S w w') (hs : ∀ k, v.ownBlock = some k → ¬ S k) : Own w' lo e size v n cs := by
  refine ⟨h.1, ?_⟩
  rcases h.2 with hn | ⟨g, cap, cur, rfl, hb, hg, rest⟩
  · exact .inl hn
  · exact .inr ⟨g, cap, cur, rfl, hb, hc.at hg (hs g rfl), rest⟩
theorem Own.ext {w w' : World} {lo e size : Nat} {v : Value} {n : Nat} {cs : List Value} (h : Own w lo e size v n cs) (hc : Ext w w') : Own w' lo e size v n cs := Own.keep h hc fun _ _ => id
theorem Own.lt {w : World} {lo e size : Nat} {v : Value} {n : Nat} {cs : List Value} (h : Own w lo e size v n cs) {k : Nat} (hk : v.ownBlock = some k) : lo ≤ k ∧ k < w.heap.size := World.ownsRow.lt h k hk
theorem Own.nil {w : World} {lo e size : Nat} : Own w lo e size (.slice none 0 0) 0 [] := World.ownsRow_nil _ _ _ _
theorem Own.mono {w : World} {lo lo' e size : Nat} {v : Value} {n : Nat} {cs : List Value} (h : Own w lo e size v n cs) (hl : lo' ≤ lo) : Own w lo' e size v n cs := by
  refine ⟨h.1, ?_⟩
  rcases h.2 with hn | ⟨g, cap, cur, rfl, hb, r⟩
  · exact .inl hn
  · exact .inr ⟨g, cap, cur, rfl, Nat.le_trans hl hb, r⟩
/-- A slice that the call has just written down whole. -/
theorem Own.made {w w' : World} {lo e size n : Nat} {cells : Array Value} (hn : New w (.cells cells e (0, 0)) w') (hl : lo ≤ w.heap.size) (hs : cells.size = n * size) (hm : n ≤ maxLen) :
    Own w' lo e size (.slice (some ⟨w.heap.size, 0, none⟩) n n) n cells.toList :=
  ⟨by simp [hs], .inr ⟨_, _, cells, rfl, hl, hn.here, Nat.le_refl _, hm, hs, List.take_of_length_le (by simp [hs])⟩⟩

theorem rowOf_zero (z : Array Value) : rowOf z 0 = #[] := map_range0
theorem Own.empty {w w' : World} {lo e size : Nat} {z : Array Value} (hn : New w (.cells (rowOf z (0 * size)) e (0, 0)) w') (hl : lo ≤ w.heap.size) : Own w' lo e size (.slice (some ⟨w.heap.size, 0, none⟩) 0 0) 0 [] := by
  rw [Nat.zero_mul, rowOf_zero] at hn
  exact Own.made hn hl (by simp) (Nat.zero_le _)

theorem Own.cells {w : World} {lo e : Nat} {v : Value} {n : Nat} {cs : List Value} (h : Own w lo e 1 v n cs) : ∃ a c, v = .slice a n c ∧ n ≤ c ∧ n = cs.length ∧ Cells w a cs := by
  have hl := h.1
  rcases h.2 with ⟨rfl, rfl⟩ | ⟨g, cap, cur, rfl, hb, hg, hnc, hcm, hcs, htake⟩
  · have : cs = [] := List.eq_nil_of_length_eq_zero (by simpa using hl)
    subst this
    exact ⟨none, 0, rfl, Nat.le_refl _, rfl, Cells.nil⟩
  · refine ⟨_, cap, rfl, hnc, by simpa using hl.symm, fun i u hi => ⟨g, 0, rfl, ?_⟩⟩
    rw [Nat.zero_add, cell_of_row w g i cur e (0, 0) hg]
    rw [← htake, List.getElem?_take] at hi
    split at hi
    · simpa using hi
    · cases hi

theorem Own.ints {w : World} {lo e : Nat} {v : Value} {n : Nat} {xs : List Int} (h : Own w lo e 1 v n (ints xs)) : Ints w v xs := by
  obtain ⟨a, c, hv, hc, hn, hh⟩ := Own.cells h
  have : n = xs.length := by simpa [V.ints] using hn
  subst this
  exact ⟨a, c, hv, hc, hh⟩

section
variable {P : Program} {t e size bytes : Nat} {z : Value} (ht : P.underlying t = some (.slice e)) (he : ElemT P e size bytes z)
include ht he
/-- Cells are appended to an owned slice. -/
theorem appendV_own {w : World} {lo : Nat} {v : Value} {n : Nat} {cs : List Value} (hown : Own w lo e size v n cs) {a : Addr} {m c : Nat} (news : List Value) (hl : news.length = m * size)
    (hnews : ∀ j u, news[j]? = some u → w.cell? (a.add j) = some u) (h1 : ∀ u ∈ news, u.oneCell' = true) (h63 : n + m ≤ 9223372036854775807) (hby : (n + m) * bytes ≤ 140737488355328)
    (hlo : lo ≤ w.heap.size) {K : Value → World → Prop} (hK : ∀ v' w', Own w' lo e size v' (n + m) (cs ++ news) → Chg (blkIs v) w w' → K v' w') : AppendV P t v (.slice (some a) m c) w K := by
  obtain ⟨i, hi, hz, hs, hb, hzs, h0⟩ := he.out
  obtain ⟨v', w', hr, ho, hg, _⟩ := run_append_own (P := P) w lo t 0 e i z size bytes ht hi hz hs hb hzs h0 v n cs hown a m c news hl hnews h1 (by unfold maxLen; omega) hby hlo
  exact ⟨v', w', fun ty => hr, hK v' w' ho (chg_of_grown hg)⟩

/-- One element, whose cells are 'news', is written down and appended. -/
theorem app1 {w : World} {lo : Nat} {v : Value} {n : Nat} {cs : List Value} (hown : Own w lo e size v n cs) {x : Value} {zc : Array Value} {news : List Value}
    (hx : x.cells.toList = news) (hfill : Instr.fill (fun i => some (i * size, size)) (rowOf zc (1 * size)) [(0, x)] = some x.cells) (hsz : x.cells.size = size) (h1 : ∀ u ∈ news, u.oneCell' = true)
    (h63 : n < 9223372036854775807) (hby : (n + 1) * bytes ≤ 140737488355328)
    (hlo : lo ≤ w.heap.size) {K : Value → World → Prop} (hK : ∀ v' w', Own w' lo e size v' (n + 1) (cs ++ news) → Chg (blkIs v) w w' → K v' w') :
    BSliceV e size 1 zc [(0, x)] w fun p w1 => AppendV P t v p w1 K := by
  refine ⟨_, hfill, fun w1 hn => ?_⟩
  have hown1 := Own.ext hown hn.ext
  refine appendV_own ht he hown1 news (by rw [← hx]; simp [hsz]) ?_ h1 (by omega) hby (Nat.le_trans hlo hn.ext.size) fun v' w' ho hc => hK v' w' ho (hn.ext.then hc)
  intro j u hj
  rw [addr_add, Nat.zero_add, cell_of_row w1 _ j _ e (0, 0) hn.here]
  rw [← hx] at hj
  simpa using hj
end

theorem appendV_src {P : Program} {t e bytes : Nat} {z : Value} (ht : P.underlying t = some (.slice e)) (he : ElemT P e 1 bytes z) {w : World} {lo : Nat} {u : Value} {m : Nat} {cs0 : List Value} (hown : Own w lo e 1 u m cs0)
    {a : Option Addr} {n c : Nat} {cs : List Value} (hcs : Cells w a cs) (hn : n = cs.length) (h1 : ∀ u ∈ cs, u.oneCell' = true) (h63 : m + n ≤ 9223372036854775807) (hby : (m + n) * bytes ≤ 140737488355328) (hlo : lo ≤ w.heap.size)
    {K : Value → World → Prop} (hK : ∀ v' w', Own w' lo e 1 v' (m + n) (cs0 ++ cs) → Chg (blkIs u) w w' → K v' w') : AppendV P t u (.slice a n c) w K := by
  subst hn
  cases a with
  | some ad =>
    refine appendV_own ht he hown cs (by simp) (fun j u hj => ?_) h1 h63 hby hlo hK
    obtain ⟨b, off, ha, hc⟩ := hcs j u hj
    cases ha
    rw [addr_add]; exact hc
  | none =>
    have hnil : cs = [] := by
      cases cs with
      | nil => rfl
      | cons x xs => obtain ⟨b, off, ha, _⟩ := hcs 0 x rfl; cases ha
    subst hnil
    refine ⟨u, w, fun ty => ?_, hK u w (by simpa using hown) (Chg.refl _ _)⟩
    obtain ⟨i, hi, hz, hs, hb, hzs, h0⟩ := he.out
    rcases hown.2 with ⟨rfl, _⟩ | ⟨g, cap, cur, rfl, _, hg, hnc, _⟩
    · simp [Builtin.append_, run_und ht, sizeOf, run_info hi, Builtin.lenOf, Builtin.firstCells]
    · simp [Builtin.append_, run_und ht, sizeOf, run_info hi, Builtin.lenOf, Builtin.firstCells, hnc, storeCells]

theorem ints_one {xs : List Int} : ∀ u ∈ ints xs, u.oneCell' = true := by
  intro u hu
  simp only [V.ints, List.mem_map] at hu
  obtain ⟨x, _, rfl⟩ := hu
  rfl

theorem fill_int {x : Value} (h : x.cells = #[x]) {z : Value} : Instr.fill (fun i => some (i * 1, 1)) (rowOf #[z] (1 * 1)) [(0, x)] = some x.cells := by
  simp [Instr.fill, rowOf, h]
  refine Array.ext (by simp) fun i hi _ => ?_
  simp at hi
  subst hi
  simp

/-- 'out = append(out, x)', integers. -/
theorem app1_int {P : Program} {t e : Nat} {z : Value} (ht : P.underlying t = some (.slice e)) (he : ElemT P e 1 8 z) {w : World} {lo : Nat} {v : Value} {xs : List Int} {n : Nat} (hown : Own w lo e 1 v n (ints xs)) {x : Int} {zc : Value}
    (hn : n ≤ 1099511627776) (hlo : lo ≤ w.heap.size) {K : Value → World → Prop} (hK : ∀ v' w', Own w' lo e 1 v' (n + 1) (ints (xs ++ [x])) → Chg (blkIs v) w w' → K v' w') :
    BSliceV e 1 1 #[zc] [(0, .int .i64 x)] w fun p w1 => AppendV P t v p w1 K := by
  refine app1 ht he hown (news := [.int .i64 x]) rfl (fill_int rfl) rfl (by simp [Value.oneCell']) (by omega) (by omega) hlo fun v' w' ho hc => hK v' w' ?_ hc
  simpa [ints] using ho

theorem add_zero (x : Addr) : x.add 0 = x := by simp [Addr.add]

/-- 's[:k]'. -/
theorem sliceHi {size n c k : Nat} {a : Option Addr} {K : Value → Prop} (h : k ≤ c) (hK : K (.slice a k c)) : SliceV size (.slice a n c) none (some (.int .i64 k)) K := by
  refine ⟨by omega, by omega, by omega, .inr (by simp), ?_⟩
  have e : (if c = 0 then a else a.map (fun x => x.add 0)) = a := by
    split
    · rfl
    · cases a <;> simp [add_zero]
  simp only [Nat.zero_mul, Int.toNat_natCast, Nat.sub_zero]
  rw [e]; exact hK

/-- 's[k:]', cells of one place each. -/
theorem sliceLo {n c k : Nat} {a : Option Addr} {K : Value → Prop} (h : k ≤ n) (hc : n ≤ c)
    (hK : ∀ a', (∀ b off, a = some ⟨b, off, none⟩ → a' = some ⟨b, off + k, none⟩ ∨ k = n) → K (.slice a' (n - k) (c - k))) : SliceV 1 (.slice a n c) (some (.int .i64 k)) none K := by
  refine ⟨by omega, by omega, by omega, .inl hc, ?_⟩
  have := hK (if c = k then a else a.map (·.add (k * 1))) (by
    intro b off ha
    subst ha
    by_cases e : c = k
    · exact .inr (by omega)
    · left; rw [if_neg e]; simp [addr_add])
  simpa using this

/-- Induction from the end of a list. -/
theorem snoc_ind {α : Type} {p : List α → Prop} (h0 : p []) (h1 : ∀ xs x, p xs → p (xs ++ [x])) (xs : List α) : p xs := by
  have h : ∀ ys : List α, p ys.reverse := by
    intro ys
    induction ys with
    | nil => exact h0
    | cons y ys ih => rw [List.reverse_cons]; exact h1 _ _ ih
  have := h xs.reverse
  rwa [List.reverse_reverse] at this

/-- A slice of integers of a kind that came in. -/
structure RowIn (k : IntKind) (w : World) (v : Value) (xs : List Int) : Prop where
  out : ∃ a c, v = .slice a xs.length c ∧ xs.length ≤ c ∧ Cells w a (xs.map (Value.int k)) ∧ ∀ x ∈ xs, (Lit.int k x).wf = true

theorem RowIn.nil {k : IntKind} {w : World} : RowIn k w (.slice none 0 0) ([].take 0) := ⟨none, 0, rfl, Nat.le_refl _, Cells.nil, by simp⟩
theorem RowIn.of {k : IntKind} {w : World} {x : Addr} {len cap : Nat} {zs : List Int} (hl : len ≤ cap) (hz : zs.length = cap) (hc : ∀ i, i < zs.length → w.cell? (x.add i) = some (.int k (zs.getD i 0)))
    (hw : ∀ n ∈ zs, (Lit.int k n).wf = true) : RowIn k w (.slice (some x) len cap) (zs.take len) := by
  have e : (zs.take len).length = len := by rw [List.length_take]; omega
  refine ⟨some x, cap, by rw [e], by rw [e]; exact hl, fun i u hi => ?_, fun y hy => hw y (List.mem_of_mem_take hy)⟩
  simp only [List.getElem?_map, Option.map_eq_some_iff] at hi
  obtain ⟨y, hy, rfl⟩ := hi
  rw [List.getElem?_take] at hy
  split at hy
  · obtain ⟨hlt, he⟩ := List.getElem?_eq_some_iff.1 hy
    have h0 := hc i hlt
    have hspot : x.spot = none := by
      have h1 := hc 0 (by omega)
      cases hs : x.spot with
      | none => rfl
      | some p =>
        simp [Addr.add, World.cell?, hs] at h1
        split at h1 <;> simp at h1
    obtain ⟨b, off, spot⟩ := x
    simp only at hspot
    subst hspot
    refine ⟨b, off, rfl, ?_⟩
    rw [addr_add] at h0
    rw [h0]
    simp [hlt, he]
  · cases hy
theorem RowIn.ints {w : World} {v : Value} {xs : List Int} (h : RowIn .i64 w v xs) : Ints w v xs := by
  obtain ⟨a, c, hv, hc, hx, _⟩ := h.out
  exact ⟨a, c, hv, hc, hx⟩

theorem chg_own {w0 w w' : World} {lo e size : Nat} {v : Value} {n : Nat} {cs : List Value} (h0 : Ext w0 w) (ho : Own w lo e size v n cs) (hc : Chg (blkIs v) w w') (hl : w0.heap.size ≤ lo) : Ext w0 w' :=
  Chg.ext (h0.then hc) fun k hk hb => by have := Own.lt ho (k := k) hb; omega
end Go.V
