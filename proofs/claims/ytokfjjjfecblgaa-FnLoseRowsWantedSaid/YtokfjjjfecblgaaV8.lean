/- How the combinators are met: rules at values that are written out; slices of integers. -/
import Derived.Test.YtokfjjjfecblgaaV7
namespace Go.V
open Go

/-! ### Rules -/
theorem LenV_i {a : Option Addr} {n c : Nat} {K : Value → Prop} : LenV (.slice a n c) K = K (.int .i64 n) := rfl
theorem Split_i {b : Bool} {A B : Prop} : SplitV (.bool b) A B = ((b = true → A) ∧ (b = false → B)) := by
  cases b <;> simp [SplitV]
theorem Split_t {A B : Prop} : SplitV (.bool true) A B = A := rfl
theorem Split_f {A B : Prop} : SplitV (.bool false) A B = B := rfl
theorem Split_d {p : Prop} [Decidable p] {A B : Prop} : SplitV (.bool (decide p)) A B = ((p → A) ∧ (¬ p → B)) := by
  by_cases h : p <;> simp [SplitV, h]
theorem Pick_i {b : Bool} {x y : Value} {K : Value → Prop} : PickV (.bool b) x y K = ((b = true → K x) ∧ (b = false → K y)) := by
  cases b <;> simp [PickV]
theorem Not_i {b : Bool} {K : Value → Prop} : NotV (.bool b) K = K (.bool !b) := rfl
theorem Bin_lss {k : IntKind} {a b : Int} {K : Value → Prop} : BinV .lss (.int k a) (.int k b) K = K (.bool (decide (a < b))) := by simp [BinV]
theorem Bin_leq {k : IntKind} {a b : Int} {K : Value → Prop} : BinV .leq (.int k a) (.int k b) K = K (.bool (decide (a ≤ b))) := by simp [BinV]
theorem Bin_gtr {k : IntKind} {a b : Int} {K : Value → Prop} : BinV .gtr (.int k a) (.int k b) K = K (.bool (decide (b < a))) := by simp [BinV]
theorem Bin_geq {k : IntKind} {a b : Int} {K : Value → Prop} : BinV .geq (.int k a) (.int k b) K = K (.bool (decide (b ≤ a))) := by simp [BinV]
theorem Bin_eql {k : IntKind} {a b : Int} {K : Value → Prop} : BinV .eql (.int k a) (.int k b) K = K (.bool (decide (a = b))) := by
  have : (a == b) = decide (a = b) := by by_cases h : a = b <;> simp [h]
  simp [BinV, this]
theorem Bin_neq {k : IntKind} {a b : Int} {K : Value → Prop} : BinV .neq (.int k a) (.int k b) K = K (.bool (decide (a ≠ b))) := by
  have : (a != b) = decide (a ≠ b) := by by_cases h : a = b <;> simp [h]
  simp [BinV, this]
theorem Bool_eql {a b : Bool} {K : Value → Prop} : BoolV .eql (.bool a) (.bool b) K = K (.bool (a == b)) := rfl
theorem Bool_neq {a b : Bool} {K : Value → Prop} : BoolV .neq (.bool a) (.bool b) K = K (.bool (!(a == b))) := rfl
theorem Nil_i {a : Addr} {K : Value → Prop} : NilV (.pointer (some a)) K = K (.pointer (some a)) := rfl
theorem Ext_i {vs : Array Value} {i : Nat} {K : Value → Prop} : ExtractV (.tuple vs) i K = ∃ u, vs[i]? = some u ∧ K u := rfl
theorem Ext_20 {a b : Value} {K : Value → Prop} : ExtractV (.tuple #[a, b]) 0 K = K a := by simp [ExtractV]
theorem Ext_21 {a b : Value} {K : Value → Prop} : ExtractV (.tuple #[a, b]) 1 K = K b := by simp [ExtractV]
theorem Ext_30 {a b c : Value} {K : Value → Prop} : ExtractV (.tuple #[a, b, c]) 0 K = K a := by simp [ExtractV]
theorem Ext_31 {a b c : Value} {K : Value → Prop} : ExtractV (.tuple #[a, b, c]) 1 K = K b := by simp [ExtractV]
theorem Ext_32 {a b c : Value} {K : Value → Prop} : ExtractV (.tuple #[a, b, c]) 2 K = K c := by simp [ExtractV]
theorem FAddr_i {off b o : Nat} {K : Value → Prop} : FAddrV off (.pointer (some ⟨b, o, none⟩)) K = K (.pointer (some ⟨b, o + off, none⟩)) := by
  simp [FAddrV, addr_add]

/-- In the range of an int. -/
def In64 (n : Int) : Prop := -9223372036854775808 ≤ n ∧ n ≤ 9223372036854775807
theorem In64.inK {n : Int} (h : In64 n) : InK .i64 n := by
  obtain ⟨h1, h2⟩ := h
  unfold InK
  simp [IntKind.wrap, IntKind.bits, IntKind.signed]; omega
theorem in64 {n : Int} (h1 : -9223372036854775808 ≤ n) (h2 : n ≤ 9223372036854775807) : In64 n := ⟨h1, h2⟩
theorem bin_add {a b : Int} {K : Value → Prop} (h : In64 (a + b)) (hK : K (.int .i64 (a + b))) : BinV .add (.int .i64 a) (.int .i64 b) K := ⟨rfl, h.inK, hK⟩
theorem bin_sub {a b : Int} {K : Value → Prop} (h : In64 (a - b)) (hK : K (.int .i64 (a - b))) : BinV .sub (.int .i64 a) (.int .i64 b) K := ⟨rfl, h.inK, hK⟩
theorem bin_mul {a b : Int} {K : Value → Prop} (h : In64 (a * b)) (hK : K (.int .i64 (a * b))) : BinV .mul (.int .i64 a) (.int .i64 b) K := ⟨rfl, h.inK, hK⟩
theorem bin_rem {a b : Int} {K : Value → Prop} (h : b ≠ 0) (hK : K (.int .i64 (a.tmod b))) : BinV .rem (.int .i64 a) (.int .i64 b) K := ⟨rfl, h, hK⟩
/-- A counter goes up. -/
theorem bin_inc {k : Nat} {K : Value → Prop} (h : k < 9223372036854775807) (hK : K (.int .i64 (k + 1 : Nat))) : BinV .add (.int .i64 k) (.int .i64 1) K := by
  refine bin_add ⟨by omega, by omega⟩ ?_
  simpa using hK

/-! ### Calls -/
theorem callV_of {P : Program} {g : FuncId} {args : List Value} {arr : Array Value} {w : World} {R K : Value → World → Prop} (h : Calls P g arr w (Ret R)) (ha : args.toArray = arr) (hK : ∀ v w', R v w' → K v w') : CallV P g args w K := by
  subst ha
  exact h.mono fun e w' ⟨v, he, hv⟩ => ⟨v, he, hK _ _ hv⟩
theorem ret_mono {P : Program} {g : FuncId} {args : Array Value} {w : World} {R R' : Value → World → Prop} (h : Calls P g args w (Ret R)) (hr : ∀ v w', R v w' → R' v w') : Calls P g args w (Ret R') :=
  h.mono fun _ _ ⟨v, he, hv⟩ => ⟨v, he, hr _ _ hv⟩

/-! ### Draws -/
theorem draw_none {w : World} {B : (Nat → Prop) → World → Prop} (h : ∀ w0, Same w w0 → B (fun _ => False) w0) : DrawV w B := ⟨_, h⟩
theorem Same.at {w w' : World} (h : Same w w') {k : Nat} {o : Obj} (hk : w.heap[k]? = some o) : w'.heap[k]? = some o := by rw [h.heap]; exact hk
theorem Same.size {w w' : World} (h : Same w w') : w'.heap.size = w.heap.size := by rw [h.heap]

/-! ### Slices of one-cell elements -/
/-- The slice (a, n, c) reads as the cells cs. -/
def Cells (w : World) (a : Option Addr) (cs : List Value) : Prop :=
  ∀ i u, cs[i]? = some u → ∃ b off, a = some ⟨b, off, none⟩ ∧ w.cell? ⟨b, off + i, none⟩ = some u

theorem cell_keep {S : Nat → Prop} {w w' : World} (h : Chg S w w') {b o : Nat} {u : Value} (hc : w.cell? ⟨b, o, none⟩ = some u) (hs : ¬ S b) : w'.cell? ⟨b, o, none⟩ = some u := by
  rw [World.cell?_of_block (w := w) (h.block b (World.block_lt_of_cell? w _ hc) hs)]
  exact hc

theorem Cells.ext {w w' : World} {a : Option Addr} {cs : List Value} (h : Cells w a cs) (e : Ext w w') : Cells w' a cs := by
  intro i u hi
  obtain ⟨b, off, ha, hc⟩ := h i u hi
  exact ⟨b, off, ha, cell_keep e hc id⟩

theorem Cells.nil {w : World} {a : Option Addr} : Cells w a [] := by intro i u h; simp at h

/-- A slice of integers. -/
def ints (xs : List Int) : List Value := xs.map (Value.int .i64)

structure Ints (w : World) (v : Value) (xs : List Int) : Prop where
  out : ∃ a c, v = .slice a xs.length c ∧ xs.length ≤ c ∧ Cells w a (ints xs)

theorem Ints.mk' {w : World} {a : Option Addr} {c : Nat} {xs : List Int} (hc : xs.length ≤ c) (h : Cells w a (ints xs)) : Ints w (.slice a xs.length c) xs := ⟨a, c, rfl, hc, h⟩
theorem Ints.ext {w w' : World} {v : Value} {xs : List Int} (h : Ints w v xs) (e : Ext w w') : Ints w' v xs := by
  obtain ⟨a, c, hv, hc, hh⟩ := h.out
  exact ⟨a, c, hv, hc, hh.ext e⟩
theorem Ints.nil {w : World} : Ints w (.slice none 0 0) [] := ⟨none, 0, rfl, Nat.le_refl _, Cells.nil⟩
theorem Ints.empty {w : World} {a : Option Addr} {c : Nat} : Ints w (.slice a 0 c) [] := ⟨a, c, rfl, Nat.zero_le _, Cells.nil⟩

theorem ints_get {xs : List Int} {i : Nat} (h : i < xs.length) : (ints xs)[i]? = some (.int .i64 xs[i]) := by
  simp [ints, h]

/-- An element's address is made. -/
theorem idx_i {w : World} {a : Option Addr} {c : Nat} {cs : List Value} {k n : Nat} {K : Value → Prop} (h : Cells w a cs) (hn : n = cs.length) (hk : k < n)
    (hK : ∀ b off, a = some ⟨b, off, none⟩ → w.cell? ⟨b, off + k, none⟩ = cs[k]? → K (.pointer (some ⟨b, off + k, none⟩))) : IdxV 1 (.slice a n c) (.int .i64 k) K := by
  subst hn
  obtain ⟨b, off, ha, hc⟩ := h k cs[k] (by simp [hk])
  subst ha
  refine ⟨by omega, by omega, ?_⟩
  have := hK b off rfl (by simp [hk, hc])
  simpa [addr_add] using this

/-- An element is read. -/
theorem idxLoad {w : World} {a : Option Addr} {c n k : Nat} {xs : List Int} {K : Value → Prop} (h : Cells w a (ints xs)) (hn : n = xs.length) (hk : k < xs.length)
    (hK : K (.int .i64 xs[k])) : IdxV 1 (.slice a n c) (.int .i64 k) fun p => LoadV false 1 p w K := by
  subst hn
  refine idx_i h (by simp [ints]) (by simpa [ints] using hk) fun b off _ hc => ?_
  rw [ints_get hk] at hc
  exact ⟨_, hc, hK⟩

theorem idxLoadS {S : Nat → Prop} {w : World} {a : Option Addr} {c n k : Nat} {xs : List Int} {K : Value → Prop} (h : Cells w a (ints xs)) (hn : n = xs.length) (hk : k < xs.length)
    (hS : ∀ b off, a = some ⟨b, off, none⟩ → ¬ S b) (hK : K (.int .i64 xs[k])) : IdxV 1 (.slice a n c) (.int .i64 k) fun p => LoadS S false 1 p w K := by
  subst hn
  refine idx_i h (by simp [ints]) (by simpa [ints] using hk) fun b off ha hc => ?_
  rw [ints_get hk] at hc
  exact ⟨hS b off ha, _, hc, hK⟩
end Go.V
