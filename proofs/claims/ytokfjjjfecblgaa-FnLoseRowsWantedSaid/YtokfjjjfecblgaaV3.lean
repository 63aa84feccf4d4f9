/- Worlds that change; the operations that look at memory. -/
import Derived.Test.YtokfjjjfecblgaaV2
import Derived.Below
import Derived.OwnWalk
import Derived.LaidEql
namespace Go.V
open Go

/-- From w to w' only blocks that meet S have changed, and new ones have come. -/
structure Chg (S : Nat → Prop) (w w' : World) : Prop where
  os : w'.os = w.os
  tape : w'.tape = w.tape
  output : w'.output = w.output
  size : w.heap.size ≤ w'.heap.size
  block : ∀ k, k < w.heap.size → ¬ S k → w'.heap[k]? = w.heap[k]?

def Ext (w w' : World) : Prop := Chg (fun _ => False) w w'

theorem Chg.refl (S : Nat → Prop) (w : World) : Chg S w w := ⟨rfl, rfl, rfl, Nat.le_refl _, fun _ _ _ => rfl⟩
theorem Chg.trans {S S' S'' : Nat → Prop} {a b c : World} (h : Chg S a b) (k : Chg S' b c) (h1 : ∀ n, n < a.heap.size → S n → S'' n) (h2 : ∀ n, n < a.heap.size → S' n → S'' n) : Chg S'' a c :=
  ⟨k.os.trans h.os, k.tape.trans h.tape, k.output.trans h.output, Nat.le_trans h.size k.size, fun i hi hn =>
    (k.block i (Nat.lt_of_lt_of_le hi h.size) fun hs => hn (h2 _ hi hs)).trans (h.block i hi fun hs => hn (h1 _ hi hs))⟩
theorem Ext.refl (w : World) : Ext w w := Chg.refl _ w
theorem Ext.trans {a b c : World} (h : Ext a b) (k : Ext b c) : Ext a c := Chg.trans h k (fun _ _ h => h) (fun _ _ h => h)
theorem Ext.chg {S : Nat → Prop} {a b : World} (h : Ext a b) : Chg S a b := ⟨h.os, h.tape, h.output, h.size, fun k hk _ => h.block k hk id⟩
theorem Chg.mono {S S' : Nat → Prop} {a b : World} (h : Chg S a b) (hs : ∀ n, n < a.heap.size → S n → S' n) : Chg S' a b :=
  ⟨h.os, h.tape, h.output, h.size, fun k hk hn => h.block k hk fun hh => hn (hs k hk hh)⟩
theorem Chg.ext {S : Nat → Prop} {a b : World} (h : Chg S a b) (hs : ∀ n, n < a.heap.size → ¬ S n) : Ext a b := h.mono fun n hn hh => hs n hn hh
theorem Ext.then {S : Nat → Prop} {a b c : World} (h : Ext a b) (k : Chg S b c) : Chg S a c := Chg.trans h k (fun _ _ h => h.elim) (fun _ _ h => h)
theorem Chg.then {S : Nat → Prop} {a b c : World} (h : Chg S a b) (k : Ext b c) : Chg S a c := Chg.trans h k (fun _ _ h => h) (fun _ _ h => h.elim)
theorem Chg.andThen {S : Nat → Prop} {a b c : World} (h : Chg S a b) (k : Chg S b c) : Chg S a c := Chg.trans h k (fun _ _ h => h) (fun _ _ h => h)
theorem Ext.size {a b : World} (h : Ext a b) : a.heap.size ≤ b.heap.size := Chg.size h
theorem Ext.at {a b : World} (h : Ext a b) {k : Nat} {o : Obj} (hk : a.heap[k]? = some o) : b.heap[k]? = some o :=
  (h.block k (Array.getElem?_eq_some_iff.1 hk).1 id).trans hk
theorem Chg.at {S : Nat → Prop} {a b : World} (h : Chg S a b) {k : Nat} {o : Obj} (hk : a.heap[k]? = some o) (hs : ¬ S k) : b.heap[k]? = some o :=
  (h.block k (Array.getElem?_eq_some_iff.1 hk).1 hs).trans hk
theorem lt_of_at {w : World} {k : Nat} {o : Obj} (hk : w.heap[k]? = some o) : k < w.heap.size := (Array.getElem?_eq_some_iff.1 hk).1
theorem Ext.below {w w' : World} (h : Ext w w') : RowKit.Below w.heap.size w w' := ⟨h.os, h.tape, h.output, h.size, fun k hk => h.block k hk id⟩

/-- A new block. -/
structure New (w : World) (o : Obj) (w' : World) : Prop where
  ext : Ext w w'
  size : w'.heap.size = w.heap.size + 1
  here : w'.heap[w.heap.size]? = some o

/-- Block b now holds o, and nothing else has changed. -/
structure Put (w : World) (b : Nat) (o : Obj) (w' : World) : Prop where
  chg : Chg (· = b) w w'
  size : w'.heap.size = w.heap.size
  here : w'.heap[b]? = some o

/-- Only the count of draws has changed. -/
structure Same (w w' : World) : Prop where
  os : w'.os = w.os
  tape : w'.tape = w.tape
  output : w'.output = w.output
  heap : w'.heap = w.heap
theorem Same.ext {w w' : World} (h : Same w w') : Ext w w' := ⟨h.os, h.tape, h.output, by rw [h.heap]; exact Nat.le_refl _, fun _ _ _ => by rw [h.heap]⟩

theorem new_alloc (w : World) (o : Obj) : New w o (w.alloc o) :=
  ⟨⟨rfl, rfl, rfl, by simp, fun k hk _ => heap_alloc_old w o k hk⟩, by simp, heap_alloc_new w o⟩

/-- Cells from place off on, replaced. -/
def splice (cur : Array Value) (off : Nat) : List Value → Array Value
  | [] => cur
  | v :: vs => splice (cur.setIfInBounds off v) (off + 1) vs

theorem splice_size (cur : Array Value) (off : Nat) (vs : List Value) : (splice cur off vs).size = cur.size := by
  induction vs generalizing cur off with
  | nil => rfl
  | cons v vs ih => simp [splice, ih]

/-! ### Combinators -/
def LoadV (agg : Bool) (n : Nat) (p : Value) (w : World) (K : Value → Prop) : Prop :=
  match p with
  | .pointer (some a) => match agg with
    | true => ∃ vs : List Value, vs.length = n ∧ (∀ j v, vs[j]? = some v → w.cell? (a.add j) = some v) ∧ K (.agg vs.toArray)
    | false => ∃ v, w.cell? a = some v ∧ K v
  | _ => False

def StoreV (n : Nat) (p v : Value) (w : World) (K : World → Prop) : Prop :=
  match p with
  | .pointer (some a) => ∃ cur T, a.spot = none ∧ w.heap[a.block]? = some (.cells cur T (0, 0)) ∧ v.cells.size = n ∧ a.off + n ≤ cur.size ∧
      (∀ u ∈ v.cells.toList, u.oneCell' = true) ∧ ∀ w', Put w a.block (.cells (splice cur a.off v.cells.toList) T (0, 0)) w' → K w'
  | _ => False

/-- A new variable that holds v. -/
def BoxV (e : TypeId) (v : Value) (w : World) (K : Value → World → Prop) : Prop :=
  ∀ w', New w (.cells v.cells e (0, 0)) w' → K (.pointer (some ⟨w.heap.size, 0, none⟩)) w'

def rowOf (z : Array Value) (n : Nat) : Array Value := (Array.range n).map (z[· % z.size]!)

def BSliceV (e size len : Nat) (z : Array Value) (parts : List (Nat × Value)) (w : World) (K : Value → World → Prop) : Prop :=
  ∃ cells, Instr.fill (fun i => some (i * size, size)) (rowOf z (len * size)) parts = some cells ∧
    ∀ w', New w (.cells cells e (0, 0)) w' → K (.slice (some ⟨w.heap.size, 0, none⟩) len len) w'

def MakeSliceV (e size bytes : Nat) (z : Array Value) (l c : Value) (w : World) (K : Value → World → Prop) : Prop :=
  match l, c with
  | .int .i64 l, .int .i64 c => 0 ≤ l ∧ l ≤ c ∧ c * bytes ≤ 281474976710656 ∧ c ≤ 9223372036854775807 ∧
      ∀ w', New w (.cells (rowOf z (c.toNat * size)) e (0, 0)) w' → K (.slice (some ⟨w.heap.size, 0, none⟩) l.toNat c.toNat) w'
  | _, _ => False

/-- What a function leaves when it returns. -/
def Ret (R : Value → World → Prop) (e : Ending) (w : World) : Prop := ∃ v, e = .returned v ∧ R v w

def CallV (P : Program) (g : FuncId) (args : List Value) (w : World) (K : Value → World → Prop) : Prop :=
  Calls P g args.toArray w (Ret K)

/-- A function value is called. -/
def CallFV (P : Program) (okf : FuncId → Bool) (f : Value) (args : List Value) (w : World) (K : Value → World → Prop) : Prop :=
  match f with
  | .func (.func g) first cap => okf g = true ∧ CallV P g (first.toList ++ args ++ cap.toList) w K
  | _ => False

/-- Pointers to variables of some size. -/
def PEqV (neg : Bool) (x y : Value) (w : World) (K : Value → Prop) : Prop :=
  match x, y with
  | .pointer (some a), .pointer (some b) => ∃ ca ta cb tb, w.heap[a.block]? = some (.cells ca ta (0, 0)) ∧ w.heap[b.block]? = some (.cells cb tb (0, 0)) ∧ K (.bool (decide (a = b) != neg))
  | _, _ => False

def AppendV (P : Program) (t : TypeId) (s x : Value) (w : World) (K : Value → World → Prop) : Prop :=
  ∃ v w', (∀ ty, (Builtin.append_ #[t, t] ty #[s, x]).run P w = .ok v w') ∧ K v w'

def CopyV (P : Program) (ts : Array TypeId) (d s : Value) (w : World) (K : Value → World → Prop) : Prop :=
  ∃ v w', (∀ ty, (Builtin.copy_ ts ty #[d, s]).run P w = .ok v w') ∧ K v w'

def LookupV (P : Program) (t : TypeId) (m k : Value) (ok : Bool) (w : World) (K : Value → World → Prop) : Prop :=
  ∃ v w', (Instr.lookup t m k ok).run P w = .ok v w' ∧ K v w'

def MapUpdV (P : Program) (t : TypeId) (m k x : Value) (w : World) (K : World → Prop) : Prop :=
  ∃ w', (Instr.mapUpdate t m k x).run P w = .ok () w' ∧ K w'

def LenMV (m : Value) (w : World) (K : Value → Prop) : Prop :=
  match m with
  | .map (some r) => ∃ es c, w.heap[r]? = some (.map es c) ∧ K (.int .i64 es.size)
  | _ => False

/-- A method of an interface value whose type is known. -/
def InvokeV (P : Program) (okf : FuncId → Bool) (r : Value) (name : String) (args : List Value) (w : World) (K : Value → World → Prop) : Prop :=
  ∃ t v f x, r = .iface t v ∧ (∀ w, (method (P.types.size + Made.depth) t v name).run P w = .ok (f, x) w) ∧ okf f = true ∧ CallV P f (x :: args) w K

def aggOf (P : Program) (t : TypeId) : Option Bool :=
  match P.underlying t with
  | some (.struct _) => some true
  | some (.array _ _) => some true
  | some _ => some false
  | none => none

def okFn (P : Program) (g : FuncId) : Bool :=
  match P.funcs[g]? with
  | some fn => fn.name != "runtime.NumGoroutine" && fn.body.isSome
  | none => false

def bytesN (P : Program) (t : TypeId) : Option Nat := (P.info? t).map (·.bytes)

def vop (P : Program) (ρ : Operand → Value) (op : Op) (w : World) (K : Value → World → Prop) : Prop :=
  match op with
  | .load t a => match aggOf P t, sizeN P t with
    | some g, some n => LoadV g n (ρ a) w fun v => K v w
    | _, _ => False
  | .store t a x => match sizeN P t with
    | some n => StoreV n (ρ a) (ρ x) w fun w => K undef w
    | none => False
  | .alloc e => match zeroOf P e with
    | some z => BoxV e z w K
    | none => False
  | .box e x => BoxV e (ρ x) w K
  | .buildSlice t len parts => match P.underlying t with
    | some (.slice e) => match sizeN P e, zeroC P e with
      | some n, some z => match decide (len * n ≤ 16777216) with
        | true => BSliceV e n len z (parts.toList.map fun p => (p.1, ρ p.2)) w K
        | false => False
      | _, _ => False
    | _ => False
  | .makeSlice t l c => match P.underlying t with
    | some (.slice e) => match sizeN P e, zeroC P e, bytesN P e with
      | some n, some z, some b => MakeSliceV e n b z (ρ l) (ρ c) w K
      | _, _, _ => False
    | _ => False
  | .makeMap _ none => ∀ w', New w (.map #[] 0) w' → K (.map (some w.heap.size)) w'
  | .lookup t m k ok => LookupV P t (ρ m) (ρ k) ok w K
  | .mapUpdate t m k x => MapUpdV P t (ρ m) (ρ k) (ρ x) w fun w => K undef w
  | .binOp bop t x y yt => match P.underlying t with
    | some (.pointer e) => match bop, sizeN P e with
      | .eql, some (_ + 1) => PEqV false (ρ x) (ρ y) w fun v => K v w
      | .neq, some (_ + 1) => PEqV true (ρ x) (ρ y) w fun v => K v w
      | _, _ => False
    | _ => vpure P ρ (.binOp bop t x y yt) fun v => K v w
  | .call { callee := .value (.func g), args := args, argTypes := _ } => match okFn P g with | true => CallV P g (args.toList.map ρ) w K | false => False
  | .call { callee := .value f, args := args, argTypes := _ } => CallFV P (okFn P) (ρ f) (args.toList.map ρ) w K
  | .call { callee := .invoke r name, args := args, argTypes := _ } => InvokeV P (okFn P) (ρ r) name (args.toList.map ρ) w K
  | .call { callee := .builtin .append, args := args, argTypes := ts } => match args.toList, ts.toList with
    | [s, x], [t, u] => match Nat.beq t u with | true => AppendV P t (ρ s) (ρ x) w K | false => False
    | _, _ => False
  | .call { callee := .builtin .copy, args := args, argTypes := ts } => match args.toList with
    | [d, s] => CopyV P ts (ρ d) (ρ s) w K
    | _ => False
  | .call { callee := .builtin .len, args := args, argTypes := ts } => match args.toList, ts.toList with
    | [x], [t] => match P.underlying t with
      | some (.map _ _) => LenMV (ρ x) w fun v => K v w
      | _ => vpure P ρ (.call { callee := .builtin .len, args := args, argTypes := ts }) fun v => K v w
    | _, _ => False
  | op => vpure P ρ op fun v => K v w
end Go.V
