/- The verification conditions of operations: pure operations. -/
import Derived.Calls
import Derived.Tactics
import Derived.Orders
import Derived.OrdersHeld
import Derived.Laws.Small
namespace Go.V
open Go

def nth : List Value → Nat → Value
  | [], _ => undef
  | v :: _, 0 => v
  | _ :: f, n + 1 => nth f n

def upd : List Value → Nat → Value → List Value
  | [], _, _ => []
  | _ :: f, 0, v => v :: f
  | x :: f, n + 1, v => x :: upd f n v

def putD (f : List Value) : Option Nat → Value → List Value
  | some d, v => upd f d v
  | none, _ => f

def ev (f : List Value) : Operand → Value
  | .tmp t => nth f t
  | .const v => v
  | .global g => .pointer (some ⟨g, 0, none⟩)
  | .func g => .func (.func g) #[] #[]

theorem nth_eq (f : List Value) (n : Nat) : f.toArray.getD n undef = nth f n := by
  induction f generalizing n with
  | nil => simp [nth]
  | cons x f ih => cases n with
    | zero => simp [nth]
    | succ n => have := ih n; simp [nth] at this ⊢; exact this

theorem upd_eq (f : List Value) (n : Nat) (v : Value) : f.toArray.setIfInBounds n v = (upd f n v).toArray := by
  have : f.set n v = upd f n v := by
    induction f generalizing n with
    | nil => simp [upd]
    | cons x f ih => cases n with
      | zero => simp [upd]
      | succ n => simp [upd, ih]
  simp [this]

theorem upd_length (f : List Value) (n : Nat) (v : Value) : (upd f n v).length = f.length := by
  induction f generalizing n with
  | nil => simp [upd]
  | cons x f ih => cases n with
    | zero => simp [upd]
    | succ n => simp [upd, ih]

theorem nth_upd_ne (f : List Value) {n m : Nat} (v : Value) (h : n ≠ m) : nth (upd f n v) m = nth f m := by
  induction f generalizing n m with
  | nil => simp [upd]
  | cons x f ih => cases n with
    | zero => cases m with
      | zero => exact absurd rfl h
      | succ m => simp [upd, nth]
    | succ n => cases m with
      | zero => simp [upd, nth]
      | succ m => simp only [upd, nth]; exact ih (by omega)

theorem nth_upd_same (f : List Value) {n : Nat} (v : Value) (h : n < f.length) : nth (upd f n v) n = v := by
  induction f generalizing n with
  | nil => simp at h
  | cons x f ih => cases n with
    | zero => simp [upd, nth]
    | succ n => simp only [upd, nth]; exact ih (by simpa using h)

theorem upd_nth (f : List Value) (n : Nat) : upd f n (nth f n) = f := by
  induction f generalizing n with
  | nil => simp [upd]
  | cons x f ih => cases n with
    | zero => simp [upd, nth]
    | succ n => simp only [upd, nth]; rw [ih]

theorem ext_nth {f g : List Value} (hl : f.length = g.length) (h : ∀ t, t < f.length → nth f t = nth g t) : f = g := by
  induction f generalizing g with
  | nil => cases g with
    | nil => rfl
    | cons => simp at hl
  | cons x f ih => cases g with
    | nil => simp at hl
    | cons y g =>
      have h0 := h 0 (by simp)
      simp only [nth] at h0
      rw [h0, ih (by simpa using hl) fun t ht => by have := h (t + 1) (by simpa using ht); simpa [nth] using this]

theorem act_eval (f : List Value) (d : List Deferred) : (⟨f.toArray, d⟩ : Act).eval = ev f := by
  funext x
  cases x with
  | tmp t => exact nth_eq f t
  | _ => rfl

theorem act_put (f : List Value) (d : List Deferred) (o : Option Nat) (v : Value) : (⟨f.toArray, d⟩ : Act).put o v = ⟨(putD f o v).toArray, d⟩ := by
  cases o with
  | none => rfl
  | some n => simp only [Act.put, putD, upd_eq]

/-! ### Combinators of pure operations -/

def InK (k : IntKind) (n : Int) : Prop := k.wrap n = n
theorem InK.eq {k : IntKind} {n : Int} (h : InK k n) : k.wrap n = n := h

def PickV (c a b : Value) (K : Value → Prop) : Prop :=
  match c with | .bool true => K a | .bool false => K b | _ => False

def SplitV (c : Value) (A B : Prop) : Prop :=
  match c with | .bool true => A | .bool false => B | _ => False

def BinV (op : BinOp) (x y : Value) (K : Value → Prop) : Prop :=
  match x, y with
  | .int k a, .int k' b => k = k' ∧ match op with
    | .add => InK k (a + b) ∧ K (.int k (a + b))
    | .sub => InK k (a - b) ∧ K (.int k (a - b))
    | .mul => InK k (a * b) ∧ K (.int k (a * b))
    | .quo => b ≠ 0 ∧ InK k (a.tdiv b) ∧ K (.int k (a.tdiv b))
    | .rem => b ≠ 0 ∧ K (.int k (a.tmod b))
    | .and => K (.int k (k.wrap (BitVec.ofInt k.bits a &&& BitVec.ofInt k.bits b).toNat))
    | .or => K (.int k (k.wrap (BitVec.ofInt k.bits a ||| BitVec.ofInt k.bits b).toNat))
    | .xor => K (.int k (k.wrap (BitVec.ofInt k.bits a ^^^ BitVec.ofInt k.bits b).toNat))
    | .eql => K (.bool (a == b))
    | .neq => K (.bool (a != b))
    | .lss => K (.bool (decide (a < b)))
    | .leq => K (.bool (decide (a ≤ b)))
    | .gtr => K (.bool (decide (a > b)))
    | .geq => K (.bool (decide (a ≥ b)))
    | _ => False
  | _, _ => False

def ShV (op : BinOp) (x y : Value) (K : Value → Prop) : Prop :=
  match x, y with
  | .int k a, .int _ b => 0 ≤ b ∧ match op with
    | .shl => K (.int k (k.wrap (a * 2 ^ (min b.toNat k.bits))))
    | .shr => K (.int k (a.fdiv (2 ^ (min b.toNat k.bits))))
    | _ => False
  | _, _ => False

def BoolV (op : BinOp) (x y : Value) (K : Value → Prop) : Prop :=
  match x, y with
  | .bool a, .bool b => match op with
    | .eql => K (.bool (a == b))
    | .neq => K (.bool (!(a == b)))
    | _ => False
  | _, _ => False

/-- An interface value against the literal nil. -/
def INilV (op : BinOp) (x : Value) (K : Value → Prop) : Prop :=
  match x with
  | .nilIface => match op with | .eql => K (.bool true) | .neq => K (.bool false) | _ => False
  | .iface _ _ => match op with | .eql => K (.bool false) | .neq => K (.bool true) | _ => False
  | _ => False

def NotV (x : Value) (K : Value → Prop) : Prop :=
  match x with | .bool b => K (.bool !b) | _ => False

def ConvV (k : IntKind) (x : Value) (K : Value → Prop) : Prop :=
  match x with | .int _ n => InK k n ∧ K (.int k n) | _ => False

def NilV (x : Value) (K : Value → Prop) : Prop :=
  match x with | .pointer (some a) => K (.pointer (some a)) | _ => False

def FAddrV (off : Nat) (x : Value) (K : Value → Prop) : Prop :=
  match x with | .pointer (some a) => K (.pointer (some (a.add off))) | _ => False

def IdxV (size : Nat) (s i : Value) (K : Value → Prop) : Prop :=
  match s, i with
  | .slice (some a) len _, .int _ i => 0 ≤ i ∧ i < len ∧ K (.pointer (some (a.add (i.toNat * size))))
  | _, _ => False

def IdxAV (n size : Nat) (p i : Value) (K : Value → Prop) : Prop :=
  match p, i with
  | .pointer (some a), .int _ i => 0 ≤ i ∧ i < n ∧ K (.pointer (some (a.add (i.toNat * size))))
  | _, _ => False

/-- An element of an array that is a value. -/
def IndexV (n size : Nat) (x i : Value) (K : Value → Prop) : Prop :=
  match x, i with
  | .agg cs, .int _ i => 0 ≤ i ∧ i < n ∧ ∃ v, cs[i.toNat * size]? = some v ∧ K v
  | _, _ => False

/-- The bound of a slice expression as a number: what is not given is the default. -/
def bndV (d : Nat) : Option Value → Option Int
  | none => some d
  | some (.int _ n) => some n
  | some _ => none

def SliceV (size : Nat) (s : Value) (lo hi : Option Value) (K : Value → Prop) : Prop :=
  match s with
  | .slice a len cap => match bndV 0 lo, bndV len hi with
    | some l, some h => 0 ≤ l ∧ l ≤ h ∧ h ≤ cap ∧ (len ≤ cap ∨ hi ≠ none) ∧ K (.slice (if cap = l.toNat then a else a.map (·.add (l.toNat * size))) (h.toNat - l.toNat) (cap - l.toNat))
    | _, _ => False
  | _ => False

def SliceAV (n size : Nat) (p : Value) (lo hi : Option Value) (K : Value → Prop) : Prop :=
  match p with
  | .pointer (some a) => match bndV 0 lo, bndV n hi with
    | some l, some h => 0 ≤ l ∧ l ≤ h ∧ h ≤ n ∧ K (.slice (some (if n = l.toNat then a else a.add (l.toNat * size))) (h.toNat - l.toNat) (n - l.toNat))
    | _, _ => False
  | _ => False

def BuildV (zero : Array Value) (places : Nat → Option (Nat × Nat)) (parts : List (Nat × Value)) (K : Value → Prop) : Prop :=
  ∃ cells, Instr.fill places zero parts = some cells ∧ K (.agg cells)

def ExtractV (x : Value) (i : Nat) (K : Value → Prop) : Prop :=
  match x with | .tuple vs => ∃ u, vs[i]? = some u ∧ K u | _ => False

def LenV (x : Value) (K : Value → Prop) : Prop :=
  match x with | .slice _ n _ => K (.int .i64 n) | _ => False

def MinV (x y : Value) (K : Value → Prop) : Prop :=
  match x, y with | .int k a, .int _ b => K (.int k (if b < a then b else a)) | _, _ => False

def MaxV (x y : Value) (K : Value → Prop) : Prop :=
  match x, y with | .int k a, .int _ b => K (.int k (if b > a then b else a)) | _, _ => False

/-- 'v, ok := x.(T)' at a concrete type T. -/
def TAssertV (t : TypeId) (zero : Value) (x : Value) (K : Value → Prop) : Prop :=
  match x with
  | .nilIface => K (.tuple #[zero, .bool false])
  | .iface u v => (u = t → K (.tuple #[v, .bool true])) ∧ (u ≠ t → K (.tuple #[zero, .bool false]))
  | _ => False

/-- Is an aggregate. -/
def isAggB (P : Program) (t : TypeId) : Bool :=
  match P.underlying t with | some (.struct _) | some (.array _ _) => true | _ => false

def sizeN (P : Program) (t : TypeId) : Option Nat := (P.info? t).map (·.size)

def zeroC (P : Program) (t : TypeId) : Option (Array Value) := match P.info? t with | some i => i.zero.map Value.cells | none => none
def zeroOf (P : Program) (t : TypeId) : Option Value := match P.info? t with | some i => i.zero | none => none

def fieldOff (P : Program) (s i : Nat) : Option Nat :=
  match P.underlying s with
  | some (.struct fs) => match fs[i]? with
    | some f => match sizeN P f.type with
      | some n => if n = 0 then none else some f.offset
      | none => none
    | none => none
  | _ => none

def places (P : Program) (fs : Array Field) : Option (Array (Nat × Nat)) :=
  fs.mapM fun f => match sizeN P f.type with | some n => some (f.offset, n) | none => none

def placesL (P : Program) : List Field → Option (List (Nat × Nat))
  | [] => some []
  | f :: fs => match sizeN P f.type, placesL P fs with
    | some n, some ps => some ((f.offset, n) :: ps)
    | _, _ => none

def isNilC : Operand → Bool
  | .const .nilIface => true
  | _ => false

/-- The pure operations: no memory is looked at. -/
def vpure (P : Program) (ρ : Operand → Value) (op : Op) (K : Value → Prop) : Prop :=
  match op with
  | .move x => K (ρ x)
  | .assign x => K (ρ x)
  | .pick c a b => PickV (ρ c) (ρ a) (ρ b) K
  | .binOp op t x y _ =>
    match op with
    | .shl => ShV .shl (ρ x) (ρ y) K
    | .shr => ShV .shr (ρ x) (ρ y) K
    | op => match P.underlying t with
      | some (.int _) => BinV op (ρ x) (ρ y) K
      | some .bool => BoolV op (ρ x) (ρ y) K
      | some (.interface _) => isNilC y = true ∧ INilV op (ρ x) K
      | _ => False
  | .unOp op _ x => match op with | .not => NotV (ρ x) K | _ => False
  | .convert s d x => match P.underlying s, P.underlying d with
    | some (.int _), some (.int k) => ConvV k (ρ x) K
    | _, _ => False
  | .nilCheck x => NilV (ρ x) K
  | .fieldAddr s x i => match fieldOff P s i with
    | some off => FAddrV off (ρ x) K
    | none => False
  | .indexAddr t x i => match P.underlying t with
    | some (.slice e) => match sizeN P e with
      | some n => IdxV n (ρ x) (ρ i) K
      | none => False
    | some (.array len e) => match sizeN P e with
      | some n => IdxAV len n (ρ x) (ρ i) K
      | none => False
    | _ => False
  | .index t x i => match P.underlying t with
    | some (.array len e) => match P.underlying e, isAggB P e, sizeN P e with
      | some _, false, some n => IndexV len n (ρ x) (ρ i) K
      | _, _, _ => False
    | _ => False
  | .slice t x lo hi none => match P.underlying t with
    | some (.slice e) => match sizeN P e with
      | some n => SliceV n (ρ x) (lo.map ρ) (hi.map ρ) K
      | none => False
    | some (.array len e) => match sizeN P e with
      | some n => SliceAV len n (ρ x) (lo.map ρ) (hi.map ρ) K
      | none => False
    | _ => False
  | .build t parts => match zeroC P t, P.underlying t with
    | some z, some (.struct fs) => match placesL P fs.toList with
      | some ps => BuildV z (fun i => ps[i]?) (parts.toList.map fun p => (p.1, ρ p.2)) K
      | none => False
    | _, _ => False
  | .extract x i => ExtractV (ρ x) i K
  | .makeInterface t x => match P.underlying t with
    | some (.interface _) => False
    | some _ => K (.iface t (ρ x))
    | none => False
  | .makeFunc fn first cap => K (.func fn (first.map ρ) (cap.map ρ))
  | .typeAssert x _ t true => match P.underlying t, zeroOf P t with
    | some (.interface _), _ => False
    | some _, some z => TAssertV t z (ρ x) K
    | _, _ => False
  | .call { callee := .builtin b, args := args, argTypes := ts } =>
    match b, args.toList, ts.toList with
    | .len, [x], [t] => match P.underlying t with
      | some (.slice _) => LenV (ρ x) K
      | _ => False
    | .min, [x, y], _ => MinV (ρ x) (ρ y) K
    | .max, [x, y], _ => MaxV (ρ x) (ρ y) K
    | _, _, _ => False
  | _ => False
end Go.V
