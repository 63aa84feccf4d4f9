/- The verification conditions of operations: pure operations. -/
import Derived.Calls
import Derived.Tactics
import Derived.Orders
import Derived.OrdersHeld
import Derived.Laws.Small
import Derived.Below
import Derived.OwnWalk
import Derived.LaidEql
namespace Go.V
open Go

def nth : List Value → Nat → Value
  | [], _ => undef
  | v :: _, 0 => v
  | _ :: f, n + 1 => nth f n

def upd : List Value → Nat → Value → List Value
  | [], _, _ => []
  | _ :: f, 0, v => v :: f
  | x :: f, n + 1, v => x :: upd f n v

def putD (f : List Value) : Option Nat → Value → List Value
  | some d, v => upd f d v
  | none, _ => f

def ev (f : List Value) : Operand → Value
  | .tmp t => nth f t
  | .const v => v
  | .global g => .pointer (some ⟨g, 0, none⟩)
  | .func g => .func (.func g) #[] #[]

theorem nth_eq (f : List Value) (n : Nat) : f.toArray.getD n undef = nth f n := by
  induction f generalizing n with
  | nil => simp [nth]
  | cons x f ih => cases n with
    | zero => simp [nth]
    | succ n => have := ih n; simp [nth] at this ⊢; exact this

theorem upd_eq (f : List Value) (n : Nat) (v : Value) : f.toArray.setIfInBounds n v = (upd f n v).toArray := by
  have : f.set n v = upd f n v := by
    induction f generalizing n with
    | nil => simp [upd]
    | cons x f ih => cases n with
      | zero => simp [upd]
      | succ n => simp [upd, ih]
  simp [this]

theorem upd_length (f : List Value) (n : Nat) (v : Value) : (upd f n v).length = f.length := by
  induction f generalizing n with
  | nil => simp [upd]
  | cons x f ih => cases n with
    | zero => simp [upd]
    | succ n => simp [upd, ih]

theorem nth_upd_ne (f : List Value) {n m : Nat} (v : Value) (h : n ≠ m) : nth (upd f n v) m = nth f m := by
  induction f generalizing n m with
  | nil => simp [upd]
  | cons x f ih => cases n with
    | zero => cases m with
      | zero => exact absurd rfl h
      | succ m => simp [upd, nth]
    | succ n => cases m with
      | zero => simp [upd, nth]
      | succ m => simp only [upd, nth]; exact ih (by omega)

theorem nth_upd_same (f : List Value) {n : Nat} (v : Value) (h : n < f.length) : nth (upd f n v) n = v := by
  induction f generalizing n with
  | nil => simp at h
  | cons x f ih => cases n with
    | zero => simp [upd, nth]
    | succ n => simp only [upd, nth]; exact ih (by simpa using h)

theorem upd_nth (f : List Value) (n : Nat) : upd f n (nth f n) = f := by
  induction f generalizing n with
  | nil => simp [upd]
  | cons x f ih => cases n with
    | zero => simp [upd, nth]
    | succ n => simp only [upd, nth]; rw [ih]

theorem ext_nth {f g : List Value} (hl : f.length = g.length) (h : ∀ t, t < f.length → nth f t = nth g t) : f = g := by
  induction f generalizing g with
  | nil => cases g with
    | nil => rfl
    | cons => simp at hl
  | cons x f ih => cases g with
    | nil => simp at hl
    | cons y g =>
      have h0 := h 0 (by simp)
      simp only [nth] at h0
      rw [h0, ih (by simpa using hl) fun t ht => by have := h (t + 1) (by simpa using ht); simpa [nth] using this]

theorem act_eval (f : List Value) (d : List Deferred) : (⟨f.toArray, d⟩ : Act).eval = ev f := by
  funext x
  cases x with
  | tmp t => exact nth_eq f t
  | _ => rfl

theorem act_put (f : List Value) (d : List Deferred) (o : Option Nat) (v : Value) : (⟨f.toArray, d⟩ : Act).put o v = ⟨(putD f o v).toArray, d⟩ := by
  cases o with
  | none => rfl
  | some n => simp only [Act.put, putD, upd_eq]

/-! ### Combinators of pure operations -/

def InK (k : IntKind) (n : Int) : Prop := k.wrap n = n
theorem InK.eq {k : IntKind} {n : Int} (h : InK k n) : k.wrap n = n := h

def PickV (c a b : Value) (K : Value → Prop) : Prop :=
  match c with | .bool true => K a | .bool false => K b | _ => False

def SplitV (c : Value) (A B : Prop) : Prop :=
  match c with | .bool true => A | .bool false => B | _ => False

def BinV (op : BinOp) (x y : Value) (K : Value → Prop) : Prop :=
  match x, y with
  | .int k a, .int k' b => k = k' ∧ match op with
    | .add => InK k (a + b) ∧ K (.int k (a + b))
    | .sub => InK k (a - b) ∧ K (.int k (a - b))
    | .mul => InK k (a * b) ∧ K (.int k (a * b))
    | .quo => b ≠ 0 ∧ InK k (a.tdiv b) ∧ K (.int k (a.tdiv b))
    | .rem => b ≠ 0 ∧ K (.int k (a.tmod b))
    | .and => K (.int k (k.wrap (BitVec.ofInt k.bits a &&& BitVec.ofInt k.bits b).toNat))
    | .or => K (.int k (k.wrap (BitVec.ofInt k.bits a ||| BitVec.ofInt k.bits b).toNat))
    | .xor => K (.int k (k.wrap (BitVec.ofInt k.bits a ^^^ BitVec.ofInt k.bits b).toNat))
    | .eql => K (.bool (a == b))
    | .neq => K (.bool (a != b))
    | .lss => K (.bool (decide (a < b)))
    | .leq => K (.bool (decide (a ≤ b)))
    | .gtr => K (.bool (decide (a > b)))
    | .geq => K (.bool (decide (a ≥ b)))
    | _ => False
  | _, _ => False

def ShV (op : BinOp) (x y : Value) (K : Value → Prop) : Prop :=
  match x, y with
  | .int k a, .int _ b => 0 ≤ b ∧ match op with
    | .shl => K (.int k (k.wrap (a * 2 ^ (min b.toNat k.bits))))
    | .shr => K (.int k (a.fdiv (2 ^ (min b.toNat k.bits))))
    | _ => False
  | _, _ => False

def BoolV (op : BinOp) (x y : Value) (K : Value → Prop) : Prop :=
  match x, y with
  | .bool a, .bool b => match op with
    | .eql => K (.bool (a == b))
    | .neq => K (.bool (!(a == b)))
    | _ => False
  | _, _ => False

/-- An interface value against the literal nil. -/
def INilV (op : BinOp) (x : Value) (K : Value → Prop) : Prop :=
  match x with
  | .nilIface => match op with | .eql => K (.bool true) | .neq => K (.bool false) | _ => False
  | .iface _ _ => match op with | .eql => K (.bool false) | .neq => K (.bool true) | _ => False
  | _ => False

def NotV (x : Value) (K : Value → Prop) : Prop :=
  match x with | .bool b => K (.bool !b) | _ => False

def ConvV (k : IntKind) (x : Value) (K : Value → Prop) : Prop :=
  match x with | .int _ n => InK k n ∧ K (.int k n) | _ => False

def NilV (x : Value) (K : Value → Prop) : Prop :=
  match x with | .pointer (some a) => K (.pointer (some a)) | _ => False

def FAddrV (off : Nat) (x : Value) (K : Value → Prop) : Prop :=
  match x with | .pointer (some a) => K (.pointer (some (a.add off))) | _ => False

def IdxV (size : Nat) (s i : Value) (K : Value → Prop) : Prop :=
  match s, i with
  | .slice (some a) len _, .int _ i => 0 ≤ i ∧ i < len ∧ K (.pointer (some (a.add (i.toNat * size))))
  | _, _ => False

def IdxAV (n size : Nat) (p i : Value) (K : Value → Prop) : Prop :=
  match p, i with
  | .pointer (some a), .int _ i => 0 ≤ i ∧ i < n ∧ K (.pointer (some (a.add (i.toNat * size))))
  | _, _ => False

/-- An element of an array that is a value. -/
def IndexV (n size : Nat) (x i : Value) (K : Value → Prop) : Prop :=
  match x, i with
  | .agg cs, .int _ i => 0 ≤ i ∧ i < n ∧ ∃ v, cs[i.toNat * size]? = some v ∧ K v
  | _, _ => False

/-- A byte of a string that is written down: any byte is reckoned with. -/
def IndexSV (n : Nat) (i : Value) (K : Value → Prop) : Prop :=
  match i with
  | .int _ i => 0 ≤ i ∧ i < n ∧ ∀ b : UInt8, K (.int .u8 b.toNat)
  | _ => False
def sizeSV (x : Value) : Nat := match x with | .string s => s.size | _ => 0

/-- The bound of a slice expression as a number: what is not given is the default. -/
def bndV (d : Nat) : Option Value → Option Int
  | none => some d
  | some (.int _ n) => some n
  | some _ => none

def SliceV (size : Nat) (s : Value) (lo hi : Option Value) (K : Value → Prop) : Prop :=
  match s with
  | .slice a len cap => match bndV 0 lo, bndV len hi with
    | some l, some h => 0 ≤ l ∧ l ≤ h ∧ h ≤ cap ∧ (len ≤ cap ∨ hi ≠ none) ∧ K (.slice (if cap = l.toNat then a else a.map (·.add (l.toNat * size))) (h.toNat - l.toNat) (cap - l.toNat))
    | _, _ => False
  | _ => False

def SliceAV (n size : Nat) (p : Value) (lo hi : Option Value) (K : Value → Prop) : Prop :=
  match p with
  | .pointer (some a) => match bndV 0 lo, bndV n hi with
    | some l, some h => 0 ≤ l ∧ l ≤ h ∧ h ≤ n ∧ K (.slice (some (if n = l.toNat then a else a.add (l.toNat * size))) (h.toNat - l.toNat) (n - l.toNat))
    | _, _ => False
  | _ => False

def BuildV (zero : Array Value) (places : Nat → Option (Nat × Nat)) (parts : List (Nat × Value)) (K : Value → Prop) : Prop :=
  ∃ cells, Instr.fill places zero parts = some cells ∧ K (.agg cells)

def ExtractV (x : Value) (i : Nat) (K : Value → Prop) : Prop :=
  match x with | .tuple vs => ∃ u, vs[i]? = some u ∧ K u | _ => False

def LenV (x : Value) (K : Value → Prop) : Prop :=
  match x with | .slice _ n _ => K (.int .i64 n) | _ => False

def MinV (x y : Value) (K : Value → Prop) : Prop :=
  match x, y with | .int k a, .int _ b => K (.int k (if b < a then b else a)) | _, _ => False

def MaxV (x y : Value) (K : Value → Prop) : Prop :=
  match x, y with | .int k a, .int _ b => K (.int k (if b > a then b else a)) | _, _ => False

/-- 'v, ok := x.(T)' at a concrete type T. -/
def TAssertV (t : TypeId) (zero : Value) (x : Value) (K : Value → Prop) : Prop :=
  match x with
  | .nilIface => K (.tuple #[zero, .bool false])
  | .iface u v => (u = t → K (.tuple #[v, .bool true])) ∧ (u ≠ t → K (.tuple #[zero, .bool false]))
  | _ => False

/-- Is an aggregate. -/
def isAggB (P : Program) (t : TypeId) : Bool :=
  match P.underlying t with | some (.struct _) | some (.array _ _) => true | _ => false

def sizeN (P : Program) (t : TypeId) : Option Nat := (P.info? t).map (·.size)

def zeroC (P : Program) (t : TypeId) : Option (Array Value) := match P.info? t with | some i => i.zero.map Value.cells | none => none
def zeroOf (P : Program) (t : TypeId) : Option Value := match P.info? t with | some i => i.zero | none => none

def fieldOff (P : Program) (s i : Nat) : Option Nat :=
  match P.underlying s with
  | some (.struct fs) => match fs[i]? with
    | some f => match sizeN P f.type with
      | some n => if n = 0 then none else some f.offset
      | none => none
    | none => none
  | _ => none

def places (P : Program) (fs : Array Field) : Option (Array (Nat × Nat)) :=
  fs.mapM fun f => match sizeN P f.type with | some n => some (f.offset, n) | none => none

def placesL (P : Program) : List Field → Option (List (Nat × Nat))
  | [] => some []
  | f :: fs => match sizeN P f.type, placesL P fs with
    | some n, some ps => some ((f.offset, n) :: ps)
    | _, _ => none

def isNilC : Operand → Bool
  | .const .nilIface => true
  | _ => false

/-- The pure operations: no memory is looked at. -/
def vpure (P : Program) (ρ : Operand → Value) (op : Op) (K : Value → Prop) : Prop :=
  match op with
  | .move x => K (ρ x)
  | .assign x => K (ρ x)
  | .pick c a b => PickV (ρ c) (ρ a) (ρ b) K
  | .binOp op t x y _ =>
    match op with
    | .shl => ShV .shl (ρ x) (ρ y) K
    | .shr => ShV .shr (ρ x) (ρ y) K
    | op => match P.underlying t with
      | some (.int _) => BinV op (ρ x) (ρ y) K
      | some .bool => BoolV op (ρ x) (ρ y) K
      | some (.interface _) => isNilC y = true ∧ INilV op (ρ x) K
      | _ => False
  | .unOp op _ x => match op with | .not => NotV (ρ x) K | _ => False
  | .convert s d x => match P.underlying s, P.underlying d with
    | some (.int _), some (.int k) => ConvV k (ρ x) K
    | _, _ => False
  | .nilCheck x => NilV (ρ x) K
  | .fieldAddr s x i => match fieldOff P s i with
    | some off => FAddrV off (ρ x) K
    | none => False
  | .indexAddr t x i => match P.underlying t with
    | some (.slice e) => match sizeN P e with
      | some n => IdxV n (ρ x) (ρ i) K
      | none => False
    | some (.array len e) => match sizeN P e with
      | some n => IdxAV len n (ρ x) (ρ i) K
      | none => False
    | _ => False
  | .index t x i => match P.underlying t with
    | some (.array len e) => match P.underlying e, isAggB P e, sizeN P e with
      | some _, false, some n => IndexV len n (ρ x) (ρ i) K
      | _, _, _ => False
    | some .string => IndexSV (sizeSV (ρ x)) (ρ i) K
    | _ => False
  | .slice t x lo hi none => match P.underlying t with
    | some (.slice e) => match sizeN P e with
      | some n => SliceV n (ρ x) (lo.map ρ) (hi.map ρ) K
      | none => False
    | some (.array len e) => match sizeN P e with
      | some n => SliceAV len n (ρ x) (lo.map ρ) (hi.map ρ) K
      | none => False
    | _ => False
  | .build t parts => match zeroC P t, P.underlying t with
    | some z, some (.struct fs) => match placesL P fs.toList with
      | some ps => BuildV z (fun i => ps[i]?) (parts.toList.map fun p => (p.1, ρ p.2)) K
      | none => False
    | _, _ => False
  | .extract x i => ExtractV (ρ x) i K
  | .makeInterface t x => match P.underlying t with
    | some (.interface _) => False
    | some _ => K (.iface t (ρ x))
    | none => False
  | .makeFunc fn first cap => K (.func fn (first.map ρ) (cap.map ρ))
  | .typeAssert x _ t true => match P.underlying t, zeroOf P t with
    | some (.interface _), _ => False
    | some _, some z => TAssertV t z (ρ x) K
    | _, _ => False
  | .call { callee := .builtin b, args := args, argTypes := ts } =>
    match b, args.toList, ts.toList with
    | .len, [x], [t] => match P.underlying t with
      | some (.slice _) => LenV (ρ x) K
      | _ => False
    | .min, [x, y], _ => MinV (ρ x) (ρ y) K
    | .max, [x, y], _ => MaxV (ρ x) (ρ y) K
    | _, _, _ => False
  | _ => False
end Go.V

/- The pure operations are sound. -/
namespace Go.V
open Go

def RunsTo (P : Program) (ρ : Operand → Value) (o : Oper) (v : Value) : Prop := ∀ w, (execOp ρ o).run P w = .ok (.value v) w

theorem run_mapN {P : Program} {w : World} {s : Sem Value} {v : Value} (h : s.run P w = .ok v w) :
    ((do pure (.value (← s))) : Sem Next).run P w = .ok (.value v) w := by simp [h]

theorem run_und {P : Program} {t : TypeId} {d : TypeDesc} (h : P.underlying t = some d) (w : World) : (underlying t).run P w = .ok d w := by
  simp [underlying, h]

theorem run_info {P : Program} {t : TypeId} {i : TypeInfo} (h : P.info? t = some i) (w : World) : (typeInfo t).run P w = .ok i w := by
  simp [typeInfo, h]

theorem run_size {P : Program} {t : TypeId} {n : Nat} (h : sizeN P t = some n) (w : World) : (sizeOf t).run P w = .ok n w := by
  unfold sizeN at h
  cases hi : P.info? t with
  | none => simp [hi] at h
  | some i => simp [hi] at h; simp [sizeOf, run_info hi, h]

theorem run_zero {P : Program} {t : TypeId} {z : Value} (h : zeroOf P t = some z) (w : World) : (zeroValue t).run P w = .ok z w := by
  unfold zeroOf at h
  cases hi : P.info? t with
  | none => simp [hi] at h
  | some i => simp [hi] at h; simp [zeroValue, run_info hi, h]

theorem run_zeroC {P : Program} {t : TypeId} {z : Array Value} (h : zeroC P t = some z) (w : World) : ∃ v, (zeroValue t).run P w = .ok v w ∧ v.cells = z := by
  unfold zeroC at h
  cases hi : P.info? t with
  | none => simp [hi] at h
  | some i =>
    simp only [hi, Option.map_eq_some_iff] at h
    obtain ⟨v, hv, hz⟩ := h
    exact ⟨v, by simp [zeroValue, run_info hi, hv], hz⟩

theorem binV_sound {P : Program} {op : BinOp} {t : TypeId} {x y : Value} {K : Value → Prop} (h : BinV op x y K) :
    ∃ v, (∀ w, (binOp op t x y).run P w = .ok v w) ∧ K v ∧ (∀ (a b : Operand) w, (eqGuard op t a b x y).run P w = .ok () w) := by
  unfold BinV at h
  split at h
  · rename_i k a k' b
    obtain ⟨rfl, h⟩ := h
    have hg : ∀ (c d : Operand) w, (eqGuard op t c d (.int k a) (.int k b)).run P w = .ok () w := by
      intro c d w; unfold eqGuard; cases op <;> simp
    cases op <;> simp only at h
    case add => exact ⟨_, fun w => by simp [binOp, Op.intArith, h.1.eq], h.2, hg⟩
    case sub => exact ⟨_, fun w => by simp [binOp, Op.intArith, h.1.eq], h.2, hg⟩
    case mul => exact ⟨_, fun w => by simp [binOp, Op.intArith, h.1.eq], h.2, hg⟩
    case quo => exact ⟨_, fun w => by simp [binOp, Op.intDiv, h.1, h.2.1.eq], h.2.2, hg⟩
    case rem => exact ⟨_, fun w => by simp [binOp, Op.intDiv, h.1], h.2, hg⟩
    case and => exact ⟨_, fun w => by simp [binOp, Op.intBits], h, hg⟩
    case or => exact ⟨_, fun w => by simp [binOp, Op.intBits], h, hg⟩
    case xor => exact ⟨_, fun w => by simp [binOp, Op.intBits], h, hg⟩
    case eql => exact ⟨_, fun w => by simp [binOp, Op.intCmp], h, hg⟩
    case neq => exact ⟨_, fun w => by simp [binOp, Op.intCmp], h, hg⟩
    case lss => exact ⟨_, fun w => by simp [binOp, Op.intCmp], h, hg⟩
    case leq => exact ⟨_, fun w => by simp [binOp, Op.intCmp], h, hg⟩
    case gtr => exact ⟨_, fun w => by simp [binOp, Op.intCmp], h, hg⟩
    case geq => exact ⟨_, fun w => by simp [binOp, Op.intCmp], h, hg⟩
    all_goals exact h.elim
  · exact h.elim

theorem boolV_sound {P : Program} {op : BinOp} {t : TypeId} {x y : Value} {K : Value → Prop} (ht : P.underlying t = some .bool) (h : BoolV op x y K) :
    ∃ v, (∀ w, (binOp op t x y).run P w = .ok v w) ∧ K v ∧ (∀ (a b : Operand) w, (eqGuard op t a b x y).run P w = .ok () w) := by
  unfold BoolV at h
  split at h
  · rename_i a b
    have hg : ∀ (c d : Operand) w, (eqGuard op t c d (.bool a) (.bool b)).run P w = .ok () w := by
      intro c d w; unfold eqGuard; cases op <;> simp
    cases op <;> simp only at h
    case eql => exact ⟨_, fun w => run_eql_bool w t a b ht, h, hg⟩
    case neq => exact ⟨_, fun w => run_neq_bool w t a b ht, h, hg⟩
    all_goals exact h.elim
  · exact h.elim

theorem inilV_sound {P : Program} {op : BinOp} {t : TypeId} {ms : Array (String × TypeId)} {x : Value} {cx cy : Operand} (hc : isNilC cy = true) {K : Value → Prop} (ht : P.underlying t = some (.interface ms)) (h : INilV op x K) :
    ∃ v, (∀ w, (binOp op t x .nilIface).run P w = .ok v w) ∧ K v ∧ (∀ w, (eqGuard op t cx cy x .nilIface).run P w = .ok () w) := by
  have hcy : cy = .const .nilIface := by
    unfold isNilC at hc
    split at hc
    · rfl
    · cases hc
  subst hcy
  unfold INilV at h
  split at h
  · have hg : ∀ w, (eqGuard op t cx (.const .nilIface) .nilIface .nilIface).run P w = .ok () w := by
      intro w; unfold eqGuard; cases op <;> simp
    have he : ∀ w d, (Op.equalIn (d + 1) t .nilIface .nilIface).run P w = .ok true w := by
      intro w d; simp [Op.equalIn, run_und ht]
    cases op <;> simp only at h
    case eql => exact ⟨_, fun w => by simp [binOp, Op.equal, Op.maxDepth, he], h, hg⟩
    case neq => exact ⟨_, fun w => by simp [binOp, Op.equal, Op.maxDepth, he], h, hg⟩
    all_goals exact h.elim
  · rename_i u v
    have hg : ∀ w, (eqGuard op t cx (.const .nilIface) (.iface u v) .nilIface).run P w = .ok () w := by
      intro w; unfold eqGuard; cases op <;> simp
    have he : ∀ w d, (Op.equalIn (d + 1) t (.iface u v) .nilIface).run P w = .ok false w := by
      intro w d; simp [Op.equalIn, run_und ht]
    cases op <;> simp only at h
    case eql => exact ⟨_, fun w => by simp [binOp, Op.equal, Op.maxDepth, he], h, hg⟩
    case neq => exact ⟨_, fun w => by simp [binOp, Op.equal, Op.maxDepth, he], h, hg⟩
    all_goals exact h.elim
  · exact h.elim


theorem bndV_run {P : Program} {d y : Nat} {o : Option Value} {n : Int} {c : BoundsCode} (h : bndV d o = some n) (h0 : 0 ≤ n) (hy : n ≤ y) (w : World) :
    (match o with | some v => Instr.sliceBound v y c | none => (pure d : Sem Nat)).run P w = .ok n.toNat w := by
  unfold bndV at h
  split at h
  · cases h; simp
  · cases h; simp [Instr.sliceBound, asIntOf, h0, hy]
  · cases h

theorem sliceBounds_run {P : Program} {len cap : Nat} {b : Bool} {lo hi : Option Value} {l h : Int} (hl : bndV 0 lo = some l) (hh : bndV len hi = some h)
    (h0 : 0 ≤ l) (h1 : l ≤ h) (h2 : h ≤ cap) (w : World) : (Instr.sliceBounds b len cap lo hi none).run P w = .ok (l.toNat, h.toNat, cap) w := by
  have e1 := bndV_run (P := P) (y := h.toNat) (c := .sliceB) hl h0 (by omega) w
  unfold Instr.sliceBounds
  cases hi with
  | none =>
    cases hh
    simp at e1 ⊢
    cases lo with
    | none => cases hl; simp
    | some v => simp at e1 ⊢; simp [e1]
  | some v =>
    have e2 := bndV_run (P := P) (y := cap) (c := if b = true then .sliceAcap else .sliceAlen) hh (by omega) h2 w
    simp at e2 ⊢
    simp [e2]
    cases lo with
    | none => cases hl; simp
    | some v => simp at e1 ⊢; simp [e1]

theorem sliceV_sound {P : Program} {t e n : Nat} {s : Value} {lo hi : Option Value} {K : Value → Prop} (ht : P.underlying t = some (.slice e)) (hn : sizeN P e = some n)
    (h : SliceV n s lo hi K) : ∃ v, (∀ w, (Instr.sliceAt t s lo hi none).run P w = .ok v w) ∧ K v := by
  unfold SliceV at h
  split at h
  · rename_i a len cap
    split at h
    · rename_i l hh hl hhh
      obtain ⟨h0, h1, h2, _, hK⟩ := h
      refine ⟨_, fun w => ?_, hK⟩
      simp [Instr.sliceAt, Instr.slice, run_und ht, sliceBounds_run hl hhh h0 h1 h2, run_size hn]
    · exact h.elim
  · exact h.elim

theorem sliceAV_sound {P : Program} {t e n len : Nat} {s : Value} {lo hi : Option Value} {K : Value → Prop} (ht : P.underlying t = some (.array len e)) (hn : sizeN P e = some n)
    (h : SliceAV len n s lo hi K) : ∃ v, (∀ w, (Instr.sliceAt t s lo hi none).run P w = .ok v w) ∧ K v := by
  unfold SliceAV at h
  split at h
  · rename_i a
    split at h
    · rename_i l hh hl hhh
      obtain ⟨h0, h1, h2, hK⟩ := h
      refine ⟨_, fun w => ?_, hK⟩
      simp [Instr.sliceAt, Instr.sureAddr, run_und ht, sliceBounds_run hl hhh h0 h1 h2, run_size hn]
    · exact h.elim
  · exact h.elim

theorem idxV_sound {P : Program} {t e n : Nat} {s i : Value} {K : Value → Prop} (ht : P.underlying t = some (.slice e)) (hn : sizeN P e = some n)
    (h : IdxV n s i K) : ∃ v, (∀ w, (Instr.indexAt t s i).run P w = .ok v w) ∧ K v := by
  unfold IdxV at h
  split at h
  · obtain ⟨h0, h1, hK⟩ := h
    exact ⟨_, fun w => by simp [Instr.indexAt, asIntOf, run_und ht, run_size hn, h0, h1], hK⟩
  · exact h.elim

theorem idxAV_sound {P : Program} {t e n len : Nat} {s i : Value} {K : Value → Prop} (ht : P.underlying t = some (.array len e)) (hn : sizeN P e = some n)
    (h : IdxAV len n s i K) : ∃ v, (∀ w, (Instr.indexAt t s i).run P w = .ok v w) ∧ K v := by
  unfold IdxAV at h
  split at h
  · obtain ⟨h0, h1, hK⟩ := h
    exact ⟨_, fun w => by simp [Instr.indexAt, Instr.sureAddr, asIntOf, run_und ht, run_size hn, h0, h1], hK⟩
  · exact h.elim

theorem isAggB_run {P : Program} {e : TypeId} {d : TypeDesc} (hd : P.underlying e = some d) (h : isAggB P e = false) (w : World) : (isAgg e).run P w = .ok false w := by
  unfold isAggB at h
  rw [hd] at h
  cases d <;> simp_all [isAgg, run_und hd]
theorem indexV_sound {P : Program} {t e n len : Nat} {d : TypeDesc} {x i : Value} {K : Value → Prop} (ht : P.underlying t = some (.array len e)) (hd : P.underlying e = some d) (ha : isAggB P e = false) (hn : sizeN P e = some n)
    (h : IndexV len n x i K) : ∃ v, (∀ w, (Instr.index t x i).run P w = .ok v w) ∧ K v := by
  unfold IndexV at h
  split at h
  · obtain ⟨h0, h1, v, hv, hK⟩ := h
    refine ⟨v, fun w => ?_, hK⟩
    have hp : ∀ cs off, cs[off]? = some v → (part e cs off).run P w = .ok v w := fun cs off hc => by simp [part, isAggB_run hd ha, hc]
    simp [Instr.index, asIntOf, run_und ht, run_size hn, h0, h1, hp _ _ hv]
  · exact h.elim

theorem indexSV_sound {P : Program} {t : TypeId} {x i : Value} {K : Value → Prop} (ht : P.underlying t = some .string) (h : IndexSV (sizeSV x) i K) : ∃ v, (∀ w, (Instr.index t x i).run P w = .ok v w) ∧ K v := by
  unfold IndexSV at h
  split at h
  · rename_i k i
    obtain ⟨h0, h1, hK⟩ := h
    unfold sizeSV at h1
    split at h1
    · rename_i s
      have hlt : i.toNat < s.size := by omega
      have hs : s[i.toNat]? = some (s[i.toNat]'hlt) := getElem?_pos s i.toNat hlt
      exact ⟨.int .u8 (s[i.toNat]'hlt).toNat, fun w => by simp [Instr.index, asIntOf, run_und ht, h0, hs], hK _⟩
    · omega
  · exact h.elim

theorem fieldAt_run {P : Program} {s i off : Nat} (h : fieldOff P s i = some off) (a : Addr) (w : World) :
    (Instr.fieldAt s (.pointer (some a)) i).run P w = .ok (.pointer (some (a.add off))) w := by
  unfold fieldOff at h
  split at h
  · rename_i fs hs
    split at h
    · rename_i f hf
      split at h
      · rename_i n hn
        split at h
        · cases h
        · rename_i hz
          cases h
          simp [Instr.fieldAt, run_und hs, hf, Instr.sureAddr, fieldPlace, run_size hn, hz]
      · cases h
    · cases h
  · cases h

theorem placesL_spec {P : Program} : ∀ {fs : List Field} {ps : List (Nat × Nat)}, placesL P fs = some ps →
    ∀ w, (fs.mapM (fun f => Prod.mk f.offset <$> sizeOf f.type : Field → Sem (Nat × Nat))).run P w = .ok ps w
  | [], ps, h, w => by cases h; simp
  | f :: fs, ps, h, w => by
    unfold placesL at h
    split at h
    · rename_i n qs hn hq
      cases h
      have := placesL_spec hq w
      simp [run_size hn, this]
    · cases h

theorem build_sound {P : Program} {t : Nat} {z : Array Value} {fs : Array Field} {ps : List (Nat × Nat)} {parts : Array (Nat × Value)} {K : Value → Prop}
    (hz : zeroC P t = some z) (hs : P.underlying t = some (.struct fs)) (hp : placesL P fs.toList = some ps)
    (h : BuildV z (fun i => ps[i]?) parts.toList K) : ∃ v, (∀ w, (Instr.build t parts).run P w = .ok v w) ∧ K v := by
  obtain ⟨cells, hf, hK⟩ := h
  refine ⟨_, fun w => ?_, hK⟩
  obtain ⟨zv, hzr, hzc⟩ := run_zeroC hz w
  have hm := placesL_spec hp w
  have hm' : (fs.mapM (fun f => Prod.mk f.offset <$> sizeOf f.type : Field → Sem (Nat × Nat))).run P w = .ok ps.toArray w := by
    rw [Array.mapM_eq_mapM_toList]
    simp only [Sem.run_map, hm, Result.andThen_ok]
  subst hzc
  simp [Instr.build, hzr, run_und hs, hm', hf]

theorem vpure_sound {P : Program} {ρ : Operand → Value} (hρ : ∀ v, ρ (.const v) = v) {o : Oper} {K : Value → Prop} (h : vpure P ρ o.op K) : ∃ v, RunsTo P ρ o v ∧ K v := by
  obtain ⟨dst, op, type, pos, after, guard⟩ := o
  simp only at h
  unfold RunsTo
  unfold vpure at h
  split at h
  · exact ⟨_, fun w => by simp [execOp], h⟩
  · exact ⟨_, fun w => by simp [execOp], h⟩
  · rename_i c a b
    unfold PickV at h
    split at h
    · rename_i hc; exact ⟨_, fun w => by simp [execOp, hc, asBool], h⟩
    · rename_i hc; exact ⟨_, fun w => by simp [execOp, hc, asBool], h⟩
    · exact h.elim
  · rename_i op t x y yt
    split at h
    · unfold ShV at h
      split at h
      · rename_i k a k' b hx hy
        obtain ⟨h0, h⟩ := h
        exact ⟨_, fun w => by simp [execOp, hx, hy, eqGuard, binOp, Op.shift, Int.not_lt.2 h0], h⟩
      · exact h.elim
    · unfold ShV at h
      split at h
      · rename_i k a k' b hx hy
        obtain ⟨h0, h⟩ := h
        exact ⟨_, fun w => by simp [execOp, hx, hy, eqGuard, binOp, Op.shift, Int.not_lt.2 h0], h⟩
      · exact h.elim
    · split at h
      · obtain ⟨v, h1, h2, h3⟩ := binV_sound (P := P) (t := t) h
        exact ⟨v, fun w => by simp [execOp, h1, h3], h2⟩
      · rename_i ht
        obtain ⟨v, h1, h2, h3⟩ := boolV_sound (P := P) ht h
        exact ⟨v, fun w => by simp [execOp, h1, h3], h2⟩
      · rename_i ht
        obtain ⟨hc, h⟩ := h
        have hyc : ρ y = .nilIface := by
          unfold isNilC at hc
          split at hc
          · exact hρ _
          · cases hc
        obtain ⟨v, h1, h2, h3⟩ := inilV_sound (P := P) (cx := x) hc ht h
        exact ⟨v, fun w => by simp [execOp, hyc, h1, h3], h2⟩
      · exact h.elim
  · rename_i op t x
    split at h
    · unfold NotV at h
      split at h
      · rename_i b hb; exact ⟨_, fun w => by simp [execOp, hb, Op.unary], h⟩
      · exact h.elim
    · exact h.elim
  · rename_i s d x
    split at h
    · rename_i hs hd
      unfold ConvV at h
      split at h
      · rename_i k n hx
        exact ⟨_, fun w => by simp [execOp, hx, convert, run_und hs, run_und hd, Conv.intToInt, h.1.eq], h.2⟩
      · exact h.elim
    · exact h.elim
  · rename_i x
    unfold NilV at h
    split at h
    · rename_i a hx; exact ⟨_, fun w => by simp [execOp, hx], h⟩
    · exact h.elim
  · rename_i s x i
    split at h
    · rename_i off hoff
      unfold FAddrV at h
      split at h
      · rename_i a hx; exact ⟨_, fun w => by simp [execOp, hx, fieldAt_run hoff], h⟩
      · exact h.elim
    · exact h.elim
  · rename_i t x i
    split at h
    · rename_i e ht
      split at h
      · rename_i n hn
        obtain ⟨v, h1, h2⟩ := idxV_sound ht hn h
        exact ⟨v, fun w => by simp [execOp, h1], h2⟩
      · exact h.elim
    · rename_i len e ht
      split at h
      · rename_i n hn
        obtain ⟨v, h1, h2⟩ := idxAV_sound ht hn h
        exact ⟨v, fun w => by simp [execOp, h1], h2⟩
      · exact h.elim
    · exact h.elim
  · rename_i t x i
    split at h
    · rename_i len e ht
      split at h
      · rename_i d n hd ha hn
        obtain ⟨v, h1, h2⟩ := indexV_sound ht hd ha hn h
        exact ⟨v, fun w => by simp [execOp, h1], h2⟩
      · exact h.elim
    · rename_i ht
      obtain ⟨v, h1, h2⟩ := indexSV_sound ht h
      exact ⟨v, fun w => by simp [execOp, h1], h2⟩
    · exact h.elim
  · rename_i t x lo hi
    split at h
    · rename_i e ht
      split at h
      · rename_i n hn
        obtain ⟨v, h1, h2⟩ := sliceV_sound ht hn h
        exact ⟨v, fun w => by simp [execOp, h1], h2⟩
      · exact h.elim
    · rename_i len e ht
      split at h
      · rename_i n hn
        obtain ⟨v, h1, h2⟩ := sliceAV_sound ht hn h
        exact ⟨v, fun w => by simp [execOp, h1], h2⟩
      · exact h.elim
    · exact h.elim
  · rename_i t parts
    split at h
    · rename_i z fs hz hs
      split at h
      · rename_i ps hp
        obtain ⟨v, h1, h2⟩ := build_sound (parts := (parts.map fun (i, x) => (i, ρ x))) hz hs hp (by simpa using h)
        exact ⟨v, fun w => by simp only [execOp]; simp [h1], h2⟩
      · exact h.elim
    · exact h.elim
  · rename_i x i
    unfold ExtractV at h
    split at h
    · rename_i vs hx
      obtain ⟨u, hu, hK⟩ := h
      exact ⟨u, fun w => by simp [execOp, hx, Instr.extract, hu], hK⟩
    · exact h.elim
  · rename_i t x
    split at h
    · exact h.elim
    · rename_i d hni ht
      refine ⟨_, fun w => ?_, h⟩
      cases d <;> first | exact (hni _ rfl).elim | simp [execOp, Instr.makeInterface, run_und ht]
    · exact h.elim
  · exact ⟨_, fun w => by simp [execOp, Instr.makeFunc], h⟩
  · rename_i x xt t
    split at h
    · exact h.elim
    · rename_i d z hd ht hz
      unfold TAssertV at h
      split at h
      · rename_i hx
        refine ⟨_, fun w => ?_, h⟩
        cases d <;> first | exact (hd _ rfl).elim | simp [execOp, hx, Instr.typeAssert, run_und ht, run_zero hz]
      · rename_i u v hx
        by_cases hut : u = t
        · refine ⟨_, fun w => ?_, h.1 hut⟩
          cases d <;> first | exact (hd _ rfl).elim | simp [execOp, hx, Instr.typeAssert, run_und ht, hut]
        · refine ⟨_, fun w => ?_, h.2 hut⟩
          cases d <;> first | exact (hd _ rfl).elim | simp [execOp, hx, Instr.typeAssert, run_und ht, run_zero hz, hut]
      · exact h.elim
    · exact h.elim
  · rename_i b args ts
    split at h
    · rename_i x t ha hts
      split at h
      · rename_i e ht
        unfold LenV at h
        split at h
        · rename_i a n c hx
          have ha' : args = #[x] := by rw [← Array.toArray_toList (xs := args), ha]
          have ht' : ts = #[t] := by rw [← Array.toArray_toList (xs := ts), hts]
          subst ha' ht'
          exact ⟨_, fun w => by simp [execOp, resolve, invoke, builtin, Builtin.len_, run_und ht, hx, goInt], h⟩
        · exact h.elim
      · exact h.elim
    · rename_i x y ha
      unfold MinV at h
      split at h
      · rename_i k a k' b hx hy
        have ha' : args = #[x, y] := by rw [← Array.toArray_toList (xs := args), ha]
        subst ha'
        exact ⟨_, fun w => by simp [execOp, resolve, invoke, builtin, Builtin.min_, Builtin.min2, hx, hy], h⟩
      · exact h.elim
    · rename_i x y ha
      unfold MaxV at h
      split at h
      · rename_i k a k' b hx hy
        have ha' : args = #[x, y] := by rw [← Array.toArray_toList (xs := args), ha]
        subst ha'
        exact ⟨_, fun w => by simp [execOp, resolve, invoke, builtin, Builtin.max_, Builtin.max2, hx, hy], h⟩
      · exact h.elim
    · exact h.elim
  · exact h.elim
end Go.V

/- Worlds that change; the operations that look at memory. -/
namespace Go.V
open Go

/-- From w to w' only blocks that meet S have changed, and new ones have come. -/
structure Chg (S : Nat → Prop) (w w' : World) : Prop where
  os : w'.os = w.os
  tape : w'.tape = w.tape
  output : w'.output = w.output
  size : w.heap.size ≤ w'.heap.size
  block : ∀ k, k < w.heap.size → ¬ S k → w'.heap[k]? = w.heap[k]?

def Ext (w w' : World) : Prop := Chg (fun _ => False) w w'

theorem Chg.refl (S : Nat → Prop) (w : World) : Chg S w w := ⟨rfl, rfl, rfl, Nat.le_refl _, fun _ _ _ => rfl⟩
theorem Chg.trans {S S' S'' : Nat → Prop} {a b c : World} (h : Chg S a b) (k : Chg S' b c) (h1 : ∀ n, n < a.heap.size → S n → S'' n) (h2 : ∀ n, n < a.heap.size → S' n → S'' n) : Chg S'' a c :=
  ⟨k.os.trans h.os, k.tape.trans h.tape, k.output.trans h.output, Nat.le_trans h.size k.size, fun i hi hn =>
    (k.block i (Nat.lt_of_lt_of_le hi h.size) fun hs => hn (h2 _ hi hs)).trans (h.block i hi fun hs => hn (h1 _ hi hs))⟩
theorem Ext.refl (w : World) : Ext w w := Chg.refl _ w
theorem Ext.trans {a b c : World} (h : Ext a b) (k : Ext b c) : Ext a c := Chg.trans h k (fun _ _ h => h) (fun _ _ h => h)
theorem Ext.chg {S : Nat → Prop} {a b : World} (h : Ext a b) : Chg S a b := ⟨h.os, h.tape, h.output, h.size, fun k hk _ => h.block k hk id⟩
theorem Chg.mono {S S' : Nat → Prop} {a b : World} (h : Chg S a b) (hs : ∀ n, n < a.heap.size → S n → S' n) : Chg S' a b :=
  ⟨h.os, h.tape, h.output, h.size, fun k hk hn => h.block k hk fun hh => hn (hs k hk hh)⟩
theorem Chg.ext {S : Nat → Prop} {a b : World} (h : Chg S a b) (hs : ∀ n, n < a.heap.size → ¬ S n) : Ext a b := h.mono fun n hn hh => hs n hn hh
theorem Ext.then {S : Nat → Prop} {a b c : World} (h : Ext a b) (k : Chg S b c) : Chg S a c := Chg.trans h k (fun _ _ h => h.elim) (fun _ _ h => h)
theorem Chg.then {S : Nat → Prop} {a b c : World} (h : Chg S a b) (k : Ext b c) : Chg S a c := Chg.trans h k (fun _ _ h => h) (fun _ _ h => h.elim)
theorem Chg.andThen {S : Nat → Prop} {a b c : World} (h : Chg S a b) (k : Chg S b c) : Chg S a c := Chg.trans h k (fun _ _ h => h) (fun _ _ h => h)
theorem Ext.size {a b : World} (h : Ext a b) : a.heap.size ≤ b.heap.size := Chg.size h
theorem Ext.at {a b : World} (h : Ext a b) {k : Nat} {o : Obj} (hk : a.heap[k]? = some o) : b.heap[k]? = some o :=
  (h.block k (Array.getElem?_eq_some_iff.1 hk).1 id).trans hk
theorem Chg.at {S : Nat → Prop} {a b : World} (h : Chg S a b) {k : Nat} {o : Obj} (hk : a.heap[k]? = some o) (hs : ¬ S k) : b.heap[k]? = some o :=
  (h.block k (Array.getElem?_eq_some_iff.1 hk).1 hs).trans hk
theorem lt_of_at {w : World} {k : Nat} {o : Obj} (hk : w.heap[k]? = some o) : k < w.heap.size := (Array.getElem?_eq_some_iff.1 hk).1
theorem Ext.below {w w' : World} (h : Ext w w') : RowKit.Below w.heap.size w w' := ⟨h.os, h.tape, h.output, h.size, fun k hk => h.block k hk id⟩

/-- A new block. -/
structure New (w : World) (o : Obj) (w' : World) : Prop where
  ext : Ext w w'
  size : w'.heap.size = w.heap.size + 1
  here : w'.heap[w.heap.size]? = some o

/-- Block b now holds o, and nothing else has changed. -/
structure Put (w : World) (b : Nat) (o : Obj) (w' : World) : Prop where
  chg : Chg (· = b) w w'
  size : w'.heap.size = w.heap.size
  here : w'.heap[b]? = some o

/-- Only the count of draws has changed. -/
structure Same (w w' : World) : Prop where
  os : w'.os = w.os
  tape : w'.tape = w.tape
  output : w'.output = w.output
  heap : w'.heap = w.heap
theorem Same.ext {w w' : World} (h : Same w w') : Ext w w' := ⟨h.os, h.tape, h.output, by rw [h.heap]; exact Nat.le_refl _, fun _ _ _ => by rw [h.heap]⟩

theorem new_alloc (w : World) (o : Obj) : New w o (w.alloc o) :=
  ⟨⟨rfl, rfl, rfl, by simp, fun k hk _ => heap_alloc_old w o k hk⟩, by simp, heap_alloc_new w o⟩

/-- Cells from place off on, replaced. -/
def splice (cur : Array Value) (off : Nat) : List Value → Array Value
  | [] => cur
  | v :: vs => splice (cur.setIfInBounds off v) (off + 1) vs

theorem splice_size (cur : Array Value) (off : Nat) (vs : List Value) : (splice cur off vs).size = cur.size := by
  induction vs generalizing cur off with
  | nil => rfl
  | cons v vs ih => simp [splice, ih]

/-! ### Combinators -/
def LoadV (agg : Bool) (n : Nat) (p : Value) (w : World) (K : Value → Prop) : Prop :=
  match p with
  | .pointer (some a) => match agg with
    | true => ∃ vs : List Value, vs.length = n ∧ (∀ j v, vs[j]? = some v → w.cell? (a.add j) = some v) ∧ K (.agg vs.toArray)
    | false => ∃ v, w.cell? a = some v ∧ K v
  | _ => False

def StoreV (n : Nat) (p v : Value) (w : World) (K : World → Prop) : Prop :=
  match p with
  | .pointer (some a) => ∃ cur T, a.spot = none ∧ w.heap[a.block]? = some (.cells cur T (0, 0)) ∧ v.cells.size = n ∧ a.off + n ≤ cur.size ∧
      (∀ u ∈ v.cells.toList, u.oneCell' = true) ∧ ∀ w', Put w a.block (.cells (splice cur a.off v.cells.toList) T (0, 0)) w' → K w'
  | _ => False

/-- A new variable that holds v. -/
def BoxV (e : TypeId) (v : Value) (w : World) (K : Value → World → Prop) : Prop :=
  ∀ w', New w (.cells v.cells e (0, 0)) w' → K (.pointer (some ⟨w.heap.size, 0, none⟩)) w'

def rowOf (z : Array Value) (n : Nat) : Array Value := (Array.range n).map (z[· % z.size]!)

def BSliceV (e size len : Nat) (z : Array Value) (parts : List (Nat × Value)) (w : World) (K : Value → World → Prop) : Prop :=
  ∃ cells, Instr.fill (fun i => some (i * size, size)) (rowOf z (len * size)) parts = some cells ∧
    ∀ w', New w (.cells cells e (0, 0)) w' → K (.slice (some ⟨w.heap.size, 0, none⟩) len len) w'

def MakeSliceV (e size bytes : Nat) (z : Array Value) (l c : Value) (w : World) (K : Value → World → Prop) : Prop :=
  match l, c with
  | .int .i64 l, .int .i64 c => 0 ≤ l ∧ l ≤ c ∧ c * bytes ≤ 281474976710656 ∧ c ≤ 9223372036854775807 ∧
      ∀ w', New w (.cells (rowOf z (c.toNat * size)) e (0, 0)) w' → K (.slice (some ⟨w.heap.size, 0, none⟩) l.toNat c.toNat) w'
  | _, _ => False

/-- What a function leaves when it returns. -/
def Ret (R : Value → World → Prop) (e : Ending) (w : World) : Prop := ∃ v, e = .returned v ∧ R v w

def CallV (P : Program) (g : FuncId) (args : List Value) (w : World) (K : Value → World → Prop) : Prop :=
  Calls P g args.toArray w (Ret K)

/-- A function value is called. -/
def CallFV (P : Program) (okf : FuncId → Bool) (f : Value) (args : List Value) (w : World) (K : Value → World → Prop) : Prop :=
  match f with
  | .func (.func g) first cap => okf g = true ∧ CallV P g (first.toList ++ args ++ cap.toList) w K
  | _ => False

/-- Pointers to variables of some size. -/
def PEqV (neg : Bool) (x y : Value) (w : World) (K : Value → Prop) : Prop :=
  match x, y with
  | .pointer (some a), .pointer (some b) => ∃ ca ta cb tb, w.heap[a.block]? = some (.cells ca ta (0, 0)) ∧ w.heap[b.block]? = some (.cells cb tb (0, 0)) ∧ K (.bool (decide (a = b) != neg))
  | _, _ => False

def AppendV (P : Program) (t : TypeId) (s x : Value) (w : World) (K : Value → World → Prop) : Prop :=
  ∃ v w', (∀ ty, (Builtin.append_ #[t, t] ty #[s, x]).run P w = .ok v w') ∧ K v w'

def CopyV (P : Program) (ts : Array TypeId) (d s : Value) (w : World) (K : Value → World → Prop) : Prop :=
  ∃ v w', (∀ ty, (Builtin.copy_ ts ty #[d, s]).run P w = .ok v w') ∧ K v w'

def LookupV (P : Program) (t : TypeId) (m k : Value) (ok : Bool) (w : World) (K : Value → World → Prop) : Prop :=
  ∃ v w', (Instr.lookup t m k ok).run P w = .ok v w' ∧ K v w'

def MapUpdV (P : Program) (t : TypeId) (m k x : Value) (w : World) (K : World → Prop) : Prop :=
  ∃ w', (Instr.mapUpdate t m k x).run P w = .ok () w' ∧ K w'

def LenMV (m : Value) (w : World) (K : Value → Prop) : Prop :=
  match m with
  | .map (some r) => ∃ es c, w.heap[r]? = some (.map es c) ∧ K (.int .i64 es.size)
  | _ => False

/-- A method of an interface value whose type is known. -/
def InvokeV (P : Program) (okf : FuncId → Bool) (r : Value) (name : String) (args : List Value) (w : World) (K : Value → World → Prop) : Prop :=
  ∃ t v f x, r = .iface t v ∧ (∀ w, (method (P.types.size + Made.depth) t v name).run P w = .ok (f, x) w) ∧ okf f = true ∧ CallV P f (x :: args) w K

def aggOf (P : Program) (t : TypeId) : Option Bool :=
  match P.underlying t with
  | some (.struct _) => some true
  | some (.array _ _) => some true
  | some _ => some false
  | none => none

def okFn (P : Program) (g : FuncId) : Bool :=
  match P.funcs[g]? with
  | some fn => fn.name != "runtime.NumGoroutine" && fn.body.isSome
  | none => false

def bytesN (P : Program) (t : TypeId) : Option Nat := (P.info? t).map (·.bytes)

def vop (P : Program) (ρ : Operand → Value) (op : Op) (w : World) (K : Value → World → Prop) : Prop :=
  match op with
  | .load t a => match aggOf P t, sizeN P t with
    | some g, some n => LoadV g n (ρ a) w fun v => K v w
    | _, _ => False
  | .store t a x => match sizeN P t with
    | some n => StoreV n (ρ a) (ρ x) w fun w => K undef w
    | none => False
  | .alloc e => match zeroOf P e with
    | some z => BoxV e z w K
    | none => False
  | .box e x => BoxV e (ρ x) w K
  | .buildSlice t len parts => match P.underlying t with
    | some (.slice e) => match sizeN P e, zeroC P e with
      | some n, some z => match decide (len * n ≤ 16777216) with
        | true => BSliceV e n len z (parts.toList.map fun p => (p.1, ρ p.2)) w K
        | false => False
      | _, _ => False
    | _ => False
  | .makeSlice t l c => match P.underlying t with
    | some (.slice e) => match sizeN P e, zeroC P e, bytesN P e with
      | some n, some z, some b => MakeSliceV e n b z (ρ l) (ρ c) w K
      | _, _, _ => False
    | _ => False
  | .makeMap _ none => ∀ w', New w (.map #[] 0) w' → K (.map (some w.heap.size)) w'
  | .lookup t m k ok => LookupV P t (ρ m) (ρ k) ok w K
  | .mapUpdate t m k x => MapUpdV P t (ρ m) (ρ k) (ρ x) w fun w => K undef w
  | .binOp bop t x y yt => match P.underlying t with
    | some (.pointer e) => match bop, sizeN P e with
      | .eql, some (_ + 1) => PEqV false (ρ x) (ρ y) w fun v => K v w
      | .neq, some (_ + 1) => PEqV true (ρ x) (ρ y) w fun v => K v w
      | _, _ => False
    | _ => vpure P ρ (.binOp bop t x y yt) fun v => K v w
  | .call { callee := .value (.func g), args := args, argTypes := _ } => match okFn P g with | true => CallV P g (args.toList.map ρ) w K | false => False
  | .call { callee := .value f, args := args, argTypes := _ } => CallFV P (okFn P) (ρ f) (args.toList.map ρ) w K
  | .call { callee := .invoke r name, args := args, argTypes := _ } => InvokeV P (okFn P) (ρ r) name (args.toList.map ρ) w K
  | .call { callee := .builtin .append, args := args, argTypes := ts } => match args.toList, ts.toList with
    | [s, x], [t, u] => match Nat.beq t u with | true => AppendV P t (ρ s) (ρ x) w K | false => False
    | _, _ => False
  | .call { callee := .builtin .copy, args := args, argTypes := ts } => match args.toList with
    | [d, s] => CopyV P ts (ρ d) (ρ s) w K
    | _ => False
  | .call { callee := .builtin .len, args := args, argTypes := ts } => match args.toList, ts.toList with
    | [x], [t] => match P.underlying t with
      | some (.map _ _) => LenMV (ρ x) w fun v => K v w
      | _ => vpure P ρ (.call { callee := .builtin .len, args := args, argTypes := ts }) fun v => K v w
    | _, _ => False
  | op => vpure P ρ op fun v => K v w
end Go.V

/- The operations that look at memory are sound. -/
namespace Go.V
open Go

theorem put_setCell {w : World} {b off : Nat} {cur : Array Value} {T : TypeId} (hb : w.heap[b]? = some (.cells cur T (0, 0))) (v : Value) :
    Put w b (.cells (cur.setIfInBounds off v) T (0, 0)) (w.setCell ⟨b, off, none⟩ v) := by
  have hlt := lt_of_at hb
  refine ⟨⟨rfl, rfl, rfl, by simp [World.setCell], fun k hk hn => ?_⟩, by simp [World.setCell], ?_⟩
  · simp only [World.setCell, Array.getElem?_modify]
    rw [if_neg (fun e => hn e.symm)]
  · simp [World.setCell, Array.getElem?_modify, hb]

theorem Put.trans {w w1 w2 : World} {b : Nat} {o o' : Obj} (h : Put w b o w1) (k : Put w1 b o' w2) : Put w b o' w2 :=
  ⟨h.chg.andThen k.chg, k.size.trans h.size, k.here⟩

theorem addr_add (b off j : Nat) : (⟨b, off, none⟩ : Addr).add j = ⟨b, off + j, none⟩ := by
  unfold Addr.add; split <;> simp_all

theorem run_storeCells {P : Program} {b off : Nat} {T : TypeId} : ∀ (vs : List Value) (i : Nat) (cur : Array Value) (w : World),
    w.heap[b]? = some (.cells cur T (0, 0)) → off + i + vs.length ≤ cur.size → (∀ u ∈ vs, u.oneCell' = true) →
    ∃ w', (storeCells ⟨b, off, none⟩ vs i).run P w = .ok () w' ∧ Put w b (.cells (splice cur (off + i) vs) T (0, 0)) w'
  | [], i, cur, w, hb, _, _ => ⟨w, by simp [storeCells], ⟨Chg.refl _ _, rfl, hb⟩⟩
  | v :: vs, i, cur, w, hb, hsz, h1 => by
    have hv := h1 v (by simp)
    have hlt : off + i < cur.size := by simp at hsz; omega
    have hc : w.cell? ⟨b, off + i, none⟩ = some cur[off + i] := by simp [World.cell?, hb, hlt]
    have hf : w.frozen? ⟨b, off + i, none⟩ = false := by simp [World.frozen?, hb]
    have hp := put_setCell (off := off + i) hb v
    obtain ⟨w', hr, hp'⟩ := run_storeCells (off := off) (P := P) vs (i + 1) _ _ hp.here (by simp at hsz ⊢; omega) (fun u hu => h1 u (by simp [hu]))
    refine ⟨w', ?_, hp.trans (by simpa [splice, Nat.add_assoc] using hp')⟩
    simp [storeCells, addr_add, run_store P w _ v _ hv, hc, hf, hr]

theorem run_isAgg {P : Program} {t : TypeId} {g : Bool} (h : aggOf P t = some g) (w : World) : (isAgg t).run P w = .ok g w := by
  unfold aggOf at h
  split at h
  · rename_i hu; cases h; simp [isAgg, run_und hu]
  · rename_i hu; cases h; simp [isAgg, run_und hu]
  · rename_i d h1 h2 hu
    cases h
    cases d <;> first | exact (h1 _ rfl).elim | exact (h2 _ _ rfl).elim | simp [isAgg, run_und hu]
  · cases h

theorem load_sound {P : Program} {t : TypeId} {g : Bool} {n : Nat} {p : Value} {w : World} {K : Value → Prop} (hg : aggOf P t = some g) (hn : sizeN P t = some n)
    (h : LoadV g n p w K) : ∃ v, (Instr.loadAt t p).run P w = .ok v w ∧ K v := by
  unfold LoadV at h
  split at h
  · rename_i a
    split at h
    · obtain ⟨vs, hl, hc, hK⟩ := h
      refine ⟨_, ?_, hK⟩
      have := run_loadCells_list (P := P) w a vs hc
      subst hl
      simp [Instr.loadAt, Instr.sureAddr, loadVar, run_isAgg hg, run_size hn, this]
    · obtain ⟨v, hc, hK⟩ := h
      exact ⟨v, by simp [Instr.loadAt, Instr.sureAddr, loadVar, run_isAgg hg, hc], hK⟩
  · exact h.elim

theorem store_sound {P : Program} {t : TypeId} {n : Nat} {p v : Value} {w : World} {K : World → Prop} (hn : sizeN P t = some n)
    (h : StoreV n p v w K) : ∃ w', (Instr.storeAt t p v).run P w = .ok () w' ∧ K w' := by
  unfold StoreV at h
  split at h
  · rename_i a
    obtain ⟨cur, T, hs, hb, hsz, hfit, h1, hK⟩ := h
    obtain ⟨b, off, spot⟩ := a
    simp only at hs hb hfit hK
    subst hs
    obtain ⟨w', hr, hp⟩ := run_storeCells (off := off) (P := P) v.cells.toList 0 cur w hb (by simp; omega) h1
    exact ⟨w', by simp [Instr.storeAt, Instr.sureAddr, storeVar, run_size hn, hsz, hr], hK _ hp⟩
  · exact h.elim

theorem run_newRow {P : Program} (e : TypeId) (c : Array Value) (w : World) : (newRow e c).run P w = .ok ⟨w.heap.size, 0, none⟩ (w.alloc (.cells c e (0, 0))) := by
  simp [newRow]

theorem box_sound {P : Program} {e : TypeId} {v : Value} {w : World} {K : Value → World → Prop} (h : BoxV e v w K) :
    ∃ u w', (Instr.box e v).run P w = .ok u w' ∧ K u w' :=
  ⟨_, _, by simp [Instr.box, newVar, run_newRow], h _ (new_alloc w _)⟩

theorem alloc_sound {P : Program} {e : TypeId} {z : Value} {w : World} {K : Value → World → Prop} (hz : zeroOf P e = some z) (h : BoxV e z w K) :
    ∃ u w', (Instr.alloc e true (.tuple #[])).run P w = .ok u w' ∧ K u w' :=
  ⟨_, _, by simp [Instr.alloc, newVar, run_newRow, run_zero hz], h _ (new_alloc w _)⟩

theorem map_range0 {f : Nat → Value} : (Array.range 0).map f = #[] := Array.eq_empty_of_size_eq_zero (by simp)

theorem bslice_sound {P : Program} {t e n len : Nat} {z : Array Value} {parts : Array (Nat × Value)} {w : World} {K : Value → World → Prop} (ht : P.underlying t = some (.slice e))
    (hn : sizeN P e = some n) (hz : zeroC P e = some z) (hlim : len * n ≤ 16777216) (h : BSliceV e n len z parts.toList w K) :
    ∃ u w', (Instr.buildSlice t len parts).run P w = .ok u w' ∧ K u w' := by
  obtain ⟨cells, hf, hK⟩ := h
  refine ⟨_, _, ?_, hK _ (new_alloc w _)⟩
  obtain ⟨zv, hzr, hzc⟩ := run_zeroC hz w
  have hlim' : ¬ (len * n > 2 ^ 24) := by omega
  subst hzc
  by_cases h0 : len * n = 0
  · have hf' : Instr.fill (fun i => some (i * n, n)) #[] parts.toList = some cells := by
      rw [h0] at hf; rw [← map_range0]; exact hf
    simp [Instr.buildSlice, run_und ht, run_size hn, h0, hf', map_range0, run_newRow]
  · have hf' : Instr.fill (fun i => some (i * n, n)) ((Array.range (len * n)).map (zv.cells[· % zv.cells.size]!)) parts.toList = some cells := hf
    simp [Instr.buildSlice, run_und ht, run_size hn, hlim', hzr, hf', run_newRow]
    intro h; exact absurd h h0

theorem makeSlice_sound {P : Program} {t e n bytes : Nat} {z : Array Value} {l c : Value} {w : World} {K : Value → World → Prop} (ht : P.underlying t = some (.slice e))
    (hn : sizeN P e = some n) (hz : zeroC P e = some z) (hb : bytesN P e = some bytes) (h : MakeSliceV e n bytes z l c w K) :
    ∃ u w', (Instr.makeSlice t l c).run P w = .ok u w' ∧ K u w' := by
  unfold MakeSliceV at h
  split at h
  · rename_i l c
    obtain ⟨h0, h1, h2, h3, hK⟩ := h
    refine ⟨_, _, ?_, hK _ (new_alloc w _)⟩
    obtain ⟨zv, hzr, hzc⟩ := run_zeroC hz w
    subst hzc
    unfold bytesN at hb
    cases hi : P.info? e with
    | none => simp [hi] at hb
    | some i =>
      simp [hi] at hb
      have hwl : IntKind.i64.wrap l = l := by simp [IntKind.wrap, IntKind.bits, IntKind.signed]; omega
      have hwc : IntKind.i64.wrap c = c := by simp [IntKind.wrap, IntKind.bits, IntKind.signed]; omega
      have hc0 : 0 ≤ c := by omega
      have hbc : ¬ ((bytes : Int) * c > 2 ^ 48) := by rw [Int.mul_comm]; omega
      have hbc' : (281474976710656 < (bytes : Int) * c) = False := by simp; rw [Int.mul_comm]; omega
      have hcn : (c < 0) = False := by simp; omega
      have hln : (l < 0) = False := by simp; omega
      have hcl : (c < l) = False := by simp; omega
      by_cases hz0 : c.toNat * n = 0
      · simp [Instr.makeSlice, run_und ht, asInt, asIntOf, run_info hi, hb, hwl, hwc, hbc', hcn, hln, hcl, run_size hn, hz0, map_range0, run_newRow, rowOf]
      · simp [Instr.makeSlice, run_und ht, asInt, asIntOf, run_info hi, hb, hwl, hwc, hbc', hcn, hln, hcl, run_size hn, hzr, run_newRow, rowOf]
        intro h; exact absurd h hz0
  · exact h.elim

theorem peqv_sound {P : Program} {t e n : Nat} {x y : Value} {neg : Bool} {w : World} {K : Value → Prop} (ht : P.underlying t = some (.pointer e)) (hn : sizeN P e = some (n + 1))
    (h : PEqV neg x y w K) : ∃ v, (∀ (a b : Operand), ((do eqGuard (if neg then .neq else .eql) t a b x y; binOp (if neg then .neq else .eql) t x y) : Sem Value).run P w = .ok v w) ∧ K v := by
  unfold PEqV at h
  split at h
  · rename_i a b
    obtain ⟨ca, ta, cb, tb, ha, hb, hK⟩ := h
    refine ⟨_, fun c d => ?_, hK⟩
    have hd : ∀ d, (Op.equalIn (d + 1) t (.pointer (some a)) (.pointer (some b))).run P w = .ok (decide (a = b)) w := by
      intro d
      by_cases hab : a = b
      · subst hab
        simp [Op.equalIn, run_und ht, run_size hn, run_sameAddr_same]
      · simp [Op.equalIn, run_und ht, run_size hn, run_sameAddr_other w hab ha hb, hab]
    have he : (Op.equal t (.pointer (some a)) (.pointer (some b))).run P w = .ok (decide (a = b)) w := hd 9999
    cases neg <;> simp [eqGuard, binOp, he]
  · exact h.elim
end Go.V
