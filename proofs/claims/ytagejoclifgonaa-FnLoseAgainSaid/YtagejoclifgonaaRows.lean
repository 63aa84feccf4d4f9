/-
  No cell of these rows narrows 'for every input' (looked for: loops, veiled, ifaces, maps, wideKeys, modest, calm, conditions, laid).
  DERIVED. THE GIVEN ROWS OF THIS SEAT. 13 by the template 'for every input the law returns true; each argument reads behind the call as it read before'; 0 by the template 'total and deterministic' (their statements: YtagejoclifgonaaTotals.lean).
  GIVEN WITH THE SEED: the statements are not yours to turn. If you find one false, say at which input.
  Laid BY PROGRAM, IN A SANDBOX (cutbox-rows.mjs): the forced cells as the released guide's own fill.sh prints them over the translation be80fb00cfb4785f… (all of the seat's roots in one cut). By AI agents, Wed Nov 11 2026. No macro, syntax, notation, axiom, sorry.
-/
import Derived.Test.YtagejoclifgonaaChecked
import GoSem.Claim
import GoSem.ClaimJoined
import GoSem.ClaimMapViews
import Derived.JoinedTies
import Derived.KernelRfl
namespace Go.Proofs.Ytagejoclifgonaa
/- THE CELL 'sum', in the pinned program and in every row, IS THE sha256 OF THE DUMP (.gsa) THAT YtagejoclifgonaaProg.lean LOADS. Nothing in Lean hashes anything: it is a label: what it is worth is what the hold of that sum in a sandbox is worth. -/
noncomputable def Try.pinned : Pinned := { name := "ytagejoclifgonaa", sum := "be80fb00cfb4785f6df744ccd7bc35d519f08787765030e0569d7341dcab42a7", checked := Try.checked }
namespace Rows
def none {H : Type} : Left H := { results := [], args := [] }

/-- 'laws.FnShare': WHATEVER THE INPUT: true; the input reads as it did. -/
def fnShareSpec : ChangeSpec := { name := "fnShare", fn := fun _ => fun
  | [d] => { results := [.lit (.bool true)], args := [d] }
  | _ => none }
def fnShareRow : OpenClaim := { program := "ytagejoclifgonaa", sum := "be80fb00cfb4785f6df744ccd7bc35d519f08787765030e0569d7341dcab42a7", func := "loop.example/workplans/laws.FnShare", spec := "fnShare", unfollowed := true, recurses := true, plainKeys := false, apart := false }
def FnShareSaid : Prop := fnShareRow.holds Try.pinned (OpenSpec.ofChange fnShareSpec)

/-- ITS FALSE NEIGHBOUR: 'it returns false'. Refute it at one input. -/
def fnShareWrong : ChangeSpec := { name := "fnShare", fn := fun _ => fun
  | [d] => { results := [.lit (.bool false)], args := [d] }
  | _ => none }
def FnShareWrongFalsely : Prop := fnShareRow.holds Try.pinned (OpenSpec.ofChange fnShareWrong)

/-- 'laws.FnLoseAgainAll': WHATEVER THE INPUT: true; the input reads as it did. -/
def fnLoseAgainAllSpec : ChangeSpec := { name := "fnLoseAgainAll", fn := fun _ => fun
  | [d] => { results := [.lit (.bool true)], args := [d] }
  | _ => none }
def fnLoseAgainAllRow : OpenClaim := { program := "ytagejoclifgonaa", sum := "be80fb00cfb4785f6df744ccd7bc35d519f08787765030e0569d7341dcab42a7", func := "loop.example/workplans/laws.FnLoseAgainAll", spec := "fnLoseAgainAll", unfollowed := true, recurses := true, plainKeys := false, apart := false }
def FnLoseAgainAllSaid : Prop := fnLoseAgainAllRow.holds Try.pinned (OpenSpec.ofChange fnLoseAgainAllSpec)

/-- ITS FALSE NEIGHBOUR: 'it returns false'. Refute it at one input. -/
def fnLoseAgainAllWrong : ChangeSpec := { name := "fnLoseAgainAll", fn := fun _ => fun
  | [d] => { results := [.lit (.bool false)], args := [d] }
  | _ => none }
def FnLoseAgainAllWrongFalsely : Prop := fnLoseAgainAllRow.holds Try.pinned (OpenSpec.ofChange fnLoseAgainAllWrong)

/-- 'laws.FnCut': WHATEVER THE INPUT: true; the input reads as it did. -/
def fnCutSpec : ChangeSpec := { name := "fnCut", fn := fun _ => fun
  | [d] => { results := [.lit (.bool true)], args := [d] }
  | _ => none }
def fnCutRow : OpenClaim := { program := "ytagejoclifgonaa", sum := "be80fb00cfb4785f6df744ccd7bc35d519f08787765030e0569d7341dcab42a7", func := "loop.example/workplans/laws.FnCut", spec := "fnCut", unfollowed := true, recurses := true, plainKeys := false, apart := false }
def FnCutSaid : Prop := fnCutRow.holds Try.pinned (OpenSpec.ofChange fnCutSpec)

/-- ITS FALSE NEIGHBOUR: 'it returns false'. Refute it at one input. -/
def fnCutWrong : ChangeSpec := { name := "fnCut", fn := fun _ => fun
  | [d] => { results := [.lit (.bool false)], args := [d] }
  | _ => none }
def FnCutWrongFalsely : Prop := fnCutRow.holds Try.pinned (OpenSpec.ofChange fnCutWrong)

/-- 'laws.FnLoseEnds': WHATEVER THE INPUT: true; the input reads as it did. -/
def fnLoseEndsSpec : ChangeSpec := { name := "fnLoseEnds", fn := fun _ => fun
  | [d] => { results := [.lit (.bool true)], args := [d] }
  | _ => none }
def fnLoseEndsRow : OpenClaim := { program := "ytagejoclifgonaa", sum := "be80fb00cfb4785f6df744ccd7bc35d519f08787765030e0569d7341dcab42a7", func := "loop.example/workplans/laws.FnLoseEnds", spec := "fnLoseEnds", unfollowed := true, recurses := true, plainKeys := false, apart := false }
def FnLoseEndsSaid : Prop := fnLoseEndsRow.holds Try.pinned (OpenSpec.ofChange fnLoseEndsSpec)

/-- ITS FALSE NEIGHBOUR: 'it returns false'. Refute it at one input. -/
def fnLoseEndsWrong : ChangeSpec := { name := "fnLoseEnds", fn := fun _ => fun
  | [d] => { results := [.lit (.bool false)], args := [d] }
  | _ => none }
def FnLoseEndsWrongFalsely : Prop := fnLoseEndsRow.holds Try.pinned (OpenSpec.ofChange fnLoseEndsWrong)

/-- 'laws.FnExactCrewNew': WHATEVER THE INPUT: true; the input reads as it did. -/
def fnExactCrewNewSpec : ChangeSpec := { name := "fnExactCrewNew", fn := fun _ => fun
  | [d1, d2] => { results := [.lit (.bool true)], args := [d1, d2] }
  | _ => none }
def fnExactCrewNewRow : OpenClaim := { program := "ytagejoclifgonaa", sum := "be80fb00cfb4785f6df744ccd7bc35d519f08787765030e0569d7341dcab42a7", func := "loop.example/workplans/laws.FnExactCrewNew", spec := "fnExactCrewNew", unfollowed := true, recurses := true, plainKeys := false, apart := false }
def FnExactCrewNewSaid : Prop := fnExactCrewNewRow.holds Try.pinned (OpenSpec.ofChange fnExactCrewNewSpec)

/-- ITS FALSE NEIGHBOUR: 'it returns false'. Refute it at one input. -/
def fnExactCrewNewWrong : ChangeSpec := { name := "fnExactCrewNew", fn := fun _ => fun
  | [d1, d2] => { results := [.lit (.bool false)], args := [d1, d2] }
  | _ => none }
def FnExactCrewNewWrongFalsely : Prop := fnExactCrewNewRow.holds Try.pinned (OpenSpec.ofChange fnExactCrewNewWrong)

/-- 'laws.FnExactFoldSame': WHATEVER THE INPUT: true; the input reads as it did. -/
def fnExactFoldSameSpec : ChangeSpec := { name := "fnExactFoldSame", fn := fun _ => fun
  | [d1, d2] => { results := [.lit (.bool true)], args := [d1, d2] }
  | _ => none }
def fnExactFoldSameRow : OpenClaim := { program := "ytagejoclifgonaa", sum := "be80fb00cfb4785f6df744ccd7bc35d519f08787765030e0569d7341dcab42a7", func := "loop.example/workplans/laws.FnExactFoldSame", spec := "fnExactFoldSame", unfollowed := true, recurses := true, plainKeys := false, apart := false }
def FnExactFoldSameSaid : Prop := fnExactFoldSameRow.holds Try.pinned (OpenSpec.ofChange fnExactFoldSameSpec)

/-- ITS FALSE NEIGHBOUR: 'it returns false'. Refute it at one input. -/
def fnExactFoldSameWrong : ChangeSpec := { name := "fnExactFoldSame", fn := fun _ => fun
  | [d1, d2] => { results := [.lit (.bool false)], args := [d1, d2] }
  | _ => none }
def FnExactFoldSameWrongFalsely : Prop := fnExactFoldSameRow.holds Try.pinned (OpenSpec.ofChange fnExactFoldSameWrong)

/-- 'laws.FnLoseAgain': WHATEVER THE INPUT: true; the input reads as it did. -/
def fnLoseAgainSpec : ChangeSpec := { name := "fnLoseAgain", fn := fun _ => fun
  | [d] => { results := [.lit (.bool true)], args := [d] }
  | _ => none }
def fnLoseAgainRow : OpenClaim := { program := "ytagejoclifgonaa", sum := "be80fb00cfb4785f6df744ccd7bc35d519f08787765030e0569d7341dcab42a7", func := "loop.example/workplans/laws.FnLoseAgain", spec := "fnLoseAgain", unfollowed := true, recurses := true, plainKeys := false, apart := false }
def FnLoseAgainSaid : Prop := fnLoseAgainRow.holds Try.pinned (OpenSpec.ofChange fnLoseAgainSpec)

/-- ITS FALSE NEIGHBOUR: 'it returns false'. Refute it at one input. -/
def fnLoseAgainWrong : ChangeSpec := { name := "fnLoseAgain", fn := fun _ => fun
  | [d] => { results := [.lit (.bool false)], args := [d] }
  | _ => none }
def FnLoseAgainWrongFalsely : Prop := fnLoseAgainRow.holds Try.pinned (OpenSpec.ofChange fnLoseAgainWrong)

/-- 'laws.FnFold': WHATEVER THE INPUT: true; the input reads as it did. -/
def fnFoldSpec : ChangeSpec := { name := "fnFold", fn := fun _ => fun
  | [d] => { results := [.lit (.bool true)], args := [d] }
  | _ => none }
def fnFoldRow : OpenClaim := { program := "ytagejoclifgonaa", sum := "be80fb00cfb4785f6df744ccd7bc35d519f08787765030e0569d7341dcab42a7", func := "loop.example/workplans/laws.FnFold", spec := "fnFold", unfollowed := true, recurses := true, plainKeys := false, apart := false }
def FnFoldSaid : Prop := fnFoldRow.holds Try.pinned (OpenSpec.ofChange fnFoldSpec)

/-- ITS FALSE NEIGHBOUR: 'it returns false'. Refute it at one input. -/
def fnFoldWrong : ChangeSpec := { name := "fnFold", fn := fun _ => fun
  | [d] => { results := [.lit (.bool false)], args := [d] }
  | _ => none }
def FnFoldWrongFalsely : Prop := fnFoldRow.holds Try.pinned (OpenSpec.ofChange fnFoldWrong)

/-- 'laws.FnFoldSameBoth': WHATEVER THE INPUT: true; the input reads as it did. -/
def fnFoldSameBothSpec : ChangeSpec := { name := "fnFoldSameBoth", fn := fun _ => fun
  | [d] => { results := [.lit (.bool true)], args := [d] }
  | _ => none }
def fnFoldSameBothRow : OpenClaim := { program := "ytagejoclifgonaa", sum := "be80fb00cfb4785f6df744ccd7bc35d519f08787765030e0569d7341dcab42a7", func := "loop.example/workplans/laws.FnFoldSameBoth", spec := "fnFoldSameBoth", unfollowed := true, recurses := true, plainKeys := false, apart := false }
def FnFoldSameBothSaid : Prop := fnFoldSameBothRow.holds Try.pinned (OpenSpec.ofChange fnFoldSameBothSpec)

/-- ITS FALSE NEIGHBOUR: 'it returns false'. Refute it at one input. -/
def fnFoldSameBothWrong : ChangeSpec := { name := "fnFoldSameBoth", fn := fun _ => fun
  | [d] => { results := [.lit (.bool false)], args := [d] }
  | _ => none }
def FnFoldSameBothWrongFalsely : Prop := fnFoldSameBothRow.holds Try.pinned (OpenSpec.ofChange fnFoldSameBothWrong)

/-- 'laws.FnFoldTwice': WHATEVER THE INPUT: true; the input reads as it did. -/
def fnFoldTwiceSpec : ChangeSpec := { name := "fnFoldTwice", fn := fun _ => fun
  | [d] => { results := [.lit (.bool true)], args := [d] }
  | _ => none }
def fnFoldTwiceRow : OpenClaim := { program := "ytagejoclifgonaa", sum := "be80fb00cfb4785f6df744ccd7bc35d519f08787765030e0569d7341dcab42a7", func := "loop.example/workplans/laws.FnFoldTwice", spec := "fnFoldTwice", unfollowed := true, recurses := true, plainKeys := false, apart := false }
def FnFoldTwiceSaid : Prop := fnFoldTwiceRow.holds Try.pinned (OpenSpec.ofChange fnFoldTwiceSpec)

/-- ITS FALSE NEIGHBOUR: 'it returns false'. Refute it at one input. -/
def fnFoldTwiceWrong : ChangeSpec := { name := "fnFoldTwice", fn := fun _ => fun
  | [d] => { results := [.lit (.bool false)], args := [d] }
  | _ => none }
def FnFoldTwiceWrongFalsely : Prop := fnFoldTwiceRow.holds Try.pinned (OpenSpec.ofChange fnFoldTwiceWrong)

/-- 'laws.FnFoldAll': WHATEVER THE INPUT: true; the input reads as it did. -/
def fnFoldAllSpec : ChangeSpec := { name := "fnFoldAll", fn := fun _ => fun
  | [d] => { results := [.lit (.bool true)], args := [d] }
  | _ => none }
def fnFoldAllRow : OpenClaim := { program := "ytagejoclifgonaa", sum := "be80fb00cfb4785f6df744ccd7bc35d519f08787765030e0569d7341dcab42a7", func := "loop.example/workplans/laws.FnFoldAll", spec := "fnFoldAll", unfollowed := true, recurses := true, plainKeys := false, apart := false }
def FnFoldAllSaid : Prop := fnFoldAllRow.holds Try.pinned (OpenSpec.ofChange fnFoldAllSpec)

/-- ITS FALSE NEIGHBOUR: 'it returns false'. Refute it at one input. -/
def fnFoldAllWrong : ChangeSpec := { name := "fnFoldAll", fn := fun _ => fun
  | [d] => { results := [.lit (.bool false)], args := [d] }
  | _ => none }
def FnFoldAllWrongFalsely : Prop := fnFoldAllRow.holds Try.pinned (OpenSpec.ofChange fnFoldAllWrong)

/-- 'laws.FnFoldSame': WHATEVER THE INPUT: true; the input reads as it did. -/
def fnFoldSameSpec : ChangeSpec := { name := "fnFoldSame", fn := fun _ => fun
  | [d] => { results := [.lit (.bool true)], args := [d] }
  | _ => none }
def fnFoldSameRow : OpenClaim := { program := "ytagejoclifgonaa", sum := "be80fb00cfb4785f6df744ccd7bc35d519f08787765030e0569d7341dcab42a7", func := "loop.example/workplans/laws.FnFoldSame", spec := "fnFoldSame", unfollowed := true, recurses := true, plainKeys := false, apart := false }
def FnFoldSameSaid : Prop := fnFoldSameRow.holds Try.pinned (OpenSpec.ofChange fnFoldSameSpec)

/-- ITS FALSE NEIGHBOUR: 'it returns false'. Refute it at one input. -/
def fnFoldSameWrong : ChangeSpec := { name := "fnFoldSame", fn := fun _ => fun
  | [d] => { results := [.lit (.bool false)], args := [d] }
  | _ => none }
def FnFoldSameWrongFalsely : Prop := fnFoldSameRow.holds Try.pinned (OpenSpec.ofChange fnFoldSameWrong)

/-- 'laws.FnFoldValues': WHATEVER THE INPUT: true; the input reads as it did. -/
def fnFoldValuesSpec : ChangeSpec := { name := "fnFoldValues", fn := fun _ => fun
  | [d] => { results := [.lit (.bool true)], args := [d] }
  | _ => none }
def fnFoldValuesRow : OpenClaim := { program := "ytagejoclifgonaa", sum := "be80fb00cfb4785f6df744ccd7bc35d519f08787765030e0569d7341dcab42a7", func := "loop.example/workplans/laws.FnFoldValues", spec := "fnFoldValues", unfollowed := true, recurses := true, plainKeys := false, apart := false }
def FnFoldValuesSaid : Prop := fnFoldValuesRow.holds Try.pinned (OpenSpec.ofChange fnFoldValuesSpec)

/-- ITS FALSE NEIGHBOUR: 'it returns false'. Refute it at one input. -/
def fnFoldValuesWrong : ChangeSpec := { name := "fnFoldValues", fn := fun _ => fun
  | [d] => { results := [.lit (.bool false)], args := [d] }
  | _ => none }
def FnFoldValuesWrongFalsely : Prop := fnFoldValuesRow.holds Try.pinned (OpenSpec.ofChange fnFoldValuesWrong)

/- THE SECOND FORM. 'bulk': how many values and letters a reading holds, each counted each time it is reached (what is shared counts as often as it is met; a slice's spare places count too). A statement '..UptoSaid' is the law's where the arguments, and the package variables that the reading takes, are together of bulk at most 1048576: NARROWER than '..Said'. Prove '..Said' where nothing that the law and all that it calls make is longer than what came in: it says more and counts as full. Else prove '..UptoSaid'. A law counts once. -/
mutual
def uptoBulk {H : Type} : DataW H → Nat
  | .lit (.string bytes) => bytes.length + 1
  | .lit _ => 1
  | .nil => 1
  | .ptr d => uptoBulk d + 1
  | .slice elems spare => uptoBulkAll elems + uptoBulkAll spare + 1
  | .agg parts => uptoBulkAll parts + 1
  | .iface _ d => uptoBulk d + 1
  | .map entries => uptoBulkEntries entries + 1
  | .held _ => 1
def uptoBulkAll {H : Type} : List (DataW H) → Nat
  | [] => 0
  | d :: r => uptoBulk d + uptoBulkAll r
def uptoBulkEntries {H : Type} : List (Lit × DataW H) → Nat
  | [] => 0
  | x :: r => uptoBulkEntry x + uptoBulkEntries r
def uptoBulkEntry {H : Type} : Lit × DataW H → Nat
  | (.string bytes, d) => bytes.length + uptoBulk d + 1
  | (_, d) => uptoBulk d + 1
 end
def uptoSmall : (H : Type) → List (DataW H) → Bool := fun _ ds => decide (uptoBulkAll ds ≤ 1048576)
def OpenSpec.upto (s : _root_.Go.ChangeSpec) : _root_.Go.OpenSpec := { _root_.Go.OpenSpec.ofChange s with cond := some uptoSmall }

/-- 'laws.FnShare', WHERE WHAT IT READS IS OF BULK AT MOST 1048576: true; the input reads as it did. -/
def fnShareUptoRow : OpenClaim := { program := "ytagejoclifgonaa", sum := "be80fb00cfb4785f6df744ccd7bc35d519f08787765030e0569d7341dcab42a7", func := "loop.example/workplans/laws.FnShare", spec := "fnShare", unfollowed := true, recurses := true, plainKeys := false, apart := false, narrowed := true }
def FnShareUptoSaid : Prop := fnShareUptoRow.holds Try.pinned (OpenSpec.upto fnShareSpec)

/-- 'laws.FnLoseAgainAll', WHERE WHAT IT READS IS OF BULK AT MOST 1048576: true; the input reads as it did. -/
def fnLoseAgainAllUptoRow : OpenClaim := { program := "ytagejoclifgonaa", sum := "be80fb00cfb4785f6df744ccd7bc35d519f08787765030e0569d7341dcab42a7", func := "loop.example/workplans/laws.FnLoseAgainAll", spec := "fnLoseAgainAll", unfollowed := true, recurses := true, plainKeys := false, apart := false, narrowed := true }
def FnLoseAgainAllUptoSaid : Prop := fnLoseAgainAllUptoRow.holds Try.pinned (OpenSpec.upto fnLoseAgainAllSpec)

/-- 'laws.FnCut', WHERE WHAT IT READS IS OF BULK AT MOST 1048576: true; the input reads as it did. -/
def fnCutUptoRow : OpenClaim := { program := "ytagejoclifgonaa", sum := "be80fb00cfb4785f6df744ccd7bc35d519f08787765030e0569d7341dcab42a7", func := "loop.example/workplans/laws.FnCut", spec := "fnCut", unfollowed := true, recurses := true, plainKeys := false, apart := false, narrowed := true }
def FnCutUptoSaid : Prop := fnCutUptoRow.holds Try.pinned (OpenSpec.upto fnCutSpec)

/-- 'laws.FnLoseEnds', WHERE WHAT IT READS IS OF BULK AT MOST 1048576: true; the input reads as it did. -/
def fnLoseEndsUptoRow : OpenClaim := { program := "ytagejoclifgonaa", sum := "be80fb00cfb4785f6df744ccd7bc35d519f08787765030e0569d7341dcab42a7", func := "loop.example/workplans/laws.FnLoseEnds", spec := "fnLoseEnds", unfollowed := true, recurses := true, plainKeys := false, apart := false, narrowed := true }
def FnLoseEndsUptoSaid : Prop := fnLoseEndsUptoRow.holds Try.pinned (OpenSpec.upto fnLoseEndsSpec)

/-- 'laws.FnExactCrewNew', WHERE WHAT IT READS IS OF BULK AT MOST 1048576: true; the input reads as it did. -/
def fnExactCrewNewUptoRow : OpenClaim := { program := "ytagejoclifgonaa", sum := "be80fb00cfb4785f6df744ccd7bc35d519f08787765030e0569d7341dcab42a7", func := "loop.example/workplans/laws.FnExactCrewNew", spec := "fnExactCrewNew", unfollowed := true, recurses := true, plainKeys := false, apart := false, narrowed := true }
def FnExactCrewNewUptoSaid : Prop := fnExactCrewNewUptoRow.holds Try.pinned (OpenSpec.upto fnExactCrewNewSpec)

/-- 'laws.FnExactFoldSame', WHERE WHAT IT READS IS OF BULK AT MOST 1048576: true; the input reads as it did. -/
def fnExactFoldSameUptoRow : OpenClaim := { program := "ytagejoclifgonaa", sum := "be80fb00cfb4785f6df744ccd7bc35d519f08787765030e0569d7341dcab42a7", func := "loop.example/workplans/laws.FnExactFoldSame", spec := "fnExactFoldSame", unfollowed := true, recurses := true, plainKeys := false, apart := false, narrowed := true }
def FnExactFoldSameUptoSaid : Prop := fnExactFoldSameUptoRow.holds Try.pinned (OpenSpec.upto fnExactFoldSameSpec)

/-- 'laws.FnLoseAgain', WHERE WHAT IT READS IS OF BULK AT MOST 1048576: true; the input reads as it did. -/
def fnLoseAgainUptoRow : OpenClaim := { program := "ytagejoclifgonaa", sum := "be80fb00cfb4785f6df744ccd7bc35d519f08787765030e0569d7341dcab42a7", func := "loop.example/workplans/laws.FnLoseAgain", spec := "fnLoseAgain", unfollowed := true, recurses := true, plainKeys := false, apart := false, narrowed := true }
def FnLoseAgainUptoSaid : Prop := fnLoseAgainUptoRow.holds Try.pinned (OpenSpec.upto fnLoseAgainSpec)

/-- 'laws.FnFold', WHERE WHAT IT READS IS OF BULK AT MOST 1048576: true; the input reads as it did. -/
def fnFoldUptoRow : OpenClaim := { program := "ytagejoclifgonaa", sum := "be80fb00cfb4785f6df744ccd7bc35d519f08787765030e0569d7341dcab42a7", func := "loop.example/workplans/laws.FnFold", spec := "fnFold", unfollowed := true, recurses := true, plainKeys := false, apart := false, narrowed := true }
def FnFoldUptoSaid : Prop := fnFoldUptoRow.holds Try.pinned (OpenSpec.upto fnFoldSpec)

/-- 'laws.FnFoldSameBoth', WHERE WHAT IT READS IS OF BULK AT MOST 1048576: true; the input reads as it did. -/
def fnFoldSameBothUptoRow : OpenClaim := { program := "ytagejoclifgonaa", sum := "be80fb00cfb4785f6df744ccd7bc35d519f08787765030e0569d7341dcab42a7", func := "loop.example/workplans/laws.FnFoldSameBoth", spec := "fnFoldSameBoth", unfollowed := true, recurses := true, plainKeys := false, apart := false, narrowed := true }
def FnFoldSameBothUptoSaid : Prop := fnFoldSameBothUptoRow.holds Try.pinned (OpenSpec.upto fnFoldSameBothSpec)

/-- 'laws.FnFoldTwice', WHERE WHAT IT READS IS OF BULK AT MOST 1048576: true; the input reads as it did. -/
def fnFoldTwiceUptoRow : OpenClaim := { program := "ytagejoclifgonaa", sum := "be80fb00cfb4785f6df744ccd7bc35d519f08787765030e0569d7341dcab42a7", func := "loop.example/workplans/laws.FnFoldTwice", spec := "fnFoldTwice", unfollowed := true, recurses := true, plainKeys := false, apart := false, narrowed := true }
def FnFoldTwiceUptoSaid : Prop := fnFoldTwiceUptoRow.holds Try.pinned (OpenSpec.upto fnFoldTwiceSpec)

/-- 'laws.FnFoldAll', WHERE WHAT IT READS IS OF BULK AT MOST 1048576: true; the input reads as it did. -/
def fnFoldAllUptoRow : OpenClaim := { program := "ytagejoclifgonaa", sum := "be80fb00cfb4785f6df744ccd7bc35d519f08787765030e0569d7341dcab42a7", func := "loop.example/workplans/laws.FnFoldAll", spec := "fnFoldAll", unfollowed := true, recurses := true, plainKeys := false, apart := false, narrowed := true }
def FnFoldAllUptoSaid : Prop := fnFoldAllUptoRow.holds Try.pinned (OpenSpec.upto fnFoldAllSpec)

/-- 'laws.FnFoldSame', WHERE WHAT IT READS IS OF BULK AT MOST 1048576: true; the input reads as it did. -/
def fnFoldSameUptoRow : OpenClaim := { program := "ytagejoclifgonaa", sum := "be80fb00cfb4785f6df744ccd7bc35d519f08787765030e0569d7341dcab42a7", func := "loop.example/workplans/laws.FnFoldSame", spec := "fnFoldSame", unfollowed := true, recurses := true, plainKeys := false, apart := false, narrowed := true }
def FnFoldSameUptoSaid : Prop := fnFoldSameUptoRow.holds Try.pinned (OpenSpec.upto fnFoldSameSpec)

/-- 'laws.FnFoldValues', WHERE WHAT IT READS IS OF BULK AT MOST 1048576: true; the input reads as it did. -/
def fnFoldValuesUptoRow : OpenClaim := { program := "ytagejoclifgonaa", sum := "be80fb00cfb4785f6df744ccd7bc35d519f08787765030e0569d7341dcab42a7", func := "loop.example/workplans/laws.FnFoldValues", spec := "fnFoldValues", unfollowed := true, recurses := true, plainKeys := false, apart := false, narrowed := true }
def FnFoldValuesUptoSaid : Prop := fnFoldValuesUptoRow.holds Try.pinned (OpenSpec.upto fnFoldValuesSpec)

end Rows
end Go.Proofs.Ytagejoclifgonaa
