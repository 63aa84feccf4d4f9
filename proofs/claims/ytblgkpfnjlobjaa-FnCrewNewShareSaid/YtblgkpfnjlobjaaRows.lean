/-
  No cell of these rows narrows 'for every input' (looked for: loops, veiled, ifaces, maps, wideKeys, modest, calm, conditions, laid).
  DERIVED. THE GIVEN ROWS OF THIS SEAT. 12 by the template 'for every input the law returns true; each argument reads behind the call as it read before'; 0 by the template 'total and deterministic' (their statements: YtblgkpfnjlobjaaTotals.lean).
  GIVEN WITH THE SEED: the statements are not yours to turn. If you find one false, say at which input.
  Laid BY PROGRAM, IN A SANDBOX (cutbox-rows.mjs): the forced cells as the released guide's own fill.sh prints them over the translation bf8e959b32c61c16… (all of the seat's roots in one cut). By AI agents, Wed Nov 11 2026. No macro, syntax, notation, axiom, sorry.
-/
import Derived.Test.YtblgkpfnjlobjaaChecked
import GoSem.Claim
import GoSem.ClaimJoined
import GoSem.ClaimMapViews
import Derived.JoinedTies
import Derived.KernelRfl
namespace Go.Proofs.Ytblgkpfnjlobjaa
/- THE CELL 'sum', in the pinned program and in every row, IS THE sha256 OF THE DUMP (.gsa) THAT YtblgkpfnjlobjaaProg.lean LOADS. Nothing in Lean hashes anything: it is a label: what it is worth is what the hold of that sum in a sandbox is worth. -/
noncomputable def Try.pinned : Pinned := { name := "ytblgkpfnjlobjaa", sum := "bf8e959b32c61c16e983b2cbdbbaca0dbd01929752f90996a3e81a272cc62751", checked := Try.checked }
namespace Rows
def none {H : Type} : Left H := { results := [], args := [] }

/-- 'laws.FnExactFoldNode': WHATEVER THE INPUT: true; the input reads as it did. -/
def fnExactFoldNodeSpec : ChangeSpec := { name := "fnExactFoldNode", fn := fun _ => fun
  | [d1, d2] => { results := [.lit (.bool true)], args := [d1, d2] }
  | _ => none }
def fnExactFoldNodeRow : OpenClaim := { program := "ytblgkpfnjlobjaa", sum := "bf8e959b32c61c16e983b2cbdbbaca0dbd01929752f90996a3e81a272cc62751", func := "loop.example/workplans/laws.FnExactFoldNode", spec := "fnExactFoldNode", unfollowed := true, recurses := true, apart := false }
def FnExactFoldNodeSaid : Prop := fnExactFoldNodeRow.holds Try.pinned (OpenSpec.ofChange fnExactFoldNodeSpec)

/-- ITS FALSE NEIGHBOUR: 'it returns false'. Refute it at one input. -/
def fnExactFoldNodeWrong : ChangeSpec := { name := "fnExactFoldNode", fn := fun _ => fun
  | [d1, d2] => { results := [.lit (.bool false)], args := [d1, d2] }
  | _ => none }
def FnExactFoldNodeWrongFalsely : Prop := fnExactFoldNodeRow.holds Try.pinned (OpenSpec.ofChange fnExactFoldNodeWrong)

/-- 'laws.FnExactFoldAll': WHATEVER THE INPUT: true; the input reads as it did. -/
def fnExactFoldAllSpec : ChangeSpec := { name := "fnExactFoldAll", fn := fun _ => fun
  | [d1, d2] => { results := [.lit (.bool true)], args := [d1, d2] }
  | _ => none }
def fnExactFoldAllRow : OpenClaim := { program := "ytblgkpfnjlobjaa", sum := "bf8e959b32c61c16e983b2cbdbbaca0dbd01929752f90996a3e81a272cc62751", func := "loop.example/workplans/laws.FnExactFoldAll", spec := "fnExactFoldAll", unfollowed := true, recurses := true, apart := false }
def FnExactFoldAllSaid : Prop := fnExactFoldAllRow.holds Try.pinned (OpenSpec.ofChange fnExactFoldAllSpec)

/-- ITS FALSE NEIGHBOUR: 'it returns false'. Refute it at one input. -/
def fnExactFoldAllWrong : ChangeSpec := { name := "fnExactFoldAll", fn := fun _ => fun
  | [d1, d2] => { results := [.lit (.bool false)], args := [d1, d2] }
  | _ => none }
def FnExactFoldAllWrongFalsely : Prop := fnExactFoldAllRow.holds Try.pinned (OpenSpec.ofChange fnExactFoldAllWrong)

/-- 'laws.FnFoldAllTurn': WHATEVER THE INPUT: true; the input reads as it did. -/
def fnFoldAllTurnSpec : ChangeSpec := { name := "fnFoldAllTurn", fn := fun _ => fun
  | [d] => { results := [.lit (.bool true)], args := [d] }
  | _ => none }
def fnFoldAllTurnRow : OpenClaim := { program := "ytblgkpfnjlobjaa", sum := "bf8e959b32c61c16e983b2cbdbbaca0dbd01929752f90996a3e81a272cc62751", func := "loop.example/workplans/laws.FnFoldAllTurn", spec := "fnFoldAllTurn", unfollowed := true, recurses := true, apart := false }
def FnFoldAllTurnSaid : Prop := fnFoldAllTurnRow.holds Try.pinned (OpenSpec.ofChange fnFoldAllTurnSpec)

/-- ITS FALSE NEIGHBOUR: 'it returns false'. Refute it at one input. -/
def fnFoldAllTurnWrong : ChangeSpec := { name := "fnFoldAllTurn", fn := fun _ => fun
  | [d] => { results := [.lit (.bool false)], args := [d] }
  | _ => none }
def FnFoldAllTurnWrongFalsely : Prop := fnFoldAllTurnRow.holds Try.pinned (OpenSpec.ofChange fnFoldAllTurnWrong)

/-- 'laws.FnExactFoldSame': WHATEVER THE INPUT: true; the input reads as it did. -/
def fnExactFoldSameSpec : ChangeSpec := { name := "fnExactFoldSame", fn := fun _ => fun
  | [d1, d2] => { results := [.lit (.bool true)], args := [d1, d2] }
  | _ => none }
def fnExactFoldSameRow : OpenClaim := { program := "ytblgkpfnjlobjaa", sum := "bf8e959b32c61c16e983b2cbdbbaca0dbd01929752f90996a3e81a272cc62751", func := "loop.example/workplans/laws.FnExactFoldSame", spec := "fnExactFoldSame", unfollowed := true, recurses := true, apart := false }
def FnExactFoldSameSaid : Prop := fnExactFoldSameRow.holds Try.pinned (OpenSpec.ofChange fnExactFoldSameSpec)

/-- ITS FALSE NEIGHBOUR: 'it returns false'. Refute it at one input. -/
def fnExactFoldSameWrong : ChangeSpec := { name := "fnExactFoldSame", fn := fun _ => fun
  | [d1, d2] => { results := [.lit (.bool false)], args := [d1, d2] }
  | _ => none }
def FnExactFoldSameWrongFalsely : Prop := fnExactFoldSameRow.holds Try.pinned (OpenSpec.ofChange fnExactFoldSameWrong)

/-- 'laws.FnFold': WHATEVER THE INPUT: true; the input reads as it did. -/
def fnFoldSpec : ChangeSpec := { name := "fnFold", fn := fun _ => fun
  | [d] => { results := [.lit (.bool true)], args := [d] }
  | _ => none }
def fnFoldRow : OpenClaim := { program := "ytblgkpfnjlobjaa", sum := "bf8e959b32c61c16e983b2cbdbbaca0dbd01929752f90996a3e81a272cc62751", func := "loop.example/workplans/laws.FnFold", spec := "fnFold", unfollowed := true, recurses := true, apart := false }
def FnFoldSaid : Prop := fnFoldRow.holds Try.pinned (OpenSpec.ofChange fnFoldSpec)

/-- ITS FALSE NEIGHBOUR: 'it returns false'. Refute it at one input. -/
def fnFoldWrong : ChangeSpec := { name := "fnFold", fn := fun _ => fun
  | [d] => { results := [.lit (.bool false)], args := [d] }
  | _ => none }
def FnFoldWrongFalsely : Prop := fnFoldRow.holds Try.pinned (OpenSpec.ofChange fnFoldWrong)

/-- 'laws.FnFoldSameBoth': WHATEVER THE INPUT: true; the input reads as it did. -/
def fnFoldSameBothSpec : ChangeSpec := { name := "fnFoldSameBoth", fn := fun _ => fun
  | [d] => { results := [.lit (.bool true)], args := [d] }
  | _ => none }
def fnFoldSameBothRow : OpenClaim := { program := "ytblgkpfnjlobjaa", sum := "bf8e959b32c61c16e983b2cbdbbaca0dbd01929752f90996a3e81a272cc62751", func := "loop.example/workplans/laws.FnFoldSameBoth", spec := "fnFoldSameBoth", unfollowed := true, recurses := true, apart := false }
def FnFoldSameBothSaid : Prop := fnFoldSameBothRow.holds Try.pinned (OpenSpec.ofChange fnFoldSameBothSpec)

/-- ITS FALSE NEIGHBOUR: 'it returns false'. Refute it at one input. -/
def fnFoldSameBothWrong : ChangeSpec := { name := "fnFoldSameBoth", fn := fun _ => fun
  | [d] => { results := [.lit (.bool false)], args := [d] }
  | _ => none }
def FnFoldSameBothWrongFalsely : Prop := fnFoldSameBothRow.holds Try.pinned (OpenSpec.ofChange fnFoldSameBothWrong)

/-- 'laws.FnFoldTwice': WHATEVER THE INPUT: true; the input reads as it did. -/
def fnFoldTwiceSpec : ChangeSpec := { name := "fnFoldTwice", fn := fun _ => fun
  | [d] => { results := [.lit (.bool true)], args := [d] }
  | _ => none }
def fnFoldTwiceRow : OpenClaim := { program := "ytblgkpfnjlobjaa", sum := "bf8e959b32c61c16e983b2cbdbbaca0dbd01929752f90996a3e81a272cc62751", func := "loop.example/workplans/laws.FnFoldTwice", spec := "fnFoldTwice", unfollowed := true, recurses := true, apart := false }
def FnFoldTwiceSaid : Prop := fnFoldTwiceRow.holds Try.pinned (OpenSpec.ofChange fnFoldTwiceSpec)

/-- ITS FALSE NEIGHBOUR: 'it returns false'. Refute it at one input. -/
def fnFoldTwiceWrong : ChangeSpec := { name := "fnFoldTwice", fn := fun _ => fun
  | [d] => { results := [.lit (.bool false)], args := [d] }
  | _ => none }
def FnFoldTwiceWrongFalsely : Prop := fnFoldTwiceRow.holds Try.pinned (OpenSpec.ofChange fnFoldTwiceWrong)

/-- 'laws.FnFoldAll': WHATEVER THE INPUT: true; the input reads as it did. -/
def fnFoldAllSpec : ChangeSpec := { name := "fnFoldAll", fn := fun _ => fun
  | [d] => { results := [.lit (.bool true)], args := [d] }
  | _ => none }
def fnFoldAllRow : OpenClaim := { program := "ytblgkpfnjlobjaa", sum := "bf8e959b32c61c16e983b2cbdbbaca0dbd01929752f90996a3e81a272cc62751", func := "loop.example/workplans/laws.FnFoldAll", spec := "fnFoldAll", unfollowed := true, recurses := true, apart := false }
def FnFoldAllSaid : Prop := fnFoldAllRow.holds Try.pinned (OpenSpec.ofChange fnFoldAllSpec)

/-- ITS FALSE NEIGHBOUR: 'it returns false'. Refute it at one input. -/
def fnFoldAllWrong : ChangeSpec := { name := "fnFoldAll", fn := fun _ => fun
  | [d] => { results := [.lit (.bool false)], args := [d] }
  | _ => none }
def FnFoldAllWrongFalsely : Prop := fnFoldAllRow.holds Try.pinned (OpenSpec.ofChange fnFoldAllWrong)

/-- 'laws.FnFoldSame': WHATEVER THE INPUT: true; the input reads as it did. -/
def fnFoldSameSpec : ChangeSpec := { name := "fnFoldSame", fn := fun _ => fun
  | [d] => { results := [.lit (.bool true)], args := [d] }
  | _ => none }
def fnFoldSameRow : OpenClaim := { program := "ytblgkpfnjlobjaa", sum := "bf8e959b32c61c16e983b2cbdbbaca0dbd01929752f90996a3e81a272cc62751", func := "loop.example/workplans/laws.FnFoldSame", spec := "fnFoldSame", unfollowed := true, recurses := true, apart := false }
def FnFoldSameSaid : Prop := fnFoldSameRow.holds Try.pinned (OpenSpec.ofChange fnFoldSameSpec)

/-- ITS FALSE NEIGHBOUR: 'it returns false'. Refute it at one input. -/
def fnFoldSameWrong : ChangeSpec := { name := "fnFoldSame", fn := fun _ => fun
  | [d] => { results := [.lit (.bool false)], args := [d] }
  | _ => none }
def FnFoldSameWrongFalsely : Prop := fnFoldSameRow.holds Try.pinned (OpenSpec.ofChange fnFoldSameWrong)

/-- 'laws.FnFoldValues': WHATEVER THE INPUT: true; the input reads as it did. -/
def fnFoldValuesSpec : ChangeSpec := { name := "fnFoldValues", fn := fun _ => fun
  | [d] => { results := [.lit (.bool true)], args := [d] }
  | _ => none }
def fnFoldValuesRow : OpenClaim := { program := "ytblgkpfnjlobjaa", sum := "bf8e959b32c61c16e983b2cbdbbaca0dbd01929752f90996a3e81a272cc62751", func := "loop.example/workplans/laws.FnFoldValues", spec := "fnFoldValues", unfollowed := true, recurses := true, apart := false }
def FnFoldValuesSaid : Prop := fnFoldValuesRow.holds Try.pinned (OpenSpec.ofChange fnFoldValuesSpec)

/-- ITS FALSE NEIGHBOUR: 'it returns false'. Refute it at one input. -/
def fnFoldValuesWrong : ChangeSpec := { name := "fnFoldValues", fn := fun _ => fun
  | [d] => { results := [.lit (.bool false)], args := [d] }
  | _ => none }
def FnFoldValuesWrongFalsely : Prop := fnFoldValuesRow.holds Try.pinned (OpenSpec.ofChange fnFoldValuesWrong)

/-- 'laws.FnExactCrewNew': WHATEVER THE INPUT: true; the input reads as it did. -/
def fnExactCrewNewSpec : ChangeSpec := { name := "fnExactCrewNew", fn := fun _ => fun
  | [d1, d2] => { results := [.lit (.bool true)], args := [d1, d2] }
  | _ => none }
def fnExactCrewNewRow : OpenClaim := { program := "ytblgkpfnjlobjaa", sum := "bf8e959b32c61c16e983b2cbdbbaca0dbd01929752f90996a3e81a272cc62751", func := "loop.example/workplans/laws.FnExactCrewNew", spec := "fnExactCrewNew", unfollowed := true, recurses := true, apart := false }
def FnExactCrewNewSaid : Prop := fnExactCrewNewRow.holds Try.pinned (OpenSpec.ofChange fnExactCrewNewSpec)

/-- ITS FALSE NEIGHBOUR: 'it returns false'. Refute it at one input. -/
def fnExactCrewNewWrong : ChangeSpec := { name := "fnExactCrewNew", fn := fun _ => fun
  | [d1, d2] => { results := [.lit (.bool false)], args := [d1, d2] }
  | _ => none }
def FnExactCrewNewWrongFalsely : Prop := fnExactCrewNewRow.holds Try.pinned (OpenSpec.ofChange fnExactCrewNewWrong)

/-- 'laws.FnCrewNewShare': WHATEVER THE INPUT: true; the input reads as it did. -/
def fnCrewNewShareSpec : ChangeSpec := { name := "fnCrewNewShare", fn := fun _ => fun
  | [d] => { results := [.lit (.bool true)], args := [d] }
  | _ => none }
def fnCrewNewShareRow : OpenClaim := { program := "ytblgkpfnjlobjaa", sum := "bf8e959b32c61c16e983b2cbdbbaca0dbd01929752f90996a3e81a272cc62751", func := "loop.example/workplans/laws.FnCrewNewShare", spec := "fnCrewNewShare", unfollowed := true, recurses := true, apart := false }
def FnCrewNewShareSaid : Prop := fnCrewNewShareRow.holds Try.pinned (OpenSpec.ofChange fnCrewNewShareSpec)

/-- ITS FALSE NEIGHBOUR: 'it returns false'. Refute it at one input. -/
def fnCrewNewShareWrong : ChangeSpec := { name := "fnCrewNewShare", fn := fun _ => fun
  | [d] => { results := [.lit (.bool false)], args := [d] }
  | _ => none }
def FnCrewNewShareWrongFalsely : Prop := fnCrewNewShareRow.holds Try.pinned (OpenSpec.ofChange fnCrewNewShareWrong)

/- THE SECOND FORM. 'bulk': how many values and letters a reading holds, each counted each time it is reached (what is shared counts as often as it is met; a slice's spare places count too). A statement '..UptoSaid' is the law's where the arguments, and the package variables that the reading takes, are together of bulk at most 1048576: NARROWER than '..Said'. Prove '..Said' where nothing that the law and all that it calls make is longer than what came in: it says more and counts as full. Else prove '..UptoSaid'. A law counts once. -/
mutual
def uptoBulk {H : Type} : DataW H → Nat
  | .lit (.string bytes) => bytes.length + 1
  | .lit _ => 1
  | .nil => 1
  | .ptr d => uptoBulk d + 1
  | .slice elems spare => uptoBulkAll elems + uptoBulkAll spare + 1
  | .agg parts => uptoBulkAll parts + 1
  | .iface _ d => uptoBulk d + 1
  | .map entries => uptoBulkEntries entries + 1
  | .held _ => 1
def uptoBulkAll {H : Type} : List (DataW H) → Nat
  | [] => 0
  | d :: r => uptoBulk d + uptoBulkAll r
def uptoBulkEntries {H : Type} : List (Lit × DataW H) → Nat
  | [] => 0
  | x :: r => uptoBulkEntry x + uptoBulkEntries r
def uptoBulkEntry {H : Type} : Lit × DataW H → Nat
  | (.string bytes, d) => bytes.length + uptoBulk d + 1
  | (_, d) => uptoBulk d + 1
 end
def uptoSmall : (H : Type) → List (DataW H) → Bool := fun _ ds => decide (uptoBulkAll ds ≤ 1048576)
def OpenSpec.upto (s : _root_.Go.ChangeSpec) : _root_.Go.OpenSpec := { _root_.Go.OpenSpec.ofChange s with cond := some uptoSmall }

/-- 'laws.FnExactFoldNode', WHERE WHAT IT READS IS OF BULK AT MOST 1048576: true; the input reads as it did. -/
def fnExactFoldNodeUptoRow : OpenClaim := { program := "ytblgkpfnjlobjaa", sum := "bf8e959b32c61c16e983b2cbdbbaca0dbd01929752f90996a3e81a272cc62751", func := "loop.example/workplans/laws.FnExactFoldNode", spec := "fnExactFoldNode", unfollowed := true, recurses := true, apart := false, narrowed := true }
def FnExactFoldNodeUptoSaid : Prop := fnExactFoldNodeUptoRow.holds Try.pinned (OpenSpec.upto fnExactFoldNodeSpec)

/-- 'laws.FnExactFoldAll', WHERE WHAT IT READS IS OF BULK AT MOST 1048576: true; the input reads as it did. -/
def fnExactFoldAllUptoRow : OpenClaim := { program := "ytblgkpfnjlobjaa", sum := "bf8e959b32c61c16e983b2cbdbbaca0dbd01929752f90996a3e81a272cc62751", func := "loop.example/workplans/laws.FnExactFoldAll", spec := "fnExactFoldAll", unfollowed := true, recurses := true, apart := false, narrowed := true }
def FnExactFoldAllUptoSaid : Prop := fnExactFoldAllUptoRow.holds Try.pinned (OpenSpec.upto fnExactFoldAllSpec)

/-- 'laws.FnFoldAllTurn', WHERE WHAT IT READS IS OF BULK AT MOST 1048576: true; the input reads as it did. -/
def fnFoldAllTurnUptoRow : OpenClaim := { program := "ytblgkpfnjlobjaa", sum := "bf8e959b32c61c16e983b2cbdbbaca0dbd01929752f90996a3e81a272cc62751", func := "loop.example/workplans/laws.FnFoldAllTurn", spec := "fnFoldAllTurn", unfollowed := true, recurses := true, apart := false, narrowed := true }
def FnFoldAllTurnUptoSaid : Prop := fnFoldAllTurnUptoRow.holds Try.pinned (OpenSpec.upto fnFoldAllTurnSpec)

/-- 'laws.FnExactFoldSame', WHERE WHAT IT READS IS OF BULK AT MOST 1048576: true; the input reads as it did. -/
def fnExactFoldSameUptoRow : OpenClaim := { program := "ytblgkpfnjlobjaa", sum := "bf8e959b32c61c16e983b2cbdbbaca0dbd01929752f90996a3e81a272cc62751", func := "loop.example/workplans/laws.FnExactFoldSame", spec := "fnExactFoldSame", unfollowed := true, recurses := true, apart := false, narrowed := true }
def FnExactFoldSameUptoSaid : Prop := fnExactFoldSameUptoRow.holds Try.pinned (OpenSpec.upto fnExactFoldSameSpec)

/-- 'laws.FnFold', WHERE WHAT IT READS IS OF BULK AT MOST 1048576: true; the input reads as it did. -/
def fnFoldUptoRow : OpenClaim := { program := "ytblgkpfnjlobjaa", sum := "bf8e959b32c61c16e983b2cbdbbaca0dbd01929752f90996a3e81a272cc62751", func := "loop.example/workplans/laws.FnFold", spec := "fnFold", unfollowed := true, recurses := true, apart := false, narrowed := true }
def FnFoldUptoSaid : Prop := fnFoldUptoRow.holds Try.pinned (OpenSpec.upto fnFoldSpec)

/-- 'laws.FnFoldSameBoth', WHERE WHAT IT READS IS OF BULK AT MOST 1048576: true; the input reads as it did. -/
def fnFoldSameBothUptoRow : OpenClaim := { program := "ytblgkpfnjlobjaa", sum := "bf8e959b32c61c16e983b2cbdbbaca0dbd01929752f90996a3e81a272cc62751", func := "loop.example/workplans/laws.FnFoldSameBoth", spec := "fnFoldSameBoth", unfollowed := true, recurses := true, apart := false, narrowed := true }
def FnFoldSameBothUptoSaid : Prop := fnFoldSameBothUptoRow.holds Try.pinned (OpenSpec.upto fnFoldSameBothSpec)

/-- 'laws.FnFoldTwice', WHERE WHAT IT READS IS OF BULK AT MOST 1048576: true; the input reads as it did. -/
def fnFoldTwiceUptoRow : OpenClaim := { program := "ytblgkpfnjlobjaa", sum := "bf8e959b32c61c16e983b2cbdbbaca0dbd01929752f90996a3e81a272cc62751", func := "loop.example/workplans/laws.FnFoldTwice", spec := "fnFoldTwice", unfollowed := true, recurses := true, apart := false, narrowed := true }
def FnFoldTwiceUptoSaid : Prop := fnFoldTwiceUptoRow.holds Try.pinned (OpenSpec.upto fnFoldTwiceSpec)

/-- 'laws.FnFoldAll', WHERE WHAT IT READS IS OF BULK AT MOST 1048576: true; the input reads as it did. -/
def fnFoldAllUptoRow : OpenClaim := { program := "ytblgkpfnjlobjaa", sum := "bf8e959b32c61c16e983b2cbdbbaca0dbd01929752f90996a3e81a272cc62751", func := "loop.example/workplans/laws.FnFoldAll", spec := "fnFoldAll", unfollowed := true, recurses := true, apart := false, narrowed := true }
def FnFoldAllUptoSaid : Prop := fnFoldAllUptoRow.holds Try.pinned (OpenSpec.upto fnFoldAllSpec)

/-- 'laws.FnFoldSame', WHERE WHAT IT READS IS OF BULK AT MOST 1048576: true; the input reads as it did. -/
def fnFoldSameUptoRow : OpenClaim := { program := "ytblgkpfnjlobjaa", sum := "bf8e959b32c61c16e983b2cbdbbaca0dbd01929752f90996a3e81a272cc62751", func := "loop.example/workplans/laws.FnFoldSame", spec := "fnFoldSame", unfollowed := true, recurses := true, apart := false, narrowed := true }
def FnFoldSameUptoSaid : Prop := fnFoldSameUptoRow.holds Try.pinned (OpenSpec.upto fnFoldSameSpec)

/-- 'laws.FnFoldValues', WHERE WHAT IT READS IS OF BULK AT MOST 1048576: true; the input reads as it did. -/
def fnFoldValuesUptoRow : OpenClaim := { program := "ytblgkpfnjlobjaa", sum := "bf8e959b32c61c16e983b2cbdbbaca0dbd01929752f90996a3e81a272cc62751", func := "loop.example/workplans/laws.FnFoldValues", spec := "fnFoldValues", unfollowed := true, recurses := true, apart := false, narrowed := true }
def FnFoldValuesUptoSaid : Prop := fnFoldValuesUptoRow.holds Try.pinned (OpenSpec.upto fnFoldValuesSpec)

/-- 'laws.FnExactCrewNew', WHERE WHAT IT READS IS OF BULK AT MOST 1048576: true; the input reads as it did. -/
def fnExactCrewNewUptoRow : OpenClaim := { program := "ytblgkpfnjlobjaa", sum := "bf8e959b32c61c16e983b2cbdbbaca0dbd01929752f90996a3e81a272cc62751", func := "loop.example/workplans/laws.FnExactCrewNew", spec := "fnExactCrewNew", unfollowed := true, recurses := true, apart := false, narrowed := true }
def FnExactCrewNewUptoSaid : Prop := fnExactCrewNewUptoRow.holds Try.pinned (OpenSpec.upto fnExactCrewNewSpec)

/-- 'laws.FnCrewNewShare', WHERE WHAT IT READS IS OF BULK AT MOST 1048576: true; the input reads as it did. -/
def fnCrewNewShareUptoRow : OpenClaim := { program := "ytblgkpfnjlobjaa", sum := "bf8e959b32c61c16e983b2cbdbbaca0dbd01929752f90996a3e81a272cc62751", func := "loop.example/workplans/laws.FnCrewNewShare", spec := "fnCrewNewShare", unfollowed := true, recurses := true, apart := false, narrowed := true }
def FnCrewNewShareUptoSaid : Prop := fnCrewNewShareUptoRow.holds Try.pinned (OpenSpec.upto fnCrewNewShareSpec)

end Rows
end Go.Proofs.Ytblgkpfnjlobjaa
