/-
  No cell of these rows narrows 'for every input' (looked for: loops, veiled, ifaces, maps, wideKeys, modest, calm, conditions, laid).
  DERIVED. THE GIVEN ROWS OF THIS SEAT. 12 by the template 'for every input the law returns true; each argument reads behind the call as it read before'; 0 by the template 'total and deterministic' (their statements: YtpfabjjeacdikaaTotals.lean).
  GIVEN WITH THE SEED: the statements are not yours to turn. If you find one false, say at which input.
  Laid BY PROGRAM, IN A SANDBOX (cutbox-rows.mjs): the forced cells as the released guide's own fill.sh prints them over the translation 0b98106376673311… (all of the seat's roots in one cut). By AI agents, Wed Nov 11 2026. No macro, syntax, notation, axiom, sorry.
-/
import Derived.Test.YtpfabjjeacdikaaChecked
import GoSem.Claim
import GoSem.ClaimJoined
import GoSem.ClaimMapViews
import Derived.JoinedTies
import Derived.KernelRfl
namespace Go.Proofs.Ytpfabjjeacdikaa
/- THE CELL 'sum', in the pinned program and in every row, IS THE sha256 OF THE DUMP (.gsa) THAT YtpfabjjeacdikaaProg.lean LOADS. Nothing in Lean hashes anything: it is a label: what it is worth is what the hold of that sum in a sandbox is worth. -/
noncomputable def Try.pinned : Pinned := { name := "ytpfabjjeacdikaa", sum := "0b981063766733112c6d7f5ef59617cb8f0abdb251650e03e00fad943d69bf6e", checked := Try.checked }
namespace Rows
def none {H : Type} : Left H := { results := [], args := [] }

/-- 'laws.FnOrder': WHATEVER THE INPUT: true; the input reads as it did. -/
def fnOrderSpec : ChangeSpec := { name := "fnOrder", fn := fun _ => fun
  | [d] => { results := [.lit (.bool true)], args := [d] }
  | _ => none }
def fnOrderRow : OpenClaim := { program := "ytpfabjjeacdikaa", sum := "0b981063766733112c6d7f5ef59617cb8f0abdb251650e03e00fad943d69bf6e", func := "loop.example/workplans/laws.FnOrder", spec := "fnOrder", unfollowed := true, recurses := true, plainKeys := false, apart := false }
def FnOrderSaid : Prop := fnOrderRow.holds Try.pinned (OpenSpec.ofChange fnOrderSpec)

/-- ITS FALSE NEIGHBOUR: 'it returns false'. Refute it at one input. -/
def fnOrderWrong : ChangeSpec := { name := "fnOrder", fn := fun _ => fun
  | [d] => { results := [.lit (.bool false)], args := [d] }
  | _ => none }
def FnOrderWrongFalsely : Prop := fnOrderRow.holds Try.pinned (OpenSpec.ofChange fnOrderWrong)

/-- 'laws.FnCountsFirst': WHATEVER THE INPUT: true; the input reads as it did. -/
def fnCountsFirstSpec : ChangeSpec := { name := "fnCountsFirst", fn := fun _ => fun
  | [d] => { results := [.lit (.bool true)], args := [d] }
  | _ => none }
def fnCountsFirstRow : OpenClaim := { program := "ytpfabjjeacdikaa", sum := "0b981063766733112c6d7f5ef59617cb8f0abdb251650e03e00fad943d69bf6e", func := "loop.example/workplans/laws.FnCountsFirst", spec := "fnCountsFirst", unfollowed := true, recurses := true, plainKeys := false, apart := false }
def FnCountsFirstSaid : Prop := fnCountsFirstRow.holds Try.pinned (OpenSpec.ofChange fnCountsFirstSpec)

/-- ITS FALSE NEIGHBOUR: 'it returns false'. Refute it at one input. -/
def fnCountsFirstWrong : ChangeSpec := { name := "fnCountsFirst", fn := fun _ => fun
  | [d] => { results := [.lit (.bool false)], args := [d] }
  | _ => none }
def FnCountsFirstWrongFalsely : Prop := fnCountsFirstRow.holds Try.pinned (OpenSpec.ofChange fnCountsFirstWrong)

/-- 'laws.FnExactCountsOf': WHATEVER THE INPUT: true; the input reads as it did. -/
def fnExactCountsOfSpec : ChangeSpec := { name := "fnExactCountsOf", fn := fun _ => fun
  | [d] => { results := [.lit (.bool true)], args := [d] }
  | _ => none }
def fnExactCountsOfRow : OpenClaim := { program := "ytpfabjjeacdikaa", sum := "0b981063766733112c6d7f5ef59617cb8f0abdb251650e03e00fad943d69bf6e", func := "loop.example/workplans/laws.FnExactCountsOf", spec := "fnExactCountsOf", unfollowed := true, recurses := true, plainKeys := false, apart := false }
def FnExactCountsOfSaid : Prop := fnExactCountsOfRow.holds Try.pinned (OpenSpec.ofChange fnExactCountsOfSpec)

/-- ITS FALSE NEIGHBOUR: 'it returns false'. Refute it at one input. -/
def fnExactCountsOfWrong : ChangeSpec := { name := "fnExactCountsOf", fn := fun _ => fun
  | [d] => { results := [.lit (.bool false)], args := [d] }
  | _ => none }
def FnExactCountsOfWrongFalsely : Prop := fnExactCountsOfRow.holds Try.pinned (OpenSpec.ofChange fnExactCountsOfWrong)

/-- 'laws.FnKeepTwice': WHATEVER THE INPUT: true; the input reads as it did. -/
def fnKeepTwiceSpec : ChangeSpec := { name := "fnKeepTwice", fn := fun _ => fun
  | [d] => { results := [.lit (.bool true)], args := [d] }
  | _ => none }
def fnKeepTwiceRow : OpenClaim := { program := "ytpfabjjeacdikaa", sum := "0b981063766733112c6d7f5ef59617cb8f0abdb251650e03e00fad943d69bf6e", func := "loop.example/workplans/laws.FnKeepTwice", spec := "fnKeepTwice", unfollowed := true, recurses := true, plainKeys := false, apart := false }
def FnKeepTwiceSaid : Prop := fnKeepTwiceRow.holds Try.pinned (OpenSpec.ofChange fnKeepTwiceSpec)

/-- ITS FALSE NEIGHBOUR: 'it returns false'. Refute it at one input. -/
def fnKeepTwiceWrong : ChangeSpec := { name := "fnKeepTwice", fn := fun _ => fun
  | [d] => { results := [.lit (.bool false)], args := [d] }
  | _ => none }
def FnKeepTwiceWrongFalsely : Prop := fnKeepTwiceRow.holds Try.pinned (OpenSpec.ofChange fnKeepTwiceWrong)

/-- 'laws.FnExactCutKeep': WHATEVER THE INPUT: true; the input reads as it did. -/
def fnExactCutKeepSpec : ChangeSpec := { name := "fnExactCutKeep", fn := fun _ => fun
  | [d1, d2] => { results := [.lit (.bool true)], args := [d1, d2] }
  | _ => none }
def fnExactCutKeepRow : OpenClaim := { program := "ytpfabjjeacdikaa", sum := "0b981063766733112c6d7f5ef59617cb8f0abdb251650e03e00fad943d69bf6e", func := "loop.example/workplans/laws.FnExactCutKeep", spec := "fnExactCutKeep", unfollowed := true, recurses := true, plainKeys := false, apart := false }
def FnExactCutKeepSaid : Prop := fnExactCutKeepRow.holds Try.pinned (OpenSpec.ofChange fnExactCutKeepSpec)

/-- ITS FALSE NEIGHBOUR: 'it returns false'. Refute it at one input. -/
def fnExactCutKeepWrong : ChangeSpec := { name := "fnExactCutKeep", fn := fun _ => fun
  | [d1, d2] => { results := [.lit (.bool false)], args := [d1, d2] }
  | _ => none }
def FnExactCutKeepWrongFalsely : Prop := fnExactCutKeepRow.holds Try.pinned (OpenSpec.ofChange fnExactCutKeepWrong)

/-- 'laws.FnExactShareFirst': WHATEVER THE INPUT: true; the input reads as it did. -/
def fnExactShareFirstSpec : ChangeSpec := { name := "fnExactShareFirst", fn := fun _ => fun
  | [d] => { results := [.lit (.bool true)], args := [d] }
  | _ => none }
def fnExactShareFirstRow : OpenClaim := { program := "ytpfabjjeacdikaa", sum := "0b981063766733112c6d7f5ef59617cb8f0abdb251650e03e00fad943d69bf6e", func := "loop.example/workplans/laws.FnExactShareFirst", spec := "fnExactShareFirst", unfollowed := true, recurses := true, plainKeys := false, apart := false }
def FnExactShareFirstSaid : Prop := fnExactShareFirstRow.holds Try.pinned (OpenSpec.ofChange fnExactShareFirstSpec)

/-- ITS FALSE NEIGHBOUR: 'it returns false'. Refute it at one input. -/
def fnExactShareFirstWrong : ChangeSpec := { name := "fnExactShareFirst", fn := fun _ => fun
  | [d] => { results := [.lit (.bool false)], args := [d] }
  | _ => none }
def FnExactShareFirstWrongFalsely : Prop := fnExactShareFirstRow.holds Try.pinned (OpenSpec.ofChange fnExactShareFirstWrong)

/-- 'laws.FnKeep': WHATEVER THE INPUT: true; the input reads as it did. -/
def fnKeepSpec : ChangeSpec := { name := "fnKeep", fn := fun _ => fun
  | [d] => { results := [.lit (.bool true)], args := [d] }
  | _ => none }
def fnKeepRow : OpenClaim := { program := "ytpfabjjeacdikaa", sum := "0b981063766733112c6d7f5ef59617cb8f0abdb251650e03e00fad943d69bf6e", func := "loop.example/workplans/laws.FnKeep", spec := "fnKeep", unfollowed := true, recurses := true, plainKeys := false, apart := false }
def FnKeepSaid : Prop := fnKeepRow.holds Try.pinned (OpenSpec.ofChange fnKeepSpec)

/-- ITS FALSE NEIGHBOUR: 'it returns false'. Refute it at one input. -/
def fnKeepWrong : ChangeSpec := { name := "fnKeep", fn := fun _ => fun
  | [d] => { results := [.lit (.bool false)], args := [d] }
  | _ => none }
def FnKeepWrongFalsely : Prop := fnKeepRow.holds Try.pinned (OpenSpec.ofChange fnKeepWrong)

/-- 'laws.FnShareSaved': WHATEVER THE INPUT: true; the input reads as it did. -/
def fnShareSavedSpec : ChangeSpec := { name := "fnShareSaved", fn := fun _ => fun
  | [d] => { results := [.lit (.bool true)], args := [d] }
  | _ => none }
def fnShareSavedRow : OpenClaim := { program := "ytpfabjjeacdikaa", sum := "0b981063766733112c6d7f5ef59617cb8f0abdb251650e03e00fad943d69bf6e", func := "loop.example/workplans/laws.FnShareSaved", spec := "fnShareSaved", unfollowed := true, recurses := true, plainKeys := false, apart := false }
def FnShareSavedSaid : Prop := fnShareSavedRow.holds Try.pinned (OpenSpec.ofChange fnShareSavedSpec)

/-- ITS FALSE NEIGHBOUR: 'it returns false'. Refute it at one input. -/
def fnShareSavedWrong : ChangeSpec := { name := "fnShareSaved", fn := fun _ => fun
  | [d] => { results := [.lit (.bool false)], args := [d] }
  | _ => none }
def FnShareSavedWrongFalsely : Prop := fnShareSavedRow.holds Try.pinned (OpenSpec.ofChange fnShareSavedWrong)

/-- 'laws.FnCrewNewShare': WHATEVER THE INPUT: true; the input reads as it did. -/
def fnCrewNewShareSpec : ChangeSpec := { name := "fnCrewNewShare", fn := fun _ => fun
  | [d] => { results := [.lit (.bool true)], args := [d] }
  | _ => none }
def fnCrewNewShareRow : OpenClaim := { program := "ytpfabjjeacdikaa", sum := "0b981063766733112c6d7f5ef59617cb8f0abdb251650e03e00fad943d69bf6e", func := "loop.example/workplans/laws.FnCrewNewShare", spec := "fnCrewNewShare", unfollowed := true, recurses := true, plainKeys := false, apart := false }
def FnCrewNewShareSaid : Prop := fnCrewNewShareRow.holds Try.pinned (OpenSpec.ofChange fnCrewNewShareSpec)

/-- ITS FALSE NEIGHBOUR: 'it returns false'. Refute it at one input. -/
def fnCrewNewShareWrong : ChangeSpec := { name := "fnCrewNewShare", fn := fun _ => fun
  | [d] => { results := [.lit (.bool false)], args := [d] }
  | _ => none }
def FnCrewNewShareWrongFalsely : Prop := fnCrewNewShareRow.holds Try.pinned (OpenSpec.ofChange fnCrewNewShareWrong)

/-- 'laws.FnExactShareSaved': WHATEVER THE INPUT: true; the input reads as it did. -/
def fnExactShareSavedSpec : ChangeSpec := { name := "fnExactShareSaved", fn := fun _ => fun
  | [d] => { results := [.lit (.bool true)], args := [d] }
  | _ => none }
def fnExactShareSavedRow : OpenClaim := { program := "ytpfabjjeacdikaa", sum := "0b981063766733112c6d7f5ef59617cb8f0abdb251650e03e00fad943d69bf6e", func := "loop.example/workplans/laws.FnExactShareSaved", spec := "fnExactShareSaved", unfollowed := true, recurses := true, plainKeys := false, apart := false }
def FnExactShareSavedSaid : Prop := fnExactShareSavedRow.holds Try.pinned (OpenSpec.ofChange fnExactShareSavedSpec)

/-- ITS FALSE NEIGHBOUR: 'it returns false'. Refute it at one input. -/
def fnExactShareSavedWrong : ChangeSpec := { name := "fnExactShareSaved", fn := fun _ => fun
  | [d] => { results := [.lit (.bool false)], args := [d] }
  | _ => none }
def FnExactShareSavedWrongFalsely : Prop := fnExactShareSavedRow.holds Try.pinned (OpenSpec.ofChange fnExactShareSavedWrong)

/-- 'laws.FnFirstRows': WHATEVER THE INPUT: true; the input reads as it did. -/
def fnFirstRowsSpec : ChangeSpec := { name := "fnFirstRows", fn := fun _ => fun
  | [d] => { results := [.lit (.bool true)], args := [d] }
  | _ => none }
def fnFirstRowsRow : OpenClaim := { program := "ytpfabjjeacdikaa", sum := "0b981063766733112c6d7f5ef59617cb8f0abdb251650e03e00fad943d69bf6e", func := "loop.example/workplans/laws.FnFirstRows", spec := "fnFirstRows", unfollowed := true, recurses := true, plainKeys := false, apart := false }
def FnFirstRowsSaid : Prop := fnFirstRowsRow.holds Try.pinned (OpenSpec.ofChange fnFirstRowsSpec)

/-- ITS FALSE NEIGHBOUR: 'it returns false'. Refute it at one input. -/
def fnFirstRowsWrong : ChangeSpec := { name := "fnFirstRows", fn := fun _ => fun
  | [d] => { results := [.lit (.bool false)], args := [d] }
  | _ => none }
def FnFirstRowsWrongFalsely : Prop := fnFirstRowsRow.holds Try.pinned (OpenSpec.ofChange fnFirstRowsWrong)

/-- 'laws.FnShareNumbers': WHATEVER THE INPUT: true; the input reads as it did. -/
def fnShareNumbersSpec : ChangeSpec := { name := "fnShareNumbers", fn := fun _ => fun
  | [d] => { results := [.lit (.bool true)], args := [d] }
  | _ => none }
def fnShareNumbersRow : OpenClaim := { program := "ytpfabjjeacdikaa", sum := "0b981063766733112c6d7f5ef59617cb8f0abdb251650e03e00fad943d69bf6e", func := "loop.example/workplans/laws.FnShareNumbers", spec := "fnShareNumbers", unfollowed := true, recurses := true, plainKeys := false, apart := false }
def FnShareNumbersSaid : Prop := fnShareNumbersRow.holds Try.pinned (OpenSpec.ofChange fnShareNumbersSpec)

/-- ITS FALSE NEIGHBOUR: 'it returns false'. Refute it at one input. -/
def fnShareNumbersWrong : ChangeSpec := { name := "fnShareNumbers", fn := fun _ => fun
  | [d] => { results := [.lit (.bool false)], args := [d] }
  | _ => none }
def FnShareNumbersWrongFalsely : Prop := fnShareNumbersRow.holds Try.pinned (OpenSpec.ofChange fnShareNumbersWrong)

/- THE SECOND FORM. 'bulk': how many values and letters a reading holds, each counted each time it is reached (what is shared counts as often as it is met; a slice's spare places count too). A statement '..UptoSaid' is the law's where the arguments, and the package variables that the reading takes, are together of bulk at most 1048576: NARROWER than '..Said'. Prove '..Said' where nothing that the law and all that it calls make is longer than what came in: it says more and counts as full. Else prove '..UptoSaid'. A law counts once. -/
mutual
def uptoBulk {H : Type} : DataW H → Nat
  | .lit (.string bytes) => bytes.length + 1
  | .lit _ => 1
  | .nil => 1
  | .ptr d => uptoBulk d + 1
  | .slice elems spare => uptoBulkAll elems + uptoBulkAll spare + 1
  | .agg parts => uptoBulkAll parts + 1
  | .iface _ d => uptoBulk d + 1
  | .map entries => uptoBulkEntries entries + 1
  | .held _ => 1
def uptoBulkAll {H : Type} : List (DataW H) → Nat
  | [] => 0
  | d :: r => uptoBulk d + uptoBulkAll r
def uptoBulkEntries {H : Type} : List (Lit × DataW H) → Nat
  | [] => 0
  | x :: r => uptoBulkEntry x + uptoBulkEntries r
def uptoBulkEntry {H : Type} : Lit × DataW H → Nat
  | (.string bytes, d) => bytes.length + uptoBulk d + 1
  | (_, d) => uptoBulk d + 1
 end
def uptoSmall : (H : Type) → List (DataW H) → Bool := fun _ ds => decide (uptoBulkAll ds ≤ 1048576)
def OpenSpec.upto (s : _root_.Go.ChangeSpec) : _root_.Go.OpenSpec := { _root_.Go.OpenSpec.ofChange s with cond := some uptoSmall }

/-- 'laws.FnOrder', WHERE WHAT IT READS IS OF BULK AT MOST 1048576: true; the input reads as it did. -/
def fnOrderUptoRow : OpenClaim := { program := "ytpfabjjeacdikaa", sum := "0b981063766733112c6d7f5ef59617cb8f0abdb251650e03e00fad943d69bf6e", func := "loop.example/workplans/laws.FnOrder", spec := "fnOrder", unfollowed := true, recurses := true, plainKeys := false, apart := false, narrowed := true }
def FnOrderUptoSaid : Prop := fnOrderUptoRow.holds Try.pinned (OpenSpec.upto fnOrderSpec)

/-- 'laws.FnCountsFirst', WHERE WHAT IT READS IS OF BULK AT MOST 1048576: true; the input reads as it did. -/
def fnCountsFirstUptoRow : OpenClaim := { program := "ytpfabjjeacdikaa", sum := "0b981063766733112c6d7f5ef59617cb8f0abdb251650e03e00fad943d69bf6e", func := "loop.example/workplans/laws.FnCountsFirst", spec := "fnCountsFirst", unfollowed := true, recurses := true, plainKeys := false, apart := false, narrowed := true }
def FnCountsFirstUptoSaid : Prop := fnCountsFirstUptoRow.holds Try.pinned (OpenSpec.upto fnCountsFirstSpec)

/-- 'laws.FnExactCountsOf', WHERE WHAT IT READS IS OF BULK AT MOST 1048576: true; the input reads as it did. -/
def fnExactCountsOfUptoRow : OpenClaim := { program := "ytpfabjjeacdikaa", sum := "0b981063766733112c6d7f5ef59617cb8f0abdb251650e03e00fad943d69bf6e", func := "loop.example/workplans/laws.FnExactCountsOf", spec := "fnExactCountsOf", unfollowed := true, recurses := true, plainKeys := false, apart := false, narrowed := true }
def FnExactCountsOfUptoSaid : Prop := fnExactCountsOfUptoRow.holds Try.pinned (OpenSpec.upto fnExactCountsOfSpec)

/-- 'laws.FnKeepTwice', WHERE WHAT IT READS IS OF BULK AT MOST 1048576: true; the input reads as it did. -/
def fnKeepTwiceUptoRow : OpenClaim := { program := "ytpfabjjeacdikaa", sum := "0b981063766733112c6d7f5ef59617cb8f0abdb251650e03e00fad943d69bf6e", func := "loop.example/workplans/laws.FnKeepTwice", spec := "fnKeepTwice", unfollowed := true, recurses := true, plainKeys := false, apart := false, narrowed := true }
def FnKeepTwiceUptoSaid : Prop := fnKeepTwiceUptoRow.holds Try.pinned (OpenSpec.upto fnKeepTwiceSpec)

/-- 'laws.FnExactCutKeep', WHERE WHAT IT READS IS OF BULK AT MOST 1048576: true; the input reads as it did. -/
def fnExactCutKeepUptoRow : OpenClaim := { program := "ytpfabjjeacdikaa", sum := "0b981063766733112c6d7f5ef59617cb8f0abdb251650e03e00fad943d69bf6e", func := "loop.example/workplans/laws.FnExactCutKeep", spec := "fnExactCutKeep", unfollowed := true, recurses := true, plainKeys := false, apart := false, narrowed := true }
def FnExactCutKeepUptoSaid : Prop := fnExactCutKeepUptoRow.holds Try.pinned (OpenSpec.upto fnExactCutKeepSpec)

/-- 'laws.FnExactShareFirst', WHERE WHAT IT READS IS OF BULK AT MOST 1048576: true; the input reads as it did. -/
def fnExactShareFirstUptoRow : OpenClaim := { program := "ytpfabjjeacdikaa", sum := "0b981063766733112c6d7f5ef59617cb8f0abdb251650e03e00fad943d69bf6e", func := "loop.example/workplans/laws.FnExactShareFirst", spec := "fnExactShareFirst", unfollowed := true, recurses := true, plainKeys := false, apart := false, narrowed := true }
def FnExactShareFirstUptoSaid : Prop := fnExactShareFirstUptoRow.holds Try.pinned (OpenSpec.upto fnExactShareFirstSpec)

/-- 'laws.FnKeep', WHERE WHAT IT READS IS OF BULK AT MOST 1048576: true; the input reads as it did. -/
def fnKeepUptoRow : OpenClaim := { program := "ytpfabjjeacdikaa", sum := "0b981063766733112c6d7f5ef59617cb8f0abdb251650e03e00fad943d69bf6e", func := "loop.example/workplans/laws.FnKeep", spec := "fnKeep", unfollowed := true, recurses := true, plainKeys := false, apart := false, narrowed := true }
def FnKeepUptoSaid : Prop := fnKeepUptoRow.holds Try.pinned (OpenSpec.upto fnKeepSpec)

/-- 'laws.FnShareSaved', WHERE WHAT IT READS IS OF BULK AT MOST 1048576: true; the input reads as it did. -/
def fnShareSavedUptoRow : OpenClaim := { program := "ytpfabjjeacdikaa", sum := "0b981063766733112c6d7f5ef59617cb8f0abdb251650e03e00fad943d69bf6e", func := "loop.example/workplans/laws.FnShareSaved", spec := "fnShareSaved", unfollowed := true, recurses := true, plainKeys := false, apart := false, narrowed := true }
def FnShareSavedUptoSaid : Prop := fnShareSavedUptoRow.holds Try.pinned (OpenSpec.upto fnShareSavedSpec)

/-- 'laws.FnCrewNewShare', WHERE WHAT IT READS IS OF BULK AT MOST 1048576: true; the input reads as it did. -/
def fnCrewNewShareUptoRow : OpenClaim := { program := "ytpfabjjeacdikaa", sum := "0b981063766733112c6d7f5ef59617cb8f0abdb251650e03e00fad943d69bf6e", func := "loop.example/workplans/laws.FnCrewNewShare", spec := "fnCrewNewShare", unfollowed := true, recurses := true, plainKeys := false, apart := false, narrowed := true }
def FnCrewNewShareUptoSaid : Prop := fnCrewNewShareUptoRow.holds Try.pinned (OpenSpec.upto fnCrewNewShareSpec)

/-- 'laws.FnExactShareSaved', WHERE WHAT IT READS IS OF BULK AT MOST 1048576: true; the input reads as it did. -/
def fnExactShareSavedUptoRow : OpenClaim := { program := "ytpfabjjeacdikaa", sum := "0b981063766733112c6d7f5ef59617cb8f0abdb251650e03e00fad943d69bf6e", func := "loop.example/workplans/laws.FnExactShareSaved", spec := "fnExactShareSaved", unfollowed := true, recurses := true, plainKeys := false, apart := false, narrowed := true }
def FnExactShareSavedUptoSaid : Prop := fnExactShareSavedUptoRow.holds Try.pinned (OpenSpec.upto fnExactShareSavedSpec)

/-- 'laws.FnFirstRows', WHERE WHAT IT READS IS OF BULK AT MOST 1048576: true; the input reads as it did. -/
def fnFirstRowsUptoRow : OpenClaim := { program := "ytpfabjjeacdikaa", sum := "0b981063766733112c6d7f5ef59617cb8f0abdb251650e03e00fad943d69bf6e", func := "loop.example/workplans/laws.FnFirstRows", spec := "fnFirstRows", unfollowed := true, recurses := true, plainKeys := false, apart := false, narrowed := true }
def FnFirstRowsUptoSaid : Prop := fnFirstRowsUptoRow.holds Try.pinned (OpenSpec.upto fnFirstRowsSpec)

/-- 'laws.FnShareNumbers', WHERE WHAT IT READS IS OF BULK AT MOST 1048576: true; the input reads as it did. -/
def fnShareNumbersUptoRow : OpenClaim := { program := "ytpfabjjeacdikaa", sum := "0b981063766733112c6d7f5ef59617cb8f0abdb251650e03e00fad943d69bf6e", func := "loop.example/workplans/laws.FnShareNumbers", spec := "fnShareNumbers", unfollowed := true, recurses := true, plainKeys := false, apart := false, narrowed := true }
def FnShareNumbersUptoSaid : Prop := fnShareNumbersUptoRow.holds Try.pinned (OpenSpec.upto fnShareNumbersSpec)

end Rows
end Go.Proofs.Ytpfabjjeacdikaa
