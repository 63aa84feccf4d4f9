/-
  No cell of these rows narrows 'for every input' (looked for: loops, veiled, ifaces, maps, wideKeys, modest, calm, conditions, laid).
  DERIVED. THE GIVEN ROWS OF THIS SEAT. 12 by the template 'for every input the law returns true; each argument reads behind the call as it read before'; 0 by the template 'total and deterministic' (their statements: YtokfjjjfecblgaaTotals.lean).
  GIVEN WITH THE SEED: the statements are not yours to turn. If you find one false, say at which input.
  Laid BY PROGRAM, IN A SANDBOX (cutbox-rows.mjs): the forced cells as the released guide's own fill.sh prints them over the translation e1450dadc393c0fb… (all of the seat's roots in one cut). By AI agents, Wed Nov 11 2026. No macro, syntax, notation, axiom, sorry.
-/
import Derived.Test.YtokfjjjfecblgaaChecked
import GoSem.Claim
import GoSem.ClaimJoined
import GoSem.ClaimMapViews
import Derived.JoinedTies
import Derived.KernelRfl
namespace Go.Proofs.Ytokfjjjfecblgaa
/- THE CELL 'sum', in the pinned program and in every row, IS THE sha256 OF THE DUMP (.gsa) THAT YtokfjjjfecblgaaProg.lean LOADS. Nothing in Lean hashes anything: it is a label: what it is worth is what the hold of that sum in a sandbox is worth. -/
noncomputable def Try.pinned : Pinned := { name := "ytokfjjjfecblgaa", sum := "e1450dadc393c0fbfe729762772242e5966bbe7fe2bb368a8c3e313726e82c40", checked := Try.checked }
namespace Rows
def none {H : Type} : Left H := { results := [], args := [] }

/-- 'laws.FnShareTwice': WHATEVER THE INPUT: true; the input reads as it did. -/
def fnShareTwiceSpec : ChangeSpec := { name := "fnShareTwice", fn := fun _ => fun
  | [d] => { results := [.lit (.bool true)], args := [d] }
  | _ => none }
def fnShareTwiceRow : OpenClaim := { program := "ytokfjjjfecblgaa", sum := "e1450dadc393c0fbfe729762772242e5966bbe7fe2bb368a8c3e313726e82c40", func := "loop.example/workplans/laws.FnShareTwice", spec := "fnShareTwice", unfollowed := true, recurses := true, plainKeys := false, apart := false }
def FnShareTwiceSaid : Prop := fnShareTwiceRow.holds Try.pinned (OpenSpec.ofChange fnShareTwiceSpec)

/-- ITS FALSE NEIGHBOUR: 'it returns false'. Refute it at one input. -/
def fnShareTwiceWrong : ChangeSpec := { name := "fnShareTwice", fn := fun _ => fun
  | [d] => { results := [.lit (.bool false)], args := [d] }
  | _ => none }
def FnShareTwiceWrongFalsely : Prop := fnShareTwiceRow.holds Try.pinned (OpenSpec.ofChange fnShareTwiceWrong)

/-- 'laws.FnCutNumbers': WHATEVER THE INPUT: true; the input reads as it did. -/
def fnCutNumbersSpec : ChangeSpec := { name := "fnCutNumbers", fn := fun _ => fun
  | [d] => { results := [.lit (.bool true)], args := [d] }
  | _ => none }
def fnCutNumbersRow : OpenClaim := { program := "ytokfjjjfecblgaa", sum := "e1450dadc393c0fbfe729762772242e5966bbe7fe2bb368a8c3e313726e82c40", func := "loop.example/workplans/laws.FnCutNumbers", spec := "fnCutNumbers", unfollowed := true, recurses := true, plainKeys := false, apart := false }
def FnCutNumbersSaid : Prop := fnCutNumbersRow.holds Try.pinned (OpenSpec.ofChange fnCutNumbersSpec)

/-- ITS FALSE NEIGHBOUR: 'it returns false'. Refute it at one input. -/
def fnCutNumbersWrong : ChangeSpec := { name := "fnCutNumbers", fn := fun _ => fun
  | [d] => { results := [.lit (.bool false)], args := [d] }
  | _ => none }
def FnCutNumbersWrongFalsely : Prop := fnCutNumbersRow.holds Try.pinned (OpenSpec.ofChange fnCutNumbersWrong)

/-- 'laws.FnExactPlanShare': WHATEVER THE INPUT: true; the input reads as it did. -/
def fnExactPlanShareSpec : ChangeSpec := { name := "fnExactPlanShare", fn := fun _ => fun
  | [d] => { results := [.lit (.bool true)], args := [d] }
  | _ => none }
def fnExactPlanShareRow : OpenClaim := { program := "ytokfjjjfecblgaa", sum := "e1450dadc393c0fbfe729762772242e5966bbe7fe2bb368a8c3e313726e82c40", func := "loop.example/workplans/laws.FnExactPlanShare", spec := "fnExactPlanShare", unfollowed := true, recurses := true, plainKeys := false, apart := false }
def FnExactPlanShareSaid : Prop := fnExactPlanShareRow.holds Try.pinned (OpenSpec.ofChange fnExactPlanShareSpec)

/-- ITS FALSE NEIGHBOUR: 'it returns false'. Refute it at one input. -/
def fnExactPlanShareWrong : ChangeSpec := { name := "fnExactPlanShare", fn := fun _ => fun
  | [d] => { results := [.lit (.bool false)], args := [d] }
  | _ => none }
def FnExactPlanShareWrongFalsely : Prop := fnExactPlanShareRow.holds Try.pinned (OpenSpec.ofChange fnExactPlanShareWrong)

/-- 'laws.FnCutAll': WHATEVER THE INPUT: true; the input reads as it did. -/
def fnCutAllSpec : ChangeSpec := { name := "fnCutAll", fn := fun _ => fun
  | [d] => { results := [.lit (.bool true)], args := [d] }
  | _ => none }
def fnCutAllRow : OpenClaim := { program := "ytokfjjjfecblgaa", sum := "e1450dadc393c0fbfe729762772242e5966bbe7fe2bb368a8c3e313726e82c40", func := "loop.example/workplans/laws.FnCutAll", spec := "fnCutAll", unfollowed := true, recurses := true, plainKeys := false, apart := false }
def FnCutAllSaid : Prop := fnCutAllRow.holds Try.pinned (OpenSpec.ofChange fnCutAllSpec)

/-- ITS FALSE NEIGHBOUR: 'it returns false'. Refute it at one input. -/
def fnCutAllWrong : ChangeSpec := { name := "fnCutAll", fn := fun _ => fun
  | [d] => { results := [.lit (.bool false)], args := [d] }
  | _ => none }
def FnCutAllWrongFalsely : Prop := fnCutAllRow.holds Try.pinned (OpenSpec.ofChange fnCutAllWrong)

/-- 'laws.FnCutEnds': WHATEVER THE INPUT: true; the input reads as it did. -/
def fnCutEndsSpec : ChangeSpec := { name := "fnCutEnds", fn := fun _ => fun
  | [d] => { results := [.lit (.bool true)], args := [d] }
  | _ => none }
def fnCutEndsRow : OpenClaim := { program := "ytokfjjjfecblgaa", sum := "e1450dadc393c0fbfe729762772242e5966bbe7fe2bb368a8c3e313726e82c40", func := "loop.example/workplans/laws.FnCutEnds", spec := "fnCutEnds", unfollowed := true, recurses := true, plainKeys := false, apart := false }
def FnCutEndsSaid : Prop := fnCutEndsRow.holds Try.pinned (OpenSpec.ofChange fnCutEndsSpec)

/-- ITS FALSE NEIGHBOUR: 'it returns false'. Refute it at one input. -/
def fnCutEndsWrong : ChangeSpec := { name := "fnCutEnds", fn := fun _ => fun
  | [d] => { results := [.lit (.bool false)], args := [d] }
  | _ => none }
def FnCutEndsWrongFalsely : Prop := fnCutEndsRow.holds Try.pinned (OpenSpec.ofChange fnCutEndsWrong)

/-- 'laws.FnExactLoseRows': WHATEVER THE INPUT: true; the input reads as it did. -/
def fnExactLoseRowsSpec : ChangeSpec := { name := "fnExactLoseRows", fn := fun _ => fun
  | [d1, d2, d3] => { results := [.lit (.bool true)], args := [d1, d2, d3] }
  | _ => none }
def fnExactLoseRowsRow : OpenClaim := { program := "ytokfjjjfecblgaa", sum := "e1450dadc393c0fbfe729762772242e5966bbe7fe2bb368a8c3e313726e82c40", func := "loop.example/workplans/laws.FnExactLoseRows", spec := "fnExactLoseRows", unfollowed := true, recurses := true, plainKeys := false, apart := false }
def FnExactLoseRowsSaid : Prop := fnExactLoseRowsRow.holds Try.pinned (OpenSpec.ofChange fnExactLoseRowsSpec)

/-- ITS FALSE NEIGHBOUR: 'it returns false'. Refute it at one input. -/
def fnExactLoseRowsWrong : ChangeSpec := { name := "fnExactLoseRows", fn := fun _ => fun
  | [d1, d2, d3] => { results := [.lit (.bool false)], args := [d1, d2, d3] }
  | _ => none }
def FnExactLoseRowsWrongFalsely : Prop := fnExactLoseRowsRow.holds Try.pinned (OpenSpec.ofChange fnExactLoseRowsWrong)

/-- 'laws.FnLoseNothing': WHATEVER THE INPUT: true; the input reads as it did. -/
def fnLoseNothingSpec : ChangeSpec := { name := "fnLoseNothing", fn := fun _ => fun
  | [d] => { results := [.lit (.bool true)], args := [d] }
  | _ => none }
def fnLoseNothingRow : OpenClaim := { program := "ytokfjjjfecblgaa", sum := "e1450dadc393c0fbfe729762772242e5966bbe7fe2bb368a8c3e313726e82c40", func := "loop.example/workplans/laws.FnLoseNothing", spec := "fnLoseNothing", unfollowed := true, recurses := true, plainKeys := false, apart := false }
def FnLoseNothingSaid : Prop := fnLoseNothingRow.holds Try.pinned (OpenSpec.ofChange fnLoseNothingSpec)

/-- ITS FALSE NEIGHBOUR: 'it returns false'. Refute it at one input. -/
def fnLoseNothingWrong : ChangeSpec := { name := "fnLoseNothing", fn := fun _ => fun
  | [d] => { results := [.lit (.bool false)], args := [d] }
  | _ => none }
def FnLoseNothingWrongFalsely : Prop := fnLoseNothingRow.holds Try.pinned (OpenSpec.ofChange fnLoseNothingWrong)

/-- 'laws.FnExactPlanCut': WHATEVER THE INPUT: true; the input reads as it did. -/
def fnExactPlanCutSpec : ChangeSpec := { name := "fnExactPlanCut", fn := fun _ => fun
  | [d1, d2] => { results := [.lit (.bool true)], args := [d1, d2] }
  | _ => none }
def fnExactPlanCutRow : OpenClaim := { program := "ytokfjjjfecblgaa", sum := "e1450dadc393c0fbfe729762772242e5966bbe7fe2bb368a8c3e313726e82c40", func := "loop.example/workplans/laws.FnExactPlanCut", spec := "fnExactPlanCut", unfollowed := true, recurses := true, plainKeys := false, apart := false }
def FnExactPlanCutSaid : Prop := fnExactPlanCutRow.holds Try.pinned (OpenSpec.ofChange fnExactPlanCutSpec)

/-- ITS FALSE NEIGHBOUR: 'it returns false'. Refute it at one input. -/
def fnExactPlanCutWrong : ChangeSpec := { name := "fnExactPlanCut", fn := fun _ => fun
  | [d1, d2] => { results := [.lit (.bool false)], args := [d1, d2] }
  | _ => none }
def FnExactPlanCutWrongFalsely : Prop := fnExactPlanCutRow.holds Try.pinned (OpenSpec.ofChange fnExactPlanCutWrong)

/-- 'laws.FnExactLoseAgain': WHATEVER THE INPUT: true; the input reads as it did. -/
def fnExactLoseAgainSpec : ChangeSpec := { name := "fnExactLoseAgain", fn := fun _ => fun
  | [d1, d2, d3] => { results := [.lit (.bool true)], args := [d1, d2, d3] }
  | _ => none }
def fnExactLoseAgainRow : OpenClaim := { program := "ytokfjjjfecblgaa", sum := "e1450dadc393c0fbfe729762772242e5966bbe7fe2bb368a8c3e313726e82c40", func := "loop.example/workplans/laws.FnExactLoseAgain", spec := "fnExactLoseAgain", unfollowed := true, recurses := true, plainKeys := false, apart := false }
def FnExactLoseAgainSaid : Prop := fnExactLoseAgainRow.holds Try.pinned (OpenSpec.ofChange fnExactLoseAgainSpec)

/-- ITS FALSE NEIGHBOUR: 'it returns false'. Refute it at one input. -/
def fnExactLoseAgainWrong : ChangeSpec := { name := "fnExactLoseAgain", fn := fun _ => fun
  | [d1, d2, d3] => { results := [.lit (.bool false)], args := [d1, d2, d3] }
  | _ => none }
def FnExactLoseAgainWrongFalsely : Prop := fnExactLoseAgainRow.holds Try.pinned (OpenSpec.ofChange fnExactLoseAgainWrong)

/-- 'laws.FnLoseMore': WHATEVER THE INPUT: true; the input reads as it did. -/
def fnLoseMoreSpec : ChangeSpec := { name := "fnLoseMore", fn := fun _ => fun
  | [d] => { results := [.lit (.bool true)], args := [d] }
  | _ => none }
def fnLoseMoreRow : OpenClaim := { program := "ytokfjjjfecblgaa", sum := "e1450dadc393c0fbfe729762772242e5966bbe7fe2bb368a8c3e313726e82c40", func := "loop.example/workplans/laws.FnLoseMore", spec := "fnLoseMore", unfollowed := true, recurses := true, plainKeys := false, apart := false }
def FnLoseMoreSaid : Prop := fnLoseMoreRow.holds Try.pinned (OpenSpec.ofChange fnLoseMoreSpec)

/-- ITS FALSE NEIGHBOUR: 'it returns false'. Refute it at one input. -/
def fnLoseMoreWrong : ChangeSpec := { name := "fnLoseMore", fn := fun _ => fun
  | [d] => { results := [.lit (.bool false)], args := [d] }
  | _ => none }
def FnLoseMoreWrongFalsely : Prop := fnLoseMoreRow.holds Try.pinned (OpenSpec.ofChange fnLoseMoreWrong)

/-- 'laws.FnLoseRows': WHATEVER THE INPUT: true; the input reads as it did. -/
def fnLoseRowsSpec : ChangeSpec := { name := "fnLoseRows", fn := fun _ => fun
  | [d] => { results := [.lit (.bool true)], args := [d] }
  | _ => none }
def fnLoseRowsRow : OpenClaim := { program := "ytokfjjjfecblgaa", sum := "e1450dadc393c0fbfe729762772242e5966bbe7fe2bb368a8c3e313726e82c40", func := "loop.example/workplans/laws.FnLoseRows", spec := "fnLoseRows", unfollowed := true, recurses := true, plainKeys := false, apart := false }
def FnLoseRowsSaid : Prop := fnLoseRowsRow.holds Try.pinned (OpenSpec.ofChange fnLoseRowsSpec)

/-- ITS FALSE NEIGHBOUR: 'it returns false'. Refute it at one input. -/
def fnLoseRowsWrong : ChangeSpec := { name := "fnLoseRows", fn := fun _ => fun
  | [d] => { results := [.lit (.bool false)], args := [d] }
  | _ => none }
def FnLoseRowsWrongFalsely : Prop := fnLoseRowsRow.holds Try.pinned (OpenSpec.ofChange fnLoseRowsWrong)

/-- 'laws.FnLoseRowsWanted': WHATEVER THE INPUT: true; the input reads as it did. -/
def fnLoseRowsWantedSpec : ChangeSpec := { name := "fnLoseRowsWanted", fn := fun _ => fun
  | [d] => { results := [.lit (.bool true)], args := [d] }
  | _ => none }
def fnLoseRowsWantedRow : OpenClaim := { program := "ytokfjjjfecblgaa", sum := "e1450dadc393c0fbfe729762772242e5966bbe7fe2bb368a8c3e313726e82c40", func := "loop.example/workplans/laws.FnLoseRowsWanted", spec := "fnLoseRowsWanted", unfollowed := true, recurses := true, plainKeys := false, apart := false }
def FnLoseRowsWantedSaid : Prop := fnLoseRowsWantedRow.holds Try.pinned (OpenSpec.ofChange fnLoseRowsWantedSpec)

/-- ITS FALSE NEIGHBOUR: 'it returns false'. Refute it at one input. -/
def fnLoseRowsWantedWrong : ChangeSpec := { name := "fnLoseRowsWanted", fn := fun _ => fun
  | [d] => { results := [.lit (.bool false)], args := [d] }
  | _ => none }
def FnLoseRowsWantedWrongFalsely : Prop := fnLoseRowsWantedRow.holds Try.pinned (OpenSpec.ofChange fnLoseRowsWantedWrong)

/- THE SECOND FORM. 'bulk': how many values and letters a reading holds, each counted each time it is reached (what is shared counts as often as it is met; a slice's spare places count too). A statement '..UptoSaid' is the law's where the arguments, and the package variables that the reading takes, are together of bulk at most 1048576: NARROWER than '..Said'. Prove '..Said' where nothing that the law and all that it calls make is longer than what came in: it says more and counts as full. Else prove '..UptoSaid'. A law counts once. -/
mutual
def uptoBulk {H : Type} : DataW H → Nat
  | .lit (.string bytes) => bytes.length + 1
  | .lit _ => 1
  | .nil => 1
  | .ptr d => uptoBulk d + 1
  | .slice elems spare => uptoBulkAll elems + uptoBulkAll spare + 1
  | .agg parts => uptoBulkAll parts + 1
  | .iface _ d => uptoBulk d + 1
  | .map entries => uptoBulkEntries entries + 1
  | .held _ => 1
def uptoBulkAll {H : Type} : List (DataW H) → Nat
  | [] => 0
  | d :: r => uptoBulk d + uptoBulkAll r
def uptoBulkEntries {H : Type} : List (Lit × DataW H) → Nat
  | [] => 0
  | x :: r => uptoBulkEntry x + uptoBulkEntries r
def uptoBulkEntry {H : Type} : Lit × DataW H → Nat
  | (.string bytes, d) => bytes.length + uptoBulk d + 1
  | (_, d) => uptoBulk d + 1
 end
def uptoSmall : (H : Type) → List (DataW H) → Bool := fun _ ds => decide (uptoBulkAll ds ≤ 1048576)
def OpenSpec.upto (s : _root_.Go.ChangeSpec) : _root_.Go.OpenSpec := { _root_.Go.OpenSpec.ofChange s with cond := some uptoSmall }

/-- 'laws.FnShareTwice', WHERE WHAT IT READS IS OF BULK AT MOST 1048576: true; the input reads as it did. -/
def fnShareTwiceUptoRow : OpenClaim := { program := "ytokfjjjfecblgaa", sum := "e1450dadc393c0fbfe729762772242e5966bbe7fe2bb368a8c3e313726e82c40", func := "loop.example/workplans/laws.FnShareTwice", spec := "fnShareTwice", unfollowed := true, recurses := true, plainKeys := false, apart := false, narrowed := true }
def FnShareTwiceUptoSaid : Prop := fnShareTwiceUptoRow.holds Try.pinned (OpenSpec.upto fnShareTwiceSpec)

/-- 'laws.FnCutNumbers', WHERE WHAT IT READS IS OF BULK AT MOST 1048576: true; the input reads as it did. -/
def fnCutNumbersUptoRow : OpenClaim := { program := "ytokfjjjfecblgaa", sum := "e1450dadc393c0fbfe729762772242e5966bbe7fe2bb368a8c3e313726e82c40", func := "loop.example/workplans/laws.FnCutNumbers", spec := "fnCutNumbers", unfollowed := true, recurses := true, plainKeys := false, apart := false, narrowed := true }
def FnCutNumbersUptoSaid : Prop := fnCutNumbersUptoRow.holds Try.pinned (OpenSpec.upto fnCutNumbersSpec)

/-- 'laws.FnExactPlanShare', WHERE WHAT IT READS IS OF BULK AT MOST 1048576: true; the input reads as it did. -/
def fnExactPlanShareUptoRow : OpenClaim := { program := "ytokfjjjfecblgaa", sum := "e1450dadc393c0fbfe729762772242e5966bbe7fe2bb368a8c3e313726e82c40", func := "loop.example/workplans/laws.FnExactPlanShare", spec := "fnExactPlanShare", unfollowed := true, recurses := true, plainKeys := false, apart := false, narrowed := true }
def FnExactPlanShareUptoSaid : Prop := fnExactPlanShareUptoRow.holds Try.pinned (OpenSpec.upto fnExactPlanShareSpec)

/-- 'laws.FnCutAll', WHERE WHAT IT READS IS OF BULK AT MOST 1048576: true; the input reads as it did. -/
def fnCutAllUptoRow : OpenClaim := { program := "ytokfjjjfecblgaa", sum := "e1450dadc393c0fbfe729762772242e5966bbe7fe2bb368a8c3e313726e82c40", func := "loop.example/workplans/laws.FnCutAll", spec := "fnCutAll", unfollowed := true, recurses := true, plainKeys := false, apart := false, narrowed := true }
def FnCutAllUptoSaid : Prop := fnCutAllUptoRow.holds Try.pinned (OpenSpec.upto fnCutAllSpec)

/-- 'laws.FnCutEnds', WHERE WHAT IT READS IS OF BULK AT MOST 1048576: true; the input reads as it did. -/
def fnCutEndsUptoRow : OpenClaim := { program := "ytokfjjjfecblgaa", sum := "e1450dadc393c0fbfe729762772242e5966bbe7fe2bb368a8c3e313726e82c40", func := "loop.example/workplans/laws.FnCutEnds", spec := "fnCutEnds", unfollowed := true, recurses := true, plainKeys := false, apart := false, narrowed := true }
def FnCutEndsUptoSaid : Prop := fnCutEndsUptoRow.holds Try.pinned (OpenSpec.upto fnCutEndsSpec)

/-- 'laws.FnExactLoseRows', WHERE WHAT IT READS IS OF BULK AT MOST 1048576: true; the input reads as it did. -/
def fnExactLoseRowsUptoRow : OpenClaim := { program := "ytokfjjjfecblgaa", sum := "e1450dadc393c0fbfe729762772242e5966bbe7fe2bb368a8c3e313726e82c40", func := "loop.example/workplans/laws.FnExactLoseRows", spec := "fnExactLoseRows", unfollowed := true, recurses := true, plainKeys := false, apart := false, narrowed := true }
def FnExactLoseRowsUptoSaid : Prop := fnExactLoseRowsUptoRow.holds Try.pinned (OpenSpec.upto fnExactLoseRowsSpec)

/-- 'laws.FnLoseNothing', WHERE WHAT IT READS IS OF BULK AT MOST 1048576: true; the input reads as it did. -/
def fnLoseNothingUptoRow : OpenClaim := { program := "ytokfjjjfecblgaa", sum := "e1450dadc393c0fbfe729762772242e5966bbe7fe2bb368a8c3e313726e82c40", func := "loop.example/workplans/laws.FnLoseNothing", spec := "fnLoseNothing", unfollowed := true, recurses := true, plainKeys := false, apart := false, narrowed := true }
def FnLoseNothingUptoSaid : Prop := fnLoseNothingUptoRow.holds Try.pinned (OpenSpec.upto fnLoseNothingSpec)

/-- 'laws.FnExactPlanCut', WHERE WHAT IT READS IS OF BULK AT MOST 1048576: true; the input reads as it did. -/
def fnExactPlanCutUptoRow : OpenClaim := { program := "ytokfjjjfecblgaa", sum := "e1450dadc393c0fbfe729762772242e5966bbe7fe2bb368a8c3e313726e82c40", func := "loop.example/workplans/laws.FnExactPlanCut", spec := "fnExactPlanCut", unfollowed := true, recurses := true, plainKeys := false, apart := false, narrowed := true }
def FnExactPlanCutUptoSaid : Prop := fnExactPlanCutUptoRow.holds Try.pinned (OpenSpec.upto fnExactPlanCutSpec)

/-- 'laws.FnExactLoseAgain', WHERE WHAT IT READS IS OF BULK AT MOST 1048576: true; the input reads as it did. -/
def fnExactLoseAgainUptoRow : OpenClaim := { program := "ytokfjjjfecblgaa", sum := "e1450dadc393c0fbfe729762772242e5966bbe7fe2bb368a8c3e313726e82c40", func := "loop.example/workplans/laws.FnExactLoseAgain", spec := "fnExactLoseAgain", unfollowed := true, recurses := true, plainKeys := false, apart := false, narrowed := true }
def FnExactLoseAgainUptoSaid : Prop := fnExactLoseAgainUptoRow.holds Try.pinned (OpenSpec.upto fnExactLoseAgainSpec)

/-- 'laws.FnLoseMore', WHERE WHAT IT READS IS OF BULK AT MOST 1048576: true; the input reads as it did. -/
def fnLoseMoreUptoRow : OpenClaim := { program := "ytokfjjjfecblgaa", sum := "e1450dadc393c0fbfe729762772242e5966bbe7fe2bb368a8c3e313726e82c40", func := "loop.example/workplans/laws.FnLoseMore", spec := "fnLoseMore", unfollowed := true, recurses := true, plainKeys := false, apart := false, narrowed := true }
def FnLoseMoreUptoSaid : Prop := fnLoseMoreUptoRow.holds Try.pinned (OpenSpec.upto fnLoseMoreSpec)

/-- 'laws.FnLoseRows', WHERE WHAT IT READS IS OF BULK AT MOST 1048576: true; the input reads as it did. -/
def fnLoseRowsUptoRow : OpenClaim := { program := "ytokfjjjfecblgaa", sum := "e1450dadc393c0fbfe729762772242e5966bbe7fe2bb368a8c3e313726e82c40", func := "loop.example/workplans/laws.FnLoseRows", spec := "fnLoseRows", unfollowed := true, recurses := true, plainKeys := false, apart := false, narrowed := true }
def FnLoseRowsUptoSaid : Prop := fnLoseRowsUptoRow.holds Try.pinned (OpenSpec.upto fnLoseRowsSpec)

/-- 'laws.FnLoseRowsWanted', WHERE WHAT IT READS IS OF BULK AT MOST 1048576: true; the input reads as it did. -/
def fnLoseRowsWantedUptoRow : OpenClaim := { program := "ytokfjjjfecblgaa", sum := "e1450dadc393c0fbfe729762772242e5966bbe7fe2bb368a8c3e313726e82c40", func := "loop.example/workplans/laws.FnLoseRowsWanted", spec := "fnLoseRowsWanted", unfollowed := true, recurses := true, plainKeys := false, apart := false, narrowed := true }
def FnLoseRowsWantedUptoSaid : Prop := fnLoseRowsWantedUptoRow.holds Try.pinned (OpenSpec.upto fnLoseRowsWantedSpec)

end Rows
end Go.Proofs.Ytokfjjjfecblgaa
