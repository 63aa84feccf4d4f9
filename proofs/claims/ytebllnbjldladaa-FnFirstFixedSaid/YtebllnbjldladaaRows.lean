/-
  No cell of these rows narrows 'for every input' (looked for: loops, veiled, ifaces, maps, wideKeys, modest, calm, conditions, laid).
  DERIVED. THE GIVEN ROWS OF THIS SEAT. 12 by the template 'for every input the law returns true; each argument reads behind the call as it read before'; 0 by the template 'total and deterministic' (their statements: YtebllnbjldladaaTotals.lean).
  GIVEN WITH THE SEED: the statements are not yours to turn. If you find one false, say at which input.
  Laid BY PROGRAM, IN A SANDBOX (cutbox-rows.mjs): the forced cells as the released guide's own fill.sh prints them over the translation aed58c5e2cbf50ea… (all of the seat's roots in one cut). By AI agents, Wed Nov 11 2026. No macro, syntax, notation, axiom, sorry.
-/
import Derived.Test.YtebllnbjldladaaChecked
import GoSem.Claim
import GoSem.ClaimJoined
import GoSem.ClaimMapViews
import Derived.JoinedTies
import Derived.KernelRfl
namespace Go.Proofs.Ytebllnbjldladaa
/- THE CELL 'sum', in the pinned program and in every row, IS THE sha256 OF THE DUMP (.gsa) THAT YtebllnbjldladaaProg.lean LOADS. Nothing in Lean hashes anything: it is a label: what it is worth is what the hold of that sum in a sandbox is worth. -/
noncomputable def Try.pinned : Pinned := { name := "ytebllnbjldladaa", sum := "aed58c5e2cbf50eafb44fbf95d4d3be8db3b368a97c2e273861eeea139a05368", checked := Try.checked }
namespace Rows
def none {H : Type} : Left H := { results := [], args := [] }

/-- 'laws.FnExactFoldNode': WHATEVER THE INPUT: true; the input reads as it did. -/
def fnExactFoldNodeSpec : ChangeSpec := { name := "fnExactFoldNode", fn := fun _ => fun
  | [d1, d2] => { results := [.lit (.bool true)], args := [d1, d2] }
  | _ => none }
def fnExactFoldNodeRow : OpenClaim := { program := "ytebllnbjldladaa", sum := "aed58c5e2cbf50eafb44fbf95d4d3be8db3b368a97c2e273861eeea139a05368", func := "loop.example/workplans/laws.FnExactFoldNode", spec := "fnExactFoldNode", unfollowed := true, recurses := true, plainKeys := false, apart := false }
def FnExactFoldNodeSaid : Prop := fnExactFoldNodeRow.holds Try.pinned (OpenSpec.ofChange fnExactFoldNodeSpec)

/-- ITS FALSE NEIGHBOUR: 'it returns false'. Refute it at one input. -/
def fnExactFoldNodeWrong : ChangeSpec := { name := "fnExactFoldNode", fn := fun _ => fun
  | [d1, d2] => { results := [.lit (.bool false)], args := [d1, d2] }
  | _ => none }
def FnExactFoldNodeWrongFalsely : Prop := fnExactFoldNodeRow.holds Try.pinned (OpenSpec.ofChange fnExactFoldNodeWrong)

/-- 'laws.FnExactFoldAll': WHATEVER THE INPUT: true; the input reads as it did. -/
def fnExactFoldAllSpec : ChangeSpec := { name := "fnExactFoldAll", fn := fun _ => fun
  | [d1, d2] => { results := [.lit (.bool true)], args := [d1, d2] }
  | _ => none }
def fnExactFoldAllRow : OpenClaim := { program := "ytebllnbjldladaa", sum := "aed58c5e2cbf50eafb44fbf95d4d3be8db3b368a97c2e273861eeea139a05368", func := "loop.example/workplans/laws.FnExactFoldAll", spec := "fnExactFoldAll", unfollowed := true, recurses := true, plainKeys := false, apart := false }
def FnExactFoldAllSaid : Prop := fnExactFoldAllRow.holds Try.pinned (OpenSpec.ofChange fnExactFoldAllSpec)

/-- ITS FALSE NEIGHBOUR: 'it returns false'. Refute it at one input. -/
def fnExactFoldAllWrong : ChangeSpec := { name := "fnExactFoldAll", fn := fun _ => fun
  | [d1, d2] => { results := [.lit (.bool false)], args := [d1, d2] }
  | _ => none }
def FnExactFoldAllWrongFalsely : Prop := fnExactFoldAllRow.holds Try.pinned (OpenSpec.ofChange fnExactFoldAllWrong)

/-- 'laws.FnCounts': WHATEVER THE INPUT: true; the input reads as it did. -/
def fnCountsSpec : ChangeSpec := { name := "fnCounts", fn := fun _ => fun
  | [d] => { results := [.lit (.bool true)], args := [d] }
  | _ => none }
def fnCountsRow : OpenClaim := { program := "ytebllnbjldladaa", sum := "aed58c5e2cbf50eafb44fbf95d4d3be8db3b368a97c2e273861eeea139a05368", func := "loop.example/workplans/laws.FnCounts", spec := "fnCounts", unfollowed := true, recurses := true, plainKeys := false, apart := false }
def FnCountsSaid : Prop := fnCountsRow.holds Try.pinned (OpenSpec.ofChange fnCountsSpec)

/-- ITS FALSE NEIGHBOUR: 'it returns false'. Refute it at one input. -/
def fnCountsWrong : ChangeSpec := { name := "fnCounts", fn := fun _ => fun
  | [d] => { results := [.lit (.bool false)], args := [d] }
  | _ => none }
def FnCountsWrongFalsely : Prop := fnCountsRow.holds Try.pinned (OpenSpec.ofChange fnCountsWrong)

/-- 'laws.FnRoundsOne': WHATEVER THE INPUT: true; the input reads as it did. -/
def fnRoundsOneSpec : ChangeSpec := { name := "fnRoundsOne", fn := fun _ => fun
  | [d] => { results := [.lit (.bool true)], args := [d] }
  | _ => none }
def fnRoundsOneRow : OpenClaim := { program := "ytebllnbjldladaa", sum := "aed58c5e2cbf50eafb44fbf95d4d3be8db3b368a97c2e273861eeea139a05368", func := "loop.example/workplans/laws.FnRoundsOne", spec := "fnRoundsOne", unfollowed := true, recurses := true, plainKeys := false, apart := false }
def FnRoundsOneSaid : Prop := fnRoundsOneRow.holds Try.pinned (OpenSpec.ofChange fnRoundsOneSpec)

/-- ITS FALSE NEIGHBOUR: 'it returns false'. Refute it at one input. -/
def fnRoundsOneWrong : ChangeSpec := { name := "fnRoundsOne", fn := fun _ => fun
  | [d] => { results := [.lit (.bool false)], args := [d] }
  | _ => none }
def FnRoundsOneWrongFalsely : Prop := fnRoundsOneRow.holds Try.pinned (OpenSpec.ofChange fnRoundsOneWrong)

/-- 'laws.FnOrderReady': WHATEVER THE INPUT: true; the input reads as it did. -/
def fnOrderReadySpec : ChangeSpec := { name := "fnOrderReady", fn := fun _ => fun
  | [d1, d2] => { results := [.lit (.bool true)], args := [d1, d2] }
  | _ => none }
def fnOrderReadyRow : OpenClaim := { program := "ytebllnbjldladaa", sum := "aed58c5e2cbf50eafb44fbf95d4d3be8db3b368a97c2e273861eeea139a05368", func := "loop.example/workplans/laws.FnOrderReady", spec := "fnOrderReady", unfollowed := true, recurses := true, plainKeys := false, apart := false }
def FnOrderReadySaid : Prop := fnOrderReadyRow.holds Try.pinned (OpenSpec.ofChange fnOrderReadySpec)

/-- ITS FALSE NEIGHBOUR: 'it returns false'. Refute it at one input. -/
def fnOrderReadyWrong : ChangeSpec := { name := "fnOrderReady", fn := fun _ => fun
  | [d1, d2] => { results := [.lit (.bool false)], args := [d1, d2] }
  | _ => none }
def FnOrderReadyWrongFalsely : Prop := fnOrderReadyRow.holds Try.pinned (OpenSpec.ofChange fnOrderReadyWrong)

/-- 'laws.FnExactReadyOf': WHATEVER THE INPUT: true; the input reads as it did. -/
def fnExactReadyOfSpec : ChangeSpec := { name := "fnExactReadyOf", fn := fun _ => fun
  | [d1, d2] => { results := [.lit (.bool true)], args := [d1, d2] }
  | _ => none }
def fnExactReadyOfRow : OpenClaim := { program := "ytebllnbjldladaa", sum := "aed58c5e2cbf50eafb44fbf95d4d3be8db3b368a97c2e273861eeea139a05368", func := "loop.example/workplans/laws.FnExactReadyOf", spec := "fnExactReadyOf", unfollowed := true, recurses := true, plainKeys := false, apart := false }
def FnExactReadyOfSaid : Prop := fnExactReadyOfRow.holds Try.pinned (OpenSpec.ofChange fnExactReadyOfSpec)

/-- ITS FALSE NEIGHBOUR: 'it returns false'. Refute it at one input. -/
def fnExactReadyOfWrong : ChangeSpec := { name := "fnExactReadyOf", fn := fun _ => fun
  | [d1, d2] => { results := [.lit (.bool false)], args := [d1, d2] }
  | _ => none }
def FnExactReadyOfWrongFalsely : Prop := fnExactReadyOfRow.holds Try.pinned (OpenSpec.ofChange fnExactReadyOfWrong)

/-- 'laws.FnFirst': WHATEVER THE INPUT: true; the input reads as it did. -/
def fnFirstSpec : ChangeSpec := { name := "fnFirst", fn := fun _ => fun
  | [d] => { results := [.lit (.bool true)], args := [d] }
  | _ => none }
def fnFirstRow : OpenClaim := { program := "ytebllnbjldladaa", sum := "aed58c5e2cbf50eafb44fbf95d4d3be8db3b368a97c2e273861eeea139a05368", func := "loop.example/workplans/laws.FnFirst", spec := "fnFirst", unfollowed := true, recurses := true, plainKeys := false, apart := false }
def FnFirstSaid : Prop := fnFirstRow.holds Try.pinned (OpenSpec.ofChange fnFirstSpec)

/-- ITS FALSE NEIGHBOUR: 'it returns false'. Refute it at one input. -/
def fnFirstWrong : ChangeSpec := { name := "fnFirst", fn := fun _ => fun
  | [d] => { results := [.lit (.bool false)], args := [d] }
  | _ => none }
def FnFirstWrongFalsely : Prop := fnFirstRow.holds Try.pinned (OpenSpec.ofChange fnFirstWrong)

/-- 'laws.FnFirstFixed': WHATEVER THE INPUT: true; the input reads as it did. -/
def fnFirstFixedSpec : ChangeSpec := { name := "fnFirstFixed", fn := fun _ => fun
  | [d] => { results := [.lit (.bool true)], args := [d] }
  | _ => none }
def fnFirstFixedRow : OpenClaim := { program := "ytebllnbjldladaa", sum := "aed58c5e2cbf50eafb44fbf95d4d3be8db3b368a97c2e273861eeea139a05368", func := "loop.example/workplans/laws.FnFirstFixed", spec := "fnFirstFixed", unfollowed := true, recurses := true, plainKeys := false, apart := false }
def FnFirstFixedSaid : Prop := fnFirstFixedRow.holds Try.pinned (OpenSpec.ofChange fnFirstFixedSpec)

/-- ITS FALSE NEIGHBOUR: 'it returns false'. Refute it at one input. -/
def fnFirstFixedWrong : ChangeSpec := { name := "fnFirstFixed", fn := fun _ => fun
  | [d] => { results := [.lit (.bool false)], args := [d] }
  | _ => none }
def FnFirstFixedWrongFalsely : Prop := fnFirstFixedRow.holds Try.pinned (OpenSpec.ofChange fnFirstFixedWrong)

/-- 'laws.FnFirstNeeds': WHATEVER THE INPUT: true; the input reads as it did. -/
def fnFirstNeedsSpec : ChangeSpec := { name := "fnFirstNeeds", fn := fun _ => fun
  | [d] => { results := [.lit (.bool true)], args := [d] }
  | _ => none }
def fnFirstNeedsRow : OpenClaim := { program := "ytebllnbjldladaa", sum := "aed58c5e2cbf50eafb44fbf95d4d3be8db3b368a97c2e273861eeea139a05368", func := "loop.example/workplans/laws.FnFirstNeeds", spec := "fnFirstNeeds", unfollowed := true, recurses := true, plainKeys := false, apart := false }
def FnFirstNeedsSaid : Prop := fnFirstNeedsRow.holds Try.pinned (OpenSpec.ofChange fnFirstNeedsSpec)

/-- ITS FALSE NEIGHBOUR: 'it returns false'. Refute it at one input. -/
def fnFirstNeedsWrong : ChangeSpec := { name := "fnFirstNeeds", fn := fun _ => fun
  | [d] => { results := [.lit (.bool false)], args := [d] }
  | _ => none }
def FnFirstNeedsWrongFalsely : Prop := fnFirstNeedsRow.holds Try.pinned (OpenSpec.ofChange fnFirstNeedsWrong)

/-- 'laws.FnFoldAllTurn': WHATEVER THE INPUT: true; the input reads as it did. -/
def fnFoldAllTurnSpec : ChangeSpec := { name := "fnFoldAllTurn", fn := fun _ => fun
  | [d] => { results := [.lit (.bool true)], args := [d] }
  | _ => none }
def fnFoldAllTurnRow : OpenClaim := { program := "ytebllnbjldladaa", sum := "aed58c5e2cbf50eafb44fbf95d4d3be8db3b368a97c2e273861eeea139a05368", func := "loop.example/workplans/laws.FnFoldAllTurn", spec := "fnFoldAllTurn", unfollowed := true, recurses := true, plainKeys := false, apart := false }
def FnFoldAllTurnSaid : Prop := fnFoldAllTurnRow.holds Try.pinned (OpenSpec.ofChange fnFoldAllTurnSpec)

/-- ITS FALSE NEIGHBOUR: 'it returns false'. Refute it at one input. -/
def fnFoldAllTurnWrong : ChangeSpec := { name := "fnFoldAllTurn", fn := fun _ => fun
  | [d] => { results := [.lit (.bool false)], args := [d] }
  | _ => none }
def FnFoldAllTurnWrongFalsely : Prop := fnFoldAllTurnRow.holds Try.pinned (OpenSpec.ofChange fnFoldAllTurnWrong)

/-- 'laws.FnFirstSwap': WHATEVER THE INPUT: true; the input reads as it did. -/
def fnFirstSwapSpec : ChangeSpec := { name := "fnFirstSwap", fn := fun _ => fun
  | [d] => { results := [.lit (.bool true)], args := [d] }
  | _ => none }
def fnFirstSwapRow : OpenClaim := { program := "ytebllnbjldladaa", sum := "aed58c5e2cbf50eafb44fbf95d4d3be8db3b368a97c2e273861eeea139a05368", func := "loop.example/workplans/laws.FnFirstSwap", spec := "fnFirstSwap", unfollowed := true, recurses := true, plainKeys := false, apart := false }
def FnFirstSwapSaid : Prop := fnFirstSwapRow.holds Try.pinned (OpenSpec.ofChange fnFirstSwapSpec)

/-- ITS FALSE NEIGHBOUR: 'it returns false'. Refute it at one input. -/
def fnFirstSwapWrong : ChangeSpec := { name := "fnFirstSwap", fn := fun _ => fun
  | [d] => { results := [.lit (.bool false)], args := [d] }
  | _ => none }
def FnFirstSwapWrongFalsely : Prop := fnFirstSwapRow.holds Try.pinned (OpenSpec.ofChange fnFirstSwapWrong)

/-- 'laws.FnExactScheduleTurns': WHATEVER THE INPUT: true; the input reads as it did. -/
def fnExactScheduleTurnsSpec : ChangeSpec := { name := "fnExactScheduleTurns", fn := fun _ => fun
  | [d1, d2] => { results := [.lit (.bool true)], args := [d1, d2] }
  | _ => none }
def fnExactScheduleTurnsRow : OpenClaim := { program := "ytebllnbjldladaa", sum := "aed58c5e2cbf50eafb44fbf95d4d3be8db3b368a97c2e273861eeea139a05368", func := "loop.example/workplans/laws.FnExactScheduleTurns", spec := "fnExactScheduleTurns", unfollowed := true, recurses := true, plainKeys := false, apart := false }
def FnExactScheduleTurnsSaid : Prop := fnExactScheduleTurnsRow.holds Try.pinned (OpenSpec.ofChange fnExactScheduleTurnsSpec)

/-- ITS FALSE NEIGHBOUR: 'it returns false'. Refute it at one input. -/
def fnExactScheduleTurnsWrong : ChangeSpec := { name := "fnExactScheduleTurns", fn := fun _ => fun
  | [d1, d2] => { results := [.lit (.bool false)], args := [d1, d2] }
  | _ => none }
def FnExactScheduleTurnsWrongFalsely : Prop := fnExactScheduleTurnsRow.holds Try.pinned (OpenSpec.ofChange fnExactScheduleTurnsWrong)

/- THE SECOND FORM. 'bulk': how many values and letters a reading holds, each counted each time it is reached (what is shared counts as often as it is met; a slice's spare places count too). A statement '..UptoSaid' is the law's where the arguments, and the package variables that the reading takes, are together of bulk at most 1048576: NARROWER than '..Said'. Prove '..Said' where nothing that the law and all that it calls make is longer than what came in: it says more and counts as full. Else prove '..UptoSaid'. A law counts once. -/
mutual
def uptoBulk {H : Type} : DataW H → Nat
  | .lit (.string bytes) => bytes.length + 1
  | .lit _ => 1
  | .nil => 1
  | .ptr d => uptoBulk d + 1
  | .slice elems spare => uptoBulkAll elems + uptoBulkAll spare + 1
  | .agg parts => uptoBulkAll parts + 1
  | .iface _ d => uptoBulk d + 1
  | .map entries => uptoBulkEntries entries + 1
  | .held _ => 1
def uptoBulkAll {H : Type} : List (DataW H) → Nat
  | [] => 0
  | d :: r => uptoBulk d + uptoBulkAll r
def uptoBulkEntries {H : Type} : List (Lit × DataW H) → Nat
  | [] => 0
  | x :: r => uptoBulkEntry x + uptoBulkEntries r
def uptoBulkEntry {H : Type} : Lit × DataW H → Nat
  | (.string bytes, d) => bytes.length + uptoBulk d + 1
  | (_, d) => uptoBulk d + 1
 end
def uptoSmall : (H : Type) → List (DataW H) → Bool := fun _ ds => decide (uptoBulkAll ds ≤ 1048576)
def OpenSpec.upto (s : _root_.Go.ChangeSpec) : _root_.Go.OpenSpec := { _root_.Go.OpenSpec.ofChange s with cond := some uptoSmall }

/-- 'laws.FnExactFoldNode', WHERE WHAT IT READS IS OF BULK AT MOST 1048576: true; the input reads as it did. -/
def fnExactFoldNodeUptoRow : OpenClaim := { program := "ytebllnbjldladaa", sum := "aed58c5e2cbf50eafb44fbf95d4d3be8db3b368a97c2e273861eeea139a05368", func := "loop.example/workplans/laws.FnExactFoldNode", spec := "fnExactFoldNode", unfollowed := true, recurses := true, plainKeys := false, apart := false, narrowed := true }
def FnExactFoldNodeUptoSaid : Prop := fnExactFoldNodeUptoRow.holds Try.pinned (OpenSpec.upto fnExactFoldNodeSpec)

/-- 'laws.FnExactFoldAll', WHERE WHAT IT READS IS OF BULK AT MOST 1048576: true; the input reads as it did. -/
def fnExactFoldAllUptoRow : OpenClaim := { program := "ytebllnbjldladaa", sum := "aed58c5e2cbf50eafb44fbf95d4d3be8db3b368a97c2e273861eeea139a05368", func := "loop.example/workplans/laws.FnExactFoldAll", spec := "fnExactFoldAll", unfollowed := true, recurses := true, plainKeys := false, apart := false, narrowed := true }
def FnExactFoldAllUptoSaid : Prop := fnExactFoldAllUptoRow.holds Try.pinned (OpenSpec.upto fnExactFoldAllSpec)

/-- 'laws.FnCounts', WHERE WHAT IT READS IS OF BULK AT MOST 1048576: true; the input reads as it did. -/
def fnCountsUptoRow : OpenClaim := { program := "ytebllnbjldladaa", sum := "aed58c5e2cbf50eafb44fbf95d4d3be8db3b368a97c2e273861eeea139a05368", func := "loop.example/workplans/laws.FnCounts", spec := "fnCounts", unfollowed := true, recurses := true, plainKeys := false, apart := false, narrowed := true }
def FnCountsUptoSaid : Prop := fnCountsUptoRow.holds Try.pinned (OpenSpec.upto fnCountsSpec)

/-- 'laws.FnRoundsOne', WHERE WHAT IT READS IS OF BULK AT MOST 1048576: true; the input reads as it did. -/
def fnRoundsOneUptoRow : OpenClaim := { program := "ytebllnbjldladaa", sum := "aed58c5e2cbf50eafb44fbf95d4d3be8db3b368a97c2e273861eeea139a05368", func := "loop.example/workplans/laws.FnRoundsOne", spec := "fnRoundsOne", unfollowed := true, recurses := true, plainKeys := false, apart := false, narrowed := true }
def FnRoundsOneUptoSaid : Prop := fnRoundsOneUptoRow.holds Try.pinned (OpenSpec.upto fnRoundsOneSpec)

/-- 'laws.FnOrderReady', WHERE WHAT IT READS IS OF BULK AT MOST 1048576: true; the input reads as it did. -/
def fnOrderReadyUptoRow : OpenClaim := { program := "ytebllnbjldladaa", sum := "aed58c5e2cbf50eafb44fbf95d4d3be8db3b368a97c2e273861eeea139a05368", func := "loop.example/workplans/laws.FnOrderReady", spec := "fnOrderReady", unfollowed := true, recurses := true, plainKeys := false, apart := false, narrowed := true }
def FnOrderReadyUptoSaid : Prop := fnOrderReadyUptoRow.holds Try.pinned (OpenSpec.upto fnOrderReadySpec)

/-- 'laws.FnExactReadyOf', WHERE WHAT IT READS IS OF BULK AT MOST 1048576: true; the input reads as it did. -/
def fnExactReadyOfUptoRow : OpenClaim := { program := "ytebllnbjldladaa", sum := "aed58c5e2cbf50eafb44fbf95d4d3be8db3b368a97c2e273861eeea139a05368", func := "loop.example/workplans/laws.FnExactReadyOf", spec := "fnExactReadyOf", unfollowed := true, recurses := true, plainKeys := false, apart := false, narrowed := true }
def FnExactReadyOfUptoSaid : Prop := fnExactReadyOfUptoRow.holds Try.pinned (OpenSpec.upto fnExactReadyOfSpec)

/-- 'laws.FnFirst', WHERE WHAT IT READS IS OF BULK AT MOST 1048576: true; the input reads as it did. -/
def fnFirstUptoRow : OpenClaim := { program := "ytebllnbjldladaa", sum := "aed58c5e2cbf50eafb44fbf95d4d3be8db3b368a97c2e273861eeea139a05368", func := "loop.example/workplans/laws.FnFirst", spec := "fnFirst", unfollowed := true, recurses := true, plainKeys := false, apart := false, narrowed := true }
def FnFirstUptoSaid : Prop := fnFirstUptoRow.holds Try.pinned (OpenSpec.upto fnFirstSpec)

/-- 'laws.FnFirstFixed', WHERE WHAT IT READS IS OF BULK AT MOST 1048576: true; the input reads as it did. -/
def fnFirstFixedUptoRow : OpenClaim := { program := "ytebllnbjldladaa", sum := "aed58c5e2cbf50eafb44fbf95d4d3be8db3b368a97c2e273861eeea139a05368", func := "loop.example/workplans/laws.FnFirstFixed", spec := "fnFirstFixed", unfollowed := true, recurses := true, plainKeys := false, apart := false, narrowed := true }
def FnFirstFixedUptoSaid : Prop := fnFirstFixedUptoRow.holds Try.pinned (OpenSpec.upto fnFirstFixedSpec)

/-- 'laws.FnFirstNeeds', WHERE WHAT IT READS IS OF BULK AT MOST 1048576: true; the input reads as it did. -/
def fnFirstNeedsUptoRow : OpenClaim := { program := "ytebllnbjldladaa", sum := "aed58c5e2cbf50eafb44fbf95d4d3be8db3b368a97c2e273861eeea139a05368", func := "loop.example/workplans/laws.FnFirstNeeds", spec := "fnFirstNeeds", unfollowed := true, recurses := true, plainKeys := false, apart := false, narrowed := true }
def FnFirstNeedsUptoSaid : Prop := fnFirstNeedsUptoRow.holds Try.pinned (OpenSpec.upto fnFirstNeedsSpec)

/-- 'laws.FnFoldAllTurn', WHERE WHAT IT READS IS OF BULK AT MOST 1048576: true; the input reads as it did. -/
def fnFoldAllTurnUptoRow : OpenClaim := { program := "ytebllnbjldladaa", sum := "aed58c5e2cbf50eafb44fbf95d4d3be8db3b368a97c2e273861eeea139a05368", func := "loop.example/workplans/laws.FnFoldAllTurn", spec := "fnFoldAllTurn", unfollowed := true, recurses := true, plainKeys := false, apart := false, narrowed := true }
def FnFoldAllTurnUptoSaid : Prop := fnFoldAllTurnUptoRow.holds Try.pinned (OpenSpec.upto fnFoldAllTurnSpec)

/-- 'laws.FnFirstSwap', WHERE WHAT IT READS IS OF BULK AT MOST 1048576: true; the input reads as it did. -/
def fnFirstSwapUptoRow : OpenClaim := { program := "ytebllnbjldladaa", sum := "aed58c5e2cbf50eafb44fbf95d4d3be8db3b368a97c2e273861eeea139a05368", func := "loop.example/workplans/laws.FnFirstSwap", spec := "fnFirstSwap", unfollowed := true, recurses := true, plainKeys := false, apart := false, narrowed := true }
def FnFirstSwapUptoSaid : Prop := fnFirstSwapUptoRow.holds Try.pinned (OpenSpec.upto fnFirstSwapSpec)

/-- 'laws.FnExactScheduleTurns', WHERE WHAT IT READS IS OF BULK AT MOST 1048576: true; the input reads as it did. -/
def fnExactScheduleTurnsUptoRow : OpenClaim := { program := "ytebllnbjldladaa", sum := "aed58c5e2cbf50eafb44fbf95d4d3be8db3b368a97c2e273861eeea139a05368", func := "loop.example/workplans/laws.FnExactScheduleTurns", spec := "fnExactScheduleTurns", unfollowed := true, recurses := true, plainKeys := false, apart := false, narrowed := true }
def FnExactScheduleTurnsUptoSaid : Prop := fnExactScheduleTurnsUptoRow.holds Try.pinned (OpenSpec.upto fnExactScheduleTurnsSpec)

end Rows
end Go.Proofs.Ytebllnbjldladaa
