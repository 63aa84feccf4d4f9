/-
  No cell of these rows narrows 'for every input' (looked for: loops, veiled, ifaces, maps, wideKeys, modest, calm, conditions, laid).
  DERIVED. THE GIVEN ROWS OF THIS SEAT. 14 by the template 'for every input the law returns true; each argument reads behind the call as it read before'; 0 by the template 'total and deterministic' (their statements: YtinpkcjfnljigaaTotals.lean).
  GIVEN WITH THE SEED: the statements are not yours to turn. If you find one false, say at which input.
  Laid BY PROGRAM, IN A SANDBOX (cutbox-rows.mjs): the forced cells as the released guide's own fill.sh prints them over the translation c2fcd96e2cb176e3… (all of the seat's roots in one cut). By AI agents, Wed Nov 11 2026. No macro, syntax, notation, axiom, sorry.
-/
import Derived.Test.YtinpkcjfnljigaaChecked
import GoSem.Claim
import GoSem.ClaimJoined
import GoSem.ClaimMapViews
import Derived.JoinedTies
import Derived.KernelRfl
namespace Go.Proofs.Ytinpkcjfnljigaa
/- THE CELL 'sum', in the pinned program and in every row, IS THE sha256 OF THE DUMP (.gsa) THAT YtinpkcjfnljigaaProg.lean LOADS. Nothing in Lean hashes anything: it is a label: what it is worth is what the hold of that sum in a sandbox is worth. -/
noncomputable def Try.pinned : Pinned := { name := "ytinpkcjfnljigaa", sum := "c2fcd96e2cb176e3591815e806d135aed000d125b5780e934a7b5d605883ca5a", checked := Try.checked }
namespace Rows
def none {H : Type} : Left H := { results := [], args := [] }

/-- 'laws.FnExactCountsReady': WHATEVER THE INPUT: true; the input reads as it did. -/
def fnExactCountsReadySpec : ChangeSpec := { name := "fnExactCountsReady", fn := fun _ => fun
  | [d] => { results := [.lit (.bool true)], args := [d] }
  | _ => none }
def fnExactCountsReadyRow : OpenClaim := { program := "ytinpkcjfnljigaa", sum := "c2fcd96e2cb176e3591815e806d135aed000d125b5780e934a7b5d605883ca5a", func := "loop.example/workplans/laws.FnExactCountsReady", spec := "fnExactCountsReady", apart := false }
def FnExactCountsReadySaid : Prop := fnExactCountsReadyRow.holds Try.pinned (OpenSpec.ofChange fnExactCountsReadySpec)

/-- ITS FALSE NEIGHBOUR: 'it returns false'. Refute it at one input. -/
def fnExactCountsReadyWrong : ChangeSpec := { name := "fnExactCountsReady", fn := fun _ => fun
  | [d] => { results := [.lit (.bool false)], args := [d] }
  | _ => none }
def FnExactCountsReadyWrongFalsely : Prop := fnExactCountsReadyRow.holds Try.pinned (OpenSpec.ofChange fnExactCountsReadyWrong)

/-- 'laws.FnCountsReady': WHATEVER THE INPUT: true; the input reads as it did. -/
def fnCountsReadySpec : ChangeSpec := { name := "fnCountsReady", fn := fun _ => fun
  | [d] => { results := [.lit (.bool true)], args := [d] }
  | _ => none }
def fnCountsReadyRow : OpenClaim := { program := "ytinpkcjfnljigaa", sum := "c2fcd96e2cb176e3591815e806d135aed000d125b5780e934a7b5d605883ca5a", func := "loop.example/workplans/laws.FnCountsReady", spec := "fnCountsReady", apart := false }
def FnCountsReadySaid : Prop := fnCountsReadyRow.holds Try.pinned (OpenSpec.ofChange fnCountsReadySpec)

/-- ITS FALSE NEIGHBOUR: 'it returns false'. Refute it at one input. -/
def fnCountsReadyWrong : ChangeSpec := { name := "fnCountsReady", fn := fun _ => fun
  | [d] => { results := [.lit (.bool false)], args := [d] }
  | _ => none }
def FnCountsReadyWrongFalsely : Prop := fnCountsReadyRow.holds Try.pinned (OpenSpec.ofChange fnCountsReadyWrong)

/-- 'laws.FnExactDequeValid': WHATEVER THE INPUT: true; the input reads as it did. -/
def fnExactDequeValidSpec : ChangeSpec := { name := "fnExactDequeValid", fn := fun _ => fun
  | [d] => { results := [.lit (.bool true)], args := [d] }
  | _ => none }
def fnExactDequeValidRow : OpenClaim := { program := "ytinpkcjfnljigaa", sum := "c2fcd96e2cb176e3591815e806d135aed000d125b5780e934a7b5d605883ca5a", func := "loop.example/workplans/laws.FnExactDequeValid", spec := "fnExactDequeValid", apart := false }
def FnExactDequeValidSaid : Prop := fnExactDequeValidRow.holds Try.pinned (OpenSpec.ofChange fnExactDequeValidSpec)

/-- ITS FALSE NEIGHBOUR: 'it returns false'. Refute it at one input. -/
def fnExactDequeValidWrong : ChangeSpec := { name := "fnExactDequeValid", fn := fun _ => fun
  | [d] => { results := [.lit (.bool false)], args := [d] }
  | _ => none }
def FnExactDequeValidWrongFalsely : Prop := fnExactDequeValidRow.holds Try.pinned (OpenSpec.ofChange fnExactDequeValidWrong)

/-- 'laws.FnDequePart': WHATEVER THE INPUT: true; the input reads as it did. -/
def fnDequePartSpec : ChangeSpec := { name := "fnDequePart", fn := fun _ => fun
  | [d1, d2] => { results := [.lit (.bool true)], args := [d1, d2] }
  | _ => none }
def fnDequePartRow : OpenClaim := { program := "ytinpkcjfnljigaa", sum := "c2fcd96e2cb176e3591815e806d135aed000d125b5780e934a7b5d605883ca5a", func := "loop.example/workplans/laws.FnDequePart", spec := "fnDequePart", apart := false }
def FnDequePartSaid : Prop := fnDequePartRow.holds Try.pinned (OpenSpec.ofChange fnDequePartSpec)

/-- ITS FALSE NEIGHBOUR: 'it returns false'. Refute it at one input. -/
def fnDequePartWrong : ChangeSpec := { name := "fnDequePart", fn := fun _ => fun
  | [d1, d2] => { results := [.lit (.bool false)], args := [d1, d2] }
  | _ => none }
def FnDequePartWrongFalsely : Prop := fnDequePartRow.holds Try.pinned (OpenSpec.ofChange fnDequePartWrong)

/-- 'laws.FnExactDequeSteal': WHATEVER THE INPUT: true; the input reads as it did. -/
def fnExactDequeStealSpec : ChangeSpec := { name := "fnExactDequeSteal", fn := fun _ => fun
  | [d] => { results := [.lit (.bool true)], args := [d] }
  | _ => none }
def fnExactDequeStealRow : OpenClaim := { program := "ytinpkcjfnljigaa", sum := "c2fcd96e2cb176e3591815e806d135aed000d125b5780e934a7b5d605883ca5a", func := "loop.example/workplans/laws.FnExactDequeSteal", spec := "fnExactDequeSteal", apart := false }
def FnExactDequeStealSaid : Prop := fnExactDequeStealRow.holds Try.pinned (OpenSpec.ofChange fnExactDequeStealSpec)

/-- ITS FALSE NEIGHBOUR: 'it returns false'. Refute it at one input. -/
def fnExactDequeStealWrong : ChangeSpec := { name := "fnExactDequeSteal", fn := fun _ => fun
  | [d] => { results := [.lit (.bool false)], args := [d] }
  | _ => none }
def FnExactDequeStealWrongFalsely : Prop := fnExactDequeStealRow.holds Try.pinned (OpenSpec.ofChange fnExactDequeStealWrong)

/-- 'laws.FnExactDequePop': WHATEVER THE INPUT: true; the input reads as it did. -/
def fnExactDequePopSpec : ChangeSpec := { name := "fnExactDequePop", fn := fun _ => fun
  | [d] => { results := [.lit (.bool true)], args := [d] }
  | _ => none }
def fnExactDequePopRow : OpenClaim := { program := "ytinpkcjfnljigaa", sum := "c2fcd96e2cb176e3591815e806d135aed000d125b5780e934a7b5d605883ca5a", func := "loop.example/workplans/laws.FnExactDequePop", spec := "fnExactDequePop", apart := false }
def FnExactDequePopSaid : Prop := fnExactDequePopRow.holds Try.pinned (OpenSpec.ofChange fnExactDequePopSpec)

/-- ITS FALSE NEIGHBOUR: 'it returns false'. Refute it at one input. -/
def fnExactDequePopWrong : ChangeSpec := { name := "fnExactDequePop", fn := fun _ => fun
  | [d] => { results := [.lit (.bool false)], args := [d] }
  | _ => none }
def FnExactDequePopWrongFalsely : Prop := fnExactDequePopRow.holds Try.pinned (OpenSpec.ofChange fnExactDequePopWrong)

/-- 'laws.FnExactDequePush': WHATEVER THE INPUT: true; the input reads as it did. -/
def fnExactDequePushSpec : ChangeSpec := { name := "fnExactDequePush", fn := fun _ => fun
  | [d1, d2] => { results := [.lit (.bool true)], args := [d1, d2] }
  | _ => none }
def fnExactDequePushRow : OpenClaim := { program := "ytinpkcjfnljigaa", sum := "c2fcd96e2cb176e3591815e806d135aed000d125b5780e934a7b5d605883ca5a", func := "loop.example/workplans/laws.FnExactDequePush", spec := "fnExactDequePush", apart := false }
def FnExactDequePushSaid : Prop := fnExactDequePushRow.holds Try.pinned (OpenSpec.ofChange fnExactDequePushSpec)

/-- ITS FALSE NEIGHBOUR: 'it returns false'. Refute it at one input. -/
def fnExactDequePushWrong : ChangeSpec := { name := "fnExactDequePush", fn := fun _ => fun
  | [d1, d2] => { results := [.lit (.bool false)], args := [d1, d2] }
  | _ => none }
def FnExactDequePushWrongFalsely : Prop := fnExactDequePushRow.holds Try.pinned (OpenSpec.ofChange fnExactDequePushWrong)

/-- 'laws.FnSteal': WHATEVER THE INPUT: true; the input reads as it did. -/
def fnStealSpec : ChangeSpec := { name := "fnSteal", fn := fun _ => fun
  | [d] => { results := [.lit (.bool true)], args := [d] }
  | _ => none }
def fnStealRow : OpenClaim := { program := "ytinpkcjfnljigaa", sum := "c2fcd96e2cb176e3591815e806d135aed000d125b5780e934a7b5d605883ca5a", func := "loop.example/workplans/laws.FnSteal", spec := "fnSteal", apart := false }
def FnStealSaid : Prop := fnStealRow.holds Try.pinned (OpenSpec.ofChange fnStealSpec)

/-- ITS FALSE NEIGHBOUR: 'it returns false'. Refute it at one input. -/
def fnStealWrong : ChangeSpec := { name := "fnSteal", fn := fun _ => fun
  | [d] => { results := [.lit (.bool false)], args := [d] }
  | _ => none }
def FnStealWrongFalsely : Prop := fnStealRow.holds Try.pinned (OpenSpec.ofChange fnStealWrong)

/-- 'laws.FnPushOnce': WHATEVER THE INPUT: true; the input reads as it did. -/
def fnPushOnceSpec : ChangeSpec := { name := "fnPushOnce", fn := fun _ => fun
  | [d] => { results := [.lit (.bool true)], args := [d] }
  | _ => none }
def fnPushOnceRow : OpenClaim := { program := "ytinpkcjfnljigaa", sum := "c2fcd96e2cb176e3591815e806d135aed000d125b5780e934a7b5d605883ca5a", func := "loop.example/workplans/laws.FnPushOnce", spec := "fnPushOnce", apart := false }
def FnPushOnceSaid : Prop := fnPushOnceRow.holds Try.pinned (OpenSpec.ofChange fnPushOnceSpec)

/-- ITS FALSE NEIGHBOUR: 'it returns false'. Refute it at one input. -/
def fnPushOnceWrong : ChangeSpec := { name := "fnPushOnce", fn := fun _ => fun
  | [d] => { results := [.lit (.bool false)], args := [d] }
  | _ => none }
def FnPushOnceWrongFalsely : Prop := fnPushOnceRow.holds Try.pinned (OpenSpec.ofChange fnPushOnceWrong)

/-- 'laws.FnStealPop': WHATEVER THE INPUT: true; the input reads as it did. -/
def fnStealPopSpec : ChangeSpec := { name := "fnStealPop", fn := fun _ => fun
  | [d] => { results := [.lit (.bool true)], args := [d] }
  | _ => none }
def fnStealPopRow : OpenClaim := { program := "ytinpkcjfnljigaa", sum := "c2fcd96e2cb176e3591815e806d135aed000d125b5780e934a7b5d605883ca5a", func := "loop.example/workplans/laws.FnStealPop", spec := "fnStealPop", apart := false }
def FnStealPopSaid : Prop := fnStealPopRow.holds Try.pinned (OpenSpec.ofChange fnStealPopSpec)

/-- ITS FALSE NEIGHBOUR: 'it returns false'. Refute it at one input. -/
def fnStealPopWrong : ChangeSpec := { name := "fnStealPop", fn := fun _ => fun
  | [d] => { results := [.lit (.bool false)], args := [d] }
  | _ => none }
def FnStealPopWrongFalsely : Prop := fnStealPopRow.holds Try.pinned (OpenSpec.ofChange fnStealPopWrong)

/-- 'laws.FnPopOne': WHATEVER THE INPUT: true; the input reads as it did. -/
def fnPopOneSpec : ChangeSpec := { name := "fnPopOne", fn := fun _ => fun
  | [d] => { results := [.lit (.bool true)], args := [d] }
  | _ => none }
def fnPopOneRow : OpenClaim := { program := "ytinpkcjfnljigaa", sum := "c2fcd96e2cb176e3591815e806d135aed000d125b5780e934a7b5d605883ca5a", func := "loop.example/workplans/laws.FnPopOne", spec := "fnPopOne", apart := false }
def FnPopOneSaid : Prop := fnPopOneRow.holds Try.pinned (OpenSpec.ofChange fnPopOneSpec)

/-- ITS FALSE NEIGHBOUR: 'it returns false'. Refute it at one input. -/
def fnPopOneWrong : ChangeSpec := { name := "fnPopOne", fn := fun _ => fun
  | [d] => { results := [.lit (.bool false)], args := [d] }
  | _ => none }
def FnPopOneWrongFalsely : Prop := fnPopOneRow.holds Try.pinned (OpenSpec.ofChange fnPopOneWrong)

/-- 'laws.FnPop': WHATEVER THE INPUT: true; the input reads as it did. -/
def fnPopSpec : ChangeSpec := { name := "fnPop", fn := fun _ => fun
  | [d] => { results := [.lit (.bool true)], args := [d] }
  | _ => none }
def fnPopRow : OpenClaim := { program := "ytinpkcjfnljigaa", sum := "c2fcd96e2cb176e3591815e806d135aed000d125b5780e934a7b5d605883ca5a", func := "loop.example/workplans/laws.FnPop", spec := "fnPop", apart := false }
def FnPopSaid : Prop := fnPopRow.holds Try.pinned (OpenSpec.ofChange fnPopSpec)

/-- ITS FALSE NEIGHBOUR: 'it returns false'. Refute it at one input. -/
def fnPopWrong : ChangeSpec := { name := "fnPop", fn := fun _ => fun
  | [d] => { results := [.lit (.bool false)], args := [d] }
  | _ => none }
def FnPopWrongFalsely : Prop := fnPopRow.holds Try.pinned (OpenSpec.ofChange fnPopWrong)

/-- 'laws.FnPushSteal': WHATEVER THE INPUT: true; the input reads as it did. -/
def fnPushStealSpec : ChangeSpec := { name := "fnPushSteal", fn := fun _ => fun
  | [d] => { results := [.lit (.bool true)], args := [d] }
  | _ => none }
def fnPushStealRow : OpenClaim := { program := "ytinpkcjfnljigaa", sum := "c2fcd96e2cb176e3591815e806d135aed000d125b5780e934a7b5d605883ca5a", func := "loop.example/workplans/laws.FnPushSteal", spec := "fnPushSteal", apart := false }
def FnPushStealSaid : Prop := fnPushStealRow.holds Try.pinned (OpenSpec.ofChange fnPushStealSpec)

/-- ITS FALSE NEIGHBOUR: 'it returns false'. Refute it at one input. -/
def fnPushStealWrong : ChangeSpec := { name := "fnPushSteal", fn := fun _ => fun
  | [d] => { results := [.lit (.bool false)], args := [d] }
  | _ => none }
def FnPushStealWrongFalsely : Prop := fnPushStealRow.holds Try.pinned (OpenSpec.ofChange fnPushStealWrong)

/-- 'laws.FnPush': WHATEVER THE INPUT: true; the input reads as it did. -/
def fnPushSpec : ChangeSpec := { name := "fnPush", fn := fun _ => fun
  | [d] => { results := [.lit (.bool true)], args := [d] }
  | _ => none }
def fnPushRow : OpenClaim := { program := "ytinpkcjfnljigaa", sum := "c2fcd96e2cb176e3591815e806d135aed000d125b5780e934a7b5d605883ca5a", func := "loop.example/workplans/laws.FnPush", spec := "fnPush", apart := false }
def FnPushSaid : Prop := fnPushRow.holds Try.pinned (OpenSpec.ofChange fnPushSpec)

/-- ITS FALSE NEIGHBOUR: 'it returns false'. Refute it at one input. -/
def fnPushWrong : ChangeSpec := { name := "fnPush", fn := fun _ => fun
  | [d] => { results := [.lit (.bool false)], args := [d] }
  | _ => none }
def FnPushWrongFalsely : Prop := fnPushRow.holds Try.pinned (OpenSpec.ofChange fnPushWrong)

/- THE SECOND FORM. 'bulk': how many values and letters a reading holds, each counted each time it is reached (what is shared counts as often as it is met; a slice's spare places count too). A statement '..UptoSaid' is the law's where the arguments, and the package variables that the reading takes, are together of bulk at most 1048576: NARROWER than '..Said'. Prove '..Said' where nothing that the law and all that it calls make is longer than what came in: it says more and counts as full. Else prove '..UptoSaid'. A law counts once. -/
mutual
def uptoBulk {H : Type} : DataW H → Nat
  | .lit (.string bytes) => bytes.length + 1
  | .lit _ => 1
  | .nil => 1
  | .ptr d => uptoBulk d + 1
  | .slice elems spare => uptoBulkAll elems + uptoBulkAll spare + 1
  | .agg parts => uptoBulkAll parts + 1
  | .iface _ d => uptoBulk d + 1
  | .map entries => uptoBulkEntries entries + 1
  | .held _ => 1
def uptoBulkAll {H : Type} : List (DataW H) → Nat
  | [] => 0
  | d :: r => uptoBulk d + uptoBulkAll r
def uptoBulkEntries {H : Type} : List (Lit × DataW H) → Nat
  | [] => 0
  | x :: r => uptoBulkEntry x + uptoBulkEntries r
def uptoBulkEntry {H : Type} : Lit × DataW H → Nat
  | (.string bytes, d) => bytes.length + uptoBulk d + 1
  | (_, d) => uptoBulk d + 1
 end
def uptoSmall : (H : Type) → List (DataW H) → Bool := fun _ ds => decide (uptoBulkAll ds ≤ 1048576)
def OpenSpec.upto (s : _root_.Go.ChangeSpec) : _root_.Go.OpenSpec := { _root_.Go.OpenSpec.ofChange s with cond := some uptoSmall }

/-- 'laws.FnExactCountsReady', WHERE WHAT IT READS IS OF BULK AT MOST 1048576: true; the input reads as it did. -/
def fnExactCountsReadyUptoRow : OpenClaim := { program := "ytinpkcjfnljigaa", sum := "c2fcd96e2cb176e3591815e806d135aed000d125b5780e934a7b5d605883ca5a", func := "loop.example/workplans/laws.FnExactCountsReady", spec := "fnExactCountsReady", apart := false, narrowed := true }
def FnExactCountsReadyUptoSaid : Prop := fnExactCountsReadyUptoRow.holds Try.pinned (OpenSpec.upto fnExactCountsReadySpec)

/-- 'laws.FnCountsReady', WHERE WHAT IT READS IS OF BULK AT MOST 1048576: true; the input reads as it did. -/
def fnCountsReadyUptoRow : OpenClaim := { program := "ytinpkcjfnljigaa", sum := "c2fcd96e2cb176e3591815e806d135aed000d125b5780e934a7b5d605883ca5a", func := "loop.example/workplans/laws.FnCountsReady", spec := "fnCountsReady", apart := false, narrowed := true }
def FnCountsReadyUptoSaid : Prop := fnCountsReadyUptoRow.holds Try.pinned (OpenSpec.upto fnCountsReadySpec)

/-- 'laws.FnExactDequeValid', WHERE WHAT IT READS IS OF BULK AT MOST 1048576: true; the input reads as it did. -/
def fnExactDequeValidUptoRow : OpenClaim := { program := "ytinpkcjfnljigaa", sum := "c2fcd96e2cb176e3591815e806d135aed000d125b5780e934a7b5d605883ca5a", func := "loop.example/workplans/laws.FnExactDequeValid", spec := "fnExactDequeValid", apart := false, narrowed := true }
def FnExactDequeValidUptoSaid : Prop := fnExactDequeValidUptoRow.holds Try.pinned (OpenSpec.upto fnExactDequeValidSpec)

/-- 'laws.FnDequePart', WHERE WHAT IT READS IS OF BULK AT MOST 1048576: true; the input reads as it did. -/
def fnDequePartUptoRow : OpenClaim := { program := "ytinpkcjfnljigaa", sum := "c2fcd96e2cb176e3591815e806d135aed000d125b5780e934a7b5d605883ca5a", func := "loop.example/workplans/laws.FnDequePart", spec := "fnDequePart", apart := false, narrowed := true }
def FnDequePartUptoSaid : Prop := fnDequePartUptoRow.holds Try.pinned (OpenSpec.upto fnDequePartSpec)

/-- 'laws.FnExactDequeSteal', WHERE WHAT IT READS IS OF BULK AT MOST 1048576: true; the input reads as it did. -/
def fnExactDequeStealUptoRow : OpenClaim := { program := "ytinpkcjfnljigaa", sum := "c2fcd96e2cb176e3591815e806d135aed000d125b5780e934a7b5d605883ca5a", func := "loop.example/workplans/laws.FnExactDequeSteal", spec := "fnExactDequeSteal", apart := false, narrowed := true }
def FnExactDequeStealUptoSaid : Prop := fnExactDequeStealUptoRow.holds Try.pinned (OpenSpec.upto fnExactDequeStealSpec)

/-- 'laws.FnExactDequePop', WHERE WHAT IT READS IS OF BULK AT MOST 1048576: true; the input reads as it did. -/
def fnExactDequePopUptoRow : OpenClaim := { program := "ytinpkcjfnljigaa", sum := "c2fcd96e2cb176e3591815e806d135aed000d125b5780e934a7b5d605883ca5a", func := "loop.example/workplans/laws.FnExactDequePop", spec := "fnExactDequePop", apart := false, narrowed := true }
def FnExactDequePopUptoSaid : Prop := fnExactDequePopUptoRow.holds Try.pinned (OpenSpec.upto fnExactDequePopSpec)

/-- 'laws.FnExactDequePush', WHERE WHAT IT READS IS OF BULK AT MOST 1048576: true; the input reads as it did. -/
def fnExactDequePushUptoRow : OpenClaim := { program := "ytinpkcjfnljigaa", sum := "c2fcd96e2cb176e3591815e806d135aed000d125b5780e934a7b5d605883ca5a", func := "loop.example/workplans/laws.FnExactDequePush", spec := "fnExactDequePush", apart := false, narrowed := true }
def FnExactDequePushUptoSaid : Prop := fnExactDequePushUptoRow.holds Try.pinned (OpenSpec.upto fnExactDequePushSpec)

/-- 'laws.FnSteal', WHERE WHAT IT READS IS OF BULK AT MOST 1048576: true; the input reads as it did. -/
def fnStealUptoRow : OpenClaim := { program := "ytinpkcjfnljigaa", sum := "c2fcd96e2cb176e3591815e806d135aed000d125b5780e934a7b5d605883ca5a", func := "loop.example/workplans/laws.FnSteal", spec := "fnSteal", apart := false, narrowed := true }
def FnStealUptoSaid : Prop := fnStealUptoRow.holds Try.pinned (OpenSpec.upto fnStealSpec)

/-- 'laws.FnPushOnce', WHERE WHAT IT READS IS OF BULK AT MOST 1048576: true; the input reads as it did. -/
def fnPushOnceUptoRow : OpenClaim := { program := "ytinpkcjfnljigaa", sum := "c2fcd96e2cb176e3591815e806d135aed000d125b5780e934a7b5d605883ca5a", func := "loop.example/workplans/laws.FnPushOnce", spec := "fnPushOnce", apart := false, narrowed := true }
def FnPushOnceUptoSaid : Prop := fnPushOnceUptoRow.holds Try.pinned (OpenSpec.upto fnPushOnceSpec)

/-- 'laws.FnStealPop', WHERE WHAT IT READS IS OF BULK AT MOST 1048576: true; the input reads as it did. -/
def fnStealPopUptoRow : OpenClaim := { program := "ytinpkcjfnljigaa", sum := "c2fcd96e2cb176e3591815e806d135aed000d125b5780e934a7b5d605883ca5a", func := "loop.example/workplans/laws.FnStealPop", spec := "fnStealPop", apart := false, narrowed := true }
def FnStealPopUptoSaid : Prop := fnStealPopUptoRow.holds Try.pinned (OpenSpec.upto fnStealPopSpec)

/-- 'laws.FnPopOne', WHERE WHAT IT READS IS OF BULK AT MOST 1048576: true; the input reads as it did. -/
def fnPopOneUptoRow : OpenClaim := { program := "ytinpkcjfnljigaa", sum := "c2fcd96e2cb176e3591815e806d135aed000d125b5780e934a7b5d605883ca5a", func := "loop.example/workplans/laws.FnPopOne", spec := "fnPopOne", apart := false, narrowed := true }
def FnPopOneUptoSaid : Prop := fnPopOneUptoRow.holds Try.pinned (OpenSpec.upto fnPopOneSpec)

/-- 'laws.FnPop', WHERE WHAT IT READS IS OF BULK AT MOST 1048576: true; the input reads as it did. -/
def fnPopUptoRow : OpenClaim := { program := "ytinpkcjfnljigaa", sum := "c2fcd96e2cb176e3591815e806d135aed000d125b5780e934a7b5d605883ca5a", func := "loop.example/workplans/laws.FnPop", spec := "fnPop", apart := false, narrowed := true }
def FnPopUptoSaid : Prop := fnPopUptoRow.holds Try.pinned (OpenSpec.upto fnPopSpec)

/-- 'laws.FnPushSteal', WHERE WHAT IT READS IS OF BULK AT MOST 1048576: true; the input reads as it did. -/
def fnPushStealUptoRow : OpenClaim := { program := "ytinpkcjfnljigaa", sum := "c2fcd96e2cb176e3591815e806d135aed000d125b5780e934a7b5d605883ca5a", func := "loop.example/workplans/laws.FnPushSteal", spec := "fnPushSteal", apart := false, narrowed := true }
def FnPushStealUptoSaid : Prop := fnPushStealUptoRow.holds Try.pinned (OpenSpec.upto fnPushStealSpec)

/-- 'laws.FnPush', WHERE WHAT IT READS IS OF BULK AT MOST 1048576: true; the input reads as it did. -/
def fnPushUptoRow : OpenClaim := { program := "ytinpkcjfnljigaa", sum := "c2fcd96e2cb176e3591815e806d135aed000d125b5780e934a7b5d605883ca5a", func := "loop.example/workplans/laws.FnPush", spec := "fnPush", apart := false, narrowed := true }
def FnPushUptoSaid : Prop := fnPushUptoRow.holds Try.pinned (OpenSpec.upto fnPushSpec)

end Rows
end Go.Proofs.Ytinpkcjfnljigaa
