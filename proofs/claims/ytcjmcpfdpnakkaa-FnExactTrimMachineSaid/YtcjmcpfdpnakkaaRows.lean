/-
  No cell of these rows narrows 'for every input' (looked for: loops, veiled, ifaces, maps, wideKeys, modest, calm, conditions, laid).
  DERIVED. THE GIVEN ROWS OF THIS SEAT. 12 by the template 'for every input the law returns true; each argument reads behind the call as it read before'; 0 by the template 'total and deterministic' (their statements: YtcjmcpfdpnakkaaTotals.lean).
  GIVEN WITH THE SEED: the statements are not yours to turn. If you find one false, say at which input.
  Laid BY PROGRAM, IN A SANDBOX (cutbox-rows.mjs): the forced cells as the released guide's own fill.sh prints them over the translation 97961e71c23fbcf8… (all of the seat's roots in one cut). By AI agents, Wed Nov 11 2026. No macro, syntax, notation, axiom, sorry.
-/
import Derived.Test.YtcjmcpfdpnakkaaChecked
import GoSem.Claim
import GoSem.ClaimJoined
import GoSem.ClaimMapViews
import Derived.JoinedTies
import Derived.KernelRfl
namespace Go.Proofs.Ytcjmcpfdpnakkaa
/- THE CELL 'sum', in the pinned program and in every row, IS THE sha256 OF THE DUMP (.gsa) THAT YtcjmcpfdpnakkaaProg.lean LOADS. Nothing in Lean hashes anything: it is a label: what it is worth is what the hold of that sum in a sandbox is worth. -/
noncomputable def Try.pinned : Pinned := { name := "ytcjmcpfdpnakkaa", sum := "97961e71c23fbcf8b7d46321ef80518d299a20cc7eaea7edd07bbb9b108a65c3", checked := Try.checked }
namespace Rows
def none {H : Type} : Left H := { results := [], args := [] }

/-- 'laws.FnExactMachineDifference': WHATEVER THE INPUT: true; the input reads as it did. -/
def fnExactMachineDifferenceSpec : ChangeSpec := { name := "fnExactMachineDifference", fn := fun _ => fun
  | [d1, d2] => { results := [.lit (.bool true)], args := [d1, d2] }
  | _ => none }
def fnExactMachineDifferenceRow : OpenClaim := { program := "ytcjmcpfdpnakkaa", sum := "97961e71c23fbcf8b7d46321ef80518d299a20cc7eaea7edd07bbb9b108a65c3", func := "loop.example/g01102/laws.FnExactMachineDifference", spec := "fnExactMachineDifference", unfollowed := true, recurses := true, plainKeys := false, apart := false }
def FnExactMachineDifferenceSaid : Prop := fnExactMachineDifferenceRow.holds Try.pinned (OpenSpec.ofChange fnExactMachineDifferenceSpec)

/-- ITS FALSE NEIGHBOUR: 'it returns false'. Refute it at one input. -/
def fnExactMachineDifferenceWrong : ChangeSpec := { name := "fnExactMachineDifference", fn := fun _ => fun
  | [d1, d2] => { results := [.lit (.bool false)], args := [d1, d2] }
  | _ => none }
def FnExactMachineDifferenceWrongFalsely : Prop := fnExactMachineDifferenceRow.holds Try.pinned (OpenSpec.ofChange fnExactMachineDifferenceWrong)

/-- 'laws.FnExactIdentifyingWord': WHATEVER THE INPUT: true; the input reads as it did. -/
def fnExactIdentifyingWordSpec : ChangeSpec := { name := "fnExactIdentifyingWord", fn := fun _ => fun
  | [d1, d2] => { results := [.lit (.bool true)], args := [d1, d2] }
  | _ => none }
def fnExactIdentifyingWordRow : OpenClaim := { program := "ytcjmcpfdpnakkaa", sum := "97961e71c23fbcf8b7d46321ef80518d299a20cc7eaea7edd07bbb9b108a65c3", func := "loop.example/g01102/laws.FnExactIdentifyingWord", spec := "fnExactIdentifyingWord", unfollowed := true, recurses := true, plainKeys := false, apart := false }
def FnExactIdentifyingWordSaid : Prop := fnExactIdentifyingWordRow.holds Try.pinned (OpenSpec.ofChange fnExactIdentifyingWordSpec)

/-- ITS FALSE NEIGHBOUR: 'it returns false'. Refute it at one input. -/
def fnExactIdentifyingWordWrong : ChangeSpec := { name := "fnExactIdentifyingWord", fn := fun _ => fun
  | [d1, d2] => { results := [.lit (.bool false)], args := [d1, d2] }
  | _ => none }
def FnExactIdentifyingWordWrongFalsely : Prop := fnExactIdentifyingWordRow.holds Try.pinned (OpenSpec.ofChange fnExactIdentifyingWordWrong)

/-- 'laws.FnExactWordFor': WHATEVER THE INPUT: true; the input reads as it did. -/
def fnExactWordForSpec : ChangeSpec := { name := "fnExactWordFor", fn := fun _ => fun
  | [d1, d2] => { results := [.lit (.bool true)], args := [d1, d2] }
  | _ => none }
def fnExactWordForRow : OpenClaim := { program := "ytcjmcpfdpnakkaa", sum := "97961e71c23fbcf8b7d46321ef80518d299a20cc7eaea7edd07bbb9b108a65c3", func := "loop.example/g01102/laws.FnExactWordFor", spec := "fnExactWordFor", unfollowed := true, recurses := true, plainKeys := false, apart := false }
def FnExactWordForSaid : Prop := fnExactWordForRow.holds Try.pinned (OpenSpec.ofChange fnExactWordForSpec)

/-- ITS FALSE NEIGHBOUR: 'it returns false'. Refute it at one input. -/
def fnExactWordForWrong : ChangeSpec := { name := "fnExactWordFor", fn := fun _ => fun
  | [d1, d2] => { results := [.lit (.bool false)], args := [d1, d2] }
  | _ => none }
def FnExactWordForWrongFalsely : Prop := fnExactWordForRow.holds Try.pinned (OpenSpec.ofChange fnExactWordForWrong)

/-- 'laws.FnExactDistinguishingWord': WHATEVER THE INPUT: true; the input reads as it did. -/
def fnExactDistinguishingWordSpec : ChangeSpec := { name := "fnExactDistinguishingWord", fn := fun _ => fun
  | [d1, d2, d3] => { results := [.lit (.bool true)], args := [d1, d2, d3] }
  | _ => none }
def fnExactDistinguishingWordRow : OpenClaim := { program := "ytcjmcpfdpnakkaa", sum := "97961e71c23fbcf8b7d46321ef80518d299a20cc7eaea7edd07bbb9b108a65c3", func := "loop.example/g01102/laws.FnExactDistinguishingWord", spec := "fnExactDistinguishingWord", unfollowed := true, recurses := true, plainKeys := false, apart := false }
def FnExactDistinguishingWordSaid : Prop := fnExactDistinguishingWordRow.holds Try.pinned (OpenSpec.ofChange fnExactDistinguishingWordSpec)

/-- ITS FALSE NEIGHBOUR: 'it returns false'. Refute it at one input. -/
def fnExactDistinguishingWordWrong : ChangeSpec := { name := "fnExactDistinguishingWord", fn := fun _ => fun
  | [d1, d2, d3] => { results := [.lit (.bool false)], args := [d1, d2, d3] }
  | _ => none }
def FnExactDistinguishingWordWrongFalsely : Prop := fnExactDistinguishingWordRow.holds Try.pinned (OpenSpec.ofChange fnExactDistinguishingWordWrong)

/-- 'laws.FnExactTrimMachine': WHATEVER THE INPUT: true; the input reads as it did. -/
def fnExactTrimMachineSpec : ChangeSpec := { name := "fnExactTrimMachine", fn := fun _ => fun
  | [d] => { results := [.lit (.bool true)], args := [d] }
  | _ => none }
def fnExactTrimMachineRow : OpenClaim := { program := "ytcjmcpfdpnakkaa", sum := "97961e71c23fbcf8b7d46321ef80518d299a20cc7eaea7edd07bbb9b108a65c3", func := "loop.example/g01102/laws.FnExactTrimMachine", spec := "fnExactTrimMachine", unfollowed := true, recurses := true, plainKeys := false, apart := false }
def FnExactTrimMachineSaid : Prop := fnExactTrimMachineRow.holds Try.pinned (OpenSpec.ofChange fnExactTrimMachineSpec)

/-- ITS FALSE NEIGHBOUR: 'it returns false'. Refute it at one input. -/
def fnExactTrimMachineWrong : ChangeSpec := { name := "fnExactTrimMachine", fn := fun _ => fun
  | [d] => { results := [.lit (.bool false)], args := [d] }
  | _ => none }
def FnExactTrimMachineWrongFalsely : Prop := fnExactTrimMachineRow.holds Try.pinned (OpenSpec.ofChange fnExactTrimMachineWrong)

/-- 'laws.FnExactStableDivision': WHATEVER THE INPUT: true; the input reads as it did. -/
def fnExactStableDivisionSpec : ChangeSpec := { name := "fnExactStableDivision", fn := fun _ => fun
  | [d] => { results := [.lit (.bool true)], args := [d] }
  | _ => none }
def fnExactStableDivisionRow : OpenClaim := { program := "ytcjmcpfdpnakkaa", sum := "97961e71c23fbcf8b7d46321ef80518d299a20cc7eaea7edd07bbb9b108a65c3", func := "loop.example/g01102/laws.FnExactStableDivision", spec := "fnExactStableDivision", unfollowed := true, recurses := true, plainKeys := false, apart := false }
def FnExactStableDivisionSaid : Prop := fnExactStableDivisionRow.holds Try.pinned (OpenSpec.ofChange fnExactStableDivisionSpec)

/-- ITS FALSE NEIGHBOUR: 'it returns false'. Refute it at one input. -/
def fnExactStableDivisionWrong : ChangeSpec := { name := "fnExactStableDivision", fn := fun _ => fun
  | [d] => { results := [.lit (.bool false)], args := [d] }
  | _ => none }
def FnExactStableDivisionWrongFalsely : Prop := fnExactStableDivisionRow.holds Try.pinned (OpenSpec.ofChange fnExactStableDivisionWrong)

/-- 'laws.FnExactFirstFilling': WHATEVER THE INPUT: true; the input reads as it did. -/
def fnExactFirstFillingSpec : ChangeSpec := { name := "fnExactFirstFilling", fn := fun _ => fun
  | [d] => { results := [.lit (.bool true)], args := [d] }
  | _ => none }
def fnExactFirstFillingRow : OpenClaim := { program := "ytcjmcpfdpnakkaa", sum := "97961e71c23fbcf8b7d46321ef80518d299a20cc7eaea7edd07bbb9b108a65c3", func := "loop.example/g01102/laws.FnExactFirstFilling", spec := "fnExactFirstFilling", unfollowed := true, recurses := true, plainKeys := false, apart := false }
def FnExactFirstFillingSaid : Prop := fnExactFirstFillingRow.holds Try.pinned (OpenSpec.ofChange fnExactFirstFillingSpec)

/-- ITS FALSE NEIGHBOUR: 'it returns false'. Refute it at one input. -/
def fnExactFirstFillingWrong : ChangeSpec := { name := "fnExactFirstFilling", fn := fun _ => fun
  | [d] => { results := [.lit (.bool false)], args := [d] }
  | _ => none }
def FnExactFirstFillingWrongFalsely : Prop := fnExactFirstFillingRow.holds Try.pinned (OpenSpec.ofChange fnExactFirstFillingWrong)

/-- 'laws.FnExactQuickestColouring': WHATEVER THE INPUT: true; the input reads as it did. -/
def fnExactQuickestColouringSpec : ChangeSpec := { name := "fnExactQuickestColouring", fn := fun _ => fun
  | [d] => { results := [.lit (.bool true)], args := [d] }
  | _ => none }
def fnExactQuickestColouringRow : OpenClaim := { program := "ytcjmcpfdpnakkaa", sum := "97961e71c23fbcf8b7d46321ef80518d299a20cc7eaea7edd07bbb9b108a65c3", func := "loop.example/g01102/laws.FnExactQuickestColouring", spec := "fnExactQuickestColouring", unfollowed := true, recurses := true, plainKeys := false, apart := false }
def FnExactQuickestColouringSaid : Prop := fnExactQuickestColouringRow.holds Try.pinned (OpenSpec.ofChange fnExactQuickestColouringSpec)

/-- ITS FALSE NEIGHBOUR: 'it returns false'. Refute it at one input. -/
def fnExactQuickestColouringWrong : ChangeSpec := { name := "fnExactQuickestColouring", fn := fun _ => fun
  | [d] => { results := [.lit (.bool false)], args := [d] }
  | _ => none }
def FnExactQuickestColouringWrongFalsely : Prop := fnExactQuickestColouringRow.holds Try.pinned (OpenSpec.ofChange fnExactQuickestColouringWrong)

/-- 'laws.FnExactReachedSets': WHATEVER THE INPUT: true; the input reads as it did. -/
def fnExactReachedSetsSpec : ChangeSpec := { name := "fnExactReachedSets", fn := fun _ => fun
  | [d] => { results := [.lit (.bool true)], args := [d] }
  | _ => none }
def fnExactReachedSetsRow : OpenClaim := { program := "ytcjmcpfdpnakkaa", sum := "97961e71c23fbcf8b7d46321ef80518d299a20cc7eaea7edd07bbb9b108a65c3", func := "loop.example/g01102/laws.FnExactReachedSets", spec := "fnExactReachedSets", unfollowed := true, recurses := true, plainKeys := false, apart := false }
def FnExactReachedSetsSaid : Prop := fnExactReachedSetsRow.holds Try.pinned (OpenSpec.ofChange fnExactReachedSetsSpec)

/-- ITS FALSE NEIGHBOUR: 'it returns false'. Refute it at one input. -/
def fnExactReachedSetsWrong : ChangeSpec := { name := "fnExactReachedSets", fn := fun _ => fun
  | [d] => { results := [.lit (.bool false)], args := [d] }
  | _ => none }
def FnExactReachedSetsWrongFalsely : Prop := fnExactReachedSetsRow.holds Try.pinned (OpenSpec.ofChange fnExactReachedSetsWrong)

/-- 'laws.FnExactIsJoined': WHATEVER THE INPUT: true; the input reads as it did. -/
def fnExactIsJoinedSpec : ChangeSpec := { name := "fnExactIsJoined", fn := fun _ => fun
  | [d] => { results := [.lit (.bool true)], args := [d] }
  | _ => none }
def fnExactIsJoinedRow : OpenClaim := { program := "ytcjmcpfdpnakkaa", sum := "97961e71c23fbcf8b7d46321ef80518d299a20cc7eaea7edd07bbb9b108a65c3", func := "loop.example/g01102/laws.FnExactIsJoined", spec := "fnExactIsJoined", unfollowed := true, recurses := true, plainKeys := false, apart := false }
def FnExactIsJoinedSaid : Prop := fnExactIsJoinedRow.holds Try.pinned (OpenSpec.ofChange fnExactIsJoinedSpec)

/-- ITS FALSE NEIGHBOUR: 'it returns false'. Refute it at one input. -/
def fnExactIsJoinedWrong : ChangeSpec := { name := "fnExactIsJoined", fn := fun _ => fun
  | [d] => { results := [.lit (.bool false)], args := [d] }
  | _ => none }
def FnExactIsJoinedWrongFalsely : Prop := fnExactIsJoinedRow.holds Try.pinned (OpenSpec.ofChange fnExactIsJoinedWrong)

/-- 'laws.FnExactNumberOf': WHATEVER THE INPUT: true; the input reads as it did. -/
def fnExactNumberOfSpec : ChangeSpec := { name := "fnExactNumberOf", fn := fun _ => fun
  | [d1, d2] => { results := [.lit (.bool true)], args := [d1, d2] }
  | _ => none }
def fnExactNumberOfRow : OpenClaim := { program := "ytcjmcpfdpnakkaa", sum := "97961e71c23fbcf8b7d46321ef80518d299a20cc7eaea7edd07bbb9b108a65c3", func := "loop.example/g01102/laws.FnExactNumberOf", spec := "fnExactNumberOf", unfollowed := true, recurses := true, plainKeys := false, apart := false }
def FnExactNumberOfSaid : Prop := fnExactNumberOfRow.holds Try.pinned (OpenSpec.ofChange fnExactNumberOfSpec)

/-- ITS FALSE NEIGHBOUR: 'it returns false'. Refute it at one input. -/
def fnExactNumberOfWrong : ChangeSpec := { name := "fnExactNumberOf", fn := fun _ => fun
  | [d1, d2] => { results := [.lit (.bool false)], args := [d1, d2] }
  | _ => none }
def FnExactNumberOfWrongFalsely : Prop := fnExactNumberOfRow.holds Try.pinned (OpenSpec.ofChange fnExactNumberOfWrong)

/-- 'laws.FnExactRoadPeriod': WHATEVER THE INPUT: true; the input reads as it did. -/
def fnExactRoadPeriodSpec : ChangeSpec := { name := "fnExactRoadPeriod", fn := fun _ => fun
  | [d] => { results := [.lit (.bool true)], args := [d] }
  | _ => none }
def fnExactRoadPeriodRow : OpenClaim := { program := "ytcjmcpfdpnakkaa", sum := "97961e71c23fbcf8b7d46321ef80518d299a20cc7eaea7edd07bbb9b108a65c3", func := "loop.example/g01102/laws.FnExactRoadPeriod", spec := "fnExactRoadPeriod", unfollowed := true, recurses := true, plainKeys := false, apart := false }
def FnExactRoadPeriodSaid : Prop := fnExactRoadPeriodRow.holds Try.pinned (OpenSpec.ofChange fnExactRoadPeriodSpec)

/-- ITS FALSE NEIGHBOUR: 'it returns false'. Refute it at one input. -/
def fnExactRoadPeriodWrong : ChangeSpec := { name := "fnExactRoadPeriod", fn := fun _ => fun
  | [d] => { results := [.lit (.bool false)], args := [d] }
  | _ => none }
def FnExactRoadPeriodWrongFalsely : Prop := fnExactRoadPeriodRow.holds Try.pinned (OpenSpec.ofChange fnExactRoadPeriodWrong)

/- THE SECOND FORM. 'bulk': how many values and letters a reading holds, each counted each time it is reached (what is shared counts as often as it is met; a slice's spare places count too). A statement '..UptoSaid' is the law's where the arguments, and the package variables that the reading takes, are together of bulk at most 1048576: NARROWER than '..Said'. Prove '..Said' where nothing that the law and all that it calls make is longer than what came in: it says more and counts as full. Else prove '..UptoSaid'. A law counts once. -/
mutual
def uptoBulk {H : Type} : DataW H → Nat
  | .lit (.string bytes) => bytes.length + 1
  | .lit _ => 1
  | .nil => 1
  | .ptr d => uptoBulk d + 1
  | .slice elems spare => uptoBulkAll elems + uptoBulkAll spare + 1
  | .agg parts => uptoBulkAll parts + 1
  | .iface _ d => uptoBulk d + 1
  | .map entries => uptoBulkEntries entries + 1
  | .held _ => 1
def uptoBulkAll {H : Type} : List (DataW H) → Nat
  | [] => 0
  | d :: r => uptoBulk d + uptoBulkAll r
def uptoBulkEntries {H : Type} : List (Lit × DataW H) → Nat
  | [] => 0
  | x :: r => uptoBulkEntry x + uptoBulkEntries r
def uptoBulkEntry {H : Type} : Lit × DataW H → Nat
  | (.string bytes, d) => bytes.length + uptoBulk d + 1
  | (_, d) => uptoBulk d + 1
 end
def uptoSmall : (H : Type) → List (DataW H) → Bool := fun _ ds => decide (uptoBulkAll ds ≤ 1048576)
def OpenSpec.upto (s : _root_.Go.ChangeSpec) : _root_.Go.OpenSpec := { _root_.Go.OpenSpec.ofChange s with cond := some uptoSmall }

/-- 'laws.FnExactMachineDifference', WHERE WHAT IT READS IS OF BULK AT MOST 1048576: true; the input reads as it did. -/
def fnExactMachineDifferenceUptoRow : OpenClaim := { program := "ytcjmcpfdpnakkaa", sum := "97961e71c23fbcf8b7d46321ef80518d299a20cc7eaea7edd07bbb9b108a65c3", func := "loop.example/g01102/laws.FnExactMachineDifference", spec := "fnExactMachineDifference", unfollowed := true, recurses := true, plainKeys := false, apart := false, narrowed := true }
def FnExactMachineDifferenceUptoSaid : Prop := fnExactMachineDifferenceUptoRow.holds Try.pinned (OpenSpec.upto fnExactMachineDifferenceSpec)

/-- 'laws.FnExactIdentifyingWord', WHERE WHAT IT READS IS OF BULK AT MOST 1048576: true; the input reads as it did. -/
def fnExactIdentifyingWordUptoRow : OpenClaim := { program := "ytcjmcpfdpnakkaa", sum := "97961e71c23fbcf8b7d46321ef80518d299a20cc7eaea7edd07bbb9b108a65c3", func := "loop.example/g01102/laws.FnExactIdentifyingWord", spec := "fnExactIdentifyingWord", unfollowed := true, recurses := true, plainKeys := false, apart := false, narrowed := true }
def FnExactIdentifyingWordUptoSaid : Prop := fnExactIdentifyingWordUptoRow.holds Try.pinned (OpenSpec.upto fnExactIdentifyingWordSpec)

/-- 'laws.FnExactWordFor', WHERE WHAT IT READS IS OF BULK AT MOST 1048576: true; the input reads as it did. -/
def fnExactWordForUptoRow : OpenClaim := { program := "ytcjmcpfdpnakkaa", sum := "97961e71c23fbcf8b7d46321ef80518d299a20cc7eaea7edd07bbb9b108a65c3", func := "loop.example/g01102/laws.FnExactWordFor", spec := "fnExactWordFor", unfollowed := true, recurses := true, plainKeys := false, apart := false, narrowed := true }
def FnExactWordForUptoSaid : Prop := fnExactWordForUptoRow.holds Try.pinned (OpenSpec.upto fnExactWordForSpec)

/-- 'laws.FnExactDistinguishingWord', WHERE WHAT IT READS IS OF BULK AT MOST 1048576: true; the input reads as it did. -/
def fnExactDistinguishingWordUptoRow : OpenClaim := { program := "ytcjmcpfdpnakkaa", sum := "97961e71c23fbcf8b7d46321ef80518d299a20cc7eaea7edd07bbb9b108a65c3", func := "loop.example/g01102/laws.FnExactDistinguishingWord", spec := "fnExactDistinguishingWord", unfollowed := true, recurses := true, plainKeys := false, apart := false, narrowed := true }
def FnExactDistinguishingWordUptoSaid : Prop := fnExactDistinguishingWordUptoRow.holds Try.pinned (OpenSpec.upto fnExactDistinguishingWordSpec)

/-- 'laws.FnExactTrimMachine', WHERE WHAT IT READS IS OF BULK AT MOST 1048576: true; the input reads as it did. -/
def fnExactTrimMachineUptoRow : OpenClaim := { program := "ytcjmcpfdpnakkaa", sum := "97961e71c23fbcf8b7d46321ef80518d299a20cc7eaea7edd07bbb9b108a65c3", func := "loop.example/g01102/laws.FnExactTrimMachine", spec := "fnExactTrimMachine", unfollowed := true, recurses := true, plainKeys := false, apart := false, narrowed := true }
def FnExactTrimMachineUptoSaid : Prop := fnExactTrimMachineUptoRow.holds Try.pinned (OpenSpec.upto fnExactTrimMachineSpec)

/-- 'laws.FnExactStableDivision', WHERE WHAT IT READS IS OF BULK AT MOST 1048576: true; the input reads as it did. -/
def fnExactStableDivisionUptoRow : OpenClaim := { program := "ytcjmcpfdpnakkaa", sum := "97961e71c23fbcf8b7d46321ef80518d299a20cc7eaea7edd07bbb9b108a65c3", func := "loop.example/g01102/laws.FnExactStableDivision", spec := "fnExactStableDivision", unfollowed := true, recurses := true, plainKeys := false, apart := false, narrowed := true }
def FnExactStableDivisionUptoSaid : Prop := fnExactStableDivisionUptoRow.holds Try.pinned (OpenSpec.upto fnExactStableDivisionSpec)

/-- 'laws.FnExactFirstFilling', WHERE WHAT IT READS IS OF BULK AT MOST 1048576: true; the input reads as it did. -/
def fnExactFirstFillingUptoRow : OpenClaim := { program := "ytcjmcpfdpnakkaa", sum := "97961e71c23fbcf8b7d46321ef80518d299a20cc7eaea7edd07bbb9b108a65c3", func := "loop.example/g01102/laws.FnExactFirstFilling", spec := "fnExactFirstFilling", unfollowed := true, recurses := true, plainKeys := false, apart := false, narrowed := true }
def FnExactFirstFillingUptoSaid : Prop := fnExactFirstFillingUptoRow.holds Try.pinned (OpenSpec.upto fnExactFirstFillingSpec)

/-- 'laws.FnExactQuickestColouring', WHERE WHAT IT READS IS OF BULK AT MOST 1048576: true; the input reads as it did. -/
def fnExactQuickestColouringUptoRow : OpenClaim := { program := "ytcjmcpfdpnakkaa", sum := "97961e71c23fbcf8b7d46321ef80518d299a20cc7eaea7edd07bbb9b108a65c3", func := "loop.example/g01102/laws.FnExactQuickestColouring", spec := "fnExactQuickestColouring", unfollowed := true, recurses := true, plainKeys := false, apart := false, narrowed := true }
def FnExactQuickestColouringUptoSaid : Prop := fnExactQuickestColouringUptoRow.holds Try.pinned (OpenSpec.upto fnExactQuickestColouringSpec)

/-- 'laws.FnExactReachedSets', WHERE WHAT IT READS IS OF BULK AT MOST 1048576: true; the input reads as it did. -/
def fnExactReachedSetsUptoRow : OpenClaim := { program := "ytcjmcpfdpnakkaa", sum := "97961e71c23fbcf8b7d46321ef80518d299a20cc7eaea7edd07bbb9b108a65c3", func := "loop.example/g01102/laws.FnExactReachedSets", spec := "fnExactReachedSets", unfollowed := true, recurses := true, plainKeys := false, apart := false, narrowed := true }
def FnExactReachedSetsUptoSaid : Prop := fnExactReachedSetsUptoRow.holds Try.pinned (OpenSpec.upto fnExactReachedSetsSpec)

/-- 'laws.FnExactIsJoined', WHERE WHAT IT READS IS OF BULK AT MOST 1048576: true; the input reads as it did. -/
def fnExactIsJoinedUptoRow : OpenClaim := { program := "ytcjmcpfdpnakkaa", sum := "97961e71c23fbcf8b7d46321ef80518d299a20cc7eaea7edd07bbb9b108a65c3", func := "loop.example/g01102/laws.FnExactIsJoined", spec := "fnExactIsJoined", unfollowed := true, recurses := true, plainKeys := false, apart := false, narrowed := true }
def FnExactIsJoinedUptoSaid : Prop := fnExactIsJoinedUptoRow.holds Try.pinned (OpenSpec.upto fnExactIsJoinedSpec)

/-- 'laws.FnExactNumberOf', WHERE WHAT IT READS IS OF BULK AT MOST 1048576: true; the input reads as it did. -/
def fnExactNumberOfUptoRow : OpenClaim := { program := "ytcjmcpfdpnakkaa", sum := "97961e71c23fbcf8b7d46321ef80518d299a20cc7eaea7edd07bbb9b108a65c3", func := "loop.example/g01102/laws.FnExactNumberOf", spec := "fnExactNumberOf", unfollowed := true, recurses := true, plainKeys := false, apart := false, narrowed := true }
def FnExactNumberOfUptoSaid : Prop := fnExactNumberOfUptoRow.holds Try.pinned (OpenSpec.upto fnExactNumberOfSpec)

/-- 'laws.FnExactRoadPeriod', WHERE WHAT IT READS IS OF BULK AT MOST 1048576: true; the input reads as it did. -/
def fnExactRoadPeriodUptoRow : OpenClaim := { program := "ytcjmcpfdpnakkaa", sum := "97961e71c23fbcf8b7d46321ef80518d299a20cc7eaea7edd07bbb9b108a65c3", func := "loop.example/g01102/laws.FnExactRoadPeriod", spec := "fnExactRoadPeriod", unfollowed := true, recurses := true, plainKeys := false, apart := false, narrowed := true }
def FnExactRoadPeriodUptoSaid : Prop := fnExactRoadPeriodUptoRow.holds Try.pinned (OpenSpec.upto fnExactRoadPeriodSpec)

end Rows
end Go.Proofs.Ytcjmcpfdpnakkaa
