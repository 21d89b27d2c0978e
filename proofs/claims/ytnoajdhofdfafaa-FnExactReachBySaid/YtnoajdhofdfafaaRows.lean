/-
  No cell of these rows narrows 'for every input' (looked for: loops, veiled, ifaces, maps, wideKeys, modest, calm, conditions, laid).
  DERIVED. THE GIVEN ROWS OF THIS SEAT. 12 by the template 'for every input the law returns true; each argument reads behind the call as it read before'; 0 by the template 'total and deterministic' (their statements: YtnoajdhofdfafaaTotals.lean).
  GIVEN WITH THE SEED: the statements are not yours to turn. If you find one false, say at which input.
  Laid BY PROGRAM, IN A SANDBOX (cutbox-rows.mjs): the forced cells as the released guide's own fill.sh prints them over the translation fe9b796637d3d0f1… (all of the seat's roots in one cut). By AI agents, Wed Nov 11 2026. No macro, syntax, notation, axiom, sorry.
-/
import Derived.Test.YtnoajdhofdfafaaChecked
import GoSem.Claim
import GoSem.ClaimJoined
import GoSem.ClaimMapViews
import Derived.JoinedTies
import Derived.KernelRfl
namespace Go.Proofs.Ytnoajdhofdfafaa
/- THE CELL 'sum', in the pinned program and in every row, IS THE sha256 OF THE DUMP (.gsa) THAT YtnoajdhofdfafaaProg.lean LOADS. Nothing in Lean hashes anything: it is a label: what it is worth is what the hold of that sum in a sandbox is worth. -/
noncomputable def Try.pinned : Pinned := { name := "ytnoajdhofdfafaa", sum := "fe9b796637d3d0f12c84164ff60567e212f5e04f7f4aa23a6a06e4fe75ab6685", checked := Try.checked }
namespace Rows
def none {H : Type} : Left H := { results := [], args := [] }

/-- 'laws.FnExactSwapColours': WHATEVER THE INPUT: true; the input reads as it did. -/
def fnExactSwapColoursSpec : ChangeSpec := { name := "fnExactSwapColours", fn := fun _ => fun
  | [d1, d2, d3, d4] => { results := [.lit (.bool true)], args := [d1, d2, d3, d4] }
  | _ => none }
def fnExactSwapColoursRow : OpenClaim := { program := "ytnoajdhofdfafaa", sum := "fe9b796637d3d0f12c84164ff60567e212f5e04f7f4aa23a6a06e4fe75ab6685", func := "loop.example/g01102/laws.FnExactSwapColours", spec := "fnExactSwapColours", unfollowed := true, recurses := true, plainKeys := false, apart := false }
def FnExactSwapColoursSaid : Prop := fnExactSwapColoursRow.holds Try.pinned (OpenSpec.ofChange fnExactSwapColoursSpec)

/-- ITS FALSE NEIGHBOUR: 'it returns false'. Refute it at one input. -/
def fnExactSwapColoursWrong : ChangeSpec := { name := "fnExactSwapColours", fn := fun _ => fun
  | [d1, d2, d3, d4] => { results := [.lit (.bool false)], args := [d1, d2, d3, d4] }
  | _ => none }
def FnExactSwapColoursWrongFalsely : Prop := fnExactSwapColoursRow.holds Try.pinned (OpenSpec.ofChange fnExactSwapColoursWrong)

/-- 'laws.FnExactReachBy': WHATEVER THE INPUT: true; the input reads as it did. -/
def fnExactReachBySpec : ChangeSpec := { name := "fnExactReachBy", fn := fun _ => fun
  | [d1, d2, d3] => { results := [.lit (.bool true)], args := [d1, d2, d3] }
  | _ => none }
def fnExactReachByRow : OpenClaim := { program := "ytnoajdhofdfafaa", sum := "fe9b796637d3d0f12c84164ff60567e212f5e04f7f4aa23a6a06e4fe75ab6685", func := "loop.example/g01102/laws.FnExactReachBy", spec := "fnExactReachBy", unfollowed := true, recurses := true, plainKeys := false, apart := false }
def FnExactReachBySaid : Prop := fnExactReachByRow.holds Try.pinned (OpenSpec.ofChange fnExactReachBySpec)

/-- ITS FALSE NEIGHBOUR: 'it returns false'. Refute it at one input. -/
def fnExactReachByWrong : ChangeSpec := { name := "fnExactReachBy", fn := fun _ => fun
  | [d1, d2, d3] => { results := [.lit (.bool false)], args := [d1, d2, d3] }
  | _ => none }
def FnExactReachByWrongFalsely : Prop := fnExactReachByRow.holds Try.pinned (OpenSpec.ofChange fnExactReachByWrong)

/-- 'laws.FnExactDirects': WHATEVER THE INPUT: true; the input reads as it did. -/
def fnExactDirectsSpec : ChangeSpec := { name := "fnExactDirects", fn := fun _ => fun
  | [d1, d2, d3] => { results := [.lit (.bool true)], args := [d1, d2, d3] }
  | _ => none }
def fnExactDirectsRow : OpenClaim := { program := "ytnoajdhofdfafaa", sum := "fe9b796637d3d0f12c84164ff60567e212f5e04f7f4aa23a6a06e4fe75ab6685", func := "loop.example/g01102/laws.FnExactDirects", spec := "fnExactDirects", unfollowed := true, recurses := true, plainKeys := false, apart := false }
def FnExactDirectsSaid : Prop := fnExactDirectsRow.holds Try.pinned (OpenSpec.ofChange fnExactDirectsSpec)

/-- ITS FALSE NEIGHBOUR: 'it returns false'. Refute it at one input. -/
def fnExactDirectsWrong : ChangeSpec := { name := "fnExactDirects", fn := fun _ => fun
  | [d1, d2, d3] => { results := [.lit (.bool false)], args := [d1, d2, d3] }
  | _ => none }
def FnExactDirectsWrongFalsely : Prop := fnExactDirectsRow.holds Try.pinned (OpenSpec.ofChange fnExactDirectsWrong)

/-- 'laws.FnFiner': WHATEVER THE INPUT: true; the input reads as it did. -/
def fnFinerSpec : ChangeSpec := { name := "fnFiner", fn := fun _ => fun
  | [d1, d2] => { results := [.lit (.bool true)], args := [d1, d2] }
  | _ => none }
def fnFinerRow : OpenClaim := { program := "ytnoajdhofdfafaa", sum := "fe9b796637d3d0f12c84164ff60567e212f5e04f7f4aa23a6a06e4fe75ab6685", func := "loop.example/g01102/laws.FnFiner", spec := "fnFiner", unfollowed := true, recurses := true, plainKeys := false, apart := false }
def FnFinerSaid : Prop := fnFinerRow.holds Try.pinned (OpenSpec.ofChange fnFinerSpec)

/-- ITS FALSE NEIGHBOUR: 'it returns false'. Refute it at one input. -/
def fnFinerWrong : ChangeSpec := { name := "fnFiner", fn := fun _ => fun
  | [d1, d2] => { results := [.lit (.bool false)], args := [d1, d2] }
  | _ => none }
def FnFinerWrongFalsely : Prop := fnFinerRow.holds Try.pinned (OpenSpec.ofChange fnFinerWrong)

/-- 'laws.FnExactContractRoads': WHATEVER THE INPUT: true; the input reads as it did. -/
def fnExactContractRoadsSpec : ChangeSpec := { name := "fnExactContractRoads", fn := fun _ => fun
  | [d1, d2] => { results := [.lit (.bool true)], args := [d1, d2] }
  | _ => none }
def fnExactContractRoadsRow : OpenClaim := { program := "ytnoajdhofdfafaa", sum := "fe9b796637d3d0f12c84164ff60567e212f5e04f7f4aa23a6a06e4fe75ab6685", func := "loop.example/g01102/laws.FnExactContractRoads", spec := "fnExactContractRoads", unfollowed := true, recurses := true, plainKeys := false, apart := false }
def FnExactContractRoadsSaid : Prop := fnExactContractRoadsRow.holds Try.pinned (OpenSpec.ofChange fnExactContractRoadsSpec)

/-- ITS FALSE NEIGHBOUR: 'it returns false'. Refute it at one input. -/
def fnExactContractRoadsWrong : ChangeSpec := { name := "fnExactContractRoads", fn := fun _ => fun
  | [d1, d2] => { results := [.lit (.bool false)], args := [d1, d2] }
  | _ => none }
def FnExactContractRoadsWrongFalsely : Prop := fnExactContractRoadsRow.holds Try.pinned (OpenSpec.ofChange fnExactContractRoadsWrong)

/-- 'laws.FnExactDistinguishingWord': WHATEVER THE INPUT: true; the input reads as it did. -/
def fnExactDistinguishingWordSpec : ChangeSpec := { name := "fnExactDistinguishingWord", fn := fun _ => fun
  | [d1, d2, d3] => { results := [.lit (.bool true)], args := [d1, d2, d3] }
  | _ => none }
def fnExactDistinguishingWordRow : OpenClaim := { program := "ytnoajdhofdfafaa", sum := "fe9b796637d3d0f12c84164ff60567e212f5e04f7f4aa23a6a06e4fe75ab6685", func := "loop.example/g01102/laws.FnExactDistinguishingWord", spec := "fnExactDistinguishingWord", unfollowed := true, recurses := true, plainKeys := false, apart := false }
def FnExactDistinguishingWordSaid : Prop := fnExactDistinguishingWordRow.holds Try.pinned (OpenSpec.ofChange fnExactDistinguishingWordSpec)

/-- ITS FALSE NEIGHBOUR: 'it returns false'. Refute it at one input. -/
def fnExactDistinguishingWordWrong : ChangeSpec := { name := "fnExactDistinguishingWord", fn := fun _ => fun
  | [d1, d2, d3] => { results := [.lit (.bool false)], args := [d1, d2, d3] }
  | _ => none }
def FnExactDistinguishingWordWrongFalsely : Prop := fnExactDistinguishingWordRow.holds Try.pinned (OpenSpec.ofChange fnExactDistinguishingWordWrong)

/-- 'laws.FnExactMachineDifference': WHATEVER THE INPUT: true; the input reads as it did. -/
def fnExactMachineDifferenceSpec : ChangeSpec := { name := "fnExactMachineDifference", fn := fun _ => fun
  | [d1, d2] => { results := [.lit (.bool true)], args := [d1, d2] }
  | _ => none }
def fnExactMachineDifferenceRow : OpenClaim := { program := "ytnoajdhofdfafaa", sum := "fe9b796637d3d0f12c84164ff60567e212f5e04f7f4aa23a6a06e4fe75ab6685", func := "loop.example/g01102/laws.FnExactMachineDifference", spec := "fnExactMachineDifference", unfollowed := true, recurses := true, plainKeys := false, apart := false }
def FnExactMachineDifferenceSaid : Prop := fnExactMachineDifferenceRow.holds Try.pinned (OpenSpec.ofChange fnExactMachineDifferenceSpec)

/-- ITS FALSE NEIGHBOUR: 'it returns false'. Refute it at one input. -/
def fnExactMachineDifferenceWrong : ChangeSpec := { name := "fnExactMachineDifference", fn := fun _ => fun
  | [d1, d2] => { results := [.lit (.bool false)], args := [d1, d2] }
  | _ => none }
def FnExactMachineDifferenceWrongFalsely : Prop := fnExactMachineDifferenceRow.holds Try.pinned (OpenSpec.ofChange fnExactMachineDifferenceWrong)

/-- 'laws.FnExactIdentifyingWord': WHATEVER THE INPUT: true; the input reads as it did. -/
def fnExactIdentifyingWordSpec : ChangeSpec := { name := "fnExactIdentifyingWord", fn := fun _ => fun
  | [d1, d2] => { results := [.lit (.bool true)], args := [d1, d2] }
  | _ => none }
def fnExactIdentifyingWordRow : OpenClaim := { program := "ytnoajdhofdfafaa", sum := "fe9b796637d3d0f12c84164ff60567e212f5e04f7f4aa23a6a06e4fe75ab6685", func := "loop.example/g01102/laws.FnExactIdentifyingWord", spec := "fnExactIdentifyingWord", unfollowed := true, recurses := true, plainKeys := false, apart := false }
def FnExactIdentifyingWordSaid : Prop := fnExactIdentifyingWordRow.holds Try.pinned (OpenSpec.ofChange fnExactIdentifyingWordSpec)

/-- ITS FALSE NEIGHBOUR: 'it returns false'. Refute it at one input. -/
def fnExactIdentifyingWordWrong : ChangeSpec := { name := "fnExactIdentifyingWord", fn := fun _ => fun
  | [d1, d2] => { results := [.lit (.bool false)], args := [d1, d2] }
  | _ => none }
def FnExactIdentifyingWordWrongFalsely : Prop := fnExactIdentifyingWordRow.holds Try.pinned (OpenSpec.ofChange fnExactIdentifyingWordWrong)

/-- 'laws.FnExactTrimMachine': WHATEVER THE INPUT: true; the input reads as it did. -/
def fnExactTrimMachineSpec : ChangeSpec := { name := "fnExactTrimMachine", fn := fun _ => fun
  | [d] => { results := [.lit (.bool true)], args := [d] }
  | _ => none }
def fnExactTrimMachineRow : OpenClaim := { program := "ytnoajdhofdfafaa", sum := "fe9b796637d3d0f12c84164ff60567e212f5e04f7f4aa23a6a06e4fe75ab6685", func := "loop.example/g01102/laws.FnExactTrimMachine", spec := "fnExactTrimMachine", unfollowed := true, recurses := true, plainKeys := false, apart := false }
def FnExactTrimMachineSaid : Prop := fnExactTrimMachineRow.holds Try.pinned (OpenSpec.ofChange fnExactTrimMachineSpec)

/-- ITS FALSE NEIGHBOUR: 'it returns false'. Refute it at one input. -/
def fnExactTrimMachineWrong : ChangeSpec := { name := "fnExactTrimMachine", fn := fun _ => fun
  | [d] => { results := [.lit (.bool false)], args := [d] }
  | _ => none }
def FnExactTrimMachineWrongFalsely : Prop := fnExactTrimMachineRow.holds Try.pinned (OpenSpec.ofChange fnExactTrimMachineWrong)

/-- 'laws.FnExactWordFor': WHATEVER THE INPUT: true; the input reads as it did. -/
def fnExactWordForSpec : ChangeSpec := { name := "fnExactWordFor", fn := fun _ => fun
  | [d1, d2] => { results := [.lit (.bool true)], args := [d1, d2] }
  | _ => none }
def fnExactWordForRow : OpenClaim := { program := "ytnoajdhofdfafaa", sum := "fe9b796637d3d0f12c84164ff60567e212f5e04f7f4aa23a6a06e4fe75ab6685", func := "loop.example/g01102/laws.FnExactWordFor", spec := "fnExactWordFor", unfollowed := true, recurses := true, plainKeys := false, apart := false }
def FnExactWordForSaid : Prop := fnExactWordForRow.holds Try.pinned (OpenSpec.ofChange fnExactWordForSpec)

/-- ITS FALSE NEIGHBOUR: 'it returns false'. Refute it at one input. -/
def fnExactWordForWrong : ChangeSpec := { name := "fnExactWordFor", fn := fun _ => fun
  | [d1, d2] => { results := [.lit (.bool false)], args := [d1, d2] }
  | _ => none }
def FnExactWordForWrongFalsely : Prop := fnExactWordForRow.holds Try.pinned (OpenSpec.ofChange fnExactWordForWrong)

/-- 'laws.FnExactStableDivision': WHATEVER THE INPUT: true; the input reads as it did. -/
def fnExactStableDivisionSpec : ChangeSpec := { name := "fnExactStableDivision", fn := fun _ => fun
  | [d] => { results := [.lit (.bool true)], args := [d] }
  | _ => none }
def fnExactStableDivisionRow : OpenClaim := { program := "ytnoajdhofdfafaa", sum := "fe9b796637d3d0f12c84164ff60567e212f5e04f7f4aa23a6a06e4fe75ab6685", func := "loop.example/g01102/laws.FnExactStableDivision", spec := "fnExactStableDivision", unfollowed := true, recurses := true, plainKeys := false, apart := false }
def FnExactStableDivisionSaid : Prop := fnExactStableDivisionRow.holds Try.pinned (OpenSpec.ofChange fnExactStableDivisionSpec)

/-- ITS FALSE NEIGHBOUR: 'it returns false'. Refute it at one input. -/
def fnExactStableDivisionWrong : ChangeSpec := { name := "fnExactStableDivision", fn := fun _ => fun
  | [d] => { results := [.lit (.bool false)], args := [d] }
  | _ => none }
def FnExactStableDivisionWrongFalsely : Prop := fnExactStableDivisionRow.holds Try.pinned (OpenSpec.ofChange fnExactStableDivisionWrong)

/-- 'laws.FnExactIsJoined': WHATEVER THE INPUT: true; the input reads as it did. -/
def fnExactIsJoinedSpec : ChangeSpec := { name := "fnExactIsJoined", fn := fun _ => fun
  | [d] => { results := [.lit (.bool true)], args := [d] }
  | _ => none }
def fnExactIsJoinedRow : OpenClaim := { program := "ytnoajdhofdfafaa", sum := "fe9b796637d3d0f12c84164ff60567e212f5e04f7f4aa23a6a06e4fe75ab6685", func := "loop.example/g01102/laws.FnExactIsJoined", spec := "fnExactIsJoined", unfollowed := true, recurses := true, plainKeys := false, apart := false }
def FnExactIsJoinedSaid : Prop := fnExactIsJoinedRow.holds Try.pinned (OpenSpec.ofChange fnExactIsJoinedSpec)

/-- ITS FALSE NEIGHBOUR: 'it returns false'. Refute it at one input. -/
def fnExactIsJoinedWrong : ChangeSpec := { name := "fnExactIsJoined", fn := fun _ => fun
  | [d] => { results := [.lit (.bool false)], args := [d] }
  | _ => none }
def FnExactIsJoinedWrongFalsely : Prop := fnExactIsJoinedRow.holds Try.pinned (OpenSpec.ofChange fnExactIsJoinedWrong)

/- THE SECOND FORM. 'bulk': how many values and letters a reading holds, each counted each time it is reached (what is shared counts as often as it is met; a slice's spare places count too). A statement '..UptoSaid' is the law's where the arguments, and the package variables that the reading takes, are together of bulk at most 1048576: NARROWER than '..Said'. Prove '..Said' where nothing that the law and all that it calls make is longer than what came in: it says more and counts as full. Else prove '..UptoSaid'. A law counts once. -/
mutual
def uptoBulk {H : Type} : DataW H → Nat
  | .lit (.string bytes) => bytes.length + 1
  | .lit _ => 1
  | .nil => 1
  | .ptr d => uptoBulk d + 1
  | .slice elems spare => uptoBulkAll elems + uptoBulkAll spare + 1
  | .agg parts => uptoBulkAll parts + 1
  | .iface _ d => uptoBulk d + 1
  | .map entries => uptoBulkEntries entries + 1
  | .held _ => 1
def uptoBulkAll {H : Type} : List (DataW H) → Nat
  | [] => 0
  | d :: r => uptoBulk d + uptoBulkAll r
def uptoBulkEntries {H : Type} : List (Lit × DataW H) → Nat
  | [] => 0
  | x :: r => uptoBulkEntry x + uptoBulkEntries r
def uptoBulkEntry {H : Type} : Lit × DataW H → Nat
  | (.string bytes, d) => bytes.length + uptoBulk d + 1
  | (_, d) => uptoBulk d + 1
 end
def uptoSmall : (H : Type) → List (DataW H) → Bool := fun _ ds => decide (uptoBulkAll ds ≤ 1048576)
def OpenSpec.upto (s : _root_.Go.ChangeSpec) : _root_.Go.OpenSpec := { _root_.Go.OpenSpec.ofChange s with cond := some uptoSmall }

/-- 'laws.FnExactSwapColours', WHERE WHAT IT READS IS OF BULK AT MOST 1048576: true; the input reads as it did. -/
def fnExactSwapColoursUptoRow : OpenClaim := { program := "ytnoajdhofdfafaa", sum := "fe9b796637d3d0f12c84164ff60567e212f5e04f7f4aa23a6a06e4fe75ab6685", func := "loop.example/g01102/laws.FnExactSwapColours", spec := "fnExactSwapColours", unfollowed := true, recurses := true, plainKeys := false, apart := false, narrowed := true }
def FnExactSwapColoursUptoSaid : Prop := fnExactSwapColoursUptoRow.holds Try.pinned (OpenSpec.upto fnExactSwapColoursSpec)

/-- 'laws.FnExactReachBy', WHERE WHAT IT READS IS OF BULK AT MOST 1048576: true; the input reads as it did. -/
def fnExactReachByUptoRow : OpenClaim := { program := "ytnoajdhofdfafaa", sum := "fe9b796637d3d0f12c84164ff60567e212f5e04f7f4aa23a6a06e4fe75ab6685", func := "loop.example/g01102/laws.FnExactReachBy", spec := "fnExactReachBy", unfollowed := true, recurses := true, plainKeys := false, apart := false, narrowed := true }
def FnExactReachByUptoSaid : Prop := fnExactReachByUptoRow.holds Try.pinned (OpenSpec.upto fnExactReachBySpec)

/-- 'laws.FnExactDirects', WHERE WHAT IT READS IS OF BULK AT MOST 1048576: true; the input reads as it did. -/
def fnExactDirectsUptoRow : OpenClaim := { program := "ytnoajdhofdfafaa", sum := "fe9b796637d3d0f12c84164ff60567e212f5e04f7f4aa23a6a06e4fe75ab6685", func := "loop.example/g01102/laws.FnExactDirects", spec := "fnExactDirects", unfollowed := true, recurses := true, plainKeys := false, apart := false, narrowed := true }
def FnExactDirectsUptoSaid : Prop := fnExactDirectsUptoRow.holds Try.pinned (OpenSpec.upto fnExactDirectsSpec)

/-- 'laws.FnFiner', WHERE WHAT IT READS IS OF BULK AT MOST 1048576: true; the input reads as it did. -/
def fnFinerUptoRow : OpenClaim := { program := "ytnoajdhofdfafaa", sum := "fe9b796637d3d0f12c84164ff60567e212f5e04f7f4aa23a6a06e4fe75ab6685", func := "loop.example/g01102/laws.FnFiner", spec := "fnFiner", unfollowed := true, recurses := true, plainKeys := false, apart := false, narrowed := true }
def FnFinerUptoSaid : Prop := fnFinerUptoRow.holds Try.pinned (OpenSpec.upto fnFinerSpec)

/-- 'laws.FnExactContractRoads', WHERE WHAT IT READS IS OF BULK AT MOST 1048576: true; the input reads as it did. -/
def fnExactContractRoadsUptoRow : OpenClaim := { program := "ytnoajdhofdfafaa", sum := "fe9b796637d3d0f12c84164ff60567e212f5e04f7f4aa23a6a06e4fe75ab6685", func := "loop.example/g01102/laws.FnExactContractRoads", spec := "fnExactContractRoads", unfollowed := true, recurses := true, plainKeys := false, apart := false, narrowed := true }
def FnExactContractRoadsUptoSaid : Prop := fnExactContractRoadsUptoRow.holds Try.pinned (OpenSpec.upto fnExactContractRoadsSpec)

/-- 'laws.FnExactDistinguishingWord', WHERE WHAT IT READS IS OF BULK AT MOST 1048576: true; the input reads as it did. -/
def fnExactDistinguishingWordUptoRow : OpenClaim := { program := "ytnoajdhofdfafaa", sum := "fe9b796637d3d0f12c84164ff60567e212f5e04f7f4aa23a6a06e4fe75ab6685", func := "loop.example/g01102/laws.FnExactDistinguishingWord", spec := "fnExactDistinguishingWord", unfollowed := true, recurses := true, plainKeys := false, apart := false, narrowed := true }
def FnExactDistinguishingWordUptoSaid : Prop := fnExactDistinguishingWordUptoRow.holds Try.pinned (OpenSpec.upto fnExactDistinguishingWordSpec)

/-- 'laws.FnExactMachineDifference', WHERE WHAT IT READS IS OF BULK AT MOST 1048576: true; the input reads as it did. -/
def fnExactMachineDifferenceUptoRow : OpenClaim := { program := "ytnoajdhofdfafaa", sum := "fe9b796637d3d0f12c84164ff60567e212f5e04f7f4aa23a6a06e4fe75ab6685", func := "loop.example/g01102/laws.FnExactMachineDifference", spec := "fnExactMachineDifference", unfollowed := true, recurses := true, plainKeys := false, apart := false, narrowed := true }
def FnExactMachineDifferenceUptoSaid : Prop := fnExactMachineDifferenceUptoRow.holds Try.pinned (OpenSpec.upto fnExactMachineDifferenceSpec)

/-- 'laws.FnExactIdentifyingWord', WHERE WHAT IT READS IS OF BULK AT MOST 1048576: true; the input reads as it did. -/
def fnExactIdentifyingWordUptoRow : OpenClaim := { program := "ytnoajdhofdfafaa", sum := "fe9b796637d3d0f12c84164ff60567e212f5e04f7f4aa23a6a06e4fe75ab6685", func := "loop.example/g01102/laws.FnExactIdentifyingWord", spec := "fnExactIdentifyingWord", unfollowed := true, recurses := true, plainKeys := false, apart := false, narrowed := true }
def FnExactIdentifyingWordUptoSaid : Prop := fnExactIdentifyingWordUptoRow.holds Try.pinned (OpenSpec.upto fnExactIdentifyingWordSpec)

/-- 'laws.FnExactTrimMachine', WHERE WHAT IT READS IS OF BULK AT MOST 1048576: true; the input reads as it did. -/
def fnExactTrimMachineUptoRow : OpenClaim := { program := "ytnoajdhofdfafaa", sum := "fe9b796637d3d0f12c84164ff60567e212f5e04f7f4aa23a6a06e4fe75ab6685", func := "loop.example/g01102/laws.FnExactTrimMachine", spec := "fnExactTrimMachine", unfollowed := true, recurses := true, plainKeys := false, apart := false, narrowed := true }
def FnExactTrimMachineUptoSaid : Prop := fnExactTrimMachineUptoRow.holds Try.pinned (OpenSpec.upto fnExactTrimMachineSpec)

/-- 'laws.FnExactWordFor', WHERE WHAT IT READS IS OF BULK AT MOST 1048576: true; the input reads as it did. -/
def fnExactWordForUptoRow : OpenClaim := { program := "ytnoajdhofdfafaa", sum := "fe9b796637d3d0f12c84164ff60567e212f5e04f7f4aa23a6a06e4fe75ab6685", func := "loop.example/g01102/laws.FnExactWordFor", spec := "fnExactWordFor", unfollowed := true, recurses := true, plainKeys := false, apart := false, narrowed := true }
def FnExactWordForUptoSaid : Prop := fnExactWordForUptoRow.holds Try.pinned (OpenSpec.upto fnExactWordForSpec)

/-- 'laws.FnExactStableDivision', WHERE WHAT IT READS IS OF BULK AT MOST 1048576: true; the input reads as it did. -/
def fnExactStableDivisionUptoRow : OpenClaim := { program := "ytnoajdhofdfafaa", sum := "fe9b796637d3d0f12c84164ff60567e212f5e04f7f4aa23a6a06e4fe75ab6685", func := "loop.example/g01102/laws.FnExactStableDivision", spec := "fnExactStableDivision", unfollowed := true, recurses := true, plainKeys := false, apart := false, narrowed := true }
def FnExactStableDivisionUptoSaid : Prop := fnExactStableDivisionUptoRow.holds Try.pinned (OpenSpec.upto fnExactStableDivisionSpec)

/-- 'laws.FnExactIsJoined', WHERE WHAT IT READS IS OF BULK AT MOST 1048576: true; the input reads as it did. -/
def fnExactIsJoinedUptoRow : OpenClaim := { program := "ytnoajdhofdfafaa", sum := "fe9b796637d3d0f12c84164ff60567e212f5e04f7f4aa23a6a06e4fe75ab6685", func := "loop.example/g01102/laws.FnExactIsJoined", spec := "fnExactIsJoined", unfollowed := true, recurses := true, plainKeys := false, apart := false, narrowed := true }
def FnExactIsJoinedUptoSaid : Prop := fnExactIsJoinedUptoRow.holds Try.pinned (OpenSpec.upto fnExactIsJoinedSpec)

end Rows
end Go.Proofs.Ytnoajdhofdfafaa
