/-
  No cell of these rows narrows 'for every input' (looked for: loops, veiled, ifaces, maps, wideKeys, modest, calm, conditions, laid).
  DERIVED. THE GIVEN ROWS OF THIS SEAT. 12 by the template 'for every input the law returns true; each argument reads behind the call as it read before'; 0 by the template 'total and deterministic' (their statements: YtdaaglfemaoigaaTotals.lean).
  GIVEN WITH THE SEED: the statements are not yours to turn. If you find one false, say at which input.
  Laid BY PROGRAM, IN A SANDBOX (cutbox-rows.mjs): the forced cells as the released guide's own fill.sh prints them over the translation f7b15416a126f4c9… (all of the seat's roots in one cut). By AI agents, Wed Nov 11 2026. No macro, syntax, notation, axiom, sorry.
-/
import Derived.Test.YtdaaglfemaoigaaChecked
import GoSem.Claim
import GoSem.ClaimJoined
import GoSem.ClaimMapViews
import Derived.JoinedTies
import Derived.KernelRfl
namespace Go.Proofs.Ytdaaglfemaoigaa
/- THE CELL 'sum', in the pinned program and in every row, IS THE sha256 OF THE DUMP (.gsa) THAT YtdaaglfemaoigaaProg.lean LOADS. Nothing in Lean hashes anything: it is a label: what it is worth is what the hold of that sum in a sandbox is worth. -/
noncomputable def Try.pinned : Pinned := { name := "ytdaaglfemaoigaa", sum := "f7b15416a126f4c9c31afb3d20d2da9283dfcd816dc207d5822efd56d132245e", checked := Try.checked }
namespace Rows
def none {H : Type} : Left H := { results := [], args := [] }

/-- 'laws.FnExactSwapColours': WHATEVER THE INPUT: true; the input reads as it did. -/
def fnExactSwapColoursSpec : ChangeSpec := { name := "fnExactSwapColours", fn := fun _ => fun
  | [d1, d2, d3, d4] => { results := [.lit (.bool true)], args := [d1, d2, d3, d4] }
  | _ => none }
def fnExactSwapColoursRow : OpenClaim := { program := "ytdaaglfemaoigaa", sum := "f7b15416a126f4c9c31afb3d20d2da9283dfcd816dc207d5822efd56d132245e", func := "loop.example/g01102/laws.FnExactSwapColours", spec := "fnExactSwapColours", unfollowed := true, recurses := true, plainKeys := false, apart := false }
def FnExactSwapColoursSaid : Prop := fnExactSwapColoursRow.holds Try.pinned (OpenSpec.ofChange fnExactSwapColoursSpec)

/-- ITS FALSE NEIGHBOUR: 'it returns false'. Refute it at one input. -/
def fnExactSwapColoursWrong : ChangeSpec := { name := "fnExactSwapColours", fn := fun _ => fun
  | [d1, d2, d3, d4] => { results := [.lit (.bool false)], args := [d1, d2, d3, d4] }
  | _ => none }
def FnExactSwapColoursWrongFalsely : Prop := fnExactSwapColoursRow.holds Try.pinned (OpenSpec.ofChange fnExactSwapColoursWrong)

/-- 'laws.FnExactMachineDifference': WHATEVER THE INPUT: true; the input reads as it did. -/
def fnExactMachineDifferenceSpec : ChangeSpec := { name := "fnExactMachineDifference", fn := fun _ => fun
  | [d1, d2] => { results := [.lit (.bool true)], args := [d1, d2] }
  | _ => none }
def fnExactMachineDifferenceRow : OpenClaim := { program := "ytdaaglfemaoigaa", sum := "f7b15416a126f4c9c31afb3d20d2da9283dfcd816dc207d5822efd56d132245e", func := "loop.example/g01102/laws.FnExactMachineDifference", spec := "fnExactMachineDifference", unfollowed := true, recurses := true, plainKeys := false, apart := false }
def FnExactMachineDifferenceSaid : Prop := fnExactMachineDifferenceRow.holds Try.pinned (OpenSpec.ofChange fnExactMachineDifferenceSpec)

/-- ITS FALSE NEIGHBOUR: 'it returns false'. Refute it at one input. -/
def fnExactMachineDifferenceWrong : ChangeSpec := { name := "fnExactMachineDifference", fn := fun _ => fun
  | [d1, d2] => { results := [.lit (.bool false)], args := [d1, d2] }
  | _ => none }
def FnExactMachineDifferenceWrongFalsely : Prop := fnExactMachineDifferenceRow.holds Try.pinned (OpenSpec.ofChange fnExactMachineDifferenceWrong)

/-- 'laws.FnExactIdentifyingWord': WHATEVER THE INPUT: true; the input reads as it did. -/
def fnExactIdentifyingWordSpec : ChangeSpec := { name := "fnExactIdentifyingWord", fn := fun _ => fun
  | [d1, d2] => { results := [.lit (.bool true)], args := [d1, d2] }
  | _ => none }
def fnExactIdentifyingWordRow : OpenClaim := { program := "ytdaaglfemaoigaa", sum := "f7b15416a126f4c9c31afb3d20d2da9283dfcd816dc207d5822efd56d132245e", func := "loop.example/g01102/laws.FnExactIdentifyingWord", spec := "fnExactIdentifyingWord", unfollowed := true, recurses := true, plainKeys := false, apart := false }
def FnExactIdentifyingWordSaid : Prop := fnExactIdentifyingWordRow.holds Try.pinned (OpenSpec.ofChange fnExactIdentifyingWordSpec)

/-- ITS FALSE NEIGHBOUR: 'it returns false'. Refute it at one input. -/
def fnExactIdentifyingWordWrong : ChangeSpec := { name := "fnExactIdentifyingWord", fn := fun _ => fun
  | [d1, d2] => { results := [.lit (.bool false)], args := [d1, d2] }
  | _ => none }
def FnExactIdentifyingWordWrongFalsely : Prop := fnExactIdentifyingWordRow.holds Try.pinned (OpenSpec.ofChange fnExactIdentifyingWordWrong)

/-- 'laws.FnExactWordFor': WHATEVER THE INPUT: true; the input reads as it did. -/
def fnExactWordForSpec : ChangeSpec := { name := "fnExactWordFor", fn := fun _ => fun
  | [d1, d2] => { results := [.lit (.bool true)], args := [d1, d2] }
  | _ => none }
def fnExactWordForRow : OpenClaim := { program := "ytdaaglfemaoigaa", sum := "f7b15416a126f4c9c31afb3d20d2da9283dfcd816dc207d5822efd56d132245e", func := "loop.example/g01102/laws.FnExactWordFor", spec := "fnExactWordFor", unfollowed := true, recurses := true, plainKeys := false, apart := false }
def FnExactWordForSaid : Prop := fnExactWordForRow.holds Try.pinned (OpenSpec.ofChange fnExactWordForSpec)

/-- ITS FALSE NEIGHBOUR: 'it returns false'. Refute it at one input. -/
def fnExactWordForWrong : ChangeSpec := { name := "fnExactWordFor", fn := fun _ => fun
  | [d1, d2] => { results := [.lit (.bool false)], args := [d1, d2] }
  | _ => none }
def FnExactWordForWrongFalsely : Prop := fnExactWordForRow.holds Try.pinned (OpenSpec.ofChange fnExactWordForWrong)

/-- 'laws.FnExactDistinguishingWord': WHATEVER THE INPUT: true; the input reads as it did. -/
def fnExactDistinguishingWordSpec : ChangeSpec := { name := "fnExactDistinguishingWord", fn := fun _ => fun
  | [d1, d2, d3] => { results := [.lit (.bool true)], args := [d1, d2, d3] }
  | _ => none }
def fnExactDistinguishingWordRow : OpenClaim := { program := "ytdaaglfemaoigaa", sum := "f7b15416a126f4c9c31afb3d20d2da9283dfcd816dc207d5822efd56d132245e", func := "loop.example/g01102/laws.FnExactDistinguishingWord", spec := "fnExactDistinguishingWord", unfollowed := true, recurses := true, plainKeys := false, apart := false }
def FnExactDistinguishingWordSaid : Prop := fnExactDistinguishingWordRow.holds Try.pinned (OpenSpec.ofChange fnExactDistinguishingWordSpec)

/-- ITS FALSE NEIGHBOUR: 'it returns false'. Refute it at one input. -/
def fnExactDistinguishingWordWrong : ChangeSpec := { name := "fnExactDistinguishingWord", fn := fun _ => fun
  | [d1, d2, d3] => { results := [.lit (.bool false)], args := [d1, d2, d3] }
  | _ => none }
def FnExactDistinguishingWordWrongFalsely : Prop := fnExactDistinguishingWordRow.holds Try.pinned (OpenSpec.ofChange fnExactDistinguishingWordWrong)

/-- 'laws.FnExactTrimMachine': WHATEVER THE INPUT: true; the input reads as it did. -/
def fnExactTrimMachineSpec : ChangeSpec := { name := "fnExactTrimMachine", fn := fun _ => fun
  | [d] => { results := [.lit (.bool true)], args := [d] }
  | _ => none }
def fnExactTrimMachineRow : OpenClaim := { program := "ytdaaglfemaoigaa", sum := "f7b15416a126f4c9c31afb3d20d2da9283dfcd816dc207d5822efd56d132245e", func := "loop.example/g01102/laws.FnExactTrimMachine", spec := "fnExactTrimMachine", unfollowed := true, recurses := true, plainKeys := false, apart := false }
def FnExactTrimMachineSaid : Prop := fnExactTrimMachineRow.holds Try.pinned (OpenSpec.ofChange fnExactTrimMachineSpec)

/-- ITS FALSE NEIGHBOUR: 'it returns false'. Refute it at one input. -/
def fnExactTrimMachineWrong : ChangeSpec := { name := "fnExactTrimMachine", fn := fun _ => fun
  | [d] => { results := [.lit (.bool false)], args := [d] }
  | _ => none }
def FnExactTrimMachineWrongFalsely : Prop := fnExactTrimMachineRow.holds Try.pinned (OpenSpec.ofChange fnExactTrimMachineWrong)

/-- 'laws.FnExactStableDivision': WHATEVER THE INPUT: true; the input reads as it did. -/
def fnExactStableDivisionSpec : ChangeSpec := { name := "fnExactStableDivision", fn := fun _ => fun
  | [d] => { results := [.lit (.bool true)], args := [d] }
  | _ => none }
def fnExactStableDivisionRow : OpenClaim := { program := "ytdaaglfemaoigaa", sum := "f7b15416a126f4c9c31afb3d20d2da9283dfcd816dc207d5822efd56d132245e", func := "loop.example/g01102/laws.FnExactStableDivision", spec := "fnExactStableDivision", unfollowed := true, recurses := true, plainKeys := false, apart := false }
def FnExactStableDivisionSaid : Prop := fnExactStableDivisionRow.holds Try.pinned (OpenSpec.ofChange fnExactStableDivisionSpec)

/-- ITS FALSE NEIGHBOUR: 'it returns false'. Refute it at one input. -/
def fnExactStableDivisionWrong : ChangeSpec := { name := "fnExactStableDivision", fn := fun _ => fun
  | [d] => { results := [.lit (.bool false)], args := [d] }
  | _ => none }
def FnExactStableDivisionWrongFalsely : Prop := fnExactStableDivisionRow.holds Try.pinned (OpenSpec.ofChange fnExactStableDivisionWrong)

/-- 'laws.FnExactFirstFilling': WHATEVER THE INPUT: true; the input reads as it did. -/
def fnExactFirstFillingSpec : ChangeSpec := { name := "fnExactFirstFilling", fn := fun _ => fun
  | [d] => { results := [.lit (.bool true)], args := [d] }
  | _ => none }
def fnExactFirstFillingRow : OpenClaim := { program := "ytdaaglfemaoigaa", sum := "f7b15416a126f4c9c31afb3d20d2da9283dfcd816dc207d5822efd56d132245e", func := "loop.example/g01102/laws.FnExactFirstFilling", spec := "fnExactFirstFilling", unfollowed := true, recurses := true, plainKeys := false, apart := false }
def FnExactFirstFillingSaid : Prop := fnExactFirstFillingRow.holds Try.pinned (OpenSpec.ofChange fnExactFirstFillingSpec)

/-- ITS FALSE NEIGHBOUR: 'it returns false'. Refute it at one input. -/
def fnExactFirstFillingWrong : ChangeSpec := { name := "fnExactFirstFilling", fn := fun _ => fun
  | [d] => { results := [.lit (.bool false)], args := [d] }
  | _ => none }
def FnExactFirstFillingWrongFalsely : Prop := fnExactFirstFillingRow.holds Try.pinned (OpenSpec.ofChange fnExactFirstFillingWrong)

/-- 'laws.FnExactQuickestColouring': WHATEVER THE INPUT: true; the input reads as it did. -/
def fnExactQuickestColouringSpec : ChangeSpec := { name := "fnExactQuickestColouring", fn := fun _ => fun
  | [d] => { results := [.lit (.bool true)], args := [d] }
  | _ => none }
def fnExactQuickestColouringRow : OpenClaim := { program := "ytdaaglfemaoigaa", sum := "f7b15416a126f4c9c31afb3d20d2da9283dfcd816dc207d5822efd56d132245e", func := "loop.example/g01102/laws.FnExactQuickestColouring", spec := "fnExactQuickestColouring", unfollowed := true, recurses := true, plainKeys := false, apart := false }
def FnExactQuickestColouringSaid : Prop := fnExactQuickestColouringRow.holds Try.pinned (OpenSpec.ofChange fnExactQuickestColouringSpec)

/-- ITS FALSE NEIGHBOUR: 'it returns false'. Refute it at one input. -/
def fnExactQuickestColouringWrong : ChangeSpec := { name := "fnExactQuickestColouring", fn := fun _ => fun
  | [d] => { results := [.lit (.bool false)], args := [d] }
  | _ => none }
def FnExactQuickestColouringWrongFalsely : Prop := fnExactQuickestColouringRow.holds Try.pinned (OpenSpec.ofChange fnExactQuickestColouringWrong)

/-- 'laws.FnExactContractRoads': WHATEVER THE INPUT: true; the input reads as it did. -/
def fnExactContractRoadsSpec : ChangeSpec := { name := "fnExactContractRoads", fn := fun _ => fun
  | [d1, d2] => { results := [.lit (.bool true)], args := [d1, d2] }
  | _ => none }
def fnExactContractRoadsRow : OpenClaim := { program := "ytdaaglfemaoigaa", sum := "f7b15416a126f4c9c31afb3d20d2da9283dfcd816dc207d5822efd56d132245e", func := "loop.example/g01102/laws.FnExactContractRoads", spec := "fnExactContractRoads", unfollowed := true, recurses := true, plainKeys := false, apart := false }
def FnExactContractRoadsSaid : Prop := fnExactContractRoadsRow.holds Try.pinned (OpenSpec.ofChange fnExactContractRoadsSpec)

/-- ITS FALSE NEIGHBOUR: 'it returns false'. Refute it at one input. -/
def fnExactContractRoadsWrong : ChangeSpec := { name := "fnExactContractRoads", fn := fun _ => fun
  | [d1, d2] => { results := [.lit (.bool false)], args := [d1, d2] }
  | _ => none }
def FnExactContractRoadsWrongFalsely : Prop := fnExactContractRoadsRow.holds Try.pinned (OpenSpec.ofChange fnExactContractRoadsWrong)

/-- 'laws.FnExactReachedSets': WHATEVER THE INPUT: true; the input reads as it did. -/
def fnExactReachedSetsSpec : ChangeSpec := { name := "fnExactReachedSets", fn := fun _ => fun
  | [d] => { results := [.lit (.bool true)], args := [d] }
  | _ => none }
def fnExactReachedSetsRow : OpenClaim := { program := "ytdaaglfemaoigaa", sum := "f7b15416a126f4c9c31afb3d20d2da9283dfcd816dc207d5822efd56d132245e", func := "loop.example/g01102/laws.FnExactReachedSets", spec := "fnExactReachedSets", unfollowed := true, recurses := true, plainKeys := false, apart := false }
def FnExactReachedSetsSaid : Prop := fnExactReachedSetsRow.holds Try.pinned (OpenSpec.ofChange fnExactReachedSetsSpec)

/-- ITS FALSE NEIGHBOUR: 'it returns false'. Refute it at one input. -/
def fnExactReachedSetsWrong : ChangeSpec := { name := "fnExactReachedSets", fn := fun _ => fun
  | [d] => { results := [.lit (.bool false)], args := [d] }
  | _ => none }
def FnExactReachedSetsWrongFalsely : Prop := fnExactReachedSetsRow.holds Try.pinned (OpenSpec.ofChange fnExactReachedSetsWrong)

/-- 'laws.FnExactIsJoined': WHATEVER THE INPUT: true; the input reads as it did. -/
def fnExactIsJoinedSpec : ChangeSpec := { name := "fnExactIsJoined", fn := fun _ => fun
  | [d] => { results := [.lit (.bool true)], args := [d] }
  | _ => none }
def fnExactIsJoinedRow : OpenClaim := { program := "ytdaaglfemaoigaa", sum := "f7b15416a126f4c9c31afb3d20d2da9283dfcd816dc207d5822efd56d132245e", func := "loop.example/g01102/laws.FnExactIsJoined", spec := "fnExactIsJoined", unfollowed := true, recurses := true, plainKeys := false, apart := false }
def FnExactIsJoinedSaid : Prop := fnExactIsJoinedRow.holds Try.pinned (OpenSpec.ofChange fnExactIsJoinedSpec)

/-- ITS FALSE NEIGHBOUR: 'it returns false'. Refute it at one input. -/
def fnExactIsJoinedWrong : ChangeSpec := { name := "fnExactIsJoined", fn := fun _ => fun
  | [d] => { results := [.lit (.bool false)], args := [d] }
  | _ => none }
def FnExactIsJoinedWrongFalsely : Prop := fnExactIsJoinedRow.holds Try.pinned (OpenSpec.ofChange fnExactIsJoinedWrong)

/- THE SECOND FORM. 'bulk': how many values and letters a reading holds, each counted each time it is reached (what is shared counts as often as it is met; a slice's spare places count too). A statement '..UptoSaid' is the law's where the arguments, and the package variables that the reading takes, are together of bulk at most 1048576: NARROWER than '..Said'. Prove '..Said' where nothing that the law and all that it calls make is longer than what came in: it says more and counts as full. Else prove '..UptoSaid'. A law counts once. -/
mutual
def uptoBulk {H : Type} : DataW H → Nat
  | .lit (.string bytes) => bytes.length + 1
  | .lit _ => 1
  | .nil => 1
  | .ptr d => uptoBulk d + 1
  | .slice elems spare => uptoBulkAll elems + uptoBulkAll spare + 1
  | .agg parts => uptoBulkAll parts + 1
  | .iface _ d => uptoBulk d + 1
  | .map entries => uptoBulkEntries entries + 1
  | .held _ => 1
def uptoBulkAll {H : Type} : List (DataW H) → Nat
  | [] => 0
  | d :: r => uptoBulk d + uptoBulkAll r
def uptoBulkEntries {H : Type} : List (Lit × DataW H) → Nat
  | [] => 0
  | x :: r => uptoBulkEntry x + uptoBulkEntries r
def uptoBulkEntry {H : Type} : Lit × DataW H → Nat
  | (.string bytes, d) => bytes.length + uptoBulk d + 1
  | (_, d) => uptoBulk d + 1
 end
def uptoSmall : (H : Type) → List (DataW H) → Bool := fun _ ds => decide (uptoBulkAll ds ≤ 1048576)
def OpenSpec.upto (s : _root_.Go.ChangeSpec) : _root_.Go.OpenSpec := { _root_.Go.OpenSpec.ofChange s with cond := some uptoSmall }

/-- 'laws.FnExactSwapColours', WHERE WHAT IT READS IS OF BULK AT MOST 1048576: true; the input reads as it did. -/
def fnExactSwapColoursUptoRow : OpenClaim := { program := "ytdaaglfemaoigaa", sum := "f7b15416a126f4c9c31afb3d20d2da9283dfcd816dc207d5822efd56d132245e", func := "loop.example/g01102/laws.FnExactSwapColours", spec := "fnExactSwapColours", unfollowed := true, recurses := true, plainKeys := false, apart := false, narrowed := true }
def FnExactSwapColoursUptoSaid : Prop := fnExactSwapColoursUptoRow.holds Try.pinned (OpenSpec.upto fnExactSwapColoursSpec)

/-- 'laws.FnExactMachineDifference', WHERE WHAT IT READS IS OF BULK AT MOST 1048576: true; the input reads as it did. -/
def fnExactMachineDifferenceUptoRow : OpenClaim := { program := "ytdaaglfemaoigaa", sum := "f7b15416a126f4c9c31afb3d20d2da9283dfcd816dc207d5822efd56d132245e", func := "loop.example/g01102/laws.FnExactMachineDifference", spec := "fnExactMachineDifference", unfollowed := true, recurses := true, plainKeys := false, apart := false, narrowed := true }
def FnExactMachineDifferenceUptoSaid : Prop := fnExactMachineDifferenceUptoRow.holds Try.pinned (OpenSpec.upto fnExactMachineDifferenceSpec)

/-- 'laws.FnExactIdentifyingWord', WHERE WHAT IT READS IS OF BULK AT MOST 1048576: true; the input reads as it did. -/
def fnExactIdentifyingWordUptoRow : OpenClaim := { program := "ytdaaglfemaoigaa", sum := "f7b15416a126f4c9c31afb3d20d2da9283dfcd816dc207d5822efd56d132245e", func := "loop.example/g01102/laws.FnExactIdentifyingWord", spec := "fnExactIdentifyingWord", unfollowed := true, recurses := true, plainKeys := false, apart := false, narrowed := true }
def FnExactIdentifyingWordUptoSaid : Prop := fnExactIdentifyingWordUptoRow.holds Try.pinned (OpenSpec.upto fnExactIdentifyingWordSpec)

/-- 'laws.FnExactWordFor', WHERE WHAT IT READS IS OF BULK AT MOST 1048576: true; the input reads as it did. -/
def fnExactWordForUptoRow : OpenClaim := { program := "ytdaaglfemaoigaa", sum := "f7b15416a126f4c9c31afb3d20d2da9283dfcd816dc207d5822efd56d132245e", func := "loop.example/g01102/laws.FnExactWordFor", spec := "fnExactWordFor", unfollowed := true, recurses := true, plainKeys := false, apart := false, narrowed := true }
def FnExactWordForUptoSaid : Prop := fnExactWordForUptoRow.holds Try.pinned (OpenSpec.upto fnExactWordForSpec)

/-- 'laws.FnExactDistinguishingWord', WHERE WHAT IT READS IS OF BULK AT MOST 1048576: true; the input reads as it did. -/
def fnExactDistinguishingWordUptoRow : OpenClaim := { program := "ytdaaglfemaoigaa", sum := "f7b15416a126f4c9c31afb3d20d2da9283dfcd816dc207d5822efd56d132245e", func := "loop.example/g01102/laws.FnExactDistinguishingWord", spec := "fnExactDistinguishingWord", unfollowed := true, recurses := true, plainKeys := false, apart := false, narrowed := true }
def FnExactDistinguishingWordUptoSaid : Prop := fnExactDistinguishingWordUptoRow.holds Try.pinned (OpenSpec.upto fnExactDistinguishingWordSpec)

/-- 'laws.FnExactTrimMachine', WHERE WHAT IT READS IS OF BULK AT MOST 1048576: true; the input reads as it did. -/
def fnExactTrimMachineUptoRow : OpenClaim := { program := "ytdaaglfemaoigaa", sum := "f7b15416a126f4c9c31afb3d20d2da9283dfcd816dc207d5822efd56d132245e", func := "loop.example/g01102/laws.FnExactTrimMachine", spec := "fnExactTrimMachine", unfollowed := true, recurses := true, plainKeys := false, apart := false, narrowed := true }
def FnExactTrimMachineUptoSaid : Prop := fnExactTrimMachineUptoRow.holds Try.pinned (OpenSpec.upto fnExactTrimMachineSpec)

/-- 'laws.FnExactStableDivision', WHERE WHAT IT READS IS OF BULK AT MOST 1048576: true; the input reads as it did. -/
def fnExactStableDivisionUptoRow : OpenClaim := { program := "ytdaaglfemaoigaa", sum := "f7b15416a126f4c9c31afb3d20d2da9283dfcd816dc207d5822efd56d132245e", func := "loop.example/g01102/laws.FnExactStableDivision", spec := "fnExactStableDivision", unfollowed := true, recurses := true, plainKeys := false, apart := false, narrowed := true }
def FnExactStableDivisionUptoSaid : Prop := fnExactStableDivisionUptoRow.holds Try.pinned (OpenSpec.upto fnExactStableDivisionSpec)

/-- 'laws.FnExactFirstFilling', WHERE WHAT IT READS IS OF BULK AT MOST 1048576: true; the input reads as it did. -/
def fnExactFirstFillingUptoRow : OpenClaim := { program := "ytdaaglfemaoigaa", sum := "f7b15416a126f4c9c31afb3d20d2da9283dfcd816dc207d5822efd56d132245e", func := "loop.example/g01102/laws.FnExactFirstFilling", spec := "fnExactFirstFilling", unfollowed := true, recurses := true, plainKeys := false, apart := false, narrowed := true }
def FnExactFirstFillingUptoSaid : Prop := fnExactFirstFillingUptoRow.holds Try.pinned (OpenSpec.upto fnExactFirstFillingSpec)

/-- 'laws.FnExactQuickestColouring', WHERE WHAT IT READS IS OF BULK AT MOST 1048576: true; the input reads as it did. -/
def fnExactQuickestColouringUptoRow : OpenClaim := { program := "ytdaaglfemaoigaa", sum := "f7b15416a126f4c9c31afb3d20d2da9283dfcd816dc207d5822efd56d132245e", func := "loop.example/g01102/laws.FnExactQuickestColouring", spec := "fnExactQuickestColouring", unfollowed := true, recurses := true, plainKeys := false, apart := false, narrowed := true }
def FnExactQuickestColouringUptoSaid : Prop := fnExactQuickestColouringUptoRow.holds Try.pinned (OpenSpec.upto fnExactQuickestColouringSpec)

/-- 'laws.FnExactContractRoads', WHERE WHAT IT READS IS OF BULK AT MOST 1048576: true; the input reads as it did. -/
def fnExactContractRoadsUptoRow : OpenClaim := { program := "ytdaaglfemaoigaa", sum := "f7b15416a126f4c9c31afb3d20d2da9283dfcd816dc207d5822efd56d132245e", func := "loop.example/g01102/laws.FnExactContractRoads", spec := "fnExactContractRoads", unfollowed := true, recurses := true, plainKeys := false, apart := false, narrowed := true }
def FnExactContractRoadsUptoSaid : Prop := fnExactContractRoadsUptoRow.holds Try.pinned (OpenSpec.upto fnExactContractRoadsSpec)

/-- 'laws.FnExactReachedSets', WHERE WHAT IT READS IS OF BULK AT MOST 1048576: true; the input reads as it did. -/
def fnExactReachedSetsUptoRow : OpenClaim := { program := "ytdaaglfemaoigaa", sum := "f7b15416a126f4c9c31afb3d20d2da9283dfcd816dc207d5822efd56d132245e", func := "loop.example/g01102/laws.FnExactReachedSets", spec := "fnExactReachedSets", unfollowed := true, recurses := true, plainKeys := false, apart := false, narrowed := true }
def FnExactReachedSetsUptoSaid : Prop := fnExactReachedSetsUptoRow.holds Try.pinned (OpenSpec.upto fnExactReachedSetsSpec)

/-- 'laws.FnExactIsJoined', WHERE WHAT IT READS IS OF BULK AT MOST 1048576: true; the input reads as it did. -/
def fnExactIsJoinedUptoRow : OpenClaim := { program := "ytdaaglfemaoigaa", sum := "f7b15416a126f4c9c31afb3d20d2da9283dfcd816dc207d5822efd56d132245e", func := "loop.example/g01102/laws.FnExactIsJoined", spec := "fnExactIsJoined", unfollowed := true, recurses := true, plainKeys := false, apart := false, narrowed := true }
def FnExactIsJoinedUptoSaid : Prop := fnExactIsJoinedUptoRow.holds Try.pinned (OpenSpec.upto fnExactIsJoinedSpec)

end Rows
end Go.Proofs.Ytdaaglfemaoigaa
