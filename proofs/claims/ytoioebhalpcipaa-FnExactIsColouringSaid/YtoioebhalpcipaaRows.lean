/-
  No cell of these rows narrows 'for every input' (looked for: loops, veiled, ifaces, maps, wideKeys, modest, calm, conditions, laid).
  DERIVED. THE GIVEN ROWS OF THIS SEAT. 12 by the template 'for every input the law returns true; each argument reads behind the call as it read before'; 0 by the template 'total and deterministic' (their statements: YtoioebhalpcipaaTotals.lean).
  GIVEN WITH THE SEED: the statements are not yours to turn. If you find one false, say at which input.
  Laid BY PROGRAM, IN A SANDBOX (cutbox-rows.mjs): the forced cells as the released guide's own fill.sh prints them over the translation 46511d7a7e457741… (all of the seat's roots in one cut). By AI agents, Wed Nov 11 2026. No macro, syntax, notation, axiom, sorry.
-/
import Derived.Test.YtoioebhalpcipaaChecked
import GoSem.Claim
import GoSem.ClaimJoined
import GoSem.ClaimMapViews
import Derived.JoinedTies
import Derived.KernelRfl
namespace Go.Proofs.Ytoioebhalpcipaa
/- THE CELL 'sum', in the pinned program and in every row, IS THE sha256 OF THE DUMP (.gsa) THAT YtoioebhalpcipaaProg.lean LOADS. Nothing in Lean hashes anything: it is a label: what it is worth is what the hold of that sum in a sandbox is worth. -/
noncomputable def Try.pinned : Pinned := { name := "ytoioebhalpcipaa", sum := "46511d7a7e457741c578dd2dc562b9054e6da3ee16d393644e020faa932b7e35", checked := Try.checked }
namespace Rows
def none {H : Type} : Left H := { results := [], args := [] }

/-- 'laws.FnExactShortestFor': WHATEVER THE INPUT: true; the input reads as it did. -/
def fnExactShortestForSpec : ChangeSpec := { name := "fnExactShortestFor", fn := fun _ => fun
  | [d1, d2] => { results := [.lit (.bool true)], args := [d1, d2] }
  | _ => none }
def fnExactShortestForRow : OpenClaim := { program := "ytoioebhalpcipaa", sum := "46511d7a7e457741c578dd2dc562b9054e6da3ee16d393644e020faa932b7e35", func := "loop.example/g01102/laws.FnExactShortestFor", spec := "fnExactShortestFor", unfollowed := true, recurses := true, apart := false }
def FnExactShortestForSaid : Prop := fnExactShortestForRow.holds Try.pinned (OpenSpec.ofChange fnExactShortestForSpec)

/-- ITS FALSE NEIGHBOUR: 'it returns false'. Refute it at one input. -/
def fnExactShortestForWrong : ChangeSpec := { name := "fnExactShortestFor", fn := fun _ => fun
  | [d1, d2] => { results := [.lit (.bool false)], args := [d1, d2] }
  | _ => none }
def FnExactShortestForWrongFalsely : Prop := fnExactShortestForRow.holds Try.pinned (OpenSpec.ofChange fnExactShortestForWrong)

/-- 'laws.FnExactTrimMachine': WHATEVER THE INPUT: true; the input reads as it did. -/
def fnExactTrimMachineSpec : ChangeSpec := { name := "fnExactTrimMachine", fn := fun _ => fun
  | [d] => { results := [.lit (.bool true)], args := [d] }
  | _ => none }
def fnExactTrimMachineRow : OpenClaim := { program := "ytoioebhalpcipaa", sum := "46511d7a7e457741c578dd2dc562b9054e6da3ee16d393644e020faa932b7e35", func := "loop.example/g01102/laws.FnExactTrimMachine", spec := "fnExactTrimMachine", unfollowed := true, recurses := true, apart := false }
def FnExactTrimMachineSaid : Prop := fnExactTrimMachineRow.holds Try.pinned (OpenSpec.ofChange fnExactTrimMachineSpec)

/-- ITS FALSE NEIGHBOUR: 'it returns false'. Refute it at one input. -/
def fnExactTrimMachineWrong : ChangeSpec := { name := "fnExactTrimMachine", fn := fun _ => fun
  | [d] => { results := [.lit (.bool false)], args := [d] }
  | _ => none }
def FnExactTrimMachineWrongFalsely : Prop := fnExactTrimMachineRow.holds Try.pinned (OpenSpec.ofChange fnExactTrimMachineWrong)

/-- 'laws.FnExactSetWord': WHATEVER THE INPUT: true; the input reads as it did. -/
def fnExactSetWordSpec : ChangeSpec := { name := "fnExactSetWord", fn := fun _ => fun
  | [d1, d2] => { results := [.lit (.bool true)], args := [d1, d2] }
  | _ => none }
def fnExactSetWordRow : OpenClaim := { program := "ytoioebhalpcipaa", sum := "46511d7a7e457741c578dd2dc562b9054e6da3ee16d393644e020faa932b7e35", func := "loop.example/g01102/laws.FnExactSetWord", spec := "fnExactSetWord", unfollowed := true, recurses := true, apart := false }
def FnExactSetWordSaid : Prop := fnExactSetWordRow.holds Try.pinned (OpenSpec.ofChange fnExactSetWordSpec)

/-- ITS FALSE NEIGHBOUR: 'it returns false'. Refute it at one input. -/
def fnExactSetWordWrong : ChangeSpec := { name := "fnExactSetWord", fn := fun _ => fun
  | [d1, d2] => { results := [.lit (.bool false)], args := [d1, d2] }
  | _ => none }
def FnExactSetWordWrongFalsely : Prop := fnExactSetWordRow.holds Try.pinned (OpenSpec.ofChange fnExactSetWordWrong)

/-- 'laws.FnExactStableDivision': WHATEVER THE INPUT: true; the input reads as it did. -/
def fnExactStableDivisionSpec : ChangeSpec := { name := "fnExactStableDivision", fn := fun _ => fun
  | [d] => { results := [.lit (.bool true)], args := [d] }
  | _ => none }
def fnExactStableDivisionRow : OpenClaim := { program := "ytoioebhalpcipaa", sum := "46511d7a7e457741c578dd2dc562b9054e6da3ee16d393644e020faa932b7e35", func := "loop.example/g01102/laws.FnExactStableDivision", spec := "fnExactStableDivision", unfollowed := true, recurses := true, apart := false }
def FnExactStableDivisionSaid : Prop := fnExactStableDivisionRow.holds Try.pinned (OpenSpec.ofChange fnExactStableDivisionSpec)

/-- ITS FALSE NEIGHBOUR: 'it returns false'. Refute it at one input. -/
def fnExactStableDivisionWrong : ChangeSpec := { name := "fnExactStableDivision", fn := fun _ => fun
  | [d] => { results := [.lit (.bool false)], args := [d] }
  | _ => none }
def FnExactStableDivisionWrongFalsely : Prop := fnExactStableDivisionRow.holds Try.pinned (OpenSpec.ofChange fnExactStableDivisionWrong)

/-- 'laws.FnExactFirstFilling': WHATEVER THE INPUT: true; the input reads as it did. -/
def fnExactFirstFillingSpec : ChangeSpec := { name := "fnExactFirstFilling", fn := fun _ => fun
  | [d] => { results := [.lit (.bool true)], args := [d] }
  | _ => none }
def fnExactFirstFillingRow : OpenClaim := { program := "ytoioebhalpcipaa", sum := "46511d7a7e457741c578dd2dc562b9054e6da3ee16d393644e020faa932b7e35", func := "loop.example/g01102/laws.FnExactFirstFilling", spec := "fnExactFirstFilling", unfollowed := true, recurses := true, apart := false }
def FnExactFirstFillingSaid : Prop := fnExactFirstFillingRow.holds Try.pinned (OpenSpec.ofChange fnExactFirstFillingSpec)

/-- ITS FALSE NEIGHBOUR: 'it returns false'. Refute it at one input. -/
def fnExactFirstFillingWrong : ChangeSpec := { name := "fnExactFirstFilling", fn := fun _ => fun
  | [d] => { results := [.lit (.bool false)], args := [d] }
  | _ => none }
def FnExactFirstFillingWrongFalsely : Prop := fnExactFirstFillingRow.holds Try.pinned (OpenSpec.ofChange fnExactFirstFillingWrong)

/-- 'laws.FnExactQuickestColouring': WHATEVER THE INPUT: true; the input reads as it did. -/
def fnExactQuickestColouringSpec : ChangeSpec := { name := "fnExactQuickestColouring", fn := fun _ => fun
  | [d] => { results := [.lit (.bool true)], args := [d] }
  | _ => none }
def fnExactQuickestColouringRow : OpenClaim := { program := "ytoioebhalpcipaa", sum := "46511d7a7e457741c578dd2dc562b9054e6da3ee16d393644e020faa932b7e35", func := "loop.example/g01102/laws.FnExactQuickestColouring", spec := "fnExactQuickestColouring", unfollowed := true, recurses := true, apart := false }
def FnExactQuickestColouringSaid : Prop := fnExactQuickestColouringRow.holds Try.pinned (OpenSpec.ofChange fnExactQuickestColouringSpec)

/-- ITS FALSE NEIGHBOUR: 'it returns false'. Refute it at one input. -/
def fnExactQuickestColouringWrong : ChangeSpec := { name := "fnExactQuickestColouring", fn := fun _ => fun
  | [d] => { results := [.lit (.bool false)], args := [d] }
  | _ => none }
def FnExactQuickestColouringWrongFalsely : Prop := fnExactQuickestColouringRow.holds Try.pinned (OpenSpec.ofChange fnExactQuickestColouringWrong)

/-- 'laws.FnExactRoadsOf': WHATEVER THE INPUT: true; the input reads as it did. -/
def fnExactRoadsOfSpec : ChangeSpec := { name := "fnExactRoadsOf", fn := fun _ => fun
  | [d] => { results := [.lit (.bool true)], args := [d] }
  | _ => none }
def fnExactRoadsOfRow : OpenClaim := { program := "ytoioebhalpcipaa", sum := "46511d7a7e457741c578dd2dc562b9054e6da3ee16d393644e020faa932b7e35", func := "loop.example/g01102/laws.FnExactRoadsOf", spec := "fnExactRoadsOf", unfollowed := true, recurses := true, apart := false }
def FnExactRoadsOfSaid : Prop := fnExactRoadsOfRow.holds Try.pinned (OpenSpec.ofChange fnExactRoadsOfSpec)

/-- ITS FALSE NEIGHBOUR: 'it returns false'. Refute it at one input. -/
def fnExactRoadsOfWrong : ChangeSpec := { name := "fnExactRoadsOf", fn := fun _ => fun
  | [d] => { results := [.lit (.bool false)], args := [d] }
  | _ => none }
def FnExactRoadsOfWrongFalsely : Prop := fnExactRoadsOfRow.holds Try.pinned (OpenSpec.ofChange fnExactRoadsOfWrong)

/-- 'laws.FnResetColourings': WHATEVER THE INPUT: true; the input reads as it did. -/
def fnResetColouringsSpec : ChangeSpec := { name := "fnResetColourings", fn := fun _ => fun
  | [d1, d2] => { results := [.lit (.bool true)], args := [d1, d2] }
  | _ => none }
def fnResetColouringsRow : OpenClaim := { program := "ytoioebhalpcipaa", sum := "46511d7a7e457741c578dd2dc562b9054e6da3ee16d393644e020faa932b7e35", func := "loop.example/g01102/laws.FnResetColourings", spec := "fnResetColourings", unfollowed := true, recurses := true, apart := false }
def FnResetColouringsSaid : Prop := fnResetColouringsRow.holds Try.pinned (OpenSpec.ofChange fnResetColouringsSpec)

/-- ITS FALSE NEIGHBOUR: 'it returns false'. Refute it at one input. -/
def fnResetColouringsWrong : ChangeSpec := { name := "fnResetColourings", fn := fun _ => fun
  | [d1, d2] => { results := [.lit (.bool false)], args := [d1, d2] }
  | _ => none }
def FnResetColouringsWrongFalsely : Prop := fnResetColouringsRow.holds Try.pinned (OpenSpec.ofChange fnResetColouringsWrong)

/-- 'laws.FnExactIsColouring': WHATEVER THE INPUT: true; the input reads as it did. -/
def fnExactIsColouringSpec : ChangeSpec := { name := "fnExactIsColouring", fn := fun _ => fun
  | [d1, d2] => { results := [.lit (.bool true)], args := [d1, d2] }
  | _ => none }
def fnExactIsColouringRow : OpenClaim := { program := "ytoioebhalpcipaa", sum := "46511d7a7e457741c578dd2dc562b9054e6da3ee16d393644e020faa932b7e35", func := "loop.example/g01102/laws.FnExactIsColouring", spec := "fnExactIsColouring", unfollowed := true, recurses := true, apart := false }
def FnExactIsColouringSaid : Prop := fnExactIsColouringRow.holds Try.pinned (OpenSpec.ofChange fnExactIsColouringSpec)

/-- ITS FALSE NEIGHBOUR: 'it returns false'. Refute it at one input. -/
def fnExactIsColouringWrong : ChangeSpec := { name := "fnExactIsColouring", fn := fun _ => fun
  | [d1, d2] => { results := [.lit (.bool false)], args := [d1, d2] }
  | _ => none }
def FnExactIsColouringWrongFalsely : Prop := fnExactIsColouringRow.holds Try.pinned (OpenSpec.ofChange fnExactIsColouringWrong)

/-- 'laws.FnExactContractRoads': WHATEVER THE INPUT: true; the input reads as it did. -/
def fnExactContractRoadsSpec : ChangeSpec := { name := "fnExactContractRoads", fn := fun _ => fun
  | [d1, d2] => { results := [.lit (.bool true)], args := [d1, d2] }
  | _ => none }
def fnExactContractRoadsRow : OpenClaim := { program := "ytoioebhalpcipaa", sum := "46511d7a7e457741c578dd2dc562b9054e6da3ee16d393644e020faa932b7e35", func := "loop.example/g01102/laws.FnExactContractRoads", spec := "fnExactContractRoads", unfollowed := true, recurses := true, apart := false }
def FnExactContractRoadsSaid : Prop := fnExactContractRoadsRow.holds Try.pinned (OpenSpec.ofChange fnExactContractRoadsSpec)

/-- ITS FALSE NEIGHBOUR: 'it returns false'. Refute it at one input. -/
def fnExactContractRoadsWrong : ChangeSpec := { name := "fnExactContractRoads", fn := fun _ => fun
  | [d1, d2] => { results := [.lit (.bool false)], args := [d1, d2] }
  | _ => none }
def FnExactContractRoadsWrongFalsely : Prop := fnExactContractRoadsRow.holds Try.pinned (OpenSpec.ofChange fnExactContractRoadsWrong)

/-- 'laws.FnExactReachedSets': WHATEVER THE INPUT: true; the input reads as it did. -/
def fnExactReachedSetsSpec : ChangeSpec := { name := "fnExactReachedSets", fn := fun _ => fun
  | [d] => { results := [.lit (.bool true)], args := [d] }
  | _ => none }
def fnExactReachedSetsRow : OpenClaim := { program := "ytoioebhalpcipaa", sum := "46511d7a7e457741c578dd2dc562b9054e6da3ee16d393644e020faa932b7e35", func := "loop.example/g01102/laws.FnExactReachedSets", spec := "fnExactReachedSets", unfollowed := true, recurses := true, apart := false }
def FnExactReachedSetsSaid : Prop := fnExactReachedSetsRow.holds Try.pinned (OpenSpec.ofChange fnExactReachedSetsSpec)

/-- ITS FALSE NEIGHBOUR: 'it returns false'. Refute it at one input. -/
def fnExactReachedSetsWrong : ChangeSpec := { name := "fnExactReachedSets", fn := fun _ => fun
  | [d] => { results := [.lit (.bool false)], args := [d] }
  | _ => none }
def FnExactReachedSetsWrongFalsely : Prop := fnExactReachedSetsRow.holds Try.pinned (OpenSpec.ofChange fnExactReachedSetsWrong)

/-- 'laws.FnExactIsJoined': WHATEVER THE INPUT: true; the input reads as it did. -/
def fnExactIsJoinedSpec : ChangeSpec := { name := "fnExactIsJoined", fn := fun _ => fun
  | [d] => { results := [.lit (.bool true)], args := [d] }
  | _ => none }
def fnExactIsJoinedRow : OpenClaim := { program := "ytoioebhalpcipaa", sum := "46511d7a7e457741c578dd2dc562b9054e6da3ee16d393644e020faa932b7e35", func := "loop.example/g01102/laws.FnExactIsJoined", spec := "fnExactIsJoined", unfollowed := true, recurses := true, apart := false }
def FnExactIsJoinedSaid : Prop := fnExactIsJoinedRow.holds Try.pinned (OpenSpec.ofChange fnExactIsJoinedSpec)

/-- ITS FALSE NEIGHBOUR: 'it returns false'. Refute it at one input. -/
def fnExactIsJoinedWrong : ChangeSpec := { name := "fnExactIsJoined", fn := fun _ => fun
  | [d] => { results := [.lit (.bool false)], args := [d] }
  | _ => none }
def FnExactIsJoinedWrongFalsely : Prop := fnExactIsJoinedRow.holds Try.pinned (OpenSpec.ofChange fnExactIsJoinedWrong)

/- THE SECOND FORM. 'bulk': how many values and letters a reading holds, each counted each time it is reached (what is shared counts as often as it is met; a slice's spare places count too). A statement '..UptoSaid' is the law's where the arguments, and the package variables that the reading takes, are together of bulk at most 1048576: NARROWER than '..Said'. Prove '..Said' where nothing that the law and all that it calls make is longer than what came in: it says more and counts as full. Else prove '..UptoSaid'. A law counts once. -/
mutual
def uptoBulk {H : Type} : DataW H → Nat
  | .lit (.string bytes) => bytes.length + 1
  | .lit _ => 1
  | .nil => 1
  | .ptr d => uptoBulk d + 1
  | .slice elems spare => uptoBulkAll elems + uptoBulkAll spare + 1
  | .agg parts => uptoBulkAll parts + 1
  | .iface _ d => uptoBulk d + 1
  | .map entries => uptoBulkEntries entries + 1
  | .held _ => 1
def uptoBulkAll {H : Type} : List (DataW H) → Nat
  | [] => 0
  | d :: r => uptoBulk d + uptoBulkAll r
def uptoBulkEntries {H : Type} : List (Lit × DataW H) → Nat
  | [] => 0
  | x :: r => uptoBulkEntry x + uptoBulkEntries r
def uptoBulkEntry {H : Type} : Lit × DataW H → Nat
  | (.string bytes, d) => bytes.length + uptoBulk d + 1
  | (_, d) => uptoBulk d + 1
 end
def uptoSmall : (H : Type) → List (DataW H) → Bool := fun _ ds => decide (uptoBulkAll ds ≤ 1048576)
def OpenSpec.upto (s : _root_.Go.ChangeSpec) : _root_.Go.OpenSpec := { _root_.Go.OpenSpec.ofChange s with cond := some uptoSmall }

/-- 'laws.FnExactShortestFor', WHERE WHAT IT READS IS OF BULK AT MOST 1048576: true; the input reads as it did. -/
def fnExactShortestForUptoRow : OpenClaim := { program := "ytoioebhalpcipaa", sum := "46511d7a7e457741c578dd2dc562b9054e6da3ee16d393644e020faa932b7e35", func := "loop.example/g01102/laws.FnExactShortestFor", spec := "fnExactShortestFor", unfollowed := true, recurses := true, apart := false, narrowed := true }
def FnExactShortestForUptoSaid : Prop := fnExactShortestForUptoRow.holds Try.pinned (OpenSpec.upto fnExactShortestForSpec)

/-- 'laws.FnExactTrimMachine', WHERE WHAT IT READS IS OF BULK AT MOST 1048576: true; the input reads as it did. -/
def fnExactTrimMachineUptoRow : OpenClaim := { program := "ytoioebhalpcipaa", sum := "46511d7a7e457741c578dd2dc562b9054e6da3ee16d393644e020faa932b7e35", func := "loop.example/g01102/laws.FnExactTrimMachine", spec := "fnExactTrimMachine", unfollowed := true, recurses := true, apart := false, narrowed := true }
def FnExactTrimMachineUptoSaid : Prop := fnExactTrimMachineUptoRow.holds Try.pinned (OpenSpec.upto fnExactTrimMachineSpec)

/-- 'laws.FnExactSetWord', WHERE WHAT IT READS IS OF BULK AT MOST 1048576: true; the input reads as it did. -/
def fnExactSetWordUptoRow : OpenClaim := { program := "ytoioebhalpcipaa", sum := "46511d7a7e457741c578dd2dc562b9054e6da3ee16d393644e020faa932b7e35", func := "loop.example/g01102/laws.FnExactSetWord", spec := "fnExactSetWord", unfollowed := true, recurses := true, apart := false, narrowed := true }
def FnExactSetWordUptoSaid : Prop := fnExactSetWordUptoRow.holds Try.pinned (OpenSpec.upto fnExactSetWordSpec)

/-- 'laws.FnExactStableDivision', WHERE WHAT IT READS IS OF BULK AT MOST 1048576: true; the input reads as it did. -/
def fnExactStableDivisionUptoRow : OpenClaim := { program := "ytoioebhalpcipaa", sum := "46511d7a7e457741c578dd2dc562b9054e6da3ee16d393644e020faa932b7e35", func := "loop.example/g01102/laws.FnExactStableDivision", spec := "fnExactStableDivision", unfollowed := true, recurses := true, apart := false, narrowed := true }
def FnExactStableDivisionUptoSaid : Prop := fnExactStableDivisionUptoRow.holds Try.pinned (OpenSpec.upto fnExactStableDivisionSpec)

/-- 'laws.FnExactFirstFilling', WHERE WHAT IT READS IS OF BULK AT MOST 1048576: true; the input reads as it did. -/
def fnExactFirstFillingUptoRow : OpenClaim := { program := "ytoioebhalpcipaa", sum := "46511d7a7e457741c578dd2dc562b9054e6da3ee16d393644e020faa932b7e35", func := "loop.example/g01102/laws.FnExactFirstFilling", spec := "fnExactFirstFilling", unfollowed := true, recurses := true, apart := false, narrowed := true }
def FnExactFirstFillingUptoSaid : Prop := fnExactFirstFillingUptoRow.holds Try.pinned (OpenSpec.upto fnExactFirstFillingSpec)

/-- 'laws.FnExactQuickestColouring', WHERE WHAT IT READS IS OF BULK AT MOST 1048576: true; the input reads as it did. -/
def fnExactQuickestColouringUptoRow : OpenClaim := { program := "ytoioebhalpcipaa", sum := "46511d7a7e457741c578dd2dc562b9054e6da3ee16d393644e020faa932b7e35", func := "loop.example/g01102/laws.FnExactQuickestColouring", spec := "fnExactQuickestColouring", unfollowed := true, recurses := true, apart := false, narrowed := true }
def FnExactQuickestColouringUptoSaid : Prop := fnExactQuickestColouringUptoRow.holds Try.pinned (OpenSpec.upto fnExactQuickestColouringSpec)

/-- 'laws.FnExactRoadsOf', WHERE WHAT IT READS IS OF BULK AT MOST 1048576: true; the input reads as it did. -/
def fnExactRoadsOfUptoRow : OpenClaim := { program := "ytoioebhalpcipaa", sum := "46511d7a7e457741c578dd2dc562b9054e6da3ee16d393644e020faa932b7e35", func := "loop.example/g01102/laws.FnExactRoadsOf", spec := "fnExactRoadsOf", unfollowed := true, recurses := true, apart := false, narrowed := true }
def FnExactRoadsOfUptoSaid : Prop := fnExactRoadsOfUptoRow.holds Try.pinned (OpenSpec.upto fnExactRoadsOfSpec)

/-- 'laws.FnResetColourings', WHERE WHAT IT READS IS OF BULK AT MOST 1048576: true; the input reads as it did. -/
def fnResetColouringsUptoRow : OpenClaim := { program := "ytoioebhalpcipaa", sum := "46511d7a7e457741c578dd2dc562b9054e6da3ee16d393644e020faa932b7e35", func := "loop.example/g01102/laws.FnResetColourings", spec := "fnResetColourings", unfollowed := true, recurses := true, apart := false, narrowed := true }
def FnResetColouringsUptoSaid : Prop := fnResetColouringsUptoRow.holds Try.pinned (OpenSpec.upto fnResetColouringsSpec)

/-- 'laws.FnExactIsColouring', WHERE WHAT IT READS IS OF BULK AT MOST 1048576: true; the input reads as it did. -/
def fnExactIsColouringUptoRow : OpenClaim := { program := "ytoioebhalpcipaa", sum := "46511d7a7e457741c578dd2dc562b9054e6da3ee16d393644e020faa932b7e35", func := "loop.example/g01102/laws.FnExactIsColouring", spec := "fnExactIsColouring", unfollowed := true, recurses := true, apart := false, narrowed := true }
def FnExactIsColouringUptoSaid : Prop := fnExactIsColouringUptoRow.holds Try.pinned (OpenSpec.upto fnExactIsColouringSpec)

/-- 'laws.FnExactContractRoads', WHERE WHAT IT READS IS OF BULK AT MOST 1048576: true; the input reads as it did. -/
def fnExactContractRoadsUptoRow : OpenClaim := { program := "ytoioebhalpcipaa", sum := "46511d7a7e457741c578dd2dc562b9054e6da3ee16d393644e020faa932b7e35", func := "loop.example/g01102/laws.FnExactContractRoads", spec := "fnExactContractRoads", unfollowed := true, recurses := true, apart := false, narrowed := true }
def FnExactContractRoadsUptoSaid : Prop := fnExactContractRoadsUptoRow.holds Try.pinned (OpenSpec.upto fnExactContractRoadsSpec)

/-- 'laws.FnExactReachedSets', WHERE WHAT IT READS IS OF BULK AT MOST 1048576: true; the input reads as it did. -/
def fnExactReachedSetsUptoRow : OpenClaim := { program := "ytoioebhalpcipaa", sum := "46511d7a7e457741c578dd2dc562b9054e6da3ee16d393644e020faa932b7e35", func := "loop.example/g01102/laws.FnExactReachedSets", spec := "fnExactReachedSets", unfollowed := true, recurses := true, apart := false, narrowed := true }
def FnExactReachedSetsUptoSaid : Prop := fnExactReachedSetsUptoRow.holds Try.pinned (OpenSpec.upto fnExactReachedSetsSpec)

/-- 'laws.FnExactIsJoined', WHERE WHAT IT READS IS OF BULK AT MOST 1048576: true; the input reads as it did. -/
def fnExactIsJoinedUptoRow : OpenClaim := { program := "ytoioebhalpcipaa", sum := "46511d7a7e457741c578dd2dc562b9054e6da3ee16d393644e020faa932b7e35", func := "loop.example/g01102/laws.FnExactIsJoined", spec := "fnExactIsJoined", unfollowed := true, recurses := true, apart := false, narrowed := true }
def FnExactIsJoinedUptoSaid : Prop := fnExactIsJoinedUptoRow.holds Try.pinned (OpenSpec.upto fnExactIsJoinedSpec)

end Rows
end Go.Proofs.Ytoioebhalpcipaa
