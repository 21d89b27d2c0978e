/-
  No cell of these rows narrows 'for every input' (looked for: loops, veiled, ifaces, maps, wideKeys, modest, calm, conditions, laid).
  DERIVED. THE GIVEN ROWS OF THIS SEAT. 12 by the template 'for every input the law returns true; each argument reads behind the call as it read before'; 0 by the template 'total and deterministic' (their statements: YtjchopnglcjnnaaTotals.lean).
  GIVEN WITH THE SEED: the statements are not yours to turn. If you find one false, say at which input.
  Laid BY PROGRAM, IN A SANDBOX (cutbox-rows.mjs): the forced cells as the released guide's own fill.sh prints them over the translation 410f2c06f7088995… (all of the seat's roots in one cut). By AI agents, Wed Nov 11 2026. No macro, syntax, notation, axiom, sorry.
-/
import Derived.Test.YtjchopnglcjnnaaChecked
import GoSem.Claim
import GoSem.ClaimJoined
import GoSem.ClaimMapViews
import Derived.JoinedTies
import Derived.KernelRfl
namespace Go.Proofs.Ytjchopnglcjnnaa
/- THE CELL 'sum', in the pinned program and in every row, IS THE sha256 OF THE DUMP (.gsa) THAT YtjchopnglcjnnaaProg.lean LOADS. Nothing in Lean hashes anything: it is a label: what it is worth is what the hold of that sum in a sandbox is worth. -/
noncomputable def Try.pinned : Pinned := { name := "ytjchopnglcjnnaa", sum := "410f2c06f70889951763d238508d3ea8f40f3b64e8ad706ad1bd39ccf207a1a0", checked := Try.checked }
namespace Rows
def none {H : Type} : Left H := { results := [], args := [] }

/-- 'laws.FnExactIsCareful': WHATEVER THE INPUT: true; the input reads as it did. -/
def fnExactIsCarefulSpec : ChangeSpec := { name := "fnExactIsCareful", fn := fun _ => fun
  | [d1, d2] => { results := [.lit (.bool true)], args := [d1, d2] }
  | _ => none }
def fnExactIsCarefulRow : OpenClaim := { program := "ytjchopnglcjnnaa", sum := "410f2c06f70889951763d238508d3ea8f40f3b64e8ad706ad1bd39ccf207a1a0", func := "loop.example/g01102/laws.FnExactIsCareful", spec := "fnExactIsCareful", unfollowed := true, recurses := true, apart := false }
def FnExactIsCarefulSaid : Prop := fnExactIsCarefulRow.holds Try.pinned (OpenSpec.ofChange fnExactIsCarefulSpec)

/-- ITS FALSE NEIGHBOUR: 'it returns false'. Refute it at one input. -/
def fnExactIsCarefulWrong : ChangeSpec := { name := "fnExactIsCareful", fn := fun _ => fun
  | [d1, d2] => { results := [.lit (.bool false)], args := [d1, d2] }
  | _ => none }
def FnExactIsCarefulWrongFalsely : Prop := fnExactIsCarefulRow.holds Try.pinned (OpenSpec.ofChange fnExactIsCarefulWrong)

/-- 'laws.FnExactSwapColours': WHATEVER THE INPUT: true; the input reads as it did. -/
def fnExactSwapColoursSpec : ChangeSpec := { name := "fnExactSwapColours", fn := fun _ => fun
  | [d1, d2, d3, d4] => { results := [.lit (.bool true)], args := [d1, d2, d3, d4] }
  | _ => none }
def fnExactSwapColoursRow : OpenClaim := { program := "ytjchopnglcjnnaa", sum := "410f2c06f70889951763d238508d3ea8f40f3b64e8ad706ad1bd39ccf207a1a0", func := "loop.example/g01102/laws.FnExactSwapColours", spec := "fnExactSwapColours", unfollowed := true, recurses := true, apart := false }
def FnExactSwapColoursSaid : Prop := fnExactSwapColoursRow.holds Try.pinned (OpenSpec.ofChange fnExactSwapColoursSpec)

/-- ITS FALSE NEIGHBOUR: 'it returns false'. Refute it at one input. -/
def fnExactSwapColoursWrong : ChangeSpec := { name := "fnExactSwapColours", fn := fun _ => fun
  | [d1, d2, d3, d4] => { results := [.lit (.bool false)], args := [d1, d2, d3, d4] }
  | _ => none }
def FnExactSwapColoursWrongFalsely : Prop := fnExactSwapColoursRow.holds Try.pinned (OpenSpec.ofChange fnExactSwapColoursWrong)

/-- 'laws.FnExactKernelOf': WHATEVER THE INPUT: true; the input reads as it did. -/
def fnExactKernelOfSpec : ChangeSpec := { name := "fnExactKernelOf", fn := fun _ => fun
  | [d1, d2] => { results := [.lit (.bool true)], args := [d1, d2] }
  | _ => none }
def fnExactKernelOfRow : OpenClaim := { program := "ytjchopnglcjnnaa", sum := "410f2c06f70889951763d238508d3ea8f40f3b64e8ad706ad1bd39ccf207a1a0", func := "loop.example/g01102/laws.FnExactKernelOf", spec := "fnExactKernelOf", unfollowed := true, recurses := true, apart := false }
def FnExactKernelOfSaid : Prop := fnExactKernelOfRow.holds Try.pinned (OpenSpec.ofChange fnExactKernelOfSpec)

/-- ITS FALSE NEIGHBOUR: 'it returns false'. Refute it at one input. -/
def fnExactKernelOfWrong : ChangeSpec := { name := "fnExactKernelOf", fn := fun _ => fun
  | [d1, d2] => { results := [.lit (.bool false)], args := [d1, d2] }
  | _ => none }
def FnExactKernelOfWrongFalsely : Prop := fnExactKernelOfRow.holds Try.pinned (OpenSpec.ofChange fnExactKernelOfWrong)

/-- 'laws.FnExactPreimageOf': WHATEVER THE INPUT: true; the input reads as it did. -/
def fnExactPreimageOfSpec : ChangeSpec := { name := "fnExactPreimageOf", fn := fun _ => fun
  | [d1, d2, d3] => { results := [.lit (.bool true)], args := [d1, d2, d3] }
  | _ => none }
def fnExactPreimageOfRow : OpenClaim := { program := "ytjchopnglcjnnaa", sum := "410f2c06f70889951763d238508d3ea8f40f3b64e8ad706ad1bd39ccf207a1a0", func := "loop.example/g01102/laws.FnExactPreimageOf", spec := "fnExactPreimageOf", unfollowed := true, recurses := true, apart := false }
def FnExactPreimageOfSaid : Prop := fnExactPreimageOfRow.holds Try.pinned (OpenSpec.ofChange fnExactPreimageOfSpec)

/-- ITS FALSE NEIGHBOUR: 'it returns false'. Refute it at one input. -/
def fnExactPreimageOfWrong : ChangeSpec := { name := "fnExactPreimageOf", fn := fun _ => fun
  | [d1, d2, d3] => { results := [.lit (.bool false)], args := [d1, d2, d3] }
  | _ => none }
def FnExactPreimageOfWrongFalsely : Prop := fnExactPreimageOfRow.holds Try.pinned (OpenSpec.ofChange fnExactPreimageOfWrong)

/-- 'laws.FnExactCountResets': WHATEVER THE INPUT: true; the input reads as it did. -/
def fnExactCountResetsSpec : ChangeSpec := { name := "fnExactCountResets", fn := fun _ => fun
  | [d1, d2] => { results := [.lit (.bool true)], args := [d1, d2] }
  | _ => none }
def fnExactCountResetsRow : OpenClaim := { program := "ytjchopnglcjnnaa", sum := "410f2c06f70889951763d238508d3ea8f40f3b64e8ad706ad1bd39ccf207a1a0", func := "loop.example/g01102/laws.FnExactCountResets", spec := "fnExactCountResets", unfollowed := true, recurses := true, apart := false }
def FnExactCountResetsSaid : Prop := fnExactCountResetsRow.holds Try.pinned (OpenSpec.ofChange fnExactCountResetsSpec)

/-- ITS FALSE NEIGHBOUR: 'it returns false'. Refute it at one input. -/
def fnExactCountResetsWrong : ChangeSpec := { name := "fnExactCountResets", fn := fun _ => fun
  | [d1, d2] => { results := [.lit (.bool false)], args := [d1, d2] }
  | _ => none }
def FnExactCountResetsWrongFalsely : Prop := fnExactCountResetsRow.holds Try.pinned (OpenSpec.ofChange fnExactCountResetsWrong)

/-- 'laws.FnExactOutputsOf': WHATEVER THE INPUT: true; the input reads as it did. -/
def fnExactOutputsOfSpec : ChangeSpec := { name := "fnExactOutputsOf", fn := fun _ => fun
  | [d1, d2, d3] => { results := [.lit (.bool true)], args := [d1, d2, d3] }
  | _ => none }
def fnExactOutputsOfRow : OpenClaim := { program := "ytjchopnglcjnnaa", sum := "410f2c06f70889951763d238508d3ea8f40f3b64e8ad706ad1bd39ccf207a1a0", func := "loop.example/g01102/laws.FnExactOutputsOf", spec := "fnExactOutputsOf", unfollowed := true, recurses := true, apart := false }
def FnExactOutputsOfSaid : Prop := fnExactOutputsOfRow.holds Try.pinned (OpenSpec.ofChange fnExactOutputsOfSpec)

/-- ITS FALSE NEIGHBOUR: 'it returns false'. Refute it at one input. -/
def fnExactOutputsOfWrong : ChangeSpec := { name := "fnExactOutputsOf", fn := fun _ => fun
  | [d1, d2, d3] => { results := [.lit (.bool false)], args := [d1, d2, d3] }
  | _ => none }
def FnExactOutputsOfWrongFalsely : Prop := fnExactOutputsOfRow.holds Try.pinned (OpenSpec.ofChange fnExactOutputsOfWrong)

/-- 'laws.FnExactLeastCongruence': WHATEVER THE INPUT: true; the input reads as it did. -/
def fnExactLeastCongruenceSpec : ChangeSpec := { name := "fnExactLeastCongruence", fn := fun _ => fun
  | [d1, d2, d3] => { results := [.lit (.bool true)], args := [d1, d2, d3] }
  | _ => none }
def fnExactLeastCongruenceRow : OpenClaim := { program := "ytjchopnglcjnnaa", sum := "410f2c06f70889951763d238508d3ea8f40f3b64e8ad706ad1bd39ccf207a1a0", func := "loop.example/g01102/laws.FnExactLeastCongruence", spec := "fnExactLeastCongruence", unfollowed := true, recurses := true, apart := false }
def FnExactLeastCongruenceSaid : Prop := fnExactLeastCongruenceRow.holds Try.pinned (OpenSpec.ofChange fnExactLeastCongruenceSpec)

/-- ITS FALSE NEIGHBOUR: 'it returns false'. Refute it at one input. -/
def fnExactLeastCongruenceWrong : ChangeSpec := { name := "fnExactLeastCongruence", fn := fun _ => fun
  | [d1, d2, d3] => { results := [.lit (.bool false)], args := [d1, d2, d3] }
  | _ => none }
def FnExactLeastCongruenceWrongFalsely : Prop := fnExactLeastCongruenceRow.holds Try.pinned (OpenSpec.ofChange fnExactLeastCongruenceWrong)

/-- 'laws.FnFiner': WHATEVER THE INPUT: true; the input reads as it did. -/
def fnFinerSpec : ChangeSpec := { name := "fnFiner", fn := fun _ => fun
  | [d1, d2] => { results := [.lit (.bool true)], args := [d1, d2] }
  | _ => none }
def fnFinerRow : OpenClaim := { program := "ytjchopnglcjnnaa", sum := "410f2c06f70889951763d238508d3ea8f40f3b64e8ad706ad1bd39ccf207a1a0", func := "loop.example/g01102/laws.FnFiner", spec := "fnFiner", unfollowed := true, recurses := true, apart := false }
def FnFinerSaid : Prop := fnFinerRow.holds Try.pinned (OpenSpec.ofChange fnFinerSpec)

/-- ITS FALSE NEIGHBOUR: 'it returns false'. Refute it at one input. -/
def fnFinerWrong : ChangeSpec := { name := "fnFiner", fn := fun _ => fun
  | [d1, d2] => { results := [.lit (.bool false)], args := [d1, d2] }
  | _ => none }
def FnFinerWrongFalsely : Prop := fnFinerRow.holds Try.pinned (OpenSpec.ofChange fnFinerWrong)

/-- 'laws.FnExactRankOfSet': WHATEVER THE INPUT: true; the input reads as it did. -/
def fnExactRankOfSetSpec : ChangeSpec := { name := "fnExactRankOfSet", fn := fun _ => fun
  | [d1, d2] => { results := [.lit (.bool true)], args := [d1, d2] }
  | _ => none }
def fnExactRankOfSetRow : OpenClaim := { program := "ytjchopnglcjnnaa", sum := "410f2c06f70889951763d238508d3ea8f40f3b64e8ad706ad1bd39ccf207a1a0", func := "loop.example/g01102/laws.FnExactRankOfSet", spec := "fnExactRankOfSet", unfollowed := true, recurses := true, apart := false }
def FnExactRankOfSetSaid : Prop := fnExactRankOfSetRow.holds Try.pinned (OpenSpec.ofChange fnExactRankOfSetSpec)

/-- ITS FALSE NEIGHBOUR: 'it returns false'. Refute it at one input. -/
def fnExactRankOfSetWrong : ChangeSpec := { name := "fnExactRankOfSet", fn := fun _ => fun
  | [d1, d2] => { results := [.lit (.bool false)], args := [d1, d2] }
  | _ => none }
def FnExactRankOfSetWrongFalsely : Prop := fnExactRankOfSetRow.holds Try.pinned (OpenSpec.ofChange fnExactRankOfSetWrong)

/-- 'laws.FnExactIsHoming': WHATEVER THE INPUT: true; the input reads as it did. -/
def fnExactIsHomingSpec : ChangeSpec := { name := "fnExactIsHoming", fn := fun _ => fun
  | [d1, d2] => { results := [.lit (.bool true)], args := [d1, d2] }
  | _ => none }
def fnExactIsHomingRow : OpenClaim := { program := "ytjchopnglcjnnaa", sum := "410f2c06f70889951763d238508d3ea8f40f3b64e8ad706ad1bd39ccf207a1a0", func := "loop.example/g01102/laws.FnExactIsHoming", spec := "fnExactIsHoming", unfollowed := true, recurses := true, apart := false }
def FnExactIsHomingSaid : Prop := fnExactIsHomingRow.holds Try.pinned (OpenSpec.ofChange fnExactIsHomingSpec)

/-- ITS FALSE NEIGHBOUR: 'it returns false'. Refute it at one input. -/
def fnExactIsHomingWrong : ChangeSpec := { name := "fnExactIsHoming", fn := fun _ => fun
  | [d1, d2] => { results := [.lit (.bool false)], args := [d1, d2] }
  | _ => none }
def FnExactIsHomingWrongFalsely : Prop := fnExactIsHomingRow.holds Try.pinned (OpenSpec.ofChange fnExactIsHomingWrong)

/-- 'laws.FnExactIsTelling': WHATEVER THE INPUT: true; the input reads as it did. -/
def fnExactIsTellingSpec : ChangeSpec := { name := "fnExactIsTelling", fn := fun _ => fun
  | [d1, d2] => { results := [.lit (.bool true)], args := [d1, d2] }
  | _ => none }
def fnExactIsTellingRow : OpenClaim := { program := "ytjchopnglcjnnaa", sum := "410f2c06f70889951763d238508d3ea8f40f3b64e8ad706ad1bd39ccf207a1a0", func := "loop.example/g01102/laws.FnExactIsTelling", spec := "fnExactIsTelling", unfollowed := true, recurses := true, apart := false }
def FnExactIsTellingSaid : Prop := fnExactIsTellingRow.holds Try.pinned (OpenSpec.ofChange fnExactIsTellingSpec)

/-- ITS FALSE NEIGHBOUR: 'it returns false'. Refute it at one input. -/
def fnExactIsTellingWrong : ChangeSpec := { name := "fnExactIsTelling", fn := fun _ => fun
  | [d1, d2] => { results := [.lit (.bool false)], args := [d1, d2] }
  | _ => none }
def FnExactIsTellingWrongFalsely : Prop := fnExactIsTellingRow.holds Try.pinned (OpenSpec.ofChange fnExactIsTellingWrong)

/-- 'laws.FnExactForgetOutputs': WHATEVER THE INPUT: true; the input reads as it did. -/
def fnExactForgetOutputsSpec : ChangeSpec := { name := "fnExactForgetOutputs", fn := fun _ => fun
  | [d] => { results := [.lit (.bool true)], args := [d] }
  | _ => none }
def fnExactForgetOutputsRow : OpenClaim := { program := "ytjchopnglcjnnaa", sum := "410f2c06f70889951763d238508d3ea8f40f3b64e8ad706ad1bd39ccf207a1a0", func := "loop.example/g01102/laws.FnExactForgetOutputs", spec := "fnExactForgetOutputs", unfollowed := true, recurses := true, apart := false }
def FnExactForgetOutputsSaid : Prop := fnExactForgetOutputsRow.holds Try.pinned (OpenSpec.ofChange fnExactForgetOutputsSpec)

/-- ITS FALSE NEIGHBOUR: 'it returns false'. Refute it at one input. -/
def fnExactForgetOutputsWrong : ChangeSpec := { name := "fnExactForgetOutputs", fn := fun _ => fun
  | [d] => { results := [.lit (.bool false)], args := [d] }
  | _ => none }
def FnExactForgetOutputsWrongFalsely : Prop := fnExactForgetOutputsRow.holds Try.pinned (OpenSpec.ofChange fnExactForgetOutputsWrong)

/- THE SECOND FORM. 'bulk': how many values and letters a reading holds, each counted each time it is reached (what is shared counts as often as it is met; a slice's spare places count too). A statement '..UptoSaid' is the law's where the arguments, and the package variables that the reading takes, are together of bulk at most 1048576: NARROWER than '..Said'. Prove '..Said' where nothing that the law and all that it calls make is longer than what came in: it says more and counts as full. Else prove '..UptoSaid'. A law counts once. -/
mutual
def uptoBulk {H : Type} : DataW H → Nat
  | .lit (.string bytes) => bytes.length + 1
  | .lit _ => 1
  | .nil => 1
  | .ptr d => uptoBulk d + 1
  | .slice elems spare => uptoBulkAll elems + uptoBulkAll spare + 1
  | .agg parts => uptoBulkAll parts + 1
  | .iface _ d => uptoBulk d + 1
  | .map entries => uptoBulkEntries entries + 1
  | .held _ => 1
def uptoBulkAll {H : Type} : List (DataW H) → Nat
  | [] => 0
  | d :: r => uptoBulk d + uptoBulkAll r
def uptoBulkEntries {H : Type} : List (Lit × DataW H) → Nat
  | [] => 0
  | x :: r => uptoBulkEntry x + uptoBulkEntries r
def uptoBulkEntry {H : Type} : Lit × DataW H → Nat
  | (.string bytes, d) => bytes.length + uptoBulk d + 1
  | (_, d) => uptoBulk d + 1
 end
def uptoSmall : (H : Type) → List (DataW H) → Bool := fun _ ds => decide (uptoBulkAll ds ≤ 1048576)
def OpenSpec.upto (s : _root_.Go.ChangeSpec) : _root_.Go.OpenSpec := { _root_.Go.OpenSpec.ofChange s with cond := some uptoSmall }

/-- 'laws.FnExactIsCareful', WHERE WHAT IT READS IS OF BULK AT MOST 1048576: true; the input reads as it did. -/
def fnExactIsCarefulUptoRow : OpenClaim := { program := "ytjchopnglcjnnaa", sum := "410f2c06f70889951763d238508d3ea8f40f3b64e8ad706ad1bd39ccf207a1a0", func := "loop.example/g01102/laws.FnExactIsCareful", spec := "fnExactIsCareful", unfollowed := true, recurses := true, apart := false, narrowed := true }
def FnExactIsCarefulUptoSaid : Prop := fnExactIsCarefulUptoRow.holds Try.pinned (OpenSpec.upto fnExactIsCarefulSpec)

/-- 'laws.FnExactSwapColours', WHERE WHAT IT READS IS OF BULK AT MOST 1048576: true; the input reads as it did. -/
def fnExactSwapColoursUptoRow : OpenClaim := { program := "ytjchopnglcjnnaa", sum := "410f2c06f70889951763d238508d3ea8f40f3b64e8ad706ad1bd39ccf207a1a0", func := "loop.example/g01102/laws.FnExactSwapColours", spec := "fnExactSwapColours", unfollowed := true, recurses := true, apart := false, narrowed := true }
def FnExactSwapColoursUptoSaid : Prop := fnExactSwapColoursUptoRow.holds Try.pinned (OpenSpec.upto fnExactSwapColoursSpec)

/-- 'laws.FnExactKernelOf', WHERE WHAT IT READS IS OF BULK AT MOST 1048576: true; the input reads as it did. -/
def fnExactKernelOfUptoRow : OpenClaim := { program := "ytjchopnglcjnnaa", sum := "410f2c06f70889951763d238508d3ea8f40f3b64e8ad706ad1bd39ccf207a1a0", func := "loop.example/g01102/laws.FnExactKernelOf", spec := "fnExactKernelOf", unfollowed := true, recurses := true, apart := false, narrowed := true }
def FnExactKernelOfUptoSaid : Prop := fnExactKernelOfUptoRow.holds Try.pinned (OpenSpec.upto fnExactKernelOfSpec)

/-- 'laws.FnExactPreimageOf', WHERE WHAT IT READS IS OF BULK AT MOST 1048576: true; the input reads as it did. -/
def fnExactPreimageOfUptoRow : OpenClaim := { program := "ytjchopnglcjnnaa", sum := "410f2c06f70889951763d238508d3ea8f40f3b64e8ad706ad1bd39ccf207a1a0", func := "loop.example/g01102/laws.FnExactPreimageOf", spec := "fnExactPreimageOf", unfollowed := true, recurses := true, apart := false, narrowed := true }
def FnExactPreimageOfUptoSaid : Prop := fnExactPreimageOfUptoRow.holds Try.pinned (OpenSpec.upto fnExactPreimageOfSpec)

/-- 'laws.FnExactCountResets', WHERE WHAT IT READS IS OF BULK AT MOST 1048576: true; the input reads as it did. -/
def fnExactCountResetsUptoRow : OpenClaim := { program := "ytjchopnglcjnnaa", sum := "410f2c06f70889951763d238508d3ea8f40f3b64e8ad706ad1bd39ccf207a1a0", func := "loop.example/g01102/laws.FnExactCountResets", spec := "fnExactCountResets", unfollowed := true, recurses := true, apart := false, narrowed := true }
def FnExactCountResetsUptoSaid : Prop := fnExactCountResetsUptoRow.holds Try.pinned (OpenSpec.upto fnExactCountResetsSpec)

/-- 'laws.FnExactOutputsOf', WHERE WHAT IT READS IS OF BULK AT MOST 1048576: true; the input reads as it did. -/
def fnExactOutputsOfUptoRow : OpenClaim := { program := "ytjchopnglcjnnaa", sum := "410f2c06f70889951763d238508d3ea8f40f3b64e8ad706ad1bd39ccf207a1a0", func := "loop.example/g01102/laws.FnExactOutputsOf", spec := "fnExactOutputsOf", unfollowed := true, recurses := true, apart := false, narrowed := true }
def FnExactOutputsOfUptoSaid : Prop := fnExactOutputsOfUptoRow.holds Try.pinned (OpenSpec.upto fnExactOutputsOfSpec)

/-- 'laws.FnExactLeastCongruence', WHERE WHAT IT READS IS OF BULK AT MOST 1048576: true; the input reads as it did. -/
def fnExactLeastCongruenceUptoRow : OpenClaim := { program := "ytjchopnglcjnnaa", sum := "410f2c06f70889951763d238508d3ea8f40f3b64e8ad706ad1bd39ccf207a1a0", func := "loop.example/g01102/laws.FnExactLeastCongruence", spec := "fnExactLeastCongruence", unfollowed := true, recurses := true, apart := false, narrowed := true }
def FnExactLeastCongruenceUptoSaid : Prop := fnExactLeastCongruenceUptoRow.holds Try.pinned (OpenSpec.upto fnExactLeastCongruenceSpec)

/-- 'laws.FnFiner', WHERE WHAT IT READS IS OF BULK AT MOST 1048576: true; the input reads as it did. -/
def fnFinerUptoRow : OpenClaim := { program := "ytjchopnglcjnnaa", sum := "410f2c06f70889951763d238508d3ea8f40f3b64e8ad706ad1bd39ccf207a1a0", func := "loop.example/g01102/laws.FnFiner", spec := "fnFiner", unfollowed := true, recurses := true, apart := false, narrowed := true }
def FnFinerUptoSaid : Prop := fnFinerUptoRow.holds Try.pinned (OpenSpec.upto fnFinerSpec)

/-- 'laws.FnExactRankOfSet', WHERE WHAT IT READS IS OF BULK AT MOST 1048576: true; the input reads as it did. -/
def fnExactRankOfSetUptoRow : OpenClaim := { program := "ytjchopnglcjnnaa", sum := "410f2c06f70889951763d238508d3ea8f40f3b64e8ad706ad1bd39ccf207a1a0", func := "loop.example/g01102/laws.FnExactRankOfSet", spec := "fnExactRankOfSet", unfollowed := true, recurses := true, apart := false, narrowed := true }
def FnExactRankOfSetUptoSaid : Prop := fnExactRankOfSetUptoRow.holds Try.pinned (OpenSpec.upto fnExactRankOfSetSpec)

/-- 'laws.FnExactIsHoming', WHERE WHAT IT READS IS OF BULK AT MOST 1048576: true; the input reads as it did. -/
def fnExactIsHomingUptoRow : OpenClaim := { program := "ytjchopnglcjnnaa", sum := "410f2c06f70889951763d238508d3ea8f40f3b64e8ad706ad1bd39ccf207a1a0", func := "loop.example/g01102/laws.FnExactIsHoming", spec := "fnExactIsHoming", unfollowed := true, recurses := true, apart := false, narrowed := true }
def FnExactIsHomingUptoSaid : Prop := fnExactIsHomingUptoRow.holds Try.pinned (OpenSpec.upto fnExactIsHomingSpec)

/-- 'laws.FnExactIsTelling', WHERE WHAT IT READS IS OF BULK AT MOST 1048576: true; the input reads as it did. -/
def fnExactIsTellingUptoRow : OpenClaim := { program := "ytjchopnglcjnnaa", sum := "410f2c06f70889951763d238508d3ea8f40f3b64e8ad706ad1bd39ccf207a1a0", func := "loop.example/g01102/laws.FnExactIsTelling", spec := "fnExactIsTelling", unfollowed := true, recurses := true, apart := false, narrowed := true }
def FnExactIsTellingUptoSaid : Prop := fnExactIsTellingUptoRow.holds Try.pinned (OpenSpec.upto fnExactIsTellingSpec)

/-- 'laws.FnExactForgetOutputs', WHERE WHAT IT READS IS OF BULK AT MOST 1048576: true; the input reads as it did. -/
def fnExactForgetOutputsUptoRow : OpenClaim := { program := "ytjchopnglcjnnaa", sum := "410f2c06f70889951763d238508d3ea8f40f3b64e8ad706ad1bd39ccf207a1a0", func := "loop.example/g01102/laws.FnExactForgetOutputs", spec := "fnExactForgetOutputs", unfollowed := true, recurses := true, apart := false, narrowed := true }
def FnExactForgetOutputsUptoSaid : Prop := fnExactForgetOutputsUptoRow.holds Try.pinned (OpenSpec.upto fnExactForgetOutputsSpec)

end Rows
end Go.Proofs.Ytjchopnglcjnnaa
