/-
  No cell of these rows narrows 'for every input' (looked for: loops, veiled, ifaces, maps, wideKeys, modest, calm, conditions, laid).
  DERIVED. THE GIVEN ROWS OF THIS SEAT. 12 by the template 'for every input the law returns true; each argument reads behind the call as it read before'; 0 by the template 'total and deterministic' (their statements: YtaaaeekdfmfooaaTotals.lean).
  GIVEN WITH THE SEED: the statements are not yours to turn. If you find one false, say at which input.
  Laid BY PROGRAM, IN A SANDBOX (cutbox-rows.mjs): the forced cells as the released guide's own fill.sh prints them over the translation 64fe037b0e7bd45b… (all of the seat's roots in one cut). By AI agents, Wed Nov 11 2026. No macro, syntax, notation, axiom, sorry.
-/
import Derived.Test.YtaaaeekdfmfooaaChecked
import GoSem.Claim
import GoSem.ClaimJoined
import GoSem.ClaimMapViews
import Derived.JoinedTies
import Derived.KernelRfl
namespace Go.Proofs.Ytaaaeekdfmfooaa
/- THE CELL 'sum', in the pinned program and in every row, IS THE sha256 OF THE DUMP (.gsa) THAT YtaaaeekdfmfooaaProg.lean LOADS. Nothing in Lean hashes anything: it is a label: what it is worth is what the hold of that sum in a sandbox is worth. -/
noncomputable def Try.pinned : Pinned := { name := "ytaaaeekdfmfooaa", sum := "64fe037b0e7bd45b3f2b007509cdc738e0713b07fa464c2f3b92e5b3a825a7d2", checked := Try.checked }
namespace Rows
def none {H : Type} : Left H := { results := [], args := [] }

/-- 'laws.FnExactRestrictTo': WHATEVER THE INPUT: true; the input reads as it did. -/
def fnExactRestrictToSpec : ChangeSpec := { name := "fnExactRestrictTo", fn := fun _ => fun
  | [d1, d2] => { results := [.lit (.bool true)], args := [d1, d2] }
  | _ => none }
def fnExactRestrictToRow : OpenClaim := { program := "ytaaaeekdfmfooaa", sum := "64fe037b0e7bd45b3f2b007509cdc738e0713b07fa464c2f3b92e5b3a825a7d2", func := "loop.example/g01102/laws.FnExactRestrictTo", spec := "fnExactRestrictTo", unfollowed := true, recurses := true, plainKeys := false, apart := false }
def FnExactRestrictToSaid : Prop := fnExactRestrictToRow.holds Try.pinned (OpenSpec.ofChange fnExactRestrictToSpec)

/-- ITS FALSE NEIGHBOUR: 'it returns false'. Refute it at one input. -/
def fnExactRestrictToWrong : ChangeSpec := { name := "fnExactRestrictTo", fn := fun _ => fun
  | [d1, d2] => { results := [.lit (.bool false)], args := [d1, d2] }
  | _ => none }
def FnExactRestrictToWrongFalsely : Prop := fnExactRestrictToRow.holds Try.pinned (OpenSpec.ofChange fnExactRestrictToWrong)

/-- 'laws.FnExactCarefulImage': WHATEVER THE INPUT: true; the input reads as it did. -/
def fnExactCarefulImageSpec : ChangeSpec := { name := "fnExactCarefulImage", fn := fun _ => fun
  | [d1, d2, d3] => { results := [.lit (.bool true)], args := [d1, d2, d3] }
  | _ => none }
def fnExactCarefulImageRow : OpenClaim := { program := "ytaaaeekdfmfooaa", sum := "64fe037b0e7bd45b3f2b007509cdc738e0713b07fa464c2f3b92e5b3a825a7d2", func := "loop.example/g01102/laws.FnExactCarefulImage", spec := "fnExactCarefulImage", unfollowed := true, recurses := true, plainKeys := false, apart := false }
def FnExactCarefulImageSaid : Prop := fnExactCarefulImageRow.holds Try.pinned (OpenSpec.ofChange fnExactCarefulImageSpec)

/-- ITS FALSE NEIGHBOUR: 'it returns false'. Refute it at one input. -/
def fnExactCarefulImageWrong : ChangeSpec := { name := "fnExactCarefulImage", fn := fun _ => fun
  | [d1, d2, d3] => { results := [.lit (.bool false)], args := [d1, d2, d3] }
  | _ => none }
def FnExactCarefulImageWrongFalsely : Prop := fnExactCarefulImageRow.holds Try.pinned (OpenSpec.ofChange fnExactCarefulImageWrong)

/-- 'laws.FnExactMergingWord': WHATEVER THE INPUT: true; the input reads as it did. -/
def fnExactMergingWordSpec : ChangeSpec := { name := "fnExactMergingWord", fn := fun _ => fun
  | [d1, d2, d3] => { results := [.lit (.bool true)], args := [d1, d2, d3] }
  | _ => none }
def fnExactMergingWordRow : OpenClaim := { program := "ytaaaeekdfmfooaa", sum := "64fe037b0e7bd45b3f2b007509cdc738e0713b07fa464c2f3b92e5b3a825a7d2", func := "loop.example/g01102/laws.FnExactMergingWord", spec := "fnExactMergingWord", unfollowed := true, recurses := true, plainKeys := false, apart := false }
def FnExactMergingWordSaid : Prop := fnExactMergingWordRow.holds Try.pinned (OpenSpec.ofChange fnExactMergingWordSpec)

/-- ITS FALSE NEIGHBOUR: 'it returns false'. Refute it at one input. -/
def fnExactMergingWordWrong : ChangeSpec := { name := "fnExactMergingWord", fn := fun _ => fun
  | [d1, d2, d3] => { results := [.lit (.bool false)], args := [d1, d2, d3] }
  | _ => none }
def FnExactMergingWordWrongFalsely : Prop := fnExactMergingWordRow.holds Try.pinned (OpenSpec.ofChange fnExactMergingWordWrong)

/-- 'laws.FnExactCountByRank': WHATEVER THE INPUT: true; the input reads as it did. -/
def fnExactCountByRankSpec : ChangeSpec := { name := "fnExactCountByRank", fn := fun _ => fun
  | [d1, d2] => { results := [.lit (.bool true)], args := [d1, d2] }
  | _ => none }
def fnExactCountByRankRow : OpenClaim := { program := "ytaaaeekdfmfooaa", sum := "64fe037b0e7bd45b3f2b007509cdc738e0713b07fa464c2f3b92e5b3a825a7d2", func := "loop.example/g01102/laws.FnExactCountByRank", spec := "fnExactCountByRank", unfollowed := true, recurses := true, plainKeys := false, apart := false }
def FnExactCountByRankSaid : Prop := fnExactCountByRankRow.holds Try.pinned (OpenSpec.ofChange fnExactCountByRankSpec)

/-- ITS FALSE NEIGHBOUR: 'it returns false'. Refute it at one input. -/
def fnExactCountByRankWrong : ChangeSpec := { name := "fnExactCountByRank", fn := fun _ => fun
  | [d1, d2] => { results := [.lit (.bool false)], args := [d1, d2] }
  | _ => none }
def FnExactCountByRankWrongFalsely : Prop := fnExactCountByRankRow.holds Try.pinned (OpenSpec.ofChange fnExactCountByRankWrong)

/-- 'laws.FnExactMachineDifference': WHATEVER THE INPUT: true; the input reads as it did. -/
def fnExactMachineDifferenceSpec : ChangeSpec := { name := "fnExactMachineDifference", fn := fun _ => fun
  | [d1, d2] => { results := [.lit (.bool true)], args := [d1, d2] }
  | _ => none }
def fnExactMachineDifferenceRow : OpenClaim := { program := "ytaaaeekdfmfooaa", sum := "64fe037b0e7bd45b3f2b007509cdc738e0713b07fa464c2f3b92e5b3a825a7d2", func := "loop.example/g01102/laws.FnExactMachineDifference", spec := "fnExactMachineDifference", unfollowed := true, recurses := true, plainKeys := false, apart := false }
def FnExactMachineDifferenceSaid : Prop := fnExactMachineDifferenceRow.holds Try.pinned (OpenSpec.ofChange fnExactMachineDifferenceSpec)

/-- ITS FALSE NEIGHBOUR: 'it returns false'. Refute it at one input. -/
def fnExactMachineDifferenceWrong : ChangeSpec := { name := "fnExactMachineDifference", fn := fun _ => fun
  | [d1, d2] => { results := [.lit (.bool false)], args := [d1, d2] }
  | _ => none }
def FnExactMachineDifferenceWrongFalsely : Prop := fnExactMachineDifferenceRow.holds Try.pinned (OpenSpec.ofChange fnExactMachineDifferenceWrong)

/-- 'laws.FnExactShortestTo': WHATEVER THE INPUT: true; the input reads as it did. -/
def fnExactShortestToSpec : ChangeSpec := { name := "fnExactShortestTo", fn := fun _ => fun
  | [d1, d2] => { results := [.lit (.bool true)], args := [d1, d2] }
  | _ => none }
def fnExactShortestToRow : OpenClaim := { program := "ytaaaeekdfmfooaa", sum := "64fe037b0e7bd45b3f2b007509cdc738e0713b07fa464c2f3b92e5b3a825a7d2", func := "loop.example/g01102/laws.FnExactShortestTo", spec := "fnExactShortestTo", unfollowed := true, recurses := true, plainKeys := false, apart := false }
def FnExactShortestToSaid : Prop := fnExactShortestToRow.holds Try.pinned (OpenSpec.ofChange fnExactShortestToSpec)

/-- ITS FALSE NEIGHBOUR: 'it returns false'. Refute it at one input. -/
def fnExactShortestToWrong : ChangeSpec := { name := "fnExactShortestTo", fn := fun _ => fun
  | [d1, d2] => { results := [.lit (.bool false)], args := [d1, d2] }
  | _ => none }
def FnExactShortestToWrongFalsely : Prop := fnExactShortestToRow.holds Try.pinned (OpenSpec.ofChange fnExactShortestToWrong)

/-- 'laws.FnExactIdentifyingWord': WHATEVER THE INPUT: true; the input reads as it did. -/
def fnExactIdentifyingWordSpec : ChangeSpec := { name := "fnExactIdentifyingWord", fn := fun _ => fun
  | [d1, d2] => { results := [.lit (.bool true)], args := [d1, d2] }
  | _ => none }
def fnExactIdentifyingWordRow : OpenClaim := { program := "ytaaaeekdfmfooaa", sum := "64fe037b0e7bd45b3f2b007509cdc738e0713b07fa464c2f3b92e5b3a825a7d2", func := "loop.example/g01102/laws.FnExactIdentifyingWord", spec := "fnExactIdentifyingWord", unfollowed := true, recurses := true, plainKeys := false, apart := false }
def FnExactIdentifyingWordSaid : Prop := fnExactIdentifyingWordRow.holds Try.pinned (OpenSpec.ofChange fnExactIdentifyingWordSpec)

/-- ITS FALSE NEIGHBOUR: 'it returns false'. Refute it at one input. -/
def fnExactIdentifyingWordWrong : ChangeSpec := { name := "fnExactIdentifyingWord", fn := fun _ => fun
  | [d1, d2] => { results := [.lit (.bool false)], args := [d1, d2] }
  | _ => none }
def FnExactIdentifyingWordWrongFalsely : Prop := fnExactIdentifyingWordRow.holds Try.pinned (OpenSpec.ofChange fnExactIdentifyingWordWrong)

/-- 'laws.FnExactQuotientOf': WHATEVER THE INPUT: true; the input reads as it did. -/
def fnExactQuotientOfSpec : ChangeSpec := { name := "fnExactQuotientOf", fn := fun _ => fun
  | [d1, d2] => { results := [.lit (.bool true)], args := [d1, d2] }
  | _ => none }
def fnExactQuotientOfRow : OpenClaim := { program := "ytaaaeekdfmfooaa", sum := "64fe037b0e7bd45b3f2b007509cdc738e0713b07fa464c2f3b92e5b3a825a7d2", func := "loop.example/g01102/laws.FnExactQuotientOf", spec := "fnExactQuotientOf", unfollowed := true, recurses := true, plainKeys := false, apart := false }
def FnExactQuotientOfSaid : Prop := fnExactQuotientOfRow.holds Try.pinned (OpenSpec.ofChange fnExactQuotientOfSpec)

/-- ITS FALSE NEIGHBOUR: 'it returns false'. Refute it at one input. -/
def fnExactQuotientOfWrong : ChangeSpec := { name := "fnExactQuotientOf", fn := fun _ => fun
  | [d1, d2] => { results := [.lit (.bool false)], args := [d1, d2] }
  | _ => none }
def FnExactQuotientOfWrongFalsely : Prop := fnExactQuotientOfRow.holds Try.pinned (OpenSpec.ofChange fnExactQuotientOfWrong)

/-- 'laws.FnExactWordFor': WHATEVER THE INPUT: true; the input reads as it did. -/
def fnExactWordForSpec : ChangeSpec := { name := "fnExactWordFor", fn := fun _ => fun
  | [d1, d2] => { results := [.lit (.bool true)], args := [d1, d2] }
  | _ => none }
def fnExactWordForRow : OpenClaim := { program := "ytaaaeekdfmfooaa", sum := "64fe037b0e7bd45b3f2b007509cdc738e0713b07fa464c2f3b92e5b3a825a7d2", func := "loop.example/g01102/laws.FnExactWordFor", spec := "fnExactWordFor", unfollowed := true, recurses := true, plainKeys := false, apart := false }
def FnExactWordForSaid : Prop := fnExactWordForRow.holds Try.pinned (OpenSpec.ofChange fnExactWordForSpec)

/-- ITS FALSE NEIGHBOUR: 'it returns false'. Refute it at one input. -/
def fnExactWordForWrong : ChangeSpec := { name := "fnExactWordFor", fn := fun _ => fun
  | [d1, d2] => { results := [.lit (.bool false)], args := [d1, d2] }
  | _ => none }
def FnExactWordForWrongFalsely : Prop := fnExactWordForRow.holds Try.pinned (OpenSpec.ofChange fnExactWordForWrong)

/-- 'laws.FnExactReachBy': WHATEVER THE INPUT: true; the input reads as it did. -/
def fnExactReachBySpec : ChangeSpec := { name := "fnExactReachBy", fn := fun _ => fun
  | [d1, d2, d3] => { results := [.lit (.bool true)], args := [d1, d2, d3] }
  | _ => none }
def fnExactReachByRow : OpenClaim := { program := "ytaaaeekdfmfooaa", sum := "64fe037b0e7bd45b3f2b007509cdc738e0713b07fa464c2f3b92e5b3a825a7d2", func := "loop.example/g01102/laws.FnExactReachBy", spec := "fnExactReachBy", unfollowed := true, recurses := true, plainKeys := false, apart := false }
def FnExactReachBySaid : Prop := fnExactReachByRow.holds Try.pinned (OpenSpec.ofChange fnExactReachBySpec)

/-- ITS FALSE NEIGHBOUR: 'it returns false'. Refute it at one input. -/
def fnExactReachByWrong : ChangeSpec := { name := "fnExactReachBy", fn := fun _ => fun
  | [d1, d2, d3] => { results := [.lit (.bool false)], args := [d1, d2, d3] }
  | _ => none }
def FnExactReachByWrongFalsely : Prop := fnExactReachByRow.holds Try.pinned (OpenSpec.ofChange fnExactReachByWrong)

/-- 'laws.FnExactDistinguishingWord': WHATEVER THE INPUT: true; the input reads as it did. -/
def fnExactDistinguishingWordSpec : ChangeSpec := { name := "fnExactDistinguishingWord", fn := fun _ => fun
  | [d1, d2, d3] => { results := [.lit (.bool true)], args := [d1, d2, d3] }
  | _ => none }
def fnExactDistinguishingWordRow : OpenClaim := { program := "ytaaaeekdfmfooaa", sum := "64fe037b0e7bd45b3f2b007509cdc738e0713b07fa464c2f3b92e5b3a825a7d2", func := "loop.example/g01102/laws.FnExactDistinguishingWord", spec := "fnExactDistinguishingWord", unfollowed := true, recurses := true, plainKeys := false, apart := false }
def FnExactDistinguishingWordSaid : Prop := fnExactDistinguishingWordRow.holds Try.pinned (OpenSpec.ofChange fnExactDistinguishingWordSpec)

/-- ITS FALSE NEIGHBOUR: 'it returns false'. Refute it at one input. -/
def fnExactDistinguishingWordWrong : ChangeSpec := { name := "fnExactDistinguishingWord", fn := fun _ => fun
  | [d1, d2, d3] => { results := [.lit (.bool false)], args := [d1, d2, d3] }
  | _ => none }
def FnExactDistinguishingWordWrongFalsely : Prop := fnExactDistinguishingWordRow.holds Try.pinned (OpenSpec.ofChange fnExactDistinguishingWordWrong)

/-- 'laws.FnExactDirects': WHATEVER THE INPUT: true; the input reads as it did. -/
def fnExactDirectsSpec : ChangeSpec := { name := "fnExactDirects", fn := fun _ => fun
  | [d1, d2, d3] => { results := [.lit (.bool true)], args := [d1, d2, d3] }
  | _ => none }
def fnExactDirectsRow : OpenClaim := { program := "ytaaaeekdfmfooaa", sum := "64fe037b0e7bd45b3f2b007509cdc738e0713b07fa464c2f3b92e5b3a825a7d2", func := "loop.example/g01102/laws.FnExactDirects", spec := "fnExactDirects", unfollowed := true, recurses := true, plainKeys := false, apart := false }
def FnExactDirectsSaid : Prop := fnExactDirectsRow.holds Try.pinned (OpenSpec.ofChange fnExactDirectsSpec)

/-- ITS FALSE NEIGHBOUR: 'it returns false'. Refute it at one input. -/
def fnExactDirectsWrong : ChangeSpec := { name := "fnExactDirects", fn := fun _ => fun
  | [d1, d2, d3] => { results := [.lit (.bool false)], args := [d1, d2, d3] }
  | _ => none }
def FnExactDirectsWrongFalsely : Prop := fnExactDirectsRow.holds Try.pinned (OpenSpec.ofChange fnExactDirectsWrong)

/- THE SECOND FORM. 'bulk': how many values and letters a reading holds, each counted each time it is reached (what is shared counts as often as it is met; a slice's spare places count too). A statement '..UptoSaid' is the law's where the arguments, and the package variables that the reading takes, are together of bulk at most 1048576: NARROWER than '..Said'. Prove '..Said' where nothing that the law and all that it calls make is longer than what came in: it says more and counts as full. Else prove '..UptoSaid'. A law counts once. -/
mutual
def uptoBulk {H : Type} : DataW H → Nat
  | .lit (.string bytes) => bytes.length + 1
  | .lit _ => 1
  | .nil => 1
  | .ptr d => uptoBulk d + 1
  | .slice elems spare => uptoBulkAll elems + uptoBulkAll spare + 1
  | .agg parts => uptoBulkAll parts + 1
  | .iface _ d => uptoBulk d + 1
  | .map entries => uptoBulkEntries entries + 1
  | .held _ => 1
def uptoBulkAll {H : Type} : List (DataW H) → Nat
  | [] => 0
  | d :: r => uptoBulk d + uptoBulkAll r
def uptoBulkEntries {H : Type} : List (Lit × DataW H) → Nat
  | [] => 0
  | x :: r => uptoBulkEntry x + uptoBulkEntries r
def uptoBulkEntry {H : Type} : Lit × DataW H → Nat
  | (.string bytes, d) => bytes.length + uptoBulk d + 1
  | (_, d) => uptoBulk d + 1
 end
def uptoSmall : (H : Type) → List (DataW H) → Bool := fun _ ds => decide (uptoBulkAll ds ≤ 1048576)
def OpenSpec.upto (s : _root_.Go.ChangeSpec) : _root_.Go.OpenSpec := { _root_.Go.OpenSpec.ofChange s with cond := some uptoSmall }

/-- 'laws.FnExactRestrictTo', WHERE WHAT IT READS IS OF BULK AT MOST 1048576: true; the input reads as it did. -/
def fnExactRestrictToUptoRow : OpenClaim := { program := "ytaaaeekdfmfooaa", sum := "64fe037b0e7bd45b3f2b007509cdc738e0713b07fa464c2f3b92e5b3a825a7d2", func := "loop.example/g01102/laws.FnExactRestrictTo", spec := "fnExactRestrictTo", unfollowed := true, recurses := true, plainKeys := false, apart := false, narrowed := true }
def FnExactRestrictToUptoSaid : Prop := fnExactRestrictToUptoRow.holds Try.pinned (OpenSpec.upto fnExactRestrictToSpec)

/-- 'laws.FnExactCarefulImage', WHERE WHAT IT READS IS OF BULK AT MOST 1048576: true; the input reads as it did. -/
def fnExactCarefulImageUptoRow : OpenClaim := { program := "ytaaaeekdfmfooaa", sum := "64fe037b0e7bd45b3f2b007509cdc738e0713b07fa464c2f3b92e5b3a825a7d2", func := "loop.example/g01102/laws.FnExactCarefulImage", spec := "fnExactCarefulImage", unfollowed := true, recurses := true, plainKeys := false, apart := false, narrowed := true }
def FnExactCarefulImageUptoSaid : Prop := fnExactCarefulImageUptoRow.holds Try.pinned (OpenSpec.upto fnExactCarefulImageSpec)

/-- 'laws.FnExactMergingWord', WHERE WHAT IT READS IS OF BULK AT MOST 1048576: true; the input reads as it did. -/
def fnExactMergingWordUptoRow : OpenClaim := { program := "ytaaaeekdfmfooaa", sum := "64fe037b0e7bd45b3f2b007509cdc738e0713b07fa464c2f3b92e5b3a825a7d2", func := "loop.example/g01102/laws.FnExactMergingWord", spec := "fnExactMergingWord", unfollowed := true, recurses := true, plainKeys := false, apart := false, narrowed := true }
def FnExactMergingWordUptoSaid : Prop := fnExactMergingWordUptoRow.holds Try.pinned (OpenSpec.upto fnExactMergingWordSpec)

/-- 'laws.FnExactCountByRank', WHERE WHAT IT READS IS OF BULK AT MOST 1048576: true; the input reads as it did. -/
def fnExactCountByRankUptoRow : OpenClaim := { program := "ytaaaeekdfmfooaa", sum := "64fe037b0e7bd45b3f2b007509cdc738e0713b07fa464c2f3b92e5b3a825a7d2", func := "loop.example/g01102/laws.FnExactCountByRank", spec := "fnExactCountByRank", unfollowed := true, recurses := true, plainKeys := false, apart := false, narrowed := true }
def FnExactCountByRankUptoSaid : Prop := fnExactCountByRankUptoRow.holds Try.pinned (OpenSpec.upto fnExactCountByRankSpec)

/-- 'laws.FnExactMachineDifference', WHERE WHAT IT READS IS OF BULK AT MOST 1048576: true; the input reads as it did. -/
def fnExactMachineDifferenceUptoRow : OpenClaim := { program := "ytaaaeekdfmfooaa", sum := "64fe037b0e7bd45b3f2b007509cdc738e0713b07fa464c2f3b92e5b3a825a7d2", func := "loop.example/g01102/laws.FnExactMachineDifference", spec := "fnExactMachineDifference", unfollowed := true, recurses := true, plainKeys := false, apart := false, narrowed := true }
def FnExactMachineDifferenceUptoSaid : Prop := fnExactMachineDifferenceUptoRow.holds Try.pinned (OpenSpec.upto fnExactMachineDifferenceSpec)

/-- 'laws.FnExactShortestTo', WHERE WHAT IT READS IS OF BULK AT MOST 1048576: true; the input reads as it did. -/
def fnExactShortestToUptoRow : OpenClaim := { program := "ytaaaeekdfmfooaa", sum := "64fe037b0e7bd45b3f2b007509cdc738e0713b07fa464c2f3b92e5b3a825a7d2", func := "loop.example/g01102/laws.FnExactShortestTo", spec := "fnExactShortestTo", unfollowed := true, recurses := true, plainKeys := false, apart := false, narrowed := true }
def FnExactShortestToUptoSaid : Prop := fnExactShortestToUptoRow.holds Try.pinned (OpenSpec.upto fnExactShortestToSpec)

/-- 'laws.FnExactIdentifyingWord', WHERE WHAT IT READS IS OF BULK AT MOST 1048576: true; the input reads as it did. -/
def fnExactIdentifyingWordUptoRow : OpenClaim := { program := "ytaaaeekdfmfooaa", sum := "64fe037b0e7bd45b3f2b007509cdc738e0713b07fa464c2f3b92e5b3a825a7d2", func := "loop.example/g01102/laws.FnExactIdentifyingWord", spec := "fnExactIdentifyingWord", unfollowed := true, recurses := true, plainKeys := false, apart := false, narrowed := true }
def FnExactIdentifyingWordUptoSaid : Prop := fnExactIdentifyingWordUptoRow.holds Try.pinned (OpenSpec.upto fnExactIdentifyingWordSpec)

/-- 'laws.FnExactQuotientOf', WHERE WHAT IT READS IS OF BULK AT MOST 1048576: true; the input reads as it did. -/
def fnExactQuotientOfUptoRow : OpenClaim := { program := "ytaaaeekdfmfooaa", sum := "64fe037b0e7bd45b3f2b007509cdc738e0713b07fa464c2f3b92e5b3a825a7d2", func := "loop.example/g01102/laws.FnExactQuotientOf", spec := "fnExactQuotientOf", unfollowed := true, recurses := true, plainKeys := false, apart := false, narrowed := true }
def FnExactQuotientOfUptoSaid : Prop := fnExactQuotientOfUptoRow.holds Try.pinned (OpenSpec.upto fnExactQuotientOfSpec)

/-- 'laws.FnExactWordFor', WHERE WHAT IT READS IS OF BULK AT MOST 1048576: true; the input reads as it did. -/
def fnExactWordForUptoRow : OpenClaim := { program := "ytaaaeekdfmfooaa", sum := "64fe037b0e7bd45b3f2b007509cdc738e0713b07fa464c2f3b92e5b3a825a7d2", func := "loop.example/g01102/laws.FnExactWordFor", spec := "fnExactWordFor", unfollowed := true, recurses := true, plainKeys := false, apart := false, narrowed := true }
def FnExactWordForUptoSaid : Prop := fnExactWordForUptoRow.holds Try.pinned (OpenSpec.upto fnExactWordForSpec)

/-- 'laws.FnExactReachBy', WHERE WHAT IT READS IS OF BULK AT MOST 1048576: true; the input reads as it did. -/
def fnExactReachByUptoRow : OpenClaim := { program := "ytaaaeekdfmfooaa", sum := "64fe037b0e7bd45b3f2b007509cdc738e0713b07fa464c2f3b92e5b3a825a7d2", func := "loop.example/g01102/laws.FnExactReachBy", spec := "fnExactReachBy", unfollowed := true, recurses := true, plainKeys := false, apart := false, narrowed := true }
def FnExactReachByUptoSaid : Prop := fnExactReachByUptoRow.holds Try.pinned (OpenSpec.upto fnExactReachBySpec)

/-- 'laws.FnExactDistinguishingWord', WHERE WHAT IT READS IS OF BULK AT MOST 1048576: true; the input reads as it did. -/
def fnExactDistinguishingWordUptoRow : OpenClaim := { program := "ytaaaeekdfmfooaa", sum := "64fe037b0e7bd45b3f2b007509cdc738e0713b07fa464c2f3b92e5b3a825a7d2", func := "loop.example/g01102/laws.FnExactDistinguishingWord", spec := "fnExactDistinguishingWord", unfollowed := true, recurses := true, plainKeys := false, apart := false, narrowed := true }
def FnExactDistinguishingWordUptoSaid : Prop := fnExactDistinguishingWordUptoRow.holds Try.pinned (OpenSpec.upto fnExactDistinguishingWordSpec)

/-- 'laws.FnExactDirects', WHERE WHAT IT READS IS OF BULK AT MOST 1048576: true; the input reads as it did. -/
def fnExactDirectsUptoRow : OpenClaim := { program := "ytaaaeekdfmfooaa", sum := "64fe037b0e7bd45b3f2b007509cdc738e0713b07fa464c2f3b92e5b3a825a7d2", func := "loop.example/g01102/laws.FnExactDirects", spec := "fnExactDirects", unfollowed := true, recurses := true, plainKeys := false, apart := false, narrowed := true }
def FnExactDirectsUptoSaid : Prop := fnExactDirectsUptoRow.holds Try.pinned (OpenSpec.upto fnExactDirectsSpec)

end Rows
end Go.Proofs.Ytaaaeekdfmfooaa
