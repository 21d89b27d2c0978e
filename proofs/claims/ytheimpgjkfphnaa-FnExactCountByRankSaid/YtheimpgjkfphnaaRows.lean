/-
  No cell of these rows narrows 'for every input' (looked for: loops, veiled, ifaces, maps, wideKeys, modest, calm, conditions, laid).
  DERIVED. THE GIVEN ROWS OF THIS SEAT. 10 by the template 'for every input the law returns true; each argument reads behind the call as it read before'; 0 by the template 'total and deterministic' (their statements: YtheimpgjkfphnaaTotals.lean).
  GIVEN WITH THE SEED: the statements are not yours to turn. If you find one false, say at which input.
  Laid BY PROGRAM, IN A SANDBOX (cutbox-rows.mjs): the forced cells as the released guide's own fill.sh prints them over the translation 6246610416f701ed… (all of the seat's roots in one cut). By AI agents, Wed Nov 11 2026. No macro, syntax, notation, axiom, sorry.
-/
import Derived.Test.YtheimpgjkfphnaaChecked
import GoSem.Claim
import GoSem.ClaimJoined
import GoSem.ClaimMapViews
import Derived.JoinedTies
import Derived.KernelRfl
namespace Go.Proofs.Ytheimpgjkfphnaa
/- THE CELL 'sum', in the pinned program and in every row, IS THE sha256 OF THE DUMP (.gsa) THAT YtheimpgjkfphnaaProg.lean LOADS. Nothing in Lean hashes anything: it is a label: what it is worth is what the hold of that sum in a sandbox is worth. -/
noncomputable def Try.pinned : Pinned := { name := "ytheimpgjkfphnaa", sum := "6246610416f701ede5b28cd500d0551ddc5acdf303850a77744f450544593df4", checked := Try.checked }
namespace Rows
def none {H : Type} : Left H := { results := [], args := [] }

/-- 'laws.FnExactSwapColours': WHATEVER THE INPUT: true; the input reads as it did. -/
def fnExactSwapColoursSpec : ChangeSpec := { name := "fnExactSwapColours", fn := fun _ => fun
  | [d1, d2, d3, d4] => { results := [.lit (.bool true)], args := [d1, d2, d3, d4] }
  | _ => none }
def fnExactSwapColoursRow : OpenClaim := { program := "ytheimpgjkfphnaa", sum := "6246610416f701ede5b28cd500d0551ddc5acdf303850a77744f450544593df4", func := "loop.example/g01102/laws.FnExactSwapColours", spec := "fnExactSwapColours", unfollowed := true, recurses := true, plainKeys := false, apart := false }
def FnExactSwapColoursSaid : Prop := fnExactSwapColoursRow.holds Try.pinned (OpenSpec.ofChange fnExactSwapColoursSpec)

/-- ITS FALSE NEIGHBOUR: 'it returns false'. Refute it at one input. -/
def fnExactSwapColoursWrong : ChangeSpec := { name := "fnExactSwapColours", fn := fun _ => fun
  | [d1, d2, d3, d4] => { results := [.lit (.bool false)], args := [d1, d2, d3, d4] }
  | _ => none }
def FnExactSwapColoursWrongFalsely : Prop := fnExactSwapColoursRow.holds Try.pinned (OpenSpec.ofChange fnExactSwapColoursWrong)

/-- 'laws.FnExactCountResets': WHATEVER THE INPUT: true; the input reads as it did. -/
def fnExactCountResetsSpec : ChangeSpec := { name := "fnExactCountResets", fn := fun _ => fun
  | [d1, d2] => { results := [.lit (.bool true)], args := [d1, d2] }
  | _ => none }
def fnExactCountResetsRow : OpenClaim := { program := "ytheimpgjkfphnaa", sum := "6246610416f701ede5b28cd500d0551ddc5acdf303850a77744f450544593df4", func := "loop.example/g01102/laws.FnExactCountResets", spec := "fnExactCountResets", unfollowed := true, recurses := true, plainKeys := false, apart := false }
def FnExactCountResetsSaid : Prop := fnExactCountResetsRow.holds Try.pinned (OpenSpec.ofChange fnExactCountResetsSpec)

/-- ITS FALSE NEIGHBOUR: 'it returns false'. Refute it at one input. -/
def fnExactCountResetsWrong : ChangeSpec := { name := "fnExactCountResets", fn := fun _ => fun
  | [d1, d2] => { results := [.lit (.bool false)], args := [d1, d2] }
  | _ => none }
def FnExactCountResetsWrongFalsely : Prop := fnExactCountResetsRow.holds Try.pinned (OpenSpec.ofChange fnExactCountResetsWrong)

/-- 'laws.FnExactCountByRank': WHATEVER THE INPUT: true; the input reads as it did. -/
def fnExactCountByRankSpec : ChangeSpec := { name := "fnExactCountByRank", fn := fun _ => fun
  | [d1, d2] => { results := [.lit (.bool true)], args := [d1, d2] }
  | _ => none }
def fnExactCountByRankRow : OpenClaim := { program := "ytheimpgjkfphnaa", sum := "6246610416f701ede5b28cd500d0551ddc5acdf303850a77744f450544593df4", func := "loop.example/g01102/laws.FnExactCountByRank", spec := "fnExactCountByRank", unfollowed := true, recurses := true, plainKeys := false, apart := false }
def FnExactCountByRankSaid : Prop := fnExactCountByRankRow.holds Try.pinned (OpenSpec.ofChange fnExactCountByRankSpec)

/-- ITS FALSE NEIGHBOUR: 'it returns false'. Refute it at one input. -/
def fnExactCountByRankWrong : ChangeSpec := { name := "fnExactCountByRank", fn := fun _ => fun
  | [d1, d2] => { results := [.lit (.bool false)], args := [d1, d2] }
  | _ => none }
def FnExactCountByRankWrongFalsely : Prop := fnExactCountByRankRow.holds Try.pinned (OpenSpec.ofChange fnExactCountByRankWrong)

/-- 'laws.FnExactDistinguishingWord': WHATEVER THE INPUT: true; the input reads as it did. -/
def fnExactDistinguishingWordSpec : ChangeSpec := { name := "fnExactDistinguishingWord", fn := fun _ => fun
  | [d1, d2, d3] => { results := [.lit (.bool true)], args := [d1, d2, d3] }
  | _ => none }
def fnExactDistinguishingWordRow : OpenClaim := { program := "ytheimpgjkfphnaa", sum := "6246610416f701ede5b28cd500d0551ddc5acdf303850a77744f450544593df4", func := "loop.example/g01102/laws.FnExactDistinguishingWord", spec := "fnExactDistinguishingWord", unfollowed := true, recurses := true, plainKeys := false, apart := false }
def FnExactDistinguishingWordSaid : Prop := fnExactDistinguishingWordRow.holds Try.pinned (OpenSpec.ofChange fnExactDistinguishingWordSpec)

/-- ITS FALSE NEIGHBOUR: 'it returns false'. Refute it at one input. -/
def fnExactDistinguishingWordWrong : ChangeSpec := { name := "fnExactDistinguishingWord", fn := fun _ => fun
  | [d1, d2, d3] => { results := [.lit (.bool false)], args := [d1, d2, d3] }
  | _ => none }
def FnExactDistinguishingWordWrongFalsely : Prop := fnExactDistinguishingWordRow.holds Try.pinned (OpenSpec.ofChange fnExactDistinguishingWordWrong)

/-- 'laws.FnExactMachineDifference': WHATEVER THE INPUT: true; the input reads as it did. -/
def fnExactMachineDifferenceSpec : ChangeSpec := { name := "fnExactMachineDifference", fn := fun _ => fun
  | [d1, d2] => { results := [.lit (.bool true)], args := [d1, d2] }
  | _ => none }
def fnExactMachineDifferenceRow : OpenClaim := { program := "ytheimpgjkfphnaa", sum := "6246610416f701ede5b28cd500d0551ddc5acdf303850a77744f450544593df4", func := "loop.example/g01102/laws.FnExactMachineDifference", spec := "fnExactMachineDifference", unfollowed := true, recurses := true, plainKeys := false, apart := false }
def FnExactMachineDifferenceSaid : Prop := fnExactMachineDifferenceRow.holds Try.pinned (OpenSpec.ofChange fnExactMachineDifferenceSpec)

/-- ITS FALSE NEIGHBOUR: 'it returns false'. Refute it at one input. -/
def fnExactMachineDifferenceWrong : ChangeSpec := { name := "fnExactMachineDifference", fn := fun _ => fun
  | [d1, d2] => { results := [.lit (.bool false)], args := [d1, d2] }
  | _ => none }
def FnExactMachineDifferenceWrongFalsely : Prop := fnExactMachineDifferenceRow.holds Try.pinned (OpenSpec.ofChange fnExactMachineDifferenceWrong)

/-- 'laws.FnExactIdentifyingWord': WHATEVER THE INPUT: true; the input reads as it did. -/
def fnExactIdentifyingWordSpec : ChangeSpec := { name := "fnExactIdentifyingWord", fn := fun _ => fun
  | [d1, d2] => { results := [.lit (.bool true)], args := [d1, d2] }
  | _ => none }
def fnExactIdentifyingWordRow : OpenClaim := { program := "ytheimpgjkfphnaa", sum := "6246610416f701ede5b28cd500d0551ddc5acdf303850a77744f450544593df4", func := "loop.example/g01102/laws.FnExactIdentifyingWord", spec := "fnExactIdentifyingWord", unfollowed := true, recurses := true, plainKeys := false, apart := false }
def FnExactIdentifyingWordSaid : Prop := fnExactIdentifyingWordRow.holds Try.pinned (OpenSpec.ofChange fnExactIdentifyingWordSpec)

/-- ITS FALSE NEIGHBOUR: 'it returns false'. Refute it at one input. -/
def fnExactIdentifyingWordWrong : ChangeSpec := { name := "fnExactIdentifyingWord", fn := fun _ => fun
  | [d1, d2] => { results := [.lit (.bool false)], args := [d1, d2] }
  | _ => none }
def FnExactIdentifyingWordWrongFalsely : Prop := fnExactIdentifyingWordRow.holds Try.pinned (OpenSpec.ofChange fnExactIdentifyingWordWrong)

/-- 'laws.FnExactWordFor': WHATEVER THE INPUT: true; the input reads as it did. -/
def fnExactWordForSpec : ChangeSpec := { name := "fnExactWordFor", fn := fun _ => fun
  | [d1, d2] => { results := [.lit (.bool true)], args := [d1, d2] }
  | _ => none }
def fnExactWordForRow : OpenClaim := { program := "ytheimpgjkfphnaa", sum := "6246610416f701ede5b28cd500d0551ddc5acdf303850a77744f450544593df4", func := "loop.example/g01102/laws.FnExactWordFor", spec := "fnExactWordFor", unfollowed := true, recurses := true, plainKeys := false, apart := false }
def FnExactWordForSaid : Prop := fnExactWordForRow.holds Try.pinned (OpenSpec.ofChange fnExactWordForSpec)

/-- ITS FALSE NEIGHBOUR: 'it returns false'. Refute it at one input. -/
def fnExactWordForWrong : ChangeSpec := { name := "fnExactWordFor", fn := fun _ => fun
  | [d1, d2] => { results := [.lit (.bool false)], args := [d1, d2] }
  | _ => none }
def FnExactWordForWrongFalsely : Prop := fnExactWordForRow.holds Try.pinned (OpenSpec.ofChange fnExactWordForWrong)

/-- 'laws.FnExactReachBy': WHATEVER THE INPUT: true; the input reads as it did. -/
def fnExactReachBySpec : ChangeSpec := { name := "fnExactReachBy", fn := fun _ => fun
  | [d1, d2, d3] => { results := [.lit (.bool true)], args := [d1, d2, d3] }
  | _ => none }
def fnExactReachByRow : OpenClaim := { program := "ytheimpgjkfphnaa", sum := "6246610416f701ede5b28cd500d0551ddc5acdf303850a77744f450544593df4", func := "loop.example/g01102/laws.FnExactReachBy", spec := "fnExactReachBy", unfollowed := true, recurses := true, plainKeys := false, apart := false }
def FnExactReachBySaid : Prop := fnExactReachByRow.holds Try.pinned (OpenSpec.ofChange fnExactReachBySpec)

/-- ITS FALSE NEIGHBOUR: 'it returns false'. Refute it at one input. -/
def fnExactReachByWrong : ChangeSpec := { name := "fnExactReachBy", fn := fun _ => fun
  | [d1, d2, d3] => { results := [.lit (.bool false)], args := [d1, d2, d3] }
  | _ => none }
def FnExactReachByWrongFalsely : Prop := fnExactReachByRow.holds Try.pinned (OpenSpec.ofChange fnExactReachByWrong)

/-- 'laws.FnExactDirects': WHATEVER THE INPUT: true; the input reads as it did. -/
def fnExactDirectsSpec : ChangeSpec := { name := "fnExactDirects", fn := fun _ => fun
  | [d1, d2, d3] => { results := [.lit (.bool true)], args := [d1, d2, d3] }
  | _ => none }
def fnExactDirectsRow : OpenClaim := { program := "ytheimpgjkfphnaa", sum := "6246610416f701ede5b28cd500d0551ddc5acdf303850a77744f450544593df4", func := "loop.example/g01102/laws.FnExactDirects", spec := "fnExactDirects", unfollowed := true, recurses := true, plainKeys := false, apart := false }
def FnExactDirectsSaid : Prop := fnExactDirectsRow.holds Try.pinned (OpenSpec.ofChange fnExactDirectsSpec)

/-- ITS FALSE NEIGHBOUR: 'it returns false'. Refute it at one input. -/
def fnExactDirectsWrong : ChangeSpec := { name := "fnExactDirects", fn := fun _ => fun
  | [d1, d2, d3] => { results := [.lit (.bool false)], args := [d1, d2, d3] }
  | _ => none }
def FnExactDirectsWrongFalsely : Prop := fnExactDirectsRow.holds Try.pinned (OpenSpec.ofChange fnExactDirectsWrong)

/-- 'laws.FnFiner': WHATEVER THE INPUT: true; the input reads as it did. -/
def fnFinerSpec : ChangeSpec := { name := "fnFiner", fn := fun _ => fun
  | [d1, d2] => { results := [.lit (.bool true)], args := [d1, d2] }
  | _ => none }
def fnFinerRow : OpenClaim := { program := "ytheimpgjkfphnaa", sum := "6246610416f701ede5b28cd500d0551ddc5acdf303850a77744f450544593df4", func := "loop.example/g01102/laws.FnFiner", spec := "fnFiner", unfollowed := true, recurses := true, plainKeys := false, apart := false }
def FnFinerSaid : Prop := fnFinerRow.holds Try.pinned (OpenSpec.ofChange fnFinerSpec)

/-- ITS FALSE NEIGHBOUR: 'it returns false'. Refute it at one input. -/
def fnFinerWrong : ChangeSpec := { name := "fnFiner", fn := fun _ => fun
  | [d1, d2] => { results := [.lit (.bool false)], args := [d1, d2] }
  | _ => none }
def FnFinerWrongFalsely : Prop := fnFinerRow.holds Try.pinned (OpenSpec.ofChange fnFinerWrong)

/- THE SECOND FORM. 'bulk': how many values and letters a reading holds, each counted each time it is reached (what is shared counts as often as it is met; a slice's spare places count too). A statement '..UptoSaid' is the law's where the arguments, and the package variables that the reading takes, are together of bulk at most 1048576: NARROWER than '..Said'. Prove '..Said' where nothing that the law and all that it calls make is longer than what came in: it says more and counts as full. Else prove '..UptoSaid'. A law counts once. -/
mutual
def uptoBulk {H : Type} : DataW H → Nat
  | .lit (.string bytes) => bytes.length + 1
  | .lit _ => 1
  | .nil => 1
  | .ptr d => uptoBulk d + 1
  | .slice elems spare => uptoBulkAll elems + uptoBulkAll spare + 1
  | .agg parts => uptoBulkAll parts + 1
  | .iface _ d => uptoBulk d + 1
  | .map entries => uptoBulkEntries entries + 1
  | .held _ => 1
def uptoBulkAll {H : Type} : List (DataW H) → Nat
  | [] => 0
  | d :: r => uptoBulk d + uptoBulkAll r
def uptoBulkEntries {H : Type} : List (Lit × DataW H) → Nat
  | [] => 0
  | x :: r => uptoBulkEntry x + uptoBulkEntries r
def uptoBulkEntry {H : Type} : Lit × DataW H → Nat
  | (.string bytes, d) => bytes.length + uptoBulk d + 1
  | (_, d) => uptoBulk d + 1
 end
def uptoSmall : (H : Type) → List (DataW H) → Bool := fun _ ds => decide (uptoBulkAll ds ≤ 1048576)
def OpenSpec.upto (s : _root_.Go.ChangeSpec) : _root_.Go.OpenSpec := { _root_.Go.OpenSpec.ofChange s with cond := some uptoSmall }

/-- 'laws.FnExactSwapColours', WHERE WHAT IT READS IS OF BULK AT MOST 1048576: true; the input reads as it did. -/
def fnExactSwapColoursUptoRow : OpenClaim := { program := "ytheimpgjkfphnaa", sum := "6246610416f701ede5b28cd500d0551ddc5acdf303850a77744f450544593df4", func := "loop.example/g01102/laws.FnExactSwapColours", spec := "fnExactSwapColours", unfollowed := true, recurses := true, plainKeys := false, apart := false, narrowed := true }
def FnExactSwapColoursUptoSaid : Prop := fnExactSwapColoursUptoRow.holds Try.pinned (OpenSpec.upto fnExactSwapColoursSpec)

/-- 'laws.FnExactCountResets', WHERE WHAT IT READS IS OF BULK AT MOST 1048576: true; the input reads as it did. -/
def fnExactCountResetsUptoRow : OpenClaim := { program := "ytheimpgjkfphnaa", sum := "6246610416f701ede5b28cd500d0551ddc5acdf303850a77744f450544593df4", func := "loop.example/g01102/laws.FnExactCountResets", spec := "fnExactCountResets", unfollowed := true, recurses := true, plainKeys := false, apart := false, narrowed := true }
def FnExactCountResetsUptoSaid : Prop := fnExactCountResetsUptoRow.holds Try.pinned (OpenSpec.upto fnExactCountResetsSpec)

/-- 'laws.FnExactCountByRank', WHERE WHAT IT READS IS OF BULK AT MOST 1048576: true; the input reads as it did. -/
def fnExactCountByRankUptoRow : OpenClaim := { program := "ytheimpgjkfphnaa", sum := "6246610416f701ede5b28cd500d0551ddc5acdf303850a77744f450544593df4", func := "loop.example/g01102/laws.FnExactCountByRank", spec := "fnExactCountByRank", unfollowed := true, recurses := true, plainKeys := false, apart := false, narrowed := true }
def FnExactCountByRankUptoSaid : Prop := fnExactCountByRankUptoRow.holds Try.pinned (OpenSpec.upto fnExactCountByRankSpec)

/-- 'laws.FnExactDistinguishingWord', WHERE WHAT IT READS IS OF BULK AT MOST 1048576: true; the input reads as it did. -/
def fnExactDistinguishingWordUptoRow : OpenClaim := { program := "ytheimpgjkfphnaa", sum := "6246610416f701ede5b28cd500d0551ddc5acdf303850a77744f450544593df4", func := "loop.example/g01102/laws.FnExactDistinguishingWord", spec := "fnExactDistinguishingWord", unfollowed := true, recurses := true, plainKeys := false, apart := false, narrowed := true }
def FnExactDistinguishingWordUptoSaid : Prop := fnExactDistinguishingWordUptoRow.holds Try.pinned (OpenSpec.upto fnExactDistinguishingWordSpec)

/-- 'laws.FnExactMachineDifference', WHERE WHAT IT READS IS OF BULK AT MOST 1048576: true; the input reads as it did. -/
def fnExactMachineDifferenceUptoRow : OpenClaim := { program := "ytheimpgjkfphnaa", sum := "6246610416f701ede5b28cd500d0551ddc5acdf303850a77744f450544593df4", func := "loop.example/g01102/laws.FnExactMachineDifference", spec := "fnExactMachineDifference", unfollowed := true, recurses := true, plainKeys := false, apart := false, narrowed := true }
def FnExactMachineDifferenceUptoSaid : Prop := fnExactMachineDifferenceUptoRow.holds Try.pinned (OpenSpec.upto fnExactMachineDifferenceSpec)

/-- 'laws.FnExactIdentifyingWord', WHERE WHAT IT READS IS OF BULK AT MOST 1048576: true; the input reads as it did. -/
def fnExactIdentifyingWordUptoRow : OpenClaim := { program := "ytheimpgjkfphnaa", sum := "6246610416f701ede5b28cd500d0551ddc5acdf303850a77744f450544593df4", func := "loop.example/g01102/laws.FnExactIdentifyingWord", spec := "fnExactIdentifyingWord", unfollowed := true, recurses := true, plainKeys := false, apart := false, narrowed := true }
def FnExactIdentifyingWordUptoSaid : Prop := fnExactIdentifyingWordUptoRow.holds Try.pinned (OpenSpec.upto fnExactIdentifyingWordSpec)

/-- 'laws.FnExactWordFor', WHERE WHAT IT READS IS OF BULK AT MOST 1048576: true; the input reads as it did. -/
def fnExactWordForUptoRow : OpenClaim := { program := "ytheimpgjkfphnaa", sum := "6246610416f701ede5b28cd500d0551ddc5acdf303850a77744f450544593df4", func := "loop.example/g01102/laws.FnExactWordFor", spec := "fnExactWordFor", unfollowed := true, recurses := true, plainKeys := false, apart := false, narrowed := true }
def FnExactWordForUptoSaid : Prop := fnExactWordForUptoRow.holds Try.pinned (OpenSpec.upto fnExactWordForSpec)

/-- 'laws.FnExactReachBy', WHERE WHAT IT READS IS OF BULK AT MOST 1048576: true; the input reads as it did. -/
def fnExactReachByUptoRow : OpenClaim := { program := "ytheimpgjkfphnaa", sum := "6246610416f701ede5b28cd500d0551ddc5acdf303850a77744f450544593df4", func := "loop.example/g01102/laws.FnExactReachBy", spec := "fnExactReachBy", unfollowed := true, recurses := true, plainKeys := false, apart := false, narrowed := true }
def FnExactReachByUptoSaid : Prop := fnExactReachByUptoRow.holds Try.pinned (OpenSpec.upto fnExactReachBySpec)

/-- 'laws.FnExactDirects', WHERE WHAT IT READS IS OF BULK AT MOST 1048576: true; the input reads as it did. -/
def fnExactDirectsUptoRow : OpenClaim := { program := "ytheimpgjkfphnaa", sum := "6246610416f701ede5b28cd500d0551ddc5acdf303850a77744f450544593df4", func := "loop.example/g01102/laws.FnExactDirects", spec := "fnExactDirects", unfollowed := true, recurses := true, plainKeys := false, apart := false, narrowed := true }
def FnExactDirectsUptoSaid : Prop := fnExactDirectsUptoRow.holds Try.pinned (OpenSpec.upto fnExactDirectsSpec)

/-- 'laws.FnFiner', WHERE WHAT IT READS IS OF BULK AT MOST 1048576: true; the input reads as it did. -/
def fnFinerUptoRow : OpenClaim := { program := "ytheimpgjkfphnaa", sum := "6246610416f701ede5b28cd500d0551ddc5acdf303850a77744f450544593df4", func := "loop.example/g01102/laws.FnFiner", spec := "fnFiner", unfollowed := true, recurses := true, plainKeys := false, apart := false, narrowed := true }
def FnFinerUptoSaid : Prop := fnFinerUptoRow.holds Try.pinned (OpenSpec.upto fnFinerSpec)

end Rows
end Go.Proofs.Ytheimpgjkfphnaa
