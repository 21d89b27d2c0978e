/-
  No cell of these rows narrows 'for every input' (looked for: loops, veiled, ifaces, maps, wideKeys, modest, calm, conditions, laid).
  DERIVED. THE GIVEN ROWS OF THIS SEAT. 5 by the template 'for every input the law returns true; each argument reads behind the call as it read before'; 0 by the template 'total and deterministic' (their statements: YtgkapgmgmekceaaTotals.lean).
  GIVEN WITH THE SEED: the statements are not yours to turn. If you find one false, say at which input.
  Laid BY PROGRAM, IN A SANDBOX (cutbox-rows.mjs): the forced cells as the released guide's own fill.sh prints them over the translation 72c5e9334ea06367… (all of the seat's roots in one cut). By AI agents, Wed Nov 11 2026. No macro, syntax, notation, axiom, sorry.
-/
import Derived.Test.YtgkapgmgmekceaaChecked
import GoSem.Claim
import GoSem.ClaimJoined
import GoSem.ClaimMapViews
import Derived.JoinedTies
import Derived.KernelRfl
namespace Go.Proofs.Ytgkapgmgmekceaa
/- THE CELL 'sum', in the pinned program and in every row, IS THE sha256 OF THE DUMP (.gsa) THAT YtgkapgmgmekceaaProg.lean LOADS. Nothing in Lean hashes anything: it is a label: what it is worth is what the hold of that sum in a sandbox is worth. -/
noncomputable def Try.pinned : Pinned := { name := "ytgkapgmgmekceaa", sum := "72c5e9334ea063678f12d07c7c39ea7186ca5c322b1f015734abd396b8a80928", checked := Try.checked }
namespace Rows
def none {H : Type} : Left H := { results := [], args := [] }

/-- 'laws.FnExactValidWord': WHATEVER THE INPUT: true; the input reads as it did. -/
def fnExactValidWordSpec : ChangeSpec := { name := "fnExactValidWord", fn := fun _ => fun
  | [d1, d2] => { results := [.lit (.bool true)], args := [d1, d2] }
  | _ => none }
def fnExactValidWordRow : OpenClaim := { program := "ytgkapgmgmekceaa", sum := "72c5e9334ea063678f12d07c7c39ea7186ca5c322b1f015734abd396b8a80928", func := "loop.example/g01102/laws.FnExactValidWord", spec := "fnExactValidWord", unfollowed := true, recurses := true, apart := false }
def FnExactValidWordSaid : Prop := fnExactValidWordRow.holds Try.pinned (OpenSpec.ofChange fnExactValidWordSpec)

/-- ITS FALSE NEIGHBOUR: 'it returns false'. Refute it at one input. -/
def fnExactValidWordWrong : ChangeSpec := { name := "fnExactValidWord", fn := fun _ => fun
  | [d1, d2] => { results := [.lit (.bool false)], args := [d1, d2] }
  | _ => none }
def FnExactValidWordWrongFalsely : Prop := fnExactValidWordRow.holds Try.pinned (OpenSpec.ofChange fnExactValidWordWrong)

/-- 'laws.FnExactSameMachine': WHATEVER THE INPUT: true; the input reads as it did. -/
def fnExactSameMachineSpec : ChangeSpec := { name := "fnExactSameMachine", fn := fun _ => fun
  | [d1, d2] => { results := [.lit (.bool true)], args := [d1, d2] }
  | _ => none }
def fnExactSameMachineRow : OpenClaim := { program := "ytgkapgmgmekceaa", sum := "72c5e9334ea063678f12d07c7c39ea7186ca5c322b1f015734abd396b8a80928", func := "loop.example/g01102/laws.FnExactSameMachine", spec := "fnExactSameMachine", unfollowed := true, recurses := true, apart := false }
def FnExactSameMachineSaid : Prop := fnExactSameMachineRow.holds Try.pinned (OpenSpec.ofChange fnExactSameMachineSpec)

/-- ITS FALSE NEIGHBOUR: 'it returns false'. Refute it at one input. -/
def fnExactSameMachineWrong : ChangeSpec := { name := "fnExactSameMachine", fn := fun _ => fun
  | [d1, d2] => { results := [.lit (.bool false)], args := [d1, d2] }
  | _ => none }
def FnExactSameMachineWrongFalsely : Prop := fnExactSameMachineRow.holds Try.pinned (OpenSpec.ofChange fnExactSameMachineWrong)

/-- 'laws.FnExactValidMachine': WHATEVER THE INPUT: true; the input reads as it did. -/
def fnExactValidMachineSpec : ChangeSpec := { name := "fnExactValidMachine", fn := fun _ => fun
  | [d] => { results := [.lit (.bool true)], args := [d] }
  | _ => none }
def fnExactValidMachineRow : OpenClaim := { program := "ytgkapgmgmekceaa", sum := "72c5e9334ea063678f12d07c7c39ea7186ca5c322b1f015734abd396b8a80928", func := "loop.example/g01102/laws.FnExactValidMachine", spec := "fnExactValidMachine", unfollowed := true, recurses := true, apart := false }
def FnExactValidMachineSaid : Prop := fnExactValidMachineRow.holds Try.pinned (OpenSpec.ofChange fnExactValidMachineSpec)

/-- ITS FALSE NEIGHBOUR: 'it returns false'. Refute it at one input. -/
def fnExactValidMachineWrong : ChangeSpec := { name := "fnExactValidMachine", fn := fun _ => fun
  | [d] => { results := [.lit (.bool false)], args := [d] }
  | _ => none }
def FnExactValidMachineWrongFalsely : Prop := fnExactValidMachineRow.holds Try.pinned (OpenSpec.ofChange fnExactValidMachineWrong)

/-- 'laws.FnExactIsCongruence': WHATEVER THE INPUT: true; the input reads as it did. -/
def fnExactIsCongruenceSpec : ChangeSpec := { name := "fnExactIsCongruence", fn := fun _ => fun
  | [d1, d2] => { results := [.lit (.bool true)], args := [d1, d2] }
  | _ => none }
def fnExactIsCongruenceRow : OpenClaim := { program := "ytgkapgmgmekceaa", sum := "72c5e9334ea063678f12d07c7c39ea7186ca5c322b1f015734abd396b8a80928", func := "loop.example/g01102/laws.FnExactIsCongruence", spec := "fnExactIsCongruence", unfollowed := true, recurses := true, apart := false }
def FnExactIsCongruenceSaid : Prop := fnExactIsCongruenceRow.holds Try.pinned (OpenSpec.ofChange fnExactIsCongruenceSpec)

/-- ITS FALSE NEIGHBOUR: 'it returns false'. Refute it at one input. -/
def fnExactIsCongruenceWrong : ChangeSpec := { name := "fnExactIsCongruence", fn := fun _ => fun
  | [d1, d2] => { results := [.lit (.bool false)], args := [d1, d2] }
  | _ => none }
def FnExactIsCongruenceWrongFalsely : Prop := fnExactIsCongruenceRow.holds Try.pinned (OpenSpec.ofChange fnExactIsCongruenceWrong)

/-- 'laws.FnExactActionOf': WHATEVER THE INPUT: true; the input reads as it did. -/
def fnExactActionOfSpec : ChangeSpec := { name := "fnExactActionOf", fn := fun _ => fun
  | [d1, d2] => { results := [.lit (.bool true)], args := [d1, d2] }
  | _ => none }
def fnExactActionOfRow : OpenClaim := { program := "ytgkapgmgmekceaa", sum := "72c5e9334ea063678f12d07c7c39ea7186ca5c322b1f015734abd396b8a80928", func := "loop.example/g01102/laws.FnExactActionOf", spec := "fnExactActionOf", unfollowed := true, recurses := true, apart := false }
def FnExactActionOfSaid : Prop := fnExactActionOfRow.holds Try.pinned (OpenSpec.ofChange fnExactActionOfSpec)

/-- ITS FALSE NEIGHBOUR: 'it returns false'. Refute it at one input. -/
def fnExactActionOfWrong : ChangeSpec := { name := "fnExactActionOf", fn := fun _ => fun
  | [d1, d2] => { results := [.lit (.bool false)], args := [d1, d2] }
  | _ => none }
def FnExactActionOfWrongFalsely : Prop := fnExactActionOfRow.holds Try.pinned (OpenSpec.ofChange fnExactActionOfWrong)

/- THE SECOND FORM. 'bulk': how many values and letters a reading holds, each counted each time it is reached (what is shared counts as often as it is met; a slice's spare places count too). A statement '..UptoSaid' is the law's where the arguments, and the package variables that the reading takes, are together of bulk at most 1048576: NARROWER than '..Said'. Prove '..Said' where nothing that the law and all that it calls make is longer than what came in: it says more and counts as full. Else prove '..UptoSaid'. A law counts once. -/
mutual
def uptoBulk {H : Type} : DataW H → Nat
  | .lit (.string bytes) => bytes.length + 1
  | .lit _ => 1
  | .nil => 1
  | .ptr d => uptoBulk d + 1
  | .slice elems spare => uptoBulkAll elems + uptoBulkAll spare + 1
  | .agg parts => uptoBulkAll parts + 1
  | .iface _ d => uptoBulk d + 1
  | .map entries => uptoBulkEntries entries + 1
  | .held _ => 1
def uptoBulkAll {H : Type} : List (DataW H) → Nat
  | [] => 0
  | d :: r => uptoBulk d + uptoBulkAll r
def uptoBulkEntries {H : Type} : List (Lit × DataW H) → Nat
  | [] => 0
  | x :: r => uptoBulkEntry x + uptoBulkEntries r
def uptoBulkEntry {H : Type} : Lit × DataW H → Nat
  | (.string bytes, d) => bytes.length + uptoBulk d + 1
  | (_, d) => uptoBulk d + 1
 end
def uptoSmall : (H : Type) → List (DataW H) → Bool := fun _ ds => decide (uptoBulkAll ds ≤ 1048576)
def OpenSpec.upto (s : _root_.Go.ChangeSpec) : _root_.Go.OpenSpec := { _root_.Go.OpenSpec.ofChange s with cond := some uptoSmall }

/-- 'laws.FnExactValidWord', WHERE WHAT IT READS IS OF BULK AT MOST 1048576: true; the input reads as it did. -/
def fnExactValidWordUptoRow : OpenClaim := { program := "ytgkapgmgmekceaa", sum := "72c5e9334ea063678f12d07c7c39ea7186ca5c322b1f015734abd396b8a80928", func := "loop.example/g01102/laws.FnExactValidWord", spec := "fnExactValidWord", unfollowed := true, recurses := true, apart := false, narrowed := true }
def FnExactValidWordUptoSaid : Prop := fnExactValidWordUptoRow.holds Try.pinned (OpenSpec.upto fnExactValidWordSpec)

/-- 'laws.FnExactSameMachine', WHERE WHAT IT READS IS OF BULK AT MOST 1048576: true; the input reads as it did. -/
def fnExactSameMachineUptoRow : OpenClaim := { program := "ytgkapgmgmekceaa", sum := "72c5e9334ea063678f12d07c7c39ea7186ca5c322b1f015734abd396b8a80928", func := "loop.example/g01102/laws.FnExactSameMachine", spec := "fnExactSameMachine", unfollowed := true, recurses := true, apart := false, narrowed := true }
def FnExactSameMachineUptoSaid : Prop := fnExactSameMachineUptoRow.holds Try.pinned (OpenSpec.upto fnExactSameMachineSpec)

/-- 'laws.FnExactValidMachine', WHERE WHAT IT READS IS OF BULK AT MOST 1048576: true; the input reads as it did. -/
def fnExactValidMachineUptoRow : OpenClaim := { program := "ytgkapgmgmekceaa", sum := "72c5e9334ea063678f12d07c7c39ea7186ca5c322b1f015734abd396b8a80928", func := "loop.example/g01102/laws.FnExactValidMachine", spec := "fnExactValidMachine", unfollowed := true, recurses := true, apart := false, narrowed := true }
def FnExactValidMachineUptoSaid : Prop := fnExactValidMachineUptoRow.holds Try.pinned (OpenSpec.upto fnExactValidMachineSpec)

/-- 'laws.FnExactIsCongruence', WHERE WHAT IT READS IS OF BULK AT MOST 1048576: true; the input reads as it did. -/
def fnExactIsCongruenceUptoRow : OpenClaim := { program := "ytgkapgmgmekceaa", sum := "72c5e9334ea063678f12d07c7c39ea7186ca5c322b1f015734abd396b8a80928", func := "loop.example/g01102/laws.FnExactIsCongruence", spec := "fnExactIsCongruence", unfollowed := true, recurses := true, apart := false, narrowed := true }
def FnExactIsCongruenceUptoSaid : Prop := fnExactIsCongruenceUptoRow.holds Try.pinned (OpenSpec.upto fnExactIsCongruenceSpec)

/-- 'laws.FnExactActionOf', WHERE WHAT IT READS IS OF BULK AT MOST 1048576: true; the input reads as it did. -/
def fnExactActionOfUptoRow : OpenClaim := { program := "ytgkapgmgmekceaa", sum := "72c5e9334ea063678f12d07c7c39ea7186ca5c322b1f015734abd396b8a80928", func := "loop.example/g01102/laws.FnExactActionOf", spec := "fnExactActionOf", unfollowed := true, recurses := true, apart := false, narrowed := true }
def FnExactActionOfUptoSaid : Prop := fnExactActionOfUptoRow.holds Try.pinned (OpenSpec.upto fnExactActionOfSpec)

end Rows
end Go.Proofs.Ytgkapgmgmekceaa
