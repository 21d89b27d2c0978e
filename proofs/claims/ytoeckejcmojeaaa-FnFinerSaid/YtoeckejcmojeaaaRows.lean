/-
  No cell of these rows narrows 'for every input' (looked for: loops, veiled, ifaces, maps, wideKeys, modest, calm, conditions, laid).
  DERIVED. THE GIVEN ROWS OF THIS SEAT. 3 by the template 'for every input the law returns true; each argument reads behind the call as it read before'; 0 by the template 'total and deterministic' (their statements: YtoeckejcmojeaaaTotals.lean).
  GIVEN WITH THE SEED: the statements are not yours to turn. If you find one false, say at which input.
  Laid BY PROGRAM, IN A SANDBOX (cutbox-rows.mjs): the forced cells as the released guide's own fill.sh prints them over the translation bbf4e1f50b5188b7… (all of the seat's roots in one cut). By AI agents, Wed Nov 11 2026. No macro, syntax, notation, axiom, sorry.
-/
import Derived.Test.YtoeckejcmojeaaaChecked
import GoSem.Claim
import GoSem.ClaimJoined
import GoSem.ClaimMapViews
import Derived.JoinedTies
import Derived.KernelRfl
namespace Go.Proofs.Ytoeckejcmojeaaa
/- THE CELL 'sum', in the pinned program and in every row, IS THE sha256 OF THE DUMP (.gsa) THAT YtoeckejcmojeaaaProg.lean LOADS. Nothing in Lean hashes anything: it is a label: what it is worth is what the hold of that sum in a sandbox is worth. -/
noncomputable def Try.pinned : Pinned := { name := "ytoeckejcmojeaaa", sum := "bbf4e1f50b5188b7f5afa2ef852c7d61c9019c3e1d8d315b0eff67846021557e", checked := Try.checked }
namespace Rows
def none {H : Type} : Left H := { results := [], args := [] }

/-- 'laws.FnExactLeastKernels': WHATEVER THE INPUT: true; the input reads as it did. -/
def fnExactLeastKernelsSpec : ChangeSpec := { name := "fnExactLeastKernels", fn := fun _ => fun
  | [d] => { results := [.lit (.bool true)], args := [d] }
  | _ => none }
def fnExactLeastKernelsRow : OpenClaim := { program := "ytoeckejcmojeaaa", sum := "bbf4e1f50b5188b7f5afa2ef852c7d61c9019c3e1d8d315b0eff67846021557e", func := "loop.example/g01102/laws.FnExactLeastKernels", spec := "fnExactLeastKernels", unfollowed := true, recurses := true, apart := false }
def FnExactLeastKernelsSaid : Prop := fnExactLeastKernelsRow.holds Try.pinned (OpenSpec.ofChange fnExactLeastKernelsSpec)

/-- ITS FALSE NEIGHBOUR: 'it returns false'. Refute it at one input. -/
def fnExactLeastKernelsWrong : ChangeSpec := { name := "fnExactLeastKernels", fn := fun _ => fun
  | [d] => { results := [.lit (.bool false)], args := [d] }
  | _ => none }
def FnExactLeastKernelsWrongFalsely : Prop := fnExactLeastKernelsRow.holds Try.pinned (OpenSpec.ofChange fnExactLeastKernelsWrong)

/-- 'laws.FnFiner': WHATEVER THE INPUT: true; the input reads as it did. -/
def fnFinerSpec : ChangeSpec := { name := "fnFiner", fn := fun _ => fun
  | [d1, d2] => { results := [.lit (.bool true)], args := [d1, d2] }
  | _ => none }
def fnFinerRow : OpenClaim := { program := "ytoeckejcmojeaaa", sum := "bbf4e1f50b5188b7f5afa2ef852c7d61c9019c3e1d8d315b0eff67846021557e", func := "loop.example/g01102/laws.FnFiner", spec := "fnFiner", unfollowed := true, recurses := true, apart := false }
def FnFinerSaid : Prop := fnFinerRow.holds Try.pinned (OpenSpec.ofChange fnFinerSpec)

/-- ITS FALSE NEIGHBOUR: 'it returns false'. Refute it at one input. -/
def fnFinerWrong : ChangeSpec := { name := "fnFiner", fn := fun _ => fun
  | [d1, d2] => { results := [.lit (.bool false)], args := [d1, d2] }
  | _ => none }
def FnFinerWrongFalsely : Prop := fnFinerRow.holds Try.pinned (OpenSpec.ofChange fnFinerWrong)

/-- 'laws.FnExactSurestWord': WHATEVER THE INPUT: true; the input reads as it did. -/
def fnExactSurestWordSpec : ChangeSpec := { name := "fnExactSurestWord", fn := fun _ => fun
  | [d] => { results := [.lit (.bool true)], args := [d] }
  | _ => none }
def fnExactSurestWordRow : OpenClaim := { program := "ytoeckejcmojeaaa", sum := "bbf4e1f50b5188b7f5afa2ef852c7d61c9019c3e1d8d315b0eff67846021557e", func := "loop.example/g01102/laws.FnExactSurestWord", spec := "fnExactSurestWord", unfollowed := true, recurses := true, apart := false }
def FnExactSurestWordSaid : Prop := fnExactSurestWordRow.holds Try.pinned (OpenSpec.ofChange fnExactSurestWordSpec)

/-- ITS FALSE NEIGHBOUR: 'it returns false'. Refute it at one input. -/
def fnExactSurestWordWrong : ChangeSpec := { name := "fnExactSurestWord", fn := fun _ => fun
  | [d] => { results := [.lit (.bool false)], args := [d] }
  | _ => none }
def FnExactSurestWordWrongFalsely : Prop := fnExactSurestWordRow.holds Try.pinned (OpenSpec.ofChange fnExactSurestWordWrong)

/- THE SECOND FORM. 'bulk': how many values and letters a reading holds, each counted each time it is reached (what is shared counts as often as it is met; a slice's spare places count too). A statement '..UptoSaid' is the law's where the arguments, and the package variables that the reading takes, are together of bulk at most 1048576: NARROWER than '..Said'. Prove '..Said' where nothing that the law and all that it calls make is longer than what came in: it says more and counts as full. Else prove '..UptoSaid'. A law counts once. -/
mutual
def uptoBulk {H : Type} : DataW H → Nat
  | .lit (.string bytes) => bytes.length + 1
  | .lit _ => 1
  | .nil => 1
  | .ptr d => uptoBulk d + 1
  | .slice elems spare => uptoBulkAll elems + uptoBulkAll spare + 1
  | .agg parts => uptoBulkAll parts + 1
  | .iface _ d => uptoBulk d + 1
  | .map entries => uptoBulkEntries entries + 1
  | .held _ => 1
def uptoBulkAll {H : Type} : List (DataW H) → Nat
  | [] => 0
  | d :: r => uptoBulk d + uptoBulkAll r
def uptoBulkEntries {H : Type} : List (Lit × DataW H) → Nat
  | [] => 0
  | x :: r => uptoBulkEntry x + uptoBulkEntries r
def uptoBulkEntry {H : Type} : Lit × DataW H → Nat
  | (.string bytes, d) => bytes.length + uptoBulk d + 1
  | (_, d) => uptoBulk d + 1
 end
def uptoSmall : (H : Type) → List (DataW H) → Bool := fun _ ds => decide (uptoBulkAll ds ≤ 1048576)
def OpenSpec.upto (s : _root_.Go.ChangeSpec) : _root_.Go.OpenSpec := { _root_.Go.OpenSpec.ofChange s with cond := some uptoSmall }

/-- 'laws.FnExactLeastKernels', WHERE WHAT IT READS IS OF BULK AT MOST 1048576: true; the input reads as it did. -/
def fnExactLeastKernelsUptoRow : OpenClaim := { program := "ytoeckejcmojeaaa", sum := "bbf4e1f50b5188b7f5afa2ef852c7d61c9019c3e1d8d315b0eff67846021557e", func := "loop.example/g01102/laws.FnExactLeastKernels", spec := "fnExactLeastKernels", unfollowed := true, recurses := true, apart := false, narrowed := true }
def FnExactLeastKernelsUptoSaid : Prop := fnExactLeastKernelsUptoRow.holds Try.pinned (OpenSpec.upto fnExactLeastKernelsSpec)

/-- 'laws.FnFiner', WHERE WHAT IT READS IS OF BULK AT MOST 1048576: true; the input reads as it did. -/
def fnFinerUptoRow : OpenClaim := { program := "ytoeckejcmojeaaa", sum := "bbf4e1f50b5188b7f5afa2ef852c7d61c9019c3e1d8d315b0eff67846021557e", func := "loop.example/g01102/laws.FnFiner", spec := "fnFiner", unfollowed := true, recurses := true, apart := false, narrowed := true }
def FnFinerUptoSaid : Prop := fnFinerUptoRow.holds Try.pinned (OpenSpec.upto fnFinerSpec)

/-- 'laws.FnExactSurestWord', WHERE WHAT IT READS IS OF BULK AT MOST 1048576: true; the input reads as it did. -/
def fnExactSurestWordUptoRow : OpenClaim := { program := "ytoeckejcmojeaaa", sum := "bbf4e1f50b5188b7f5afa2ef852c7d61c9019c3e1d8d315b0eff67846021557e", func := "loop.example/g01102/laws.FnExactSurestWord", spec := "fnExactSurestWord", unfollowed := true, recurses := true, apart := false, narrowed := true }
def FnExactSurestWordUptoSaid : Prop := fnExactSurestWordUptoRow.holds Try.pinned (OpenSpec.upto fnExactSurestWordSpec)

end Rows
end Go.Proofs.Ytoeckejcmojeaaa
