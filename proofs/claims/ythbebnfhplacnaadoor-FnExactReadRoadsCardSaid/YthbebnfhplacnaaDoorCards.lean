/-
  DERIVED. GIVEN WITH THE SEED: THE CARDS: each row of YthbebnfhplacnaaDoorRows.lean that lists a variable, with what it lists TIED to the program's text (the seventh form; the later family's looks); each row that meets fmt, with fmt's text TOLD by the authors' own Lean function (tested against real Go, not proved from fmt's source: count such statements apart). THE CARD IS WHAT COUNTS. Prove the row's statement (the work); the ties are given (YthbebnfhplacnaaDoorTie.lean); close each card by the builder's one call (the guide's Derived/Test/ToyasCard.lean, 'card_holds'). Laid BY PROGRAM, IN A SANDBOX (cutbox-door.mjs). By AI agents, Wed Nov 11 2026. No macro, syntax, notation, axiom, sorry.
-/
import Derived.Test.YthbebnfhplacnaaDoorRows
import GoSem.ClaimSeven
namespace Go.Proofs.YthbebnfhplacnaaDoor
namespace Rows

/-- THE TIED CARD OF 'laws.FnExactReadRoads'. -/
def fnExactReadRoadsCard : Claim7 := { stood := { row := fnExactReadRoadsRow, standIns := [], harness := (true, "62de32cb7edddbc7ba714c78ebe0c0563c76fb371c9c76961f6413d6a24548e0"), looks := true }, kinds := [], alts := [], laidByText := true, laidKinds := [.data, .data, .data, .data, .sentinel, .sentinel, .pinned], laidTests := true, laidLooks := .later }
def FnExactReadRoadsCardSaid : Prop := Claim7.holds Tryd.pinned (.plain (OpenSpec.ofChange fnExactReadRoadsSpec)) fnExactReadRoadsCard

/-- THE SECOND FORM's CARD OF 'laws.FnExactReadRoads'. -/
def fnExactReadRoadsUptoCard : Claim7 := { stood := { row := fnExactReadRoadsUptoRow, standIns := [], harness := (true, "62de32cb7edddbc7ba714c78ebe0c0563c76fb371c9c76961f6413d6a24548e0"), looks := true }, kinds := [], alts := [], laidByText := true, laidKinds := [.data, .data, .data, .data, .sentinel, .sentinel, .pinned], laidTests := true, laidLooks := .later }
def FnExactReadRoadsUptoCardSaid : Prop := Claim7.holds Tryd.pinned (.plain (OpenSpec.upto fnExactReadRoadsSpec)) fnExactReadRoadsUptoCard
end Rows
end Go.Proofs.YthbebnfhplacnaaDoor
