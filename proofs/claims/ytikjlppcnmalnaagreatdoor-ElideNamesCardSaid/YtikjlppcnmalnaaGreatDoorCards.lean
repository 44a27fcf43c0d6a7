/-
  DERIVED. GIVEN WITH THE SEED: THE CARDS: each row of YtikjlppcnmalnaaGreatDoorRows.lean that lists a variable, with what it lists TIED to the program's text (the seventh form; the later family's looks); each row that meets fmt, with fmt's text TOLD by the authors' own Lean function (tested against real Go, not proved from fmt's source: count such statements apart). THE CARD IS WHAT COUNTS. Prove the row's statement (the work); the ties are given (YtikjlppcnmalnaaGreatDoorTie.lean); close each card by the builder's one call (the guide's Derived/Test/ToyasCard.lean, 'card_holds'). Laid BY PROGRAM, IN A SANDBOX (cutbox-door.mjs). By AI agents, Wed Nov 11 2026. No macro, syntax, notation, axiom, sorry.
-/
import Derived.Test.YtikjlppcnmalnaaGreatDoorRows
import GoSem.ClaimSeven
namespace Go.Proofs.YtikjlppcnmalnaaGreatDoor
namespace Rows

/-- THE TIED CARD OF 'bobbinlaw25.ElideNames'. -/
def elideNamesCard : Claim7 := { stood := { row := elideNamesRow, standIns := [], harness := (true, "65b3d8d2412b048bf3d10bdf206c992016a909b7d8e23a5729a9ea8a3d5674b0"), looks := true }, kinds := [], alts := [], laidByText := true, laidKinds := [.data, .data, .data, .data, .sentinel, .sentinel, .widerDeep, .widerDeep, .data, .data, .data, .pinned], laidTests := true, laidLooks := .later }
def ElideNamesCardSaid : Prop := Claim7.holds Tryz.pinned (.plain (OpenSpec.ofChange elideNamesSpec)) elideNamesCard

/-- THE SECOND FORM's CARD OF 'bobbinlaw25.ElideNames'. -/
def elideNamesUptoCard : Claim7 := { stood := { row := elideNamesUptoRow, standIns := [], harness := (true, "65b3d8d2412b048bf3d10bdf206c992016a909b7d8e23a5729a9ea8a3d5674b0"), looks := true }, kinds := [], alts := [], laidByText := true, laidKinds := [.data, .data, .data, .data, .sentinel, .sentinel, .widerDeep, .widerDeep, .data, .data, .data, .pinned], laidTests := true, laidLooks := .later }
def ElideNamesUptoCardSaid : Prop := Claim7.holds Tryz.pinned (.plain (OpenSpec.upto elideNamesSpec)) elideNamesUptoCard
end Rows
end Go.Proofs.YtikjlppcnmalnaaGreatDoor
