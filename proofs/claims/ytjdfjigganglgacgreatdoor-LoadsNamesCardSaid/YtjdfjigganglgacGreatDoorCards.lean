/-
  DERIVED. GIVEN WITH THE SEED: THE CARDS: each row of YtjdfjigganglgacGreatDoorRows.lean that lists a variable, with what it lists TIED to the program's text (the seventh form; the later family's looks); each row that meets fmt, with fmt's text TOLD by the authors' own Lean function (tested against real Go, not proved from fmt's source: count such statements apart). THE CARD IS WHAT COUNTS. Prove the row's statement (the work); the ties are given (YtjdfjigganglgacGreatDoorTie.lean); close each card by the builder's one call (the guide's Derived/Test/ToyasCard.lean, 'card_holds'). Laid BY PROGRAM, IN A SANDBOX (cutbox-door.mjs). By AI agents, Wed Nov 11 2026. No macro, syntax, notation, axiom, sorry.
-/
import Derived.Test.YtjdfjigganglgacGreatDoorRows
import GoSem.ClaimSeven
namespace Go.Proofs.YtjdfjigganglgacGreatDoor
namespace Rows

/-- THE TIED CARD OF 'bobbinlaw24.LoadsNames'. -/
def loadsNamesCard : Claim7 := { stood := { row := loadsNamesRow, standIns := [], harness := (true, "56bb8362f8e53716ad244ac758a226736eb851959dec6af54ab8a8f1ce5f6243"), looks := false }, kinds := [], alts := [], laidByText := true, laidKinds := [.data, .widerDeep, .data, .pinned], laidTests := true, laidLooks := .later }
def LoadsNamesCardSaid : Prop := Claim7.holds Tryz.pinned (.plain (OpenSpec.ofChange loadsNamesSpec)) loadsNamesCard

/-- THE SECOND FORM's CARD OF 'bobbinlaw24.LoadsNames'. -/
def loadsNamesUptoCard : Claim7 := { stood := { row := loadsNamesUptoRow, standIns := [], harness := (true, "56bb8362f8e53716ad244ac758a226736eb851959dec6af54ab8a8f1ce5f6243"), looks := false }, kinds := [], alts := [], laidByText := true, laidKinds := [.data, .widerDeep, .data, .pinned], laidTests := true, laidLooks := .later }
def LoadsNamesUptoCardSaid : Prop := Claim7.holds Tryz.pinned (.plain (OpenSpec.upto loadsNamesSpec)) loadsNamesUptoCard
end Rows
end Go.Proofs.YtjdfjigganglgacGreatDoor
