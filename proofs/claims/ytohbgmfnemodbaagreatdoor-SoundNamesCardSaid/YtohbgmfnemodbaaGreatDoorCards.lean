/-
  DERIVED. GIVEN WITH THE SEED: THE CARDS: each row of YtohbgmfnemodbaaGreatDoorRows.lean that lists a variable, with what it lists TIED to the program's text (the seventh form; the later family's looks); each row that meets fmt, with fmt's text TOLD by the authors' own Lean function (tested against real Go, not proved from fmt's source: count such statements apart). THE CARD IS WHAT COUNTS. Prove the row's statement (the work); the ties are given (YtohbgmfnemodbaaGreatDoorTie.lean); close each card by the builder's one call (the guide's Derived/Test/ToyasCard.lean, 'card_holds'). Laid BY PROGRAM, IN A SANDBOX (cutbox-door.mjs). By AI agents, Wed Nov 11 2026. No macro, syntax, notation, axiom, sorry.
-/
import Derived.Test.YtohbgmfnemodbaaGreatDoorRows
import GoSem.ClaimSeven
namespace Go.Proofs.YtohbgmfnemodbaaGreatDoor
namespace Rows

/-- THE TIED CARD OF 'bobbinlaw15.SoundNames'. -/
def soundNamesCard : Claim7 := { stood := { row := soundNamesRow, standIns := [], harness := (true, "add072012e0349490aa60f3b5a38b22c20e0540522776a0607d3b8a291fa8d06"), looks := false }, kinds := [], alts := [], laidByText := true, laidKinds := [.data, .widerDeep, .data, .pinned], laidTests := true, laidLooks := .later }
def SoundNamesCardSaid : Prop := Claim7.holds Tryz.pinned (.plain (OpenSpec.ofChange soundNamesSpec)) soundNamesCard

/-- THE SECOND FORM's CARD OF 'bobbinlaw15.SoundNames'. -/
def soundNamesUptoCard : Claim7 := { stood := { row := soundNamesUptoRow, standIns := [], harness := (true, "add072012e0349490aa60f3b5a38b22c20e0540522776a0607d3b8a291fa8d06"), looks := false }, kinds := [], alts := [], laidByText := true, laidKinds := [.data, .widerDeep, .data, .pinned], laidTests := true, laidLooks := .later }
def SoundNamesUptoCardSaid : Prop := Claim7.holds Tryz.pinned (.plain (OpenSpec.upto soundNamesSpec)) soundNamesUptoCard
end Rows
end Go.Proofs.YtohbgmfnemodbaaGreatDoor
