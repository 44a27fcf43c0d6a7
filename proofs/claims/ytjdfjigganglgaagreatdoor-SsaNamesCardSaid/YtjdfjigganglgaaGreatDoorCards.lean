/-
  DERIVED. GIVEN WITH THE SEED: THE CARDS: each row of YtjdfjigganglgaaGreatDoorRows.lean that lists a variable, with what it lists TIED to the program's text (the seventh form; the later family's looks); each row that meets fmt, with fmt's text TOLD by the authors' own Lean function (tested against real Go, not proved from fmt's source: count such statements apart). THE CARD IS WHAT COUNTS. Prove the row's statement (the work); the ties are given (YtjdfjigganglgaaGreatDoorTie.lean); close each card by the builder's one call (the guide's Derived/Test/ToyasCard.lean, 'card_holds'). Laid BY PROGRAM, IN A SANDBOX (cutbox-door.mjs). By AI agents, Wed Nov 11 2026. No macro, syntax, notation, axiom, sorry.
-/
import Derived.Test.YtjdfjigganglgaaGreatDoorRows
import GoSem.ClaimSeven
namespace Go.Proofs.YtjdfjigganglgaaGreatDoor
namespace Rows

/-- THE TIED CARD OF 'bobbinlaw14.SsaNames'. -/
def ssaNamesCard : Claim7 := { stood := { row := ssaNamesRow, standIns := [], harness := (true, "bedf62f360a661b79b4bc765787399bd69a4bfdb60a120cc5bd6e48e4078dad9"), looks := true }, kinds := [], alts := [], laidByText := true, laidKinds := [.data], laidTests := true, laidLooks := .later }
def SsaNamesCardSaid : Prop := Claim7.holds Tryz.pinned (.plain (OpenSpec.ofChange ssaNamesSpec)) ssaNamesCard

/-- THE SECOND FORM's CARD OF 'bobbinlaw14.SsaNames'. -/
def ssaNamesUptoCard : Claim7 := { stood := { row := ssaNamesUptoRow, standIns := [], harness := (true, "bedf62f360a661b79b4bc765787399bd69a4bfdb60a120cc5bd6e48e4078dad9"), looks := true }, kinds := [], alts := [], laidByText := true, laidKinds := [.data], laidTests := true, laidLooks := .later }
def SsaNamesUptoCardSaid : Prop := Claim7.holds Tryz.pinned (.plain (OpenSpec.upto ssaNamesSpec)) ssaNamesUptoCard
end Rows
end Go.Proofs.YtjdfjigganglgaaGreatDoor
