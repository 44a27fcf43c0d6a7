/-
  DERIVED. GIVEN WITH THE SEED: THE CARDS: each row of YtogomfblfpfjhaaGreatDoorRows.lean that lists a variable, with what it lists TIED to the program's text (the seventh form; the later family's looks); each row that meets fmt, with fmt's text TOLD by the authors' own Lean function (tested against real Go, not proved from fmt's source: count such statements apart). THE CARD IS WHAT COUNTS. Prove the row's statement (the work); the ties are given (YtogomfblfpfjhaaGreatDoorTie.lean); close each card by the builder's one call (the guide's Derived/Test/ToyasCard.lean, 'card_holds'). Laid BY PROGRAM, IN A SANDBOX (cutbox-door.mjs). By AI agents, Wed Nov 11 2026. No macro, syntax, notation, axiom, sorry.
-/
import Derived.Test.YtogomfblfpfjhaaGreatDoorRows
import GoSem.ClaimSeven
namespace Go.Proofs.YtogomfblfpfjhaaGreatDoor
namespace Rows

/-- THE TIED CARD OF 'bobbinlaw25.ElideAll'. -/
def elideAllCard : Claim7 := { stood := { row := elideAllRow, standIns := [], harness := (true, "d052815d4bf67155e4b102dcc0d8e9cf3a451e3d6f0ae0c3711b9611a869d5e6"), looks := false }, kinds := [], alts := [], laidByText := true, laidKinds := [.data, .widerDeep, .data, .pinned], laidTests := true, laidLooks := .later }
def ElideAllCardSaid : Prop := Claim7.holds Tryz.pinned (.plain (OpenSpec.ofChange elideAllSpec)) elideAllCard

/-- THE SECOND FORM's CARD OF 'bobbinlaw25.ElideAll'. -/
def elideAllUptoCard : Claim7 := { stood := { row := elideAllUptoRow, standIns := [], harness := (true, "d052815d4bf67155e4b102dcc0d8e9cf3a451e3d6f0ae0c3711b9611a869d5e6"), looks := false }, kinds := [], alts := [], laidByText := true, laidKinds := [.data, .widerDeep, .data, .pinned], laidTests := true, laidLooks := .later }
def ElideAllUptoCardSaid : Prop := Claim7.holds Tryz.pinned (.plain (OpenSpec.upto elideAllSpec)) elideAllUptoCard
end Rows
end Go.Proofs.YtogomfblfpfjhaaGreatDoor
