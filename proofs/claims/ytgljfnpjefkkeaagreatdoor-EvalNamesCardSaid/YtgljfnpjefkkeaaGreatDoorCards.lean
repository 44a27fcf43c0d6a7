/-
  DERIVED. GIVEN WITH THE SEED: THE CARDS: each row of YtgljfnpjefkkeaaGreatDoorRows.lean that lists a variable, with what it lists TIED to the program's text (the seventh form; the later family's looks); each row that meets fmt, with fmt's text TOLD by the authors' own Lean function (tested against real Go, not proved from fmt's source: count such statements apart). THE CARD IS WHAT COUNTS. Prove the row's statement (the work); the ties are given (YtgljfnpjefkkeaaGreatDoorTie.lean); close each card by the builder's one call (the guide's Derived/Test/ToyasCard.lean, 'card_holds'). Laid BY PROGRAM, IN A SANDBOX (cutbox-door.mjs). By AI agents, Wed Nov 11 2026. No macro, syntax, notation, axiom, sorry.
-/
import Derived.Test.YtgljfnpjefkkeaaGreatDoorRows
import GoSem.ClaimSeven
namespace Go.Proofs.YtgljfnpjefkkeaaGreatDoor
namespace Rows

/-- THE TIED CARD OF 'bobbinlaw16.EvalNames'. -/
def evalNamesCard : Claim7 := { stood := { row := evalNamesRow, standIns := [], harness := (true, "dfedfff33eff74b6417a7f90bc347bca8c2b1432ccea9947220c867b13d11f1d"), looks := true }, kinds := [], alts := [], laidByText := true, laidKinds := [.data, .widerDeep, .data, .pinned], laidTests := true, laidLooks := .later }
def EvalNamesCardSaid : Prop := Claim7.holds Tryz.pinned (.plain (OpenSpec.ofChange evalNamesSpec)) evalNamesCard

/-- THE SECOND FORM's CARD OF 'bobbinlaw16.EvalNames'. -/
def evalNamesUptoCard : Claim7 := { stood := { row := evalNamesUptoRow, standIns := [], harness := (true, "dfedfff33eff74b6417a7f90bc347bca8c2b1432ccea9947220c867b13d11f1d"), looks := true }, kinds := [], alts := [], laidByText := true, laidKinds := [.data, .widerDeep, .data, .pinned], laidTests := true, laidLooks := .later }
def EvalNamesUptoCardSaid : Prop := Claim7.holds Tryz.pinned (.plain (OpenSpec.upto evalNamesSpec)) evalNamesUptoCard
end Rows
end Go.Proofs.YtgljfnpjefkkeaaGreatDoor
