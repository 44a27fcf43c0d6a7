/-
  DERIVED. GIVEN WITH THE SEED: THE CARDS: each row of YteegodminpidpaaDoorRows.lean that lists a variable, with what it lists TIED to the program's text (the seventh form; the later family's looks); each row that meets fmt, with fmt's text TOLD by the authors' own Lean function (tested against real Go, not proved from fmt's source: count such statements apart). THE CARD IS WHAT COUNTS. Prove the row's statement (the work); the ties are given (YteegodminpidpaaDoorTie.lean); close each card by the builder's one call (the guide's Derived/Test/ToyasCard.lean, 'card_holds'). Laid BY PROGRAM, IN A SANDBOX (cutbox-door.mjs). By AI agents, Wed Nov 11 2026. No macro, syntax, notation, axiom, sorry.
-/
import Derived.Test.YteegodminpidpaaDoorRows
import GoSem.ClaimSeven
namespace Go.Proofs.YteegodminpidpaaDoor
namespace Rows

/-- THE TIED CARD OF 'bobbinlaw28.PhisNames'. -/
def phisNamesCard : Claim7 := { stood := { row := phisNamesRow, standIns := [], harness := (true, "177ce55c9effca38ea37f35bd645520d5b7a503b506116e44f157b71b201d6c0"), looks := false }, kinds := [], alts := [], laidByText := true, laidKinds := [.data], laidTests := true, laidLooks := .later }
def PhisNamesCardSaid : Prop := Claim7.holds Tryd.pinned (.plain (OpenSpec.ofChange phisNamesSpec)) phisNamesCard

/-- THE SECOND FORM's CARD OF 'bobbinlaw28.PhisNames'. -/
def phisNamesUptoCard : Claim7 := { stood := { row := phisNamesUptoRow, standIns := [], harness := (true, "177ce55c9effca38ea37f35bd645520d5b7a503b506116e44f157b71b201d6c0"), looks := false }, kinds := [], alts := [], laidByText := true, laidKinds := [.data], laidTests := true, laidLooks := .later }
def PhisNamesUptoCardSaid : Prop := Claim7.holds Tryd.pinned (.plain (OpenSpec.upto phisNamesSpec)) phisNamesUptoCard
end Rows
end Go.Proofs.YteegodminpidpaaDoor
