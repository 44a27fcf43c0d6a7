/-
  DERIVED. GIVEN WITH THE SEED: THE CARDS: each row of YtfhmdhndmlinkaaDoorRows.lean that lists a variable, with what it lists TIED to the program's text (the seventh form; the later family's looks); each row that meets fmt, with fmt's text TOLD by the authors' own Lean function (tested against real Go, not proved from fmt's source: count such statements apart). THE CARD IS WHAT COUNTS. Prove the row's statement (the work); the ties are given (YtfhmdhndmlinkaaDoorTie.lean); close each card by the builder's one call (the guide's Derived/Test/ToyasCard.lean, 'card_holds'). Laid BY PROGRAM, IN A SANDBOX (cutbox-door.mjs). By AI agents, Wed Nov 11 2026. No macro, syntax, notation, axiom, sorry.
-/
import Derived.Test.YtfhmdhndmlinkaaDoorRows
import GoSem.ClaimSeven
namespace Go.Proofs.YtfhmdhndmlinkaaDoor
namespace Rows

/-- THE TIED CARD OF 'bobbinlaw26.MergeLess'. -/
def mergeLessCard : Claim7 := { stood := { row := mergeLessRow, standIns := [], harness := (true, "b5a75c20790c95631e5276ef37c800d09340d7aec42ebdc050aadc4cdbe43259"), looks := false }, kinds := [], alts := [], laidByText := true, laidKinds := [.data, .data], laidTests := true, laidLooks := .later }
def MergeLessCardSaid : Prop := Claim7.holds Tryd.pinned (.plain (OpenSpec.ofChange mergeLessSpec)) mergeLessCard

/-- THE TIED CARD OF 'bobbinlaw26.MergeBlocks'. -/
def mergeBlocksCard : Claim7 := { stood := { row := mergeBlocksRow, standIns := [], harness := (true, "b5a75c20790c95631e5276ef37c800d09340d7aec42ebdc050aadc4cdbe43259"), looks := false }, kinds := [], alts := [], laidByText := true, laidKinds := [.data, .data], laidTests := true, laidLooks := .later }
def MergeBlocksCardSaid : Prop := Claim7.holds Tryd.pinned (.plain (OpenSpec.ofChange mergeBlocksSpec)) mergeBlocksCard

/-- THE TIED CARD OF 'bobbinlaw28.PhisNone'. -/
def phisNoneCard : Claim7 := { stood := { row := phisNoneRow, standIns := [], harness := (true, "b5a75c20790c95631e5276ef37c800d09340d7aec42ebdc050aadc4cdbe43259"), looks := false }, kinds := [], alts := [], laidByText := true, laidKinds := [.data], laidTests := true, laidLooks := .later }
def PhisNoneCardSaid : Prop := Claim7.holds Tryd.pinned (.plain (OpenSpec.ofChange phisNoneSpec)) phisNoneCard

/-- THE TIED CARD OF 'bobbinlaw15.SoundWays'. -/
def soundWaysCard : Claim7 := { stood := { row := soundWaysRow, standIns := [], harness := (true, "b5a75c20790c95631e5276ef37c800d09340d7aec42ebdc050aadc4cdbe43259"), looks := false }, kinds := [], alts := [], laidByText := true, laidKinds := [.data], laidTests := true, laidLooks := .later }
def SoundWaysCardSaid : Prop := Claim7.holds Tryd.pinned (.plain (OpenSpec.ofChange soundWaysSpec)) soundWaysCard

/-- THE TIED CARD OF 'bobbinlaw15.SoundLess'. -/
def soundLessCard : Claim7 := { stood := { row := soundLessRow, standIns := [], harness := (true, "b5a75c20790c95631e5276ef37c800d09340d7aec42ebdc050aadc4cdbe43259"), looks := false }, kinds := [], alts := [], laidByText := true, laidKinds := [.data], laidTests := true, laidLooks := .later }
def SoundLessCardSaid : Prop := Claim7.holds Tryd.pinned (.plain (OpenSpec.ofChange soundLessSpec)) soundLessCard

/-- THE TIED CARD OF 'bobbinlaw24.LoadsSteps'. -/
def loadsStepsCard : Claim7 := { stood := { row := loadsStepsRow, standIns := [], harness := (true, "b5a75c20790c95631e5276ef37c800d09340d7aec42ebdc050aadc4cdbe43259"), looks := false }, kinds := [], alts := [], laidByText := true, laidKinds := [.data], laidTests := true, laidLooks := .later }
def LoadsStepsCardSaid : Prop := Claim7.holds Tryd.pinned (.plain (OpenSpec.ofChange loadsStepsSpec)) loadsStepsCard

/-- THE TIED CARD OF 'bobbinlaw24.LoadsCounted'. -/
def loadsCountedCard : Claim7 := { stood := { row := loadsCountedRow, standIns := [], harness := (true, "b5a75c20790c95631e5276ef37c800d09340d7aec42ebdc050aadc4cdbe43259"), looks := false }, kinds := [], alts := [], laidByText := true, laidKinds := [.data], laidTests := true, laidLooks := .later }
def LoadsCountedCardSaid : Prop := Claim7.holds Tryd.pinned (.plain (OpenSpec.ofChange loadsCountedSpec)) loadsCountedCard

/-- THE SECOND FORM's CARD OF 'bobbinlaw26.MergeLess'. -/
def mergeLessUptoCard : Claim7 := { stood := { row := mergeLessUptoRow, standIns := [], harness := (true, "b5a75c20790c95631e5276ef37c800d09340d7aec42ebdc050aadc4cdbe43259"), looks := false }, kinds := [], alts := [], laidByText := true, laidKinds := [.data, .data], laidTests := true, laidLooks := .later }
def MergeLessUptoCardSaid : Prop := Claim7.holds Tryd.pinned (.plain (OpenSpec.upto mergeLessSpec)) mergeLessUptoCard

/-- THE SECOND FORM's CARD OF 'bobbinlaw26.MergeBlocks'. -/
def mergeBlocksUptoCard : Claim7 := { stood := { row := mergeBlocksUptoRow, standIns := [], harness := (true, "b5a75c20790c95631e5276ef37c800d09340d7aec42ebdc050aadc4cdbe43259"), looks := false }, kinds := [], alts := [], laidByText := true, laidKinds := [.data, .data], laidTests := true, laidLooks := .later }
def MergeBlocksUptoCardSaid : Prop := Claim7.holds Tryd.pinned (.plain (OpenSpec.upto mergeBlocksSpec)) mergeBlocksUptoCard

/-- THE SECOND FORM's CARD OF 'bobbinlaw28.PhisNone'. -/
def phisNoneUptoCard : Claim7 := { stood := { row := phisNoneUptoRow, standIns := [], harness := (true, "b5a75c20790c95631e5276ef37c800d09340d7aec42ebdc050aadc4cdbe43259"), looks := false }, kinds := [], alts := [], laidByText := true, laidKinds := [.data], laidTests := true, laidLooks := .later }
def PhisNoneUptoCardSaid : Prop := Claim7.holds Tryd.pinned (.plain (OpenSpec.upto phisNoneSpec)) phisNoneUptoCard

/-- THE SECOND FORM's CARD OF 'bobbinlaw15.SoundWays'. -/
def soundWaysUptoCard : Claim7 := { stood := { row := soundWaysUptoRow, standIns := [], harness := (true, "b5a75c20790c95631e5276ef37c800d09340d7aec42ebdc050aadc4cdbe43259"), looks := false }, kinds := [], alts := [], laidByText := true, laidKinds := [.data], laidTests := true, laidLooks := .later }
def SoundWaysUptoCardSaid : Prop := Claim7.holds Tryd.pinned (.plain (OpenSpec.upto soundWaysSpec)) soundWaysUptoCard

/-- THE SECOND FORM's CARD OF 'bobbinlaw15.SoundLess'. -/
def soundLessUptoCard : Claim7 := { stood := { row := soundLessUptoRow, standIns := [], harness := (true, "b5a75c20790c95631e5276ef37c800d09340d7aec42ebdc050aadc4cdbe43259"), looks := false }, kinds := [], alts := [], laidByText := true, laidKinds := [.data], laidTests := true, laidLooks := .later }
def SoundLessUptoCardSaid : Prop := Claim7.holds Tryd.pinned (.plain (OpenSpec.upto soundLessSpec)) soundLessUptoCard

/-- THE SECOND FORM's CARD OF 'bobbinlaw24.LoadsSteps'. -/
def loadsStepsUptoCard : Claim7 := { stood := { row := loadsStepsUptoRow, standIns := [], harness := (true, "b5a75c20790c95631e5276ef37c800d09340d7aec42ebdc050aadc4cdbe43259"), looks := false }, kinds := [], alts := [], laidByText := true, laidKinds := [.data], laidTests := true, laidLooks := .later }
def LoadsStepsUptoCardSaid : Prop := Claim7.holds Tryd.pinned (.plain (OpenSpec.upto loadsStepsSpec)) loadsStepsUptoCard

/-- THE SECOND FORM's CARD OF 'bobbinlaw24.LoadsCounted'. -/
def loadsCountedUptoCard : Claim7 := { stood := { row := loadsCountedUptoRow, standIns := [], harness := (true, "b5a75c20790c95631e5276ef37c800d09340d7aec42ebdc050aadc4cdbe43259"), looks := false }, kinds := [], alts := [], laidByText := true, laidKinds := [.data], laidTests := true, laidLooks := .later }
def LoadsCountedUptoCardSaid : Prop := Claim7.holds Tryd.pinned (.plain (OpenSpec.upto loadsCountedSpec)) loadsCountedUptoCard
end Rows
end Go.Proofs.YtfhmdhndmlinkaaDoor
