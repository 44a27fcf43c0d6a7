/-
  NARROWER THAN 'FOR EVERY INPUT', by the rows' own cells (each row's printed sentence says how): LexNames: laid · LexTokens: laid · LexCovers: laid · LexAhead: laid · LexWord: laid.
  DERIVED. THE GIVEN ROWS OF THIS SEAT. 5 by the template 'for every input the law returns true; each argument reads behind the call as it read before'; 0 by the template 'total and deterministic' (their statements: YtdkfcpadbahohaaDoorTotals.lean).
  GIVEN WITH THE SEED: the statements are not yours to turn. If you find one false, say at which input.
  Laid BY PROGRAM, IN A SANDBOX (cutbox-rows.mjs): the forced cells as the released guide's own fill.sh prints them over the translation 173f3197f9937b44… (all of the seat's roots in one cut). By AI agents, Wed Nov 11 2026. No macro, syntax, notation, axiom, sorry.
-/
import Derived.Test.YtdkfcpadbahohaaDoorChecked
import GoSem.Claim
import GoSem.ClaimJoined
import GoSem.ClaimMapViews
import Derived.JoinedTies
import Derived.KernelRfl
namespace Go.Proofs.YtdkfcpadbahohaaDoor
/- THE CELL 'sum', in the pinned program and in every row, IS THE sha256 OF THE DUMP (.gsa) THAT YtdkfcpadbahohaaDoorProg.lean LOADS. Nothing in Lean hashes anything: it is a label: what it is worth is what the hold of that sum in a sandbox is worth. -/
noncomputable def Tryd.pinned : Pinned := { name := "ytdkfcpadbahohaadoor", sum := "173f3197f9937b44ec1f4755719cc28489af953fa7d8fee04e3c9421db407743", checked := Tryd.checked }
namespace Rows
def none {H : Type} : Left H := { results := [], args := [] }

/- WHAT THE LISTED PACKAGE-LEVEL VARIABLES READ AS WHEN THE CALL BEGINS. Each datum BY PROGRAM (the guide's laid-datum.mjs) off the statement by which the dump's own 'gosem.cut.vars' lays the variable. In a bare row this is a premise. The card (YtdkfcpadbahohaaDoorCards.lean) ties it to the program's text. -/
def laid_bobbin_lex_signs {H : Type} : DataW H := .agg [.lit (.string [124, 124]), .lit (.string [38, 38]), .lit (.string [60, 61]), .lit (.string [62, 61]), .lit (.string [61, 61]), .lit (.string [33, 61]), .lit (.string [60]), .lit (.string [62]), .lit (.string [61]), .lit (.string [43]), .lit (.string [45]), .lit (.string [42]), .lit (.string [47]), .lit (.string [37]), .lit (.string [33]), .lit (.string [40]), .lit (.string [41]), .lit (.string [123]), .lit (.string [125]), .lit (.string [91]), .lit (.string [93]), .lit (.string [59]), .lit (.string [44])]

/-- 'bobbinlaw01.LexNames': WHATEVER THE INPUT: true; the input reads as it did. -/
def lexNamesSpec : ChangeSpec := { name := "lexNames", fn := fun _ => fun
  | [] => { results := [.lit (.bool true)], args := [] }
  | _ => none }
def lexNamesRow : OpenClaim := { program := "ytdkfcpadbahohaadoor", sum := "173f3197f9937b44ec1f4755719cc28489af953fa7d8fee04e3c9421db407743", func := "bobbin/bobbinlaw01.LexNames", spec := "lexNames", unfollowed := true, recurses := true, named := ["bobbin/lex.signs"], apart := false, laid := [("bobbin/lex.signs", laid_bobbin_lex_signs)] }
def LexNamesSaid : Prop := lexNamesRow.holds Tryd.pinned (OpenSpec.ofChange lexNamesSpec)

/-- ITS FALSE NEIGHBOUR: 'it returns false'. Refute it at one input. -/
def lexNamesWrong : ChangeSpec := { name := "lexNames", fn := fun _ => fun
  | [] => { results := [.lit (.bool false)], args := [] }
  | _ => none }
def LexNamesWrongFalsely : Prop := lexNamesRow.holds Tryd.pinned (OpenSpec.ofChange lexNamesWrong)

/-- 'bobbinlaw01.LexTokens': WHATEVER THE INPUT: true; the input reads as it did. -/
def lexTokensSpec : ChangeSpec := { name := "lexTokens", fn := fun _ => fun
  | [d] => { results := [.lit (.bool true)], args := [d] }
  | _ => none }
def lexTokensRow : OpenClaim := { program := "ytdkfcpadbahohaadoor", sum := "173f3197f9937b44ec1f4755719cc28489af953fa7d8fee04e3c9421db407743", func := "bobbin/bobbinlaw01.LexTokens", spec := "lexTokens", unfollowed := true, recurses := true, named := ["bobbin/lex.signs"], apart := false, laid := [("bobbin/lex.signs", laid_bobbin_lex_signs)] }
def LexTokensSaid : Prop := lexTokensRow.holds Tryd.pinned (OpenSpec.ofChange lexTokensSpec)

/-- ITS FALSE NEIGHBOUR: 'it returns false'. Refute it at one input. -/
def lexTokensWrong : ChangeSpec := { name := "lexTokens", fn := fun _ => fun
  | [d] => { results := [.lit (.bool false)], args := [d] }
  | _ => none }
def LexTokensWrongFalsely : Prop := lexTokensRow.holds Tryd.pinned (OpenSpec.ofChange lexTokensWrong)

/-- 'bobbinlaw01.LexCovers': WHATEVER THE INPUT: true; the input reads as it did. -/
def lexCoversSpec : ChangeSpec := { name := "lexCovers", fn := fun _ => fun
  | [d1, d2] => { results := [.lit (.bool true)], args := [d1, d2] }
  | _ => none }
def lexCoversRow : OpenClaim := { program := "ytdkfcpadbahohaadoor", sum := "173f3197f9937b44ec1f4755719cc28489af953fa7d8fee04e3c9421db407743", func := "bobbin/bobbinlaw01.LexCovers", spec := "lexCovers", unfollowed := true, recurses := true, named := ["bobbin/lex.signs"], apart := false, laid := [("bobbin/lex.signs", laid_bobbin_lex_signs)] }
def LexCoversSaid : Prop := lexCoversRow.holds Tryd.pinned (OpenSpec.ofChange lexCoversSpec)

/-- ITS FALSE NEIGHBOUR: 'it returns false'. Refute it at one input. -/
def lexCoversWrong : ChangeSpec := { name := "lexCovers", fn := fun _ => fun
  | [d1, d2] => { results := [.lit (.bool false)], args := [d1, d2] }
  | _ => none }
def LexCoversWrongFalsely : Prop := lexCoversRow.holds Tryd.pinned (OpenSpec.ofChange lexCoversWrong)

/-- 'bobbinlaw01.LexAhead': WHATEVER THE INPUT: true; the input reads as it did. -/
def lexAheadSpec : ChangeSpec := { name := "lexAhead", fn := fun _ => fun
  | [d1, d2, d3] => { results := [.lit (.bool true)], args := [d1, d2, d3] }
  | _ => none }
def lexAheadRow : OpenClaim := { program := "ytdkfcpadbahohaadoor", sum := "173f3197f9937b44ec1f4755719cc28489af953fa7d8fee04e3c9421db407743", func := "bobbin/bobbinlaw01.LexAhead", spec := "lexAhead", unfollowed := true, recurses := true, named := ["bobbin/lex.signs"], apart := false, laid := [("bobbin/lex.signs", laid_bobbin_lex_signs)] }
def LexAheadSaid : Prop := lexAheadRow.holds Tryd.pinned (OpenSpec.ofChange lexAheadSpec)

/-- ITS FALSE NEIGHBOUR: 'it returns false'. Refute it at one input. -/
def lexAheadWrong : ChangeSpec := { name := "lexAhead", fn := fun _ => fun
  | [d1, d2, d3] => { results := [.lit (.bool false)], args := [d1, d2, d3] }
  | _ => none }
def LexAheadWrongFalsely : Prop := lexAheadRow.holds Tryd.pinned (OpenSpec.ofChange lexAheadWrong)

/-- 'bobbinlaw01.LexWord': WHATEVER THE INPUT: true; the input reads as it did. -/
def lexWordSpec : ChangeSpec := { name := "lexWord", fn := fun _ => fun
  | [d1, d2] => { results := [.lit (.bool true)], args := [d1, d2] }
  | _ => none }
def lexWordRow : OpenClaim := { program := "ytdkfcpadbahohaadoor", sum := "173f3197f9937b44ec1f4755719cc28489af953fa7d8fee04e3c9421db407743", func := "bobbin/bobbinlaw01.LexWord", spec := "lexWord", unfollowed := true, recurses := true, named := ["bobbin/lex.signs"], apart := false, laid := [("bobbin/lex.signs", laid_bobbin_lex_signs)] }
def LexWordSaid : Prop := lexWordRow.holds Tryd.pinned (OpenSpec.ofChange lexWordSpec)

/-- ITS FALSE NEIGHBOUR: 'it returns false'. Refute it at one input. -/
def lexWordWrong : ChangeSpec := { name := "lexWord", fn := fun _ => fun
  | [d1, d2] => { results := [.lit (.bool false)], args := [d1, d2] }
  | _ => none }
def LexWordWrongFalsely : Prop := lexWordRow.holds Tryd.pinned (OpenSpec.ofChange lexWordWrong)

/- THE SECOND FORM. 'bulk': how many values and letters a reading holds, each counted each time it is reached (what is shared counts as often as it is met; a slice's spare places count too). A statement '..UptoSaid' is the law's where the arguments, and the package variables that the reading takes, are together of bulk at most 1048576: NARROWER than '..Said'. Prove '..Said' where nothing that the law and all that it calls make is longer than what came in: it says more and counts as full. Else prove '..UptoSaid'. A law counts once. -/
mutual
def uptoBulk {H : Type} : DataW H → Nat
  | .lit (.string bytes) => bytes.length + 1
  | .lit _ => 1
  | .nil => 1
  | .ptr d => uptoBulk d + 1
  | .slice elems spare => uptoBulkAll elems + uptoBulkAll spare + 1
  | .agg parts => uptoBulkAll parts + 1
  | .iface _ d => uptoBulk d + 1
  | .map entries => uptoBulkEntries entries + 1
  | .held _ => 1
def uptoBulkAll {H : Type} : List (DataW H) → Nat
  | [] => 0
  | d :: r => uptoBulk d + uptoBulkAll r
def uptoBulkEntries {H : Type} : List (Lit × DataW H) → Nat
  | [] => 0
  | x :: r => uptoBulkEntry x + uptoBulkEntries r
def uptoBulkEntry {H : Type} : Lit × DataW H → Nat
  | (.string bytes, d) => bytes.length + uptoBulk d + 1
  | (_, d) => uptoBulk d + 1
 end
def uptoSmall : (H : Type) → List (DataW H) → Bool := fun _ ds => decide (uptoBulkAll ds ≤ 1048576)
def OpenSpec.upto (s : _root_.Go.ChangeSpec) : _root_.Go.OpenSpec := { _root_.Go.OpenSpec.ofChange s with cond := some uptoSmall }

/-- 'bobbinlaw01.LexNames', WHERE WHAT IT READS IS OF BULK AT MOST 1048576: true; the input reads as it did. -/
def lexNamesUptoRow : OpenClaim := { program := "ytdkfcpadbahohaadoor", sum := "173f3197f9937b44ec1f4755719cc28489af953fa7d8fee04e3c9421db407743", func := "bobbin/bobbinlaw01.LexNames", spec := "lexNames", unfollowed := true, recurses := true, named := ["bobbin/lex.signs"], apart := false, laid := [("bobbin/lex.signs", laid_bobbin_lex_signs)], narrowed := true }
def LexNamesUptoSaid : Prop := lexNamesUptoRow.holds Tryd.pinned (OpenSpec.upto lexNamesSpec)

/-- 'bobbinlaw01.LexTokens', WHERE WHAT IT READS IS OF BULK AT MOST 1048576: true; the input reads as it did. -/
def lexTokensUptoRow : OpenClaim := { program := "ytdkfcpadbahohaadoor", sum := "173f3197f9937b44ec1f4755719cc28489af953fa7d8fee04e3c9421db407743", func := "bobbin/bobbinlaw01.LexTokens", spec := "lexTokens", unfollowed := true, recurses := true, named := ["bobbin/lex.signs"], apart := false, laid := [("bobbin/lex.signs", laid_bobbin_lex_signs)], narrowed := true }
def LexTokensUptoSaid : Prop := lexTokensUptoRow.holds Tryd.pinned (OpenSpec.upto lexTokensSpec)

/-- 'bobbinlaw01.LexCovers', WHERE WHAT IT READS IS OF BULK AT MOST 1048576: true; the input reads as it did. -/
def lexCoversUptoRow : OpenClaim := { program := "ytdkfcpadbahohaadoor", sum := "173f3197f9937b44ec1f4755719cc28489af953fa7d8fee04e3c9421db407743", func := "bobbin/bobbinlaw01.LexCovers", spec := "lexCovers", unfollowed := true, recurses := true, named := ["bobbin/lex.signs"], apart := false, laid := [("bobbin/lex.signs", laid_bobbin_lex_signs)], narrowed := true }
def LexCoversUptoSaid : Prop := lexCoversUptoRow.holds Tryd.pinned (OpenSpec.upto lexCoversSpec)

/-- 'bobbinlaw01.LexAhead', WHERE WHAT IT READS IS OF BULK AT MOST 1048576: true; the input reads as it did. -/
def lexAheadUptoRow : OpenClaim := { program := "ytdkfcpadbahohaadoor", sum := "173f3197f9937b44ec1f4755719cc28489af953fa7d8fee04e3c9421db407743", func := "bobbin/bobbinlaw01.LexAhead", spec := "lexAhead", unfollowed := true, recurses := true, named := ["bobbin/lex.signs"], apart := false, laid := [("bobbin/lex.signs", laid_bobbin_lex_signs)], narrowed := true }
def LexAheadUptoSaid : Prop := lexAheadUptoRow.holds Tryd.pinned (OpenSpec.upto lexAheadSpec)

/-- 'bobbinlaw01.LexWord', WHERE WHAT IT READS IS OF BULK AT MOST 1048576: true; the input reads as it did. -/
def lexWordUptoRow : OpenClaim := { program := "ytdkfcpadbahohaadoor", sum := "173f3197f9937b44ec1f4755719cc28489af953fa7d8fee04e3c9421db407743", func := "bobbin/bobbinlaw01.LexWord", spec := "lexWord", unfollowed := true, recurses := true, named := ["bobbin/lex.signs"], apart := false, laid := [("bobbin/lex.signs", laid_bobbin_lex_signs)], narrowed := true }
def LexWordUptoSaid : Prop := lexWordUptoRow.holds Tryd.pinned (OpenSpec.upto lexWordSpec)

end Rows
end Go.Proofs.YtdkfcpadbahohaaDoor
