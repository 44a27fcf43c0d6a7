/-
  No cell of these rows narrows 'for every input' (looked for: loops, veiled, ifaces, maps, wideKeys, modest, calm, conditions, laid).
  DERIVED. THE GIVEN ROWS OF THIS SEAT. 3 by the template 'for every input the law returns true; each argument reads behind the call as it read before'; 0 by the template 'total and deterministic' (their statements: YtalhmpcllfhllaaTotals.lean).
  GIVEN WITH THE SEED: the statements are not yours to turn. If you find one false, say at which input.
  Laid BY PROGRAM, IN A SANDBOX (cutbox-rows.mjs): the forced cells as the released guide's own fill.sh prints them over the translation 71d2f70d8d2cf78c… (all of the seat's roots in one cut). By AI agents, Wed Nov 11 2026. No macro, syntax, notation, axiom, sorry.
-/
import Derived.Test.YtalhmpcllfhllaaChecked
import GoSem.Claim
import GoSem.ClaimJoined
import GoSem.ClaimMapViews
import Derived.JoinedTies
import Derived.KernelRfl
namespace Go.Proofs.Ytalhmpcllfhllaa
/- THE CELL 'sum', in the pinned program and in every row, IS THE sha256 OF THE DUMP (.gsa) THAT YtalhmpcllfhllaaProg.lean LOADS. Nothing in Lean hashes anything: it is a label: what it is worth is what the hold of that sum in a sandbox is worth. -/
noncomputable def Try.pinned : Pinned := { name := "ytalhmpcllfhllaa", sum := "71d2f70d8d2cf78c626ef6ccec3e9fc186d3de240efb9a4b1b3bc3aea9868100", checked := Try.checked }
namespace Rows
def none {H : Type} : Left H := { results := [], args := [] }

/-- 'bobbinlaw28.PhisRows': WHATEVER THE INPUT: true; the input reads as it did. -/
def phisRowsSpec : ChangeSpec := { name := "phisRows", fn := fun _ => fun
  | [d1, d2, d3] => { results := [.lit (.bool true)], args := [d1, d2, d3] }
  | _ => none }
def phisRowsRow : OpenClaim := { program := "ytalhmpcllfhllaa", sum := "71d2f70d8d2cf78c626ef6ccec3e9fc186d3de240efb9a4b1b3bc3aea9868100", func := "bobbin/bobbinlaw28.PhisRows", spec := "phisRows", unfollowed := true, recurses := true, apart := false }
def PhisRowsSaid : Prop := phisRowsRow.holds Try.pinned (OpenSpec.ofChange phisRowsSpec)

/-- ITS FALSE NEIGHBOUR: 'it returns false'. Refute it at one input. -/
def phisRowsWrong : ChangeSpec := { name := "phisRows", fn := fun _ => fun
  | [d1, d2, d3] => { results := [.lit (.bool false)], args := [d1, d2, d3] }
  | _ => none }
def PhisRowsWrongFalsely : Prop := phisRowsRow.holds Try.pinned (OpenSpec.ofChange phisRowsWrong)

/-- 'bobbinlaw28.PhisOnce': WHATEVER THE INPUT: true; the input reads as it did. -/
def phisOnceSpec : ChangeSpec := { name := "phisOnce", fn := fun _ => fun
  | [d1, d2] => { results := [.lit (.bool true)], args := [d1, d2] }
  | _ => none }
def phisOnceRow : OpenClaim := { program := "ytalhmpcllfhllaa", sum := "71d2f70d8d2cf78c626ef6ccec3e9fc186d3de240efb9a4b1b3bc3aea9868100", func := "bobbin/bobbinlaw28.PhisOnce", spec := "phisOnce", unfollowed := true, recurses := true, apart := false }
def PhisOnceSaid : Prop := phisOnceRow.holds Try.pinned (OpenSpec.ofChange phisOnceSpec)

/-- ITS FALSE NEIGHBOUR: 'it returns false'. Refute it at one input. -/
def phisOnceWrong : ChangeSpec := { name := "phisOnce", fn := fun _ => fun
  | [d1, d2] => { results := [.lit (.bool false)], args := [d1, d2] }
  | _ => none }
def PhisOnceWrongFalsely : Prop := phisOnceRow.holds Try.pinned (OpenSpec.ofChange phisOnceWrong)

/-- 'bobbinlaw28.PhisApart': WHATEVER THE INPUT: true; the input reads as it did. -/
def phisApartSpec : ChangeSpec := { name := "phisApart", fn := fun _ => fun
  | [d1, d2, d3] => { results := [.lit (.bool true)], args := [d1, d2, d3] }
  | _ => none }
def phisApartRow : OpenClaim := { program := "ytalhmpcllfhllaa", sum := "71d2f70d8d2cf78c626ef6ccec3e9fc186d3de240efb9a4b1b3bc3aea9868100", func := "bobbin/bobbinlaw28.PhisApart", spec := "phisApart", unfollowed := true, recurses := true, apart := false }
def PhisApartSaid : Prop := phisApartRow.holds Try.pinned (OpenSpec.ofChange phisApartSpec)

/-- ITS FALSE NEIGHBOUR: 'it returns false'. Refute it at one input. -/
def phisApartWrong : ChangeSpec := { name := "phisApart", fn := fun _ => fun
  | [d1, d2, d3] => { results := [.lit (.bool false)], args := [d1, d2, d3] }
  | _ => none }
def PhisApartWrongFalsely : Prop := phisApartRow.holds Try.pinned (OpenSpec.ofChange phisApartWrong)

/- THE SECOND FORM. 'bulk': how many values and letters a reading holds, each counted each time it is reached (what is shared counts as often as it is met; a slice's spare places count too). A statement '..UptoSaid' is the law's where the arguments, and the package variables that the reading takes, are together of bulk at most 1048576: NARROWER than '..Said'. Prove '..Said' where nothing that the law and all that it calls make is longer than what came in: it says more and counts as full. Else prove '..UptoSaid'. A law counts once. -/
mutual
def uptoBulk {H : Type} : DataW H → Nat
  | .lit (.string bytes) => bytes.length + 1
  | .lit _ => 1
  | .nil => 1
  | .ptr d => uptoBulk d + 1
  | .slice elems spare => uptoBulkAll elems + uptoBulkAll spare + 1
  | .agg parts => uptoBulkAll parts + 1
  | .iface _ d => uptoBulk d + 1
  | .map entries => uptoBulkEntries entries + 1
  | .held _ => 1
def uptoBulkAll {H : Type} : List (DataW H) → Nat
  | [] => 0
  | d :: r => uptoBulk d + uptoBulkAll r
def uptoBulkEntries {H : Type} : List (Lit × DataW H) → Nat
  | [] => 0
  | x :: r => uptoBulkEntry x + uptoBulkEntries r
def uptoBulkEntry {H : Type} : Lit × DataW H → Nat
  | (.string bytes, d) => bytes.length + uptoBulk d + 1
  | (_, d) => uptoBulk d + 1
 end
def uptoSmall : (H : Type) → List (DataW H) → Bool := fun _ ds => decide (uptoBulkAll ds ≤ 1048576)
def OpenSpec.upto (s : _root_.Go.ChangeSpec) : _root_.Go.OpenSpec := { _root_.Go.OpenSpec.ofChange s with cond := some uptoSmall }

/-- 'bobbinlaw28.PhisRows', WHERE WHAT IT READS IS OF BULK AT MOST 1048576: true; the input reads as it did. -/
def phisRowsUptoRow : OpenClaim := { program := "ytalhmpcllfhllaa", sum := "71d2f70d8d2cf78c626ef6ccec3e9fc186d3de240efb9a4b1b3bc3aea9868100", func := "bobbin/bobbinlaw28.PhisRows", spec := "phisRows", unfollowed := true, recurses := true, apart := false, narrowed := true }
def PhisRowsUptoSaid : Prop := phisRowsUptoRow.holds Try.pinned (OpenSpec.upto phisRowsSpec)

/-- 'bobbinlaw28.PhisOnce', WHERE WHAT IT READS IS OF BULK AT MOST 1048576: true; the input reads as it did. -/
def phisOnceUptoRow : OpenClaim := { program := "ytalhmpcllfhllaa", sum := "71d2f70d8d2cf78c626ef6ccec3e9fc186d3de240efb9a4b1b3bc3aea9868100", func := "bobbin/bobbinlaw28.PhisOnce", spec := "phisOnce", unfollowed := true, recurses := true, apart := false, narrowed := true }
def PhisOnceUptoSaid : Prop := phisOnceUptoRow.holds Try.pinned (OpenSpec.upto phisOnceSpec)

/-- 'bobbinlaw28.PhisApart', WHERE WHAT IT READS IS OF BULK AT MOST 1048576: true; the input reads as it did. -/
def phisApartUptoRow : OpenClaim := { program := "ytalhmpcllfhllaa", sum := "71d2f70d8d2cf78c626ef6ccec3e9fc186d3de240efb9a4b1b3bc3aea9868100", func := "bobbin/bobbinlaw28.PhisApart", spec := "phisApart", unfollowed := true, recurses := true, apart := false, narrowed := true }
def PhisApartUptoSaid : Prop := phisApartUptoRow.holds Try.pinned (OpenSpec.upto phisApartSpec)

end Rows
end Go.Proofs.Ytalhmpcllfhllaa
