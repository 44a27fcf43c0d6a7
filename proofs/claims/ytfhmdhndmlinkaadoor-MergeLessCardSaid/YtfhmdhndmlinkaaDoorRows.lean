/-
  NARROWER THAN 'FOR EVERY INPUT', by the rows' own cells (each row's printed sentence says how): MergeLess: laid · MergeBlocks: laid · PhisNone: laid · SoundWays: laid · SoundLess: laid · LoadsSteps: laid · LoadsCounted: laid.
  DERIVED. THE GIVEN ROWS OF THIS SEAT. 7 by the template 'for every input the law returns true; each argument reads behind the call as it read before'; 0 by the template 'total and deterministic' (their statements: YtfhmdhndmlinkaaDoorTotals.lean).
  GIVEN WITH THE SEED: the statements are not yours to turn. If you find one false, say at which input.
  Laid BY PROGRAM, IN A SANDBOX (cutbox-rows.mjs): the forced cells as the released guide's own fill.sh prints them over the translation 311f6a9af58f86e4… (all of the seat's roots in one cut). By AI agents, Wed Nov 11 2026. No macro, syntax, notation, axiom, sorry.
-/
import Derived.Test.YtfhmdhndmlinkaaDoorChecked
import GoSem.Claim
import GoSem.ClaimJoined
import GoSem.ClaimMapViews
import Derived.JoinedTies
import Derived.KernelRfl
namespace Go.Proofs.YtfhmdhndmlinkaaDoor
/- THE CELL 'sum', in the pinned program and in every row, IS THE sha256 OF THE DUMP (.gsa) THAT YtfhmdhndmlinkaaDoorProg.lean LOADS. Nothing in Lean hashes anything: it is a label: what it is worth is what the hold of that sum in a sandbox is worth. -/
noncomputable def Tryd.pinned : Pinned := { name := "ytfhmdhndmlinkaadoor", sum := "311f6a9af58f86e407b1820e5ddcf937b84a8fa303305a637c1f5ae411ff0409", checked := Tryd.checked }
namespace Rows
def none {H : Type} : Left H := { results := [], args := [] }

/- WHAT THE LISTED PACKAGE-LEVEL VARIABLES READ AS WHEN THE CALL BEGINS. Each datum BY PROGRAM (the guide's laid-datum.mjs) off the statement by which the dump's own 'gosem.cut.vars' lays the variable. In a bare row this is a premise. The card (YtfhmdhndmlinkaaDoorCards.lean) ties it to the program's text. -/
def laid_bobbin_code_ops {H : Type} : DataW H := .agg [.agg [.lit (.bool false), .lit (.bool false), .lit (.bool false), .lit (.bool false), .lit (.int .i64 0)], .agg [.lit (.bool true), .lit (.bool false), .lit (.bool false), .lit (.bool false), .lit (.int .i64 1)], .agg [.lit (.bool true), .lit (.bool true), .lit (.bool false), .lit (.bool false), .lit (.int .i64 0)], .agg [.lit (.bool true), .lit (.bool true), .lit (.bool false), .lit (.bool false), .lit (.int .i64 2)], .agg [.lit (.bool true), .lit (.bool true), .lit (.bool true), .lit (.bool false), .lit (.int .i64 3)], .agg [.lit (.bool true), .lit (.bool true), .lit (.bool false), .lit (.bool true), .lit (.int .i64 4)], .agg [.lit (.bool false), .lit (.bool true), .lit (.bool true), .lit (.bool true), .lit (.int .i64 4)], .agg [.lit (.bool false), .lit (.bool false), .lit (.bool false), .lit (.bool false), .lit (.int .i64 5)], .agg [.lit (.bool false), .lit (.bool false), .lit (.bool false), .lit (.bool false), .lit (.int .i64 5)], .agg [.lit (.bool false), .lit (.bool true), .lit (.bool false), .lit (.bool false), .lit (.int .i64 0)], .agg [.lit (.bool true), .lit (.bool false), .lit (.bool false), .lit (.bool false), .lit (.int .i64 6)], .agg [.lit (.bool false), .lit (.bool false), .lit (.bool false), .lit (.bool false), .lit (.int .i64 7)], .agg [.lit (.bool false), .lit (.bool true), .lit (.bool false), .lit (.bool false), .lit (.int .i64 7)], .agg [.lit (.bool false), .lit (.bool true), .lit (.bool false), .lit (.bool false), .lit (.int .i64 0)]]
def laid_bobbin_merge_quiet {H : Type} : DataW H := .agg [.lit (.bool false), .lit (.bool true), .lit (.bool true), .lit (.bool true), .lit (.bool true), .lit (.bool false), .lit (.bool false), .lit (.bool false), .lit (.bool false), .lit (.bool false), .lit (.bool false), .lit (.bool false), .lit (.bool false), .lit (.bool false)]

/-- 'bobbinlaw26.MergeLess': WHATEVER THE INPUT: true; the input reads as it did. -/
def mergeLessSpec : ChangeSpec := { name := "mergeLess", fn := fun _ => fun
  | [d] => { results := [.lit (.bool true)], args := [d] }
  | _ => none }
def mergeLessRow : OpenClaim := { program := "ytfhmdhndmlinkaadoor", sum := "311f6a9af58f86e407b1820e5ddcf937b84a8fa303305a637c1f5ae411ff0409", func := "bobbin/bobbinlaw26.MergeLess", spec := "mergeLess", unfollowed := true, recurses := true, named := ["bobbin/code.ops", "bobbin/merge.quiet"], plainKeys := false, apart := false, laid := [("bobbin/code.ops", laid_bobbin_code_ops), ("bobbin/merge.quiet", laid_bobbin_merge_quiet)] }
def MergeLessSaid : Prop := mergeLessRow.holds Tryd.pinned (OpenSpec.ofChange mergeLessSpec)

/-- ITS FALSE NEIGHBOUR: 'it returns false'. Refute it at one input. -/
def mergeLessWrong : ChangeSpec := { name := "mergeLess", fn := fun _ => fun
  | [d] => { results := [.lit (.bool false)], args := [d] }
  | _ => none }
def MergeLessWrongFalsely : Prop := mergeLessRow.holds Tryd.pinned (OpenSpec.ofChange mergeLessWrong)

/-- 'bobbinlaw26.MergeBlocks': WHATEVER THE INPUT: true; the input reads as it did. -/
def mergeBlocksSpec : ChangeSpec := { name := "mergeBlocks", fn := fun _ => fun
  | [d] => { results := [.lit (.bool true)], args := [d] }
  | _ => none }
def mergeBlocksRow : OpenClaim := { program := "ytfhmdhndmlinkaadoor", sum := "311f6a9af58f86e407b1820e5ddcf937b84a8fa303305a637c1f5ae411ff0409", func := "bobbin/bobbinlaw26.MergeBlocks", spec := "mergeBlocks", unfollowed := true, recurses := true, named := ["bobbin/code.ops", "bobbin/merge.quiet"], plainKeys := false, apart := false, laid := [("bobbin/code.ops", laid_bobbin_code_ops), ("bobbin/merge.quiet", laid_bobbin_merge_quiet)] }
def MergeBlocksSaid : Prop := mergeBlocksRow.holds Tryd.pinned (OpenSpec.ofChange mergeBlocksSpec)

/-- ITS FALSE NEIGHBOUR: 'it returns false'. Refute it at one input. -/
def mergeBlocksWrong : ChangeSpec := { name := "mergeBlocks", fn := fun _ => fun
  | [d] => { results := [.lit (.bool false)], args := [d] }
  | _ => none }
def MergeBlocksWrongFalsely : Prop := mergeBlocksRow.holds Tryd.pinned (OpenSpec.ofChange mergeBlocksWrong)

/-- 'bobbinlaw28.PhisNone': WHATEVER THE INPUT: true; the input reads as it did. -/
def phisNoneSpec : ChangeSpec := { name := "phisNone", fn := fun _ => fun
  | [d] => { results := [.lit (.bool true)], args := [d] }
  | _ => none }
def phisNoneRow : OpenClaim := { program := "ytfhmdhndmlinkaadoor", sum := "311f6a9af58f86e407b1820e5ddcf937b84a8fa303305a637c1f5ae411ff0409", func := "bobbin/bobbinlaw28.PhisNone", spec := "phisNone", inPlace := ["slices.overlaps[bobbin/api.Ins]"], unfollowed := true, recurses := true, named := ["bobbin/code.ops"], plainKeys := false, apart := false, laid := [("bobbin/code.ops", laid_bobbin_code_ops)] }
def PhisNoneSaid : Prop := phisNoneRow.holds Tryd.pinned (OpenSpec.ofChange phisNoneSpec)

/-- ITS FALSE NEIGHBOUR: 'it returns false'. Refute it at one input. -/
def phisNoneWrong : ChangeSpec := { name := "phisNone", fn := fun _ => fun
  | [d] => { results := [.lit (.bool false)], args := [d] }
  | _ => none }
def PhisNoneWrongFalsely : Prop := phisNoneRow.holds Tryd.pinned (OpenSpec.ofChange phisNoneWrong)

/-- 'bobbinlaw15.SoundWays': WHATEVER THE INPUT: true; the input reads as it did. -/
def soundWaysSpec : ChangeSpec := { name := "soundWays", fn := fun _ => fun
  | [d1, d2] => { results := [.lit (.bool true)], args := [d1, d2] }
  | _ => none }
def soundWaysRow : OpenClaim := { program := "ytfhmdhndmlinkaadoor", sum := "311f6a9af58f86e407b1820e5ddcf937b84a8fa303305a637c1f5ae411ff0409", func := "bobbin/bobbinlaw15.SoundWays", spec := "soundWays", unfollowed := true, recurses := true, named := ["bobbin/code.ops"], plainKeys := false, apart := false, laid := [("bobbin/code.ops", laid_bobbin_code_ops)] }
def SoundWaysSaid : Prop := soundWaysRow.holds Tryd.pinned (OpenSpec.ofChange soundWaysSpec)

/-- ITS FALSE NEIGHBOUR: 'it returns false'. Refute it at one input. -/
def soundWaysWrong : ChangeSpec := { name := "soundWays", fn := fun _ => fun
  | [d1, d2] => { results := [.lit (.bool false)], args := [d1, d2] }
  | _ => none }
def SoundWaysWrongFalsely : Prop := soundWaysRow.holds Tryd.pinned (OpenSpec.ofChange soundWaysWrong)

/-- 'bobbinlaw15.SoundLess': WHATEVER THE INPUT: true; the input reads as it did. -/
def soundLessSpec : ChangeSpec := { name := "soundLess", fn := fun _ => fun
  | [d] => { results := [.lit (.bool true)], args := [d] }
  | _ => none }
def soundLessRow : OpenClaim := { program := "ytfhmdhndmlinkaadoor", sum := "311f6a9af58f86e407b1820e5ddcf937b84a8fa303305a637c1f5ae411ff0409", func := "bobbin/bobbinlaw15.SoundLess", spec := "soundLess", unfollowed := true, recurses := true, named := ["bobbin/code.ops"], plainKeys := false, apart := false, laid := [("bobbin/code.ops", laid_bobbin_code_ops)] }
def SoundLessSaid : Prop := soundLessRow.holds Tryd.pinned (OpenSpec.ofChange soundLessSpec)

/-- ITS FALSE NEIGHBOUR: 'it returns false'. Refute it at one input. -/
def soundLessWrong : ChangeSpec := { name := "soundLess", fn := fun _ => fun
  | [d] => { results := [.lit (.bool false)], args := [d] }
  | _ => none }
def SoundLessWrongFalsely : Prop := soundLessRow.holds Tryd.pinned (OpenSpec.ofChange soundLessWrong)

/-- 'bobbinlaw24.LoadsSteps': WHATEVER THE INPUT: true; the input reads as it did. -/
def loadsStepsSpec : ChangeSpec := { name := "loadsSteps", fn := fun _ => fun
  | [d] => { results := [.lit (.bool true)], args := [d] }
  | _ => none }
def loadsStepsRow : OpenClaim := { program := "ytfhmdhndmlinkaadoor", sum := "311f6a9af58f86e407b1820e5ddcf937b84a8fa303305a637c1f5ae411ff0409", func := "bobbin/bobbinlaw24.LoadsSteps", spec := "loadsSteps", unfollowed := true, recurses := true, named := ["bobbin/code.ops"], plainKeys := false, apart := false, laid := [("bobbin/code.ops", laid_bobbin_code_ops)] }
def LoadsStepsSaid : Prop := loadsStepsRow.holds Tryd.pinned (OpenSpec.ofChange loadsStepsSpec)

/-- ITS FALSE NEIGHBOUR: 'it returns false'. Refute it at one input. -/
def loadsStepsWrong : ChangeSpec := { name := "loadsSteps", fn := fun _ => fun
  | [d] => { results := [.lit (.bool false)], args := [d] }
  | _ => none }
def LoadsStepsWrongFalsely : Prop := loadsStepsRow.holds Tryd.pinned (OpenSpec.ofChange loadsStepsWrong)

/-- 'bobbinlaw24.LoadsCounted': WHATEVER THE INPUT: true; the input reads as it did. -/
def loadsCountedSpec : ChangeSpec := { name := "loadsCounted", fn := fun _ => fun
  | [d] => { results := [.lit (.bool true)], args := [d] }
  | _ => none }
def loadsCountedRow : OpenClaim := { program := "ytfhmdhndmlinkaadoor", sum := "311f6a9af58f86e407b1820e5ddcf937b84a8fa303305a637c1f5ae411ff0409", func := "bobbin/bobbinlaw24.LoadsCounted", spec := "loadsCounted", unfollowed := true, recurses := true, named := ["bobbin/code.ops"], plainKeys := false, apart := false, laid := [("bobbin/code.ops", laid_bobbin_code_ops)] }
def LoadsCountedSaid : Prop := loadsCountedRow.holds Tryd.pinned (OpenSpec.ofChange loadsCountedSpec)

/-- ITS FALSE NEIGHBOUR: 'it returns false'. Refute it at one input. -/
def loadsCountedWrong : ChangeSpec := { name := "loadsCounted", fn := fun _ => fun
  | [d] => { results := [.lit (.bool false)], args := [d] }
  | _ => none }
def LoadsCountedWrongFalsely : Prop := loadsCountedRow.holds Tryd.pinned (OpenSpec.ofChange loadsCountedWrong)

/- THE SECOND FORM. 'bulk': how many values and letters a reading holds, each counted each time it is reached (what is shared counts as often as it is met; a slice's spare places count too). A statement '..UptoSaid' is the law's where the arguments, and the package variables that the reading takes, are together of bulk at most 1048576: NARROWER than '..Said'. Prove '..Said' where nothing that the law and all that it calls make is longer than what came in: it says more and counts as full. Else prove '..UptoSaid'. A law counts once. -/
mutual
def uptoBulk {H : Type} : DataW H → Nat
  | .lit (.string bytes) => bytes.length + 1
  | .lit _ => 1
  | .nil => 1
  | .ptr d => uptoBulk d + 1
  | .slice elems spare => uptoBulkAll elems + uptoBulkAll spare + 1
  | .agg parts => uptoBulkAll parts + 1
  | .iface _ d => uptoBulk d + 1
  | .map entries => uptoBulkEntries entries + 1
  | .held _ => 1
def uptoBulkAll {H : Type} : List (DataW H) → Nat
  | [] => 0
  | d :: r => uptoBulk d + uptoBulkAll r
def uptoBulkEntries {H : Type} : List (Lit × DataW H) → Nat
  | [] => 0
  | x :: r => uptoBulkEntry x + uptoBulkEntries r
def uptoBulkEntry {H : Type} : Lit × DataW H → Nat
  | (.string bytes, d) => bytes.length + uptoBulk d + 1
  | (_, d) => uptoBulk d + 1
 end
def uptoSmall : (H : Type) → List (DataW H) → Bool := fun _ ds => decide (uptoBulkAll ds ≤ 1048576)
def OpenSpec.upto (s : _root_.Go.ChangeSpec) : _root_.Go.OpenSpec := { _root_.Go.OpenSpec.ofChange s with cond := some uptoSmall }

/-- 'bobbinlaw26.MergeLess', WHERE WHAT IT READS IS OF BULK AT MOST 1048576: true; the input reads as it did. -/
def mergeLessUptoRow : OpenClaim := { program := "ytfhmdhndmlinkaadoor", sum := "311f6a9af58f86e407b1820e5ddcf937b84a8fa303305a637c1f5ae411ff0409", func := "bobbin/bobbinlaw26.MergeLess", spec := "mergeLess", unfollowed := true, recurses := true, named := ["bobbin/code.ops", "bobbin/merge.quiet"], plainKeys := false, apart := false, laid := [("bobbin/code.ops", laid_bobbin_code_ops), ("bobbin/merge.quiet", laid_bobbin_merge_quiet)], narrowed := true }
def MergeLessUptoSaid : Prop := mergeLessUptoRow.holds Tryd.pinned (OpenSpec.upto mergeLessSpec)

/-- 'bobbinlaw26.MergeBlocks', WHERE WHAT IT READS IS OF BULK AT MOST 1048576: true; the input reads as it did. -/
def mergeBlocksUptoRow : OpenClaim := { program := "ytfhmdhndmlinkaadoor", sum := "311f6a9af58f86e407b1820e5ddcf937b84a8fa303305a637c1f5ae411ff0409", func := "bobbin/bobbinlaw26.MergeBlocks", spec := "mergeBlocks", unfollowed := true, recurses := true, named := ["bobbin/code.ops", "bobbin/merge.quiet"], plainKeys := false, apart := false, laid := [("bobbin/code.ops", laid_bobbin_code_ops), ("bobbin/merge.quiet", laid_bobbin_merge_quiet)], narrowed := true }
def MergeBlocksUptoSaid : Prop := mergeBlocksUptoRow.holds Tryd.pinned (OpenSpec.upto mergeBlocksSpec)

/-- 'bobbinlaw28.PhisNone', WHERE WHAT IT READS IS OF BULK AT MOST 1048576: true; the input reads as it did. -/
def phisNoneUptoRow : OpenClaim := { program := "ytfhmdhndmlinkaadoor", sum := "311f6a9af58f86e407b1820e5ddcf937b84a8fa303305a637c1f5ae411ff0409", func := "bobbin/bobbinlaw28.PhisNone", spec := "phisNone", inPlace := ["slices.overlaps[bobbin/api.Ins]"], unfollowed := true, recurses := true, named := ["bobbin/code.ops"], plainKeys := false, apart := false, laid := [("bobbin/code.ops", laid_bobbin_code_ops)], narrowed := true }
def PhisNoneUptoSaid : Prop := phisNoneUptoRow.holds Tryd.pinned (OpenSpec.upto phisNoneSpec)

/-- 'bobbinlaw15.SoundWays', WHERE WHAT IT READS IS OF BULK AT MOST 1048576: true; the input reads as it did. -/
def soundWaysUptoRow : OpenClaim := { program := "ytfhmdhndmlinkaadoor", sum := "311f6a9af58f86e407b1820e5ddcf937b84a8fa303305a637c1f5ae411ff0409", func := "bobbin/bobbinlaw15.SoundWays", spec := "soundWays", unfollowed := true, recurses := true, named := ["bobbin/code.ops"], plainKeys := false, apart := false, laid := [("bobbin/code.ops", laid_bobbin_code_ops)], narrowed := true }
def SoundWaysUptoSaid : Prop := soundWaysUptoRow.holds Tryd.pinned (OpenSpec.upto soundWaysSpec)

/-- 'bobbinlaw15.SoundLess', WHERE WHAT IT READS IS OF BULK AT MOST 1048576: true; the input reads as it did. -/
def soundLessUptoRow : OpenClaim := { program := "ytfhmdhndmlinkaadoor", sum := "311f6a9af58f86e407b1820e5ddcf937b84a8fa303305a637c1f5ae411ff0409", func := "bobbin/bobbinlaw15.SoundLess", spec := "soundLess", unfollowed := true, recurses := true, named := ["bobbin/code.ops"], plainKeys := false, apart := false, laid := [("bobbin/code.ops", laid_bobbin_code_ops)], narrowed := true }
def SoundLessUptoSaid : Prop := soundLessUptoRow.holds Tryd.pinned (OpenSpec.upto soundLessSpec)

/-- 'bobbinlaw24.LoadsSteps', WHERE WHAT IT READS IS OF BULK AT MOST 1048576: true; the input reads as it did. -/
def loadsStepsUptoRow : OpenClaim := { program := "ytfhmdhndmlinkaadoor", sum := "311f6a9af58f86e407b1820e5ddcf937b84a8fa303305a637c1f5ae411ff0409", func := "bobbin/bobbinlaw24.LoadsSteps", spec := "loadsSteps", unfollowed := true, recurses := true, named := ["bobbin/code.ops"], plainKeys := false, apart := false, laid := [("bobbin/code.ops", laid_bobbin_code_ops)], narrowed := true }
def LoadsStepsUptoSaid : Prop := loadsStepsUptoRow.holds Tryd.pinned (OpenSpec.upto loadsStepsSpec)

/-- 'bobbinlaw24.LoadsCounted', WHERE WHAT IT READS IS OF BULK AT MOST 1048576: true; the input reads as it did. -/
def loadsCountedUptoRow : OpenClaim := { program := "ytfhmdhndmlinkaadoor", sum := "311f6a9af58f86e407b1820e5ddcf937b84a8fa303305a637c1f5ae411ff0409", func := "bobbin/bobbinlaw24.LoadsCounted", spec := "loadsCounted", unfollowed := true, recurses := true, named := ["bobbin/code.ops"], plainKeys := false, apart := false, laid := [("bobbin/code.ops", laid_bobbin_code_ops)], narrowed := true }
def LoadsCountedUptoSaid : Prop := loadsCountedUptoRow.holds Tryd.pinned (OpenSpec.upto loadsCountedSpec)

end Rows
end Go.Proofs.YtfhmdhndmlinkaaDoor
