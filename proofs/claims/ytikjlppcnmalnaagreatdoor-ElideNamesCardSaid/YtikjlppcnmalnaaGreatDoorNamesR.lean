/-
  The closed law 'bobbin/bobbinlaw25.ElideNames' answers true, and nothing that was there is turned: the abstract machine's run (EvA .. EvLo), which is proved sound for the model's calls, is run by the kernel. Conditions: the package-level variables that the row lists hold what it lists.
-/
import Derived.Test.YtikjlppcnmalnaaGreatDoorCards
import Derived.Test.YtikjlppcnmalnaaGreatDoorTie
import Derived.Test.YtikjlppcnmalnaaGreatDoorEvLp
import Derived.WalkKit
import Derived.ProofKit
import Derived.OpenShut
import Derived.Deep.DeepHandedRow
namespace Go.Proofs.YtikjlppcnmalnaaGreatDoor.closed
open Go.ChangeShapes Go.WideShapes Go.ChangeAt Go.RowKit Go.Ev

theorem own : ownKnob Tryz.prog.godebug = none := by kernel_rfl
theorem names : (Tryz.prog.funcs.toList.all fun fn => !(fn.name == "runtime.NumGoroutine")) = true := by kernel_rfl
theorem mixed : Tryz.prog.follows .mixedOrders = true := by kernel_rfl

noncomputable def cells0 : List Value := (flatT Tryz.prog 100 195 Rows.laid_bobbin_lex_signs).getD []
theorem flat0 : flatT Tryz.prog 100 195 Rows.laid_bobbin_lex_signs = some cells0 := by kernel_rfl
theorem plain0 : (cells0.all plain) = true := by kernel_rfl
theorem named0 : Tryz.prog.globalNamed "bobbin/lex.signs" = some 0 := by kernel_rfl
theorem type0 : (Tryz.prog.globals[0]?).map (·.type) = some 195 := by kernel_rfl

noncomputable def cells1 : List Value := (flatT Tryz.prog 100 226 Rows.laid_bobbin_tree_reserved).getD []
theorem flat1 : flatT Tryz.prog 100 226 Rows.laid_bobbin_tree_reserved = some cells1 := by kernel_rfl
theorem plain1 : (cells1.all plain) = true := by kernel_rfl
theorem named1 : Tryz.prog.globalNamed "bobbin/tree.reserved" = some 1 := by kernel_rfl
theorem type1 : (Tryz.prog.globals[1]?).map (·.type) = some 226 := by kernel_rfl

noncomputable def cells2 : List Value := (flatT Tryz.prog 100 230 Rows.laid_bobbin_code_ops).getD []
theorem flat2 : flatT Tryz.prog 100 230 Rows.laid_bobbin_code_ops = some cells2 := by kernel_rfl
theorem plain2 : (cells2.all plain) = true := by kernel_rfl
theorem named2 : Tryz.prog.globalNamed "bobbin/code.ops" = some 2 := by kernel_rfl
theorem type2 : (Tryz.prog.globals[2]?).map (·.type) = some 230 := by kernel_rfl

noncomputable def cells3 : List Value := (flatT Tryz.prog 100 240 Rows.laid_bobbin_tree_stmts).getD []
theorem flat3 : flatT Tryz.prog 100 240 Rows.laid_bobbin_tree_stmts = some cells3 := by kernel_rfl
theorem plain3 : (cells3.all plain) = true := by kernel_rfl
theorem named3 : Tryz.prog.globalNamed "bobbin/tree.stmts" = some 3 := by kernel_rfl
theorem type3 : (Tryz.prog.globals[3]?).map (·.type) = some 240 := by kernel_rfl

noncomputable def cells4 : List Value := (flatT Tryz.prog 100 283 Rows.laid_bobbin_tree_exprs).getD []
theorem flat4 : flatT Tryz.prog 100 283 Rows.laid_bobbin_tree_exprs = some cells4 := by kernel_rfl
theorem plain4 : (cells4.all plain) = true := by kernel_rfl
theorem named4 : Tryz.prog.globalNamed "bobbin/tree.exprs" = some 4 := by kernel_rfl
theorem type4 : (Tryz.prog.globals[4]?).map (·.type) = some 283 := by kernel_rfl

noncomputable def cells7 : List Value := (flatT Tryz.prog 100 331 Rows.laid_unicode_utf8_first).getD []
theorem flat7 : flatT Tryz.prog 100 331 Rows.laid_unicode_utf8_first = some cells7 := by kernel_rfl
theorem plain7 : (cells7.all plain) = true := by kernel_rfl
theorem named7 : Tryz.prog.globalNamed "unicode/utf8.first" = some 7 := by kernel_rfl
theorem type7 : (Tryz.prog.globals[7]?).map (·.type) = some 331 := by kernel_rfl

noncomputable def cells8 : List Value := (flatT Tryz.prog 100 334 Rows.laid_unicode_utf8_acceptRanges).getD []
theorem flat8 : flatT Tryz.prog 100 334 Rows.laid_unicode_utf8_acceptRanges = some cells8 := by kernel_rfl
theorem plain8 : (cells8.all plain) = true := by kernel_rfl
theorem named8 : Tryz.prog.globalNamed "unicode/utf8.acceptRanges" = some 8 := by kernel_rfl
theorem type8 : (Tryz.prog.globals[8]?).map (·.type) = some 334 := by kernel_rfl

noncomputable def cells10 : List Value := (flatT Tryz.prog 100 348 Rows.laid_internal_strconv_uint64pow10).getD []
theorem flat10 : flatT Tryz.prog 100 348 Rows.laid_internal_strconv_uint64pow10 = some cells10 := by kernel_rfl
theorem plain10 : (cells10.all plain) = true := by kernel_rfl
theorem named10 : Tryz.prog.globalNamed "internal/strconv.uint64pow10" = some 10 := by kernel_rfl
theorem type10 : (Tryz.prog.globals[10]?).map (·.type) = some 348 := by kernel_rfl

noncomputable def cells11 : List Value := (flatT Tryz.prog 100 350 Rows.laid_math_bits_deBruijn32tab).getD []
theorem flat11 : flatT Tryz.prog 100 350 Rows.laid_math_bits_deBruijn32tab = some cells11 := by kernel_rfl
theorem plain11 : (cells11.all plain) = true := by kernel_rfl
theorem named11 : Tryz.prog.globalNamed "math/bits.deBruijn32tab" = some 11 := by kernel_rfl
theorem type11 : (Tryz.prog.globals[11]?).map (·.type) = some 350 := by kernel_rfl

noncomputable def cells12 : List Value := (flatT Tryz.prog 100 351 Rows.laid_math_bits_deBruijn64tab).getD []
theorem flat12 : flatT Tryz.prog 100 351 Rows.laid_math_bits_deBruijn64tab = some cells12 := by kernel_rfl
theorem plain12 : (cells12.all plain) = true := by kernel_rfl
theorem named12 : Tryz.prog.globalNamed "math/bits.deBruijn64tab" = some 12 := by kernel_rfl
theorem type12 : (Tryz.prog.globals[12]?).map (·.type) = some 351 := by kernel_rfl

noncomputable def rows : List AObj := [.row 195 cells0 .ro 0 0, .row 226 cells1 .ro 0 0, .row 230 cells2 .ro 0 0, .row 240 cells3 .ro 0 0, .row 283 cells4 .ro 0 0, .dead, .dead, .row 331 cells7 .ro 0 0, .row 334 cells8 .ro 0 0, .dead, .row 348 cells10 .ro 0 0, .row 350 cells11 .ro 0 0, .row 351 cells12 .ro 0 0]

theorem rowsOk : rows.all rowOk = true := by kernel_rfl
noncomputable abbrev V := envOf Tryz.prog rows.length
/-- A closed call, run by itself. -/
theorem part0_0 : runTK V [] [11, 34] rows 3000 80 97 [.string ⟨#[108]⟩] = some (.bool true) := by kernel_rfl
/-- A closed call, run by itself. -/
theorem part0_1 : runTK V [] [11, 34] rows 3000 80 97 [.string ⟨#[116]⟩] = some (.bool true) := by kernel_rfl
/-- A closed call, run by itself. -/
theorem part0_2 : runTK V [] [11, 34] rows 3000 80 97 [.string ⟨#[120]⟩] = some (.bool true) := by kernel_rfl
/-- A closed call, run by itself. -/
theorem part0_3 : runTK V [] [11, 34] rows 3000 80 97 [.string ⟨#[117]⟩] = some (.bool true) := by kernel_rfl
/-- A closed call, run by itself. -/
theorem part0_4 : runTK V [] [11, 34] rows 3000 80 97 [.string ⟨#[110]⟩] = some (.bool true) := by kernel_rfl
/-- A closed call, run by itself. -/
theorem part0_5 : runTK V [] [11, 34] rows 3000 80 97 [.string ⟨#[107]⟩] = some (.bool true) := by kernel_rfl
def tbl0 : Tbl := [(97, [.string ⟨#[108]⟩], .bool true), (97, [.string ⟨#[116]⟩], .bool true), (97, [.string ⟨#[120]⟩], .bool true), (97, [.string ⟨#[117]⟩], .bool true), (97, [.string ⟨#[110]⟩], .bool true), (97, [.string ⟨#[107]⟩], .bool true)]
theorem tblOk0 : TblOk Tryz.prog rows tbl0 := .cons (sound_of_run names mixed rowsOk rfl .nil part0_0) (.cons (sound_of_run names mixed rowsOk rfl .nil part0_1) (.cons (sound_of_run names mixed rowsOk rfl .nil part0_2) (.cons (sound_of_run names mixed rowsOk rfl .nil part0_3) (.cons (sound_of_run names mixed rowsOk rfl .nil part0_4) (.cons (sound_of_run names mixed rowsOk rfl .nil part0_5) (.nil))))))
/-- A closed call, run by itself. -/
theorem part1_0 : runTK V tbl0 [11, 34] rows 3000 80 4 [] = some (.bool true) := by kernel_rfl
def tbl1 : Tbl := [(4, [], .bool true)] ++ tbl0
theorem tblOk1 : TblOk Tryz.prog rows tbl1 := .cons (sound_of_run names mixed rowsOk rfl tblOk0 part1_0) (tblOk0)
/-- The abstract machine's run, by the kernel. -/
theorem run : runTK V tbl1 [11, 34] rows 3000 80 3 [] = some (.bool true) := by kernel_rfl
end Go.Proofs.YtikjlppcnmalnaaGreatDoor.closed
