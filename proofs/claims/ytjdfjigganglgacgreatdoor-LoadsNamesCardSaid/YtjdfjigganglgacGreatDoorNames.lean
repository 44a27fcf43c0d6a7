/-
  The closed law 'bobbin/bobbinlaw24.LoadsNames' answers true, and nothing that was there is turned: the abstract machine's run (EvA .. EvLf), which is proved sound for the model's calls, is run by the kernel. Conditions: the package-level variables that the row lists hold what it lists.
-/
import Derived.Test.YtjdfjigganglgacGreatDoorCards
import Derived.Test.YtjdfjigganglgacGreatDoorTie
import Derived.Test.YtjdfjigganglgacGreatDoorEvLf
import Derived.WalkKit
import Derived.ProofKit
import Derived.OpenShut
import Derived.Deep.DeepHandedRow
namespace Go.Proofs.YtjdfjigganglgacGreatDoor.closed
open Go.ChangeShapes Go.WideShapes Go.ChangeAt Go.RowKit Go.Ev

theorem own : ownKnob Tryz.prog.godebug = none := by kernel_rfl
theorem names : (Tryz.prog.funcs.toList.all fun fn => !(fn.name == "runtime.NumGoroutine")) = true := by kernel_rfl
theorem mixed : Tryz.prog.follows .mixedOrders = true := by kernel_rfl

noncomputable def cells0 : List Value := (flatT Tryz.prog 100 169 Rows.laid_bobbin_code_ops).getD []
theorem flat0 : flatT Tryz.prog 100 169 Rows.laid_bobbin_code_ops = some cells0 := by kernel_rfl
theorem plain0 : (cells0.all plain) = true := by kernel_rfl
theorem named0 : Tryz.prog.globalNamed "bobbin/code.ops" = some 0 := by kernel_rfl
theorem type0 : (Tryz.prog.globals[0]?).map (·.type) = some 169 := by kernel_rfl

noncomputable def cells1 : List Value := (flatT Tryz.prog 100 174 Rows.laid_bobbin_tree_reserved).getD []
theorem flat1 : flatT Tryz.prog 100 174 Rows.laid_bobbin_tree_reserved = some cells1 := by kernel_rfl
theorem plain1 : (cells1.all plain) = true := by kernel_rfl
theorem named1 : Tryz.prog.globalNamed "bobbin/tree.reserved" = some 1 := by kernel_rfl
theorem type1 : (Tryz.prog.globals[1]?).map (·.type) = some 174 := by kernel_rfl

noncomputable def cells2 : List Value := (flatT Tryz.prog 100 208 Rows.laid_unicode_utf8_first).getD []
theorem flat2 : flatT Tryz.prog 100 208 Rows.laid_unicode_utf8_first = some cells2 := by kernel_rfl
theorem plain2 : (cells2.all plain) = true := by kernel_rfl
theorem named2 : Tryz.prog.globalNamed "unicode/utf8.first" = some 2 := by kernel_rfl
theorem type2 : (Tryz.prog.globals[2]?).map (·.type) = some 208 := by kernel_rfl

noncomputable def cells3 : List Value := (flatT Tryz.prog 100 211 Rows.laid_unicode_utf8_acceptRanges).getD []
theorem flat3 : flatT Tryz.prog 100 211 Rows.laid_unicode_utf8_acceptRanges = some cells3 := by kernel_rfl
theorem plain3 : (cells3.all plain) = true := by kernel_rfl
theorem named3 : Tryz.prog.globalNamed "unicode/utf8.acceptRanges" = some 3 := by kernel_rfl
theorem type3 : (Tryz.prog.globals[3]?).map (·.type) = some 211 := by kernel_rfl

noncomputable def rows : List AObj := [.row 169 cells0 .ro 0 0, .row 174 cells1 .ro 0 0, .row 208 cells2 .ro 0 0, .row 211 cells3 .ro 0 0, .dead]

/-- The abstract machine's run, by the kernel. -/
theorem run : runK (envOf Tryz.prog rows.length) rows 1000 60 3 = some (.bool true) := by kernel_rfl

theorem rows_in {W : World} (h : laidMetH Tryz.prog Rows.loadsNamesRow.laid W) : ∀ g o, rows[g]? = some o → RowIn W g o := by
  have hl : laidMet Tryz.prog Rows.loadsNamesRow.laid W := h
  intro g o hg
  unfold rows at hg
  match g, hg with
  | 0, hg =>
    cases hg
    exact ⟨fun v hv => List.all_eq_true.1 plain0 v hv, laidMet_row hl (List.Mem.tail _ (List.Mem.tail _ (List.Mem.head _))) named0 type0 flat0⟩
  | 1, hg =>
    cases hg
    exact ⟨fun v hv => List.all_eq_true.1 plain1 v hv, laidMet_row hl (List.Mem.tail _ (List.Mem.head _)) named1 type1 flat1⟩
  | 2, hg =>
    cases hg
    exact ⟨fun v hv => List.all_eq_true.1 plain2 v hv, laidMet_row hl (List.Mem.tail _ (List.Mem.tail _ (List.Mem.tail _ (List.Mem.head _)))) named2 type2 flat2⟩
  | 3, hg =>
    cases hg
    exact ⟨fun v hv => List.all_eq_true.1 plain3 v hv, laidMet_row hl (List.Mem.head _) named3 type3 flat3⟩
  | 4, hg =>
    cases hg
    exact trivial
  | n + 5, hg => simp at hg

set_option maxRecDepth 100000 in
theorem contract (H : Type) (enc : TypeId × Value → H) (W : World) (args : Array Value) (ds gs : List (DataW H)) (before : List MemPlace)
    (hW : DataW.Whole enc Tryz.prog Tryz.f3.params.toList Rows.loadsNamesSpec.vars false W args.toList ds gs before) (hL : laidMetH Tryz.prog Rows.loadsNamesRow.laid W) :
    Calls Tryz.prog 3 args W fun e W' => ∃ v, e = .returned v ∧ Rows.loadsNamesSpec.post enc Tryz.prog Tryz.f3 false true false false W args v W' := by
  have hW' := hW
  obtain ⟨p, q, hA0, hV, rfl, hfz, hnd⟩ := hW
  have hA : DataW.TrodAll enc Tryz.prog W 0 (fun _ => true) true Tryz.f3.params.toList args.toList ds p := hA0
  rw [Tryz.params3] at hA
  obtain ⟨hargs, rfl, rfl⟩ := trodAll_nil hA
  obtain rfl : args = #[] := by cases args; simp_all
  obtain ⟨rfl, rfl⟩ := trodVars_none hV
  clear hA0 hA
  simp only [List.append_nil] at hW'
  refine (laid_callsK names mixed (rows_in hL) rfl run).mono fun e W' ⟨he, hb⟩ => ?_
  subst he
  exact ⟨_, rfl, post_below (pa := []) (pv := []) hW' hb (fun _ _ _ => trodAll_cons_mk (shut_bool Tryz.underlying4 _) trodAll_mk0) (fun _ _ => trodAll_mk0) (fun _ _ => rfl) rfl (ok_one (t := 4) (by kernel_rfl) rfl (okWide_bool_mk Tryz.underlying4 _))⟩

/-- A WORLD FOR THE WITNESS: the settled one, the listed variables holding what their initialisers lay. -/
noncomputable def laidWorld (os : Os) : World :=
  { World.holding Tryz.prog os ⟨#[], #[], []⟩ with heap := (((((World.holding Tryz.prog os ⟨#[], #[], []⟩).heap).modify 0 (fun | .cells _ t frozen => .cells cells0.toArray t frozen | o => o)).modify 1 (fun | .cells _ t frozen => .cells cells1.toArray t frozen | o => o)).modify 2 (fun | .cells _ t frozen => .cells cells2.toArray t frozen | o => o)).modify 3 (fun | .cells _ t frozen => .cells cells3.toArray t frozen | o => o) }
theorem laid_met (os : Os) : laidMet Tryz.prog Rows.loadsNamesRow.laid ((laidWorld os).forCall (fun _ _ => 0) ⟨#[], #[], []⟩).memory :=
  laidMet_of_run' 8 (by kernel_rfl) (by kernel_rfl)
theorem reads (os : Os) {H : Type} (enc : TypeId × Value → H) : ∃ places, DataW.whole enc Tryz.prog ((laidWorld os).forCall (fun _ _ => 0) ⟨#[], #[], []⟩).memory Tryz.f3.params.toList Rows.loadsNamesSpec.vars false (#[] : Array Value).toList 8 = some ([], [], places) :=
  ⟨[], by kernel_rfl⟩

set_option maxRecDepth 100000 in
theorem lifted (os : Os) (started : os.Started) (H : Type) (enc : TypeId × Value → H) (F : Stop.Interp) :
    ReturnsInHanded {} Tryz.checked os 3 .any ((OpenSpec.ofChange Rows.loadsNamesSpec).preRow enc Tryz.prog Tryz.f3 Rows.loadsNamesRow.domain false Rows.loadsNamesRow.laid) (((OpenSpec.ofChange Rows.loadsNamesSpec).at F).post enc Tryz.prog Tryz.f3 false true false false) := by
  obtain ⟨places, hx⟩ := reads os enc
  refine returnsInHanded_of_row (C := Tryz.checked) (s := OpenSpec.ofChange Rows.loadsNamesSpec) own started (by kernel_rfl) Tryz.func3
    (witness_row_at (enc := enc) (C := Tryz.checked) false (laidWorld os) #[] rfl (by kernel_rfl) (by kernel_rfl) (by kernel_rfl)
      (OpenSpec.preRow_of_cond 8 hx (by kernel_rfl) (fun k hk => by cases hk) (by kernel_rfl) (laid_met os))) ?_
  intro W base args ds gs before hval hW _ _ _ hL _ _
  exact contract H enc W args ds gs before hW hL

theorem said : Rows.LoadsNamesSaid :=
  OpenClaim.holds_of_cond 3 Tryz.f3 rfl rfl rfl rfl rfl rfl rfl ⟨rfl, rfl, rfl, rfl, rfl⟩ rfl rfl rfl rfl rfl (by kernel_rfl) Tryz.func3 (by kernel_rfl)
    (of_decide_eq_true (by kernel_rfl)) (by unfold Func.isWrapper; first | (rw [if_pos (by decide +kernel)]; kernel_rfl) | (rw [if_neg (by decide +kernel)]; exact ⟨rfl, rfl⟩))
    (fun os started H enc _ F => by rw [OpenClaim.pre_eq_preRow]; exact lifted os started H enc F)

theorem standIns (f : FuncId) (fn : Func) (hf : Tryz.pinned.checked.prog.funcNamed "bobbin/bobbinlaw24.LoadsNames" = some f) (hfn : Tryz.pinned.checked.prog.funcs[f]? = some fn) :
    false = Tryz.pinned.checked.prog.looks [] ∧ ∀ (j : Nat) t, fn.params[j]? = some t → Tryz.pinned.checked.prog.wantsStandIn t = false := by
  obtain rfl : f = 3 := Option.some.inj ((show Tryz.prog.funcNamed "bobbin/bobbinlaw24.LoadsNames" = some 3 by kernel_rfl).symm.trans hf) |>.symm
  obtain rfl : fn = Tryz.f3 := (Option.some.inj (Tryz.func3.symm.trans hfn)).symm
  refine ⟨by kernel_rfl, fun j t ht => ?_⟩
  rw [Tryz.params3] at ht
  simp at ht

/-- The card. -/
theorem card : Rows.LoadsNamesCardSaid :=
  Claim7.holds_tied_plain_at .later [] _ _ _ _ said (fun _ h => by cases h) (by kernel_rfl) (fun _ h => by cases h) loadsNames_row_tie rfl ⟨rfl, rfl⟩ (by kernel_rfl) rfl standIns (by kernel_rfl)
end Go.Proofs.YtjdfjigganglgacGreatDoor.closed
