/-
  The closed law 'bobbin/bobbinlaw25.ElideNames' answers true, and nothing that was there is turned: the abstract machine's run (EvA .. EvLo), which is proved sound for the model's calls, is run by the kernel. Conditions: the package-level variables that the row lists hold what it lists.
-/
import Derived.Test.YtikjlppcnmalnaaGreatDoorNamesR
import Derived.Test.YtikjlppcnmalnaaGreatDoorNamesF
namespace Go.Proofs.YtikjlppcnmalnaaGreatDoor.closed
set_option maxHeartbeats 400000000
open Go.ChangeShapes Go.WideShapes Go.ChangeAt Go.RowKit Go.Ev

theorem rows_in {W : World} (h : laidMetH Tryz.prog Rows.elideNamesRow.laid W) : ∀ g o, rows[g]? = some o → RowIn W g o := by
  have hl : laidMet Tryz.prog Rows.elideNamesRow.laid W := h
  intro g o hg
  unfold rows at hg
  match g, hg with
  | 0, hg =>
    cases hg
    exact ⟨fun v hv => List.all_eq_true.1 plain0 v hv, laidMet_row hl (List.Mem.tail _ (List.Mem.tail _ (List.Mem.tail _ (List.Mem.tail _ (List.Mem.tail _ (List.Mem.tail _ (List.Mem.head _))))))) named0 type0 flat0⟩
  | 1, hg =>
    cases hg
    exact ⟨fun v hv => List.all_eq_true.1 plain1 v hv, laidMet_row hl (List.Mem.tail _ (List.Mem.tail _ (List.Mem.tail _ (List.Mem.tail _ (List.Mem.tail _ (List.Mem.tail _ (List.Mem.tail _ (List.Mem.head _)))))))) named1 type1 flat1⟩
  | 2, hg =>
    cases hg
    exact ⟨fun v hv => List.all_eq_true.1 plain2 v hv, laidMet_row hl (List.Mem.tail _ (List.Mem.tail _ (List.Mem.tail _ (List.Mem.tail _ (List.Mem.tail _ (List.Mem.tail _ (List.Mem.tail _ (List.Mem.tail _ (List.Mem.tail _ (List.Mem.tail _ (List.Mem.head _))))))))))) named2 type2 flat2⟩
  | 3, hg =>
    cases hg
    exact ⟨fun v hv => List.all_eq_true.1 plain3 v hv, laidMet_row hl (List.Mem.tail _ (List.Mem.tail _ (List.Mem.tail _ (List.Mem.tail _ (List.Mem.tail _ (List.Mem.tail _ (List.Mem.tail _ (List.Mem.tail _ (List.Mem.tail _ (List.Mem.head _)))))))))) named3 type3 flat3⟩
  | 4, hg =>
    cases hg
    exact ⟨fun v hv => List.all_eq_true.1 plain4 v hv, laidMet_row hl (List.Mem.tail _ (List.Mem.tail _ (List.Mem.tail _ (List.Mem.tail _ (List.Mem.tail _ (List.Mem.tail _ (List.Mem.tail _ (List.Mem.tail _ (List.Mem.head _))))))))) named4 type4 flat4⟩
  | 5, hg =>
    cases hg
    exact trivial
  | 6, hg =>
    cases hg
    exact trivial
  | 7, hg =>
    cases hg
    exact ⟨fun v hv => List.all_eq_true.1 plain7 v hv, laidMet_row hl (List.Mem.tail _ (List.Mem.tail _ (List.Mem.tail _ (List.Mem.tail _ (List.Mem.tail _ (List.Mem.tail _ (List.Mem.tail _ (List.Mem.tail _ (List.Mem.tail _ (List.Mem.tail _ (List.Mem.tail _ (List.Mem.head _)))))))))))) named7 type7 flat7⟩
  | 8, hg =>
    cases hg
    exact ⟨fun v hv => List.all_eq_true.1 plain8 v hv, laidMet_row hl (List.Mem.tail _ (List.Mem.tail _ (List.Mem.tail _ (List.Mem.head _)))) named8 type8 flat8⟩
  | 9, hg =>
    cases hg
    exact trivial
  | 10, hg =>
    cases hg
    exact ⟨fun v hv => List.all_eq_true.1 plain10 v hv, laidMet_row hl (List.Mem.tail _ (List.Mem.tail _ (List.Mem.head _))) named10 type10 flat10⟩
  | 11, hg =>
    cases hg
    exact ⟨fun v hv => List.all_eq_true.1 plain11 v hv, laidMet_row hl (List.Mem.head _) named11 type11 flat11⟩
  | 12, hg =>
    cases hg
    exact ⟨fun v hv => List.all_eq_true.1 plain12 v hv, laidMet_row hl (List.Mem.tail _ (List.Mem.head _)) named12 type12 flat12⟩
  | n + 13, hg => simp at hg

set_option maxRecDepth 100000 in
theorem contract (H : Type) (enc : TypeId × Value → H) (W : World) (args : Array Value) (ds gs : List (DataW H)) (before : List MemPlace)
    (hW : DataW.Whole enc Tryz.prog Tryz.f3.params.toList Rows.elideNamesSpec.vars false W args.toList ds gs before) (hL : laidMetH Tryz.prog Rows.elideNamesRow.laid W) :
    Calls Tryz.prog 3 args W fun e W' => ∃ v, e = .returned v ∧ Rows.elideNamesSpec.post enc Tryz.prog Tryz.f3 false true false false W args v W' := by
  have hW' := hW
  obtain ⟨p, q, hA0, hV, rfl, hfz, hnd⟩ := hW
  have hA : DataW.TrodAll enc Tryz.prog W 0 (fun _ => true) true Tryz.f3.params.toList args.toList ds p := hA0
  rw [Tryz.params3] at hA
  obtain ⟨hargs, rfl, rfl⟩ := trodAll_nil hA
  obtain rfl : args = #[] := by cases args; simp_all
  obtain ⟨rfl, rfl⟩ := trodVars_none hV
  clear hA0 hA
  simp only [List.append_nil] at hW'
  refine (laid_callsT (rows_in hL) rfl (sound_of_run names mixed rowsOk rfl tblOk1 run)).mono fun e W' ⟨he, hb⟩ => ?_
  subst he
  exact ⟨_, rfl, post_below (pa := []) (pv := []) hW' hb (fun _ _ _ => trodAll_cons_mk (shut_bool Tryz.underlying4 _) trodAll_mk0) (fun _ _ => trodAll_mk0) (fun _ _ => rfl) rfl (ok_one (t := 4) (by kernel_rfl) rfl (okWide_bool_mk Tryz.underlying4 _))⟩

/-- A WORLD FOR THE WITNESS: the settled one, the listed variables holding what their initialisers lay. -/
noncomputable def laidWorld (os : Os) : World :=
  { World.holding Tryz.prog os ⟨#[], #[], []⟩ with heap := (((((((((((((((World.holding Tryz.prog os ⟨#[], #[], []⟩).heap).modify 0 (fun | .cells _ t frozen => .cells cells0.toArray t frozen | o => o)).modify 1 (fun | .cells _ t frozen => .cells cells1.toArray t frozen | o => o)).modify 2 (fun | .cells _ t frozen => .cells cells2.toArray t frozen | o => o)).modify 3 (fun | .cells _ t frozen => .cells cells3.toArray t frozen | o => o)).modify 4 (fun | .cells _ t frozen => .cells cells4.toArray t frozen | o => o)).modify 7 (fun | .cells _ t frozen => .cells cells7.toArray t frozen | o => o)).modify 8 (fun | .cells _ t frozen => .cells cells8.toArray t frozen | o => o)).modify 10 (fun | .cells _ t frozen => .cells cells10.toArray t frozen | o => o)).modify 11 (fun | .cells _ t frozen => .cells cells11.toArray t frozen | o => o)).modify 12 (fun | .cells _ t frozen => .cells cells12.toArray t frozen | o => o)).modify 5 (fun | .cells _ t frozen => .cells #[.iface 339 (.pointer (some ⟨((World.holding Tryz.prog os ⟨#[], #[], []⟩).heap).size + 0, 0, none⟩))] t frozen | o => o)).modify 6 (fun | .cells _ t frozen => .cells #[.iface 339 (.pointer (some ⟨((World.holding Tryz.prog os ⟨#[], #[], []⟩).heap).size + 1, 0, none⟩))] t frozen | o => o)).push (.cells #[.string ⟨#[105, 110, 118, 97, 108, 105, 100, 32, 115, 121, 110, 116, 97, 120]⟩] 341)).push (.cells #[.string ⟨#[118, 97, 108, 117, 101, 32, 111, 117, 116, 32, 111, 102, 32, 114, 97, 110, 103, 101]⟩] 341) }
theorem laid_met (os : Os) : laidMet Tryz.prog Rows.elideNamesRow.laid ((laidWorld os).forCall (fun _ _ => 0) ⟨#[], #[], []⟩).memory :=
  laidMet_of_run' 8 (by kernel_rfl) (by kernel_rfl)
theorem reads (os : Os) {H : Type} (enc : TypeId × Value → H) : ∃ places, DataW.whole enc Tryz.prog ((laidWorld os).forCall (fun _ _ => 0) ⟨#[], #[], []⟩).memory Tryz.f3.params.toList Rows.elideNamesSpec.vars false (#[] : Array Value).toList 8 = some ([], [], places) :=
  ⟨[], by kernel_rfl⟩

set_option maxRecDepth 100000 in
theorem lifted (os : Os) (started : os.Started) (H : Type) (enc : TypeId × Value → H) (F : Stop.Interp) :
    ReturnsInHanded {} Tryz.checked os 3 .any ((OpenSpec.ofChange Rows.elideNamesSpec).preRow enc Tryz.prog Tryz.f3 Rows.elideNamesRow.domain false Rows.elideNamesRow.laid) (((OpenSpec.ofChange Rows.elideNamesSpec).at F).post enc Tryz.prog Tryz.f3 false true false false) := by
  obtain ⟨places, hx⟩ := reads os enc
  refine returnsInHanded_of_row (C := Tryz.checked) (s := OpenSpec.ofChange Rows.elideNamesSpec) own started (by kernel_rfl) Tryz.func3
    (witness_row_at (enc := enc) (C := Tryz.checked) false (laidWorld os) #[] rfl (by kernel_rfl) (by kernel_rfl) (by kernel_rfl)
      (OpenSpec.preRow_of_cond 8 hx (by kernel_rfl) (fun k hk => by cases hk) (by kernel_rfl) (laid_met os))) ?_
  intro W base args ds gs before hval hW _ _ _ hL _ _
  exact contract H enc W args ds gs before hW hL

theorem said : Rows.ElideNamesSaid :=
  OpenClaim.holds_of_cond 3 Tryz.f3 rfl rfl rfl rfl rfl rfl rfl ⟨rfl, rfl, rfl, rfl, rfl⟩ rfl rfl rfl rfl rfl (by kernel_rfl) Tryz.func3 facts
    (of_decide_eq_true (by kernel_rfl)) (by unfold Func.isWrapper; first | (rw [if_pos (by decide +kernel)]; kernel_rfl) | (rw [if_neg (by decide +kernel)]; exact ⟨rfl, rfl⟩))
    (fun os started H enc _ F => by rw [OpenClaim.pre_eq_preRow]; exact lifted os started H enc F)

theorem standIns (f : FuncId) (fn : Func) (hf : Tryz.pinned.checked.prog.funcNamed "bobbin/bobbinlaw25.ElideNames" = some f) (hfn : Tryz.pinned.checked.prog.funcs[f]? = some fn) :
    true = Tryz.pinned.checked.prog.looks [] ∧ ∀ (j : Nat) t, fn.params[j]? = some t → Tryz.pinned.checked.prog.wantsStandIn t = false := by
  obtain rfl : f = 3 := Option.some.inj ((show Tryz.prog.funcNamed "bobbin/bobbinlaw25.ElideNames" = some 3 by kernel_rfl).symm.trans hf) |>.symm
  obtain rfl : fn = Tryz.f3 := (Option.some.inj (Tryz.func3.symm.trans hfn)).symm
  refine ⟨by kernel_rfl, fun j t ht => ?_⟩
  rw [Tryz.params3] at ht
  simp at ht

/-- The card. -/
theorem card : Rows.ElideNamesCardSaid :=
  Claim7.holds_tied_plain_at .later [] _ _ _ _ said (fun _ h => by cases h) (by kernel_rfl) (fun _ h => by cases h) elideNames_row_tie rfl ⟨rfl, rfl⟩ (by kernel_rfl) rfl standIns (by kernel_rfl)
end Go.Proofs.YtikjlppcnmalnaaGreatDoor.closed
