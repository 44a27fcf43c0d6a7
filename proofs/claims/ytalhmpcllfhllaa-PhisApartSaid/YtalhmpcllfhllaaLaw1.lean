/-
  Moves in a row, in plain words.
-/
import Derived.Test.YtalhmpcllfhllaaEv6
import Derived.Test.YtalhmpcllfhllaaProg
import Derived.KernelRfl
set_option linter.all false
namespace Go.Phi
abbrev Mv := Int × Int
def free (l : List Mv) (m : Mv) : Bool := l.all fun x => x.2 != m.1
def turn (g t : Int) (l : List Mv) : List Mv := l.map fun m => if m.2 = g then (m.1, t) else m
inductive Rows (t : Int) : List Mv → List Mv → Prop
  | nil : Rows t [] []
  | free {l : List Mv} {at_ : Nat} {out : List Mv} (h : at_ < l.length) (hf : Phi.free l l[at_] = true) (hb : ∀ (j : Nat) (hj : j < at_), Phi.free l (l[j]'(Nat.lt_trans hj h)) = false) (k : Rows t (l.eraseIdx at_) out) : Rows t l (l[at_] :: out)
  | turn {m : Mv} {l : List Mv} {out : List Mv} (hn : ∀ x ∈ m :: l, Phi.free (m :: l) x = false) (k : Rows t (Phi.turn m.1 t (m :: l)) out) : Rows t (m :: l) ((t, m.1) :: out)
theorem Rows.det {t : Int} {l a : List Mv} (h : Rows t l a) : ∀ {l' b : List Mv}, l' = l → Rows t l' b → a = b := by
  induction h with
  | nil => intro l' b e k; subst e; cases k with | nil => rfl | free h => simp at h
  | @free l i out h hf hb _ ih =>
    intro l' b hl k
    cases k with
    | nil => subst hl; simp at h
    | @free _ j out' h' hf' hb' k' =>
      subst hl
      have e : i = j := by
        rcases Nat.lt_trichotomy i j with hij | hij | hij
        · rw [hb' i hij] at hf; cases hf
        · exact hij
        · rw [hb j hij] at hf'; cases hf'
      subst e
      rw [ih rfl k']
    | @turn m l0 out' hn _ =>
      subst hl
      rw [hn _ (List.getElem_mem h)] at hf; cases hf
  | @turn m l out hn _ ih =>
    intro l' b hl k
    cases k with
    | nil => cases hl
    | @free _ j out' h' hf' hb' k' =>
      subst hl
      rw [hn _ (List.getElem_mem h')] at hf'; cases hf'
    | @turn m' l0 out' hn' k' =>
      cases hl
      rw [ih rfl k']
abbrev Regs := Int → Int
def upd (s : Regs) (r v : Int) : Regs := fun x => if x = r then v else s x
def exec (s : Regs) (l : List Mv) : Regs := l.foldl (fun s m => upd s m.1 (s m.2)) s
theorem exec_cons (s : Regs) (m : Mv) (l : List Mv) : exec s (m :: l) = exec (upd s m.1 (s m.2)) l := rfl
theorem eraseIdx_map' {α β : Type} (f : α → β) : ∀ (l : List α) (i : Nat), (l.map f).eraseIdx i = (l.eraseIdx i).map f
  | [], _ => rfl
  | _ :: _, 0 => rfl
  | a :: l, i + 1 => by simp [eraseIdx_map' f l i]
theorem subset_of_card : ∀ {g s : List Int}, g.Nodup → (∀ x ∈ g, x ∈ s) → s.length ≤ g.length → ∀ x ∈ s, x ∈ g
  | [], s, _, _, hl, x, hx => by
    have : s = [] := List.length_eq_zero_iff.1 (by simpa using hl)
    subst this; cases hx
  | a :: g, s, hd, hs, hl, x, hx => by
    rw [List.nodup_cons] at hd
    have ha : a ∈ s := hs a (by simp)
    by_cases e : x = a
    · subst e; simp
    · have h2 : ∀ y ∈ g, y ∈ s.erase a := fun y hy => (List.mem_erase_of_ne (fun e => by subst e; exact hd.1 hy)).2 (hs y (by simp [hy]))
      have h3 : (s.erase a).length ≤ g.length := by rw [List.length_erase_of_mem ha]; simp at hl; omega
      exact List.mem_cons_of_mem _ (subset_of_card hd.2 h2 h3 x ((List.mem_erase_of_ne e).2 hx))
theorem free_iff {l : List Mv} {m : Mv} : free l m = true ↔ ∀ x ∈ l, x.2 ≠ m.1 := by
  unfold free; rw [List.all_eq_true]
  exact ⟨fun h x hx => by simpa using h x hx, fun h x hx => by simpa using h x hx⟩
theorem free_false {l : List Mv} {m : Mv} (h : free l m = false) : ∃ x ∈ l, x.2 = m.1 := by
  unfold free at h
  rw [List.all_eq_false] at h
  obtain ⟨x, hx, h⟩ := h
  exact ⟨x, hx, by simpa using h⟩
theorem all_read {l : List Mv} (hd : (l.map (·.1)).Nodup) (hn : ∀ x ∈ l, free l x = false) : ∀ x ∈ l, x.2 ∈ l.map (·.1) := fun x hx =>
  subset_of_card (s := l.map (·.2)) hd (fun y hy => by
    obtain ⟨m, hm, rfl⟩ := List.mem_map.1 hy
    obtain ⟨z, hz, e⟩ := free_false (hn m hm)
    exact List.mem_map.2 ⟨z, hz, e⟩) (by simp) x.2 (List.mem_map.2 ⟨x, hx, rfl⟩)
theorem turn_goals (g t : Int) (l : List Mv) : (turn g t l).map (·.1) = l.map (·.1) := by
  unfold turn
  rw [List.map_map]
  apply List.map_congr_left
  intro m _
  simp only [Function.comp]
  split <;> rfl
theorem turn_length (g t : Int) (l : List Mv) : (turn g t l).length = l.length := by simp [turn]
theorem Rows.exec_eq {t : Int} {l out : List Mv} (h : Rows t l out) : (l.map (·.1)).Nodup → t ∉ l.map (·.1) → ∀ s : Regs, (∀ m ∈ l, exec s out m.1 = s m.2) ∧ ∀ r, r ∉ l.map (·.1) → r ≠ t → exec s out r = s r := by
  induction h with
  | nil => intro _ _ s; exact ⟨fun m hm => absurd hm (by simp), fun r _ _ => rfl⟩
  | @free l i out h hf hb _ ih =>
    intro hd ht s
    have hmem : ∀ x ∈ l.eraseIdx i, x ∈ l := fun x hx => List.mem_of_mem_eraseIdx hx
    have hsub : (l.eraseIdx i).map (·.1) = (l.map (·.1)).eraseIdx i := (eraseIdx_map' _ _ _).symm
    have hd2 : ((l.eraseIdx i).map (·.1)).Nodup := by rw [hsub]; exact hd.sublist (List.eraseIdx_sublist _ _)
    have ht2 : t ∉ (l.eraseIdx i).map (·.1) := fun hm => ht (by
      obtain ⟨m, hm, e⟩ := List.mem_map.1 hm
      exact List.mem_map.2 ⟨m, hmem m hm, e⟩)
    obtain ⟨h1, h2⟩ := ih hd2 ht2 (upd s l[i].1 (s l[i].2))
    have hne : l[i].1 ∉ (l.eraseIdx i).map (·.1) := by
      rw [hsub]
      intro hm
      have hi : i < (l.map (·.1)).length := by simpa using h
      have : (l.map (·.1))[i] = l[i].1 := by simp
      rw [← this] at hm
      obtain ⟨j, hj, e⟩ := List.mem_iff_getElem.1 hm
      rw [List.getElem_eraseIdx] at e
      split at e
      · rename_i hji
        have := (List.nodup_iff_pairwise_ne.1 hd)
        have := List.pairwise_iff_getElem.1 this j i (by rw [List.length_eraseIdx_of_lt hi] at hj; omega) hi hji
        exact this e
      · rename_i hji
        have := (List.nodup_iff_pairwise_ne.1 hd)
        have := List.pairwise_iff_getElem.1 this i (j + 1) hi (by rw [List.length_eraseIdx_of_lt hi] at hj; omega) (by omega)
        exact this e.symm
    have hti : l[i].1 ≠ t := fun e => ht (List.mem_map.2 ⟨l[i], List.getElem_mem h, e⟩)
    have hfr := free_iff.1 hf
    refine ⟨fun m hm => ?_, fun r hr hrt => ?_⟩
    · rw [exec_cons]
      by_cases e : m.1 = l[i].1
      · have hm2 : m = l[i] := by
          obtain ⟨j, hj, rfl⟩ := List.mem_iff_getElem.1 hm
          rcases Nat.lt_trichotomy j i with hji | hji | hji
          · exact absurd (show (l.map (·.1))[j]'(by simpa using hj) = (l.map (·.1))[i]'(by simpa using h) by rw [List.getElem_map, List.getElem_map]; exact e) (List.pairwise_iff_getElem.1 (List.nodup_iff_pairwise_ne.1 hd) j i _ _ hji)
          · subst hji; rfl
          · exact absurd (show (l.map (·.1))[i]'(by simpa using h) = (l.map (·.1))[j]'(by simpa using hj) by rw [List.getElem_map, List.getElem_map]; exact e.symm) (List.pairwise_iff_getElem.1 (List.nodup_iff_pairwise_ne.1 hd) i j _ _ hji)
        subst hm2
        rw [h2 _ hne hti]
        simp [upd]
      · have hm2 : m ∈ l.eraseIdx i := by
          obtain ⟨j, hj, rfl⟩ := List.mem_iff_getElem.1 hm
          have hji : j ≠ i := fun e' => by subst e'; exact e rfl
          rw [List.mem_eraseIdx_iff_getElem]
          exact ⟨j, hj, hji, rfl⟩
        rw [h1 m hm2]
        unfold upd
        rw [if_neg (hfr m hm)]
    · rw [exec_cons, h2 r (fun hm => hr (by
        obtain ⟨m, hm, e⟩ := List.mem_map.1 hm
        exact List.mem_map.2 ⟨m, hmem m hm, e⟩)) hrt]
      unfold upd
      rw [if_neg (fun e => hr (List.mem_map.2 ⟨l[i], List.getElem_mem h, e.symm⟩))]
  | @turn m l out hn _ ih =>
    intro hd ht s
    have hall := all_read hd hn
    obtain ⟨h1, h2⟩ := ih (by rw [turn_goals]; exact hd) (by rw [turn_goals]; exact ht) (upd s t (s m.1))
    refine ⟨fun x hx => ?_, fun r hr hrt => ?_⟩
    · rw [exec_cons]
      have hx2 : (if x.2 = m.1 then (x.1, t) else x) ∈ Phi.turn m.1 t (m :: l) := List.mem_map.2 ⟨x, hx, rfl⟩
      have := h1 _ hx2
      by_cases e : x.2 = m.1
      · rw [if_pos e] at this
        rw [this, e]; simp [upd]
      · rw [if_neg e] at this
        rw [this]
        unfold upd
        rw [if_neg (fun e' => ht (by rw [← e']; exact hall x hx))]
    · rw [exec_cons, h2 r (by rw [turn_goals]; exact hr) hrt]
      unfold upd
      rw [if_neg hrt]
def temps (t : Int) (l : List Mv) : Nat := (l.filter fun m => m.1 == t).length
theorem Rows.temps_le {t : Int} {l out : List Mv} (h : Rows t l out) : t ∉ l.map (·.1) → out.length = l.length + temps t out ∧ temps t out ≤ l.length ∧ ((∃ m ∈ l, Phi.free l m = true) → temps t out + 1 ≤ l.length) := by
  induction h with
  | nil => intro _; simp [temps]
  | @free l i out h hf hb _ ih =>
    intro ht
    have hti : (l[i].1 == t) = false := by
      rw [beq_eq_false_iff_ne]
      exact fun e => ht (List.mem_map.2 ⟨l[i], List.getElem_mem h, e⟩)
    have hlen := List.length_eraseIdx_of_lt h
    obtain ⟨h1, h2, _⟩ := ih (fun hm => ht (by
      obtain ⟨m, hm, e⟩ := List.mem_map.1 hm
      exact List.mem_map.2 ⟨m, List.mem_of_mem_eraseIdx hm, e⟩))
    have e : temps t (l[i] :: out) = temps t out := by simp only [temps, List.filter_cons, hti]; rfl
    rw [e, List.length_cons]
    exact ⟨by omega, by omega, fun _ => by omega⟩
  | @turn m l out hn _ ih =>
    intro ht
    have htm : m.1 ≠ t := fun e => ht (by simp [e])
    obtain ⟨h1, h2, h3⟩ := ih (by rw [turn_goals]; exact ht)
    rw [turn_length] at h1 h2 h3
    have hfree : ∃ x ∈ Phi.turn m.1 t (m :: l), Phi.free (Phi.turn m.1 t (m :: l)) x = true := by
      refine ⟨_, List.mem_map.2 ⟨m, by simp, rfl⟩, free_iff.2 fun x hx => ?_⟩
      have e1 : (if m.2 = m.1 then (m.1, t) else m).1 = m.1 := by split <;> rfl
      rw [e1]
      obtain ⟨y, _, rfl⟩ := List.mem_map.1 hx
      split
      · exact Ne.symm htm
      · assumption
    have := h3 hfree
    have e : temps t ((t, m.1) :: out) = temps t out + 1 := by simp [temps, List.filter_cons]
    rw [e, List.length_cons]
    refine ⟨by omega, by omega, fun ⟨x, hx, hf⟩ => ?_⟩
    rw [hn x hx] at hf; cases hf
theorem Rows.apart {t : Int} : ∀ {l : List Mv}, (∀ x ∈ l, ∀ y ∈ l, x.2 ≠ y.1) → Rows t l l
  | [], _ => .nil
  | m :: l, h => by
    have k := Rows.apart (t := t) (l := l) fun x hx y hy => h x (by simp [hx]) y (by simp [hy])
    exact Rows.free (l := m :: l) (at_ := 0) (by simp) (free_iff.2 fun x hx => h x hx m (by simp)) (fun j hj => absurd hj (by omega)) k
end Go.Phi

/-
  The seat's functions, prepared.
-/
namespace Go.Proofs.Ytalhmpcllfhllaa.U
open Go Go.Ev
noncomputable def V : Ev.Env := envOf Try.prog 0
abbrev T_ : TypeId := 0
abbrev T_func : TypeId := 1
abbrev T_int64 : TypeId := 2
theorem E_int64 : V.E 2 = some ⟨.int .i64, 1, 8, (.int .i64 0)⟩ := by kernel_rfl
abbrev T_int : TypeId := 3
theorem E_int : V.E 3 = some ⟨.int .i64, 1, 8, (.int .i64 0)⟩ := by kernel_rfl
abbrev T_bool : TypeId := 4
theorem E_bool : V.E 4 = some ⟨.bool, 1, 1, (.bool false)⟩ := by kernel_rfl
abbrev T_uint8 : TypeId := 5
theorem E_uint8 : V.E 5 = some ⟨.int .u8, 1, 1, (.int .u8 0)⟩ := by kernel_rfl
abbrev T_abi_BoundsErrorCode : TypeId := 6
abbrev T_struct7 : TypeId := 7
abbrev T_runtime_boundsError : TypeId := 8
abbrev T_string : TypeId := 9
theorem E_string : V.E 9 = some ⟨.string, 1, 16, (.string ⟨⟨[]⟩⟩)⟩ := by kernel_rfl
abbrev T_runtime_errorString : TypeId := 10
abbrev T_runtime_plainError : TypeId := 11
abbrev T_uintptr : TypeId := 12
theorem E_uintptr : V.E 12 = some ⟨.int .u64, 1, 8, (.int .u64 0)⟩ := by kernel_rfl
abbrev T_struct13 : TypeId := 13
abbrev T_runtime_errorAddressString : TypeId := 14
abbrev T_p_runtime_TypeAssertionError : TypeId := 15
abbrev T_p_runtime_PanicNilError : TypeId := 16
abbrev T_p_abi_Type : TypeId := 17
abbrev T_struct18 : TypeId := 18
abbrev T_maps_unhashableTypeError : TypeId := 19
abbrev T_interface : TypeId := 20
abbrev T_int32 : TypeId := 21
theorem E_int32 : V.E 21 = some ⟨.int .i32, 1, 4, (.int .i32 0)⟩ := by kernel_rfl
abbrev T_s_int : TypeId := 22
theorem E_s_int : V.E 22 = some ⟨.slice 3, 1, 24, (.slice none 0 0)⟩ := by kernel_rfl
abbrev T_func_bool : TypeId := 23
abbrev T_s_api_Ins : TypeId := 24
theorem E_s_api_Ins : V.E 24 = some ⟨.slice 30, 1, 24, (.slice none 0 0)⟩ := by kernel_rfl
abbrev T_api_Errno : TypeId := 25
theorem E_api_Errno : V.E 25 = some ⟨.int .i64, 1, 8, (.int .i64 0)⟩ := by kernel_rfl
abbrev T_s_api_Ins_api_Errno : TypeId := 26
abbrev T_func_s_int_s_int_int_s_api_Ins_api_Errno : TypeId := 27
abbrev T_func_s_api_Ins_s_api_Ins_bool : TypeId := 28
abbrev T_struct29 : TypeId := 29
abbrev T_api_Ins : TypeId := 30
noncomputable def te_api_Ins : TI := match V.E 30 with
  | some t => t
  | none => ⟨.bool, 0, 0, .nilFunc⟩
theorem E_api_Ins : V.E 30 = some te_api_Ins := by kernel_rfl
theorem te_api_Ins_size : te_api_Ins.size = 6 := by kernel_rfl
theorem te_api_Ins_bytes : te_api_Ins.bytes = 64 := by kernel_rfl
theorem te_api_Ins_agg : Desc.agg te_api_Ins.desc = true := by kernel_rfl
theorem te_api_Ins_zero : te_api_Ins.zv = (.agg #[(.int .u8 0), (.int .i64 0), (.int .i64 0), (.int .i64 0), (.int .i64 0), (.slice none 0 0)]) := by kernel_rfl
theorem O_api_Ins_Op {b o : Nat} : aField V.E 30 0 (.pointer (some ⟨b, o, none⟩)) = some (.pointer (some ⟨b, o + 0, none⟩)) := by kernel_rfl
theorem O_api_Ins_R {b o : Nat} : aField V.E 30 1 (.pointer (some ⟨b, o, none⟩)) = some (.pointer (some ⟨b, o + 1, none⟩)) := by kernel_rfl
theorem O_api_Ins_A {b o : Nat} : aField V.E 30 2 (.pointer (some ⟨b, o, none⟩)) = some (.pointer (some ⟨b, o + 2, none⟩)) := by kernel_rfl
theorem O_api_Ins_B {b o : Nat} : aField V.E 30 3 (.pointer (some ⟨b, o, none⟩)) = some (.pointer (some ⟨b, o + 3, none⟩)) := by kernel_rfl
theorem O_api_Ins_N {b o : Nat} : aField V.E 30 4 (.pointer (some ⟨b, o, none⟩)) = some (.pointer (some ⟨b, o + 4, none⟩)) := by kernel_rfl
theorem O_api_Ins_Args {b o : Nat} : aField V.E 30 5 (.pointer (some ⟨b, o, none⟩)) = some (.pointer (some ⟨b, o + 5, none⟩)) := by kernel_rfl
abbrev T_func_s_int_s_int_bool : TypeId := 31
abbrev T_func_s_int_s_int_int_bool : TypeId := 32
abbrev T_s_uint8 : TypeId := 33
theorem E_s_uint8 : V.E 33 = some ⟨.slice 5, 1, 24, (.slice none 0 0)⟩ := by kernel_rfl
abbrev T_func_s_uint8_s_uint8_bool : TypeId := 34
abbrev T_s_bool : TypeId := 35
theorem E_s_bool : V.E 35 = some ⟨.slice 4, 1, 24, (.slice none 0 0)⟩ := by kernel_rfl
abbrev T_func_s_uint8_s_uint8_s_bool_bool : TypeId := 36
abbrev T_map_int_int : TypeId := 37
theorem E_map_int_int : V.E 37 = some ⟨.map 3 3, 1, 8, (.map none)⟩ := by kernel_rfl
abbrev T_s_phis_move : TypeId := 38
theorem E_s_phis_move : V.E 38 = some ⟨.slice 40, 1, 24, (.slice none 0 0)⟩ := by kernel_rfl
abbrev T_struct39 : TypeId := 39
abbrev T_phis_move : TypeId := 40
noncomputable def te_phis_move : TI := match V.E 40 with
  | some t => t
  | none => ⟨.bool, 0, 0, .nilFunc⟩
theorem E_phis_move : V.E 40 = some te_phis_move := by kernel_rfl
theorem te_phis_move_size : te_phis_move.size = 2 := by kernel_rfl
theorem te_phis_move_bytes : te_phis_move.bytes = 16 := by kernel_rfl
theorem te_phis_move_agg : Desc.agg te_phis_move.desc = true := by kernel_rfl
theorem te_phis_move_zero : te_phis_move.zv = (.agg #[(.int .i64 0), (.int .i64 0)]) := by kernel_rfl
theorem O_phis_move_to {b o : Nat} : aField V.E 40 0 (.pointer (some ⟨b, o, none⟩)) = some (.pointer (some ⟨b, o + 0, none⟩)) := by kernel_rfl
theorem O_phis_move_from {b o : Nat} : aField V.E 40 1 (.pointer (some ⟨b, o, none⟩)) = some (.pointer (some ⟨b, o + 1, none⟩)) := by kernel_rfl
abbrev T_func_s_phis_move_int_s_api_Ins : TypeId := 41
abbrev T_func_s_int_s_int_int_s_api_Ins : TypeId := 42
abbrev T_func_s_phis_move_func_phis_move_bool_s_phis_move : TypeId := 43
abbrev T_func_phis_move_bool : TypeId := 44
abbrev T_func_phis_move : TypeId := 45
abbrev T_func_s_phis_move_func_phis_move_bool_int : TypeId := 46
abbrev T_func_s_phis_move_int_int_s_phis_move : TypeId := 47
abbrev T_func_string : TypeId := 48
abbrev T_struct49 : TypeId := 49
abbrev T_runtime_TypeAssertionError : TypeId := 50
abbrev T_0_p_runtime_PanicNilError : TypeId := 51
abbrev T_struct52 : TypeId := 52
abbrev T_runtime_PanicNilError : TypeId := 53
abbrev T_func_int : TypeId := 54
abbrev T_uint32 : TypeId := 55
theorem E_uint32 : V.E 55 = some ⟨.int .u32, 1, 4, (.int .u32 0)⟩ := by kernel_rfl
abbrev T_abi_TFlag : TypeId := 56
abbrev T_abi_Kind : TypeId := 57
abbrev T_func_unsafe_Pointer_unsafe_Pointer_bool : TypeId := 58
abbrev T_p_uint8 : TypeId := 59
abbrev T_abi_NameOff : TypeId := 60
abbrev T_abi_TypeOff : TypeId := 61
abbrev T_struct62 : TypeId := 62
abbrev T_abi_Type : TypeId := 63
abbrev T_unsafe_Pointer : TypeId := 64
/- bobbin/bobbinlaw28.PhisRows -/
abbrev F_law28_PhisRows : FuncId := 3
def P_law28_PhisRows : PC :=
.seq (
.reg [.run (.assign (.const (.bool false))) none] [(6, 0)]) (
.seq (
.seq (
.reg [.get 0,
  .run (.call ⟨.builtin .len, #[(.tmp 0)], #[22]⟩) none,
  .run (.binOp .gtr 3 (.tmp 0) (.const (.int .i64 60)) 3) none,
  .run (.move (.tmp (far + 1))) (some ((.tmp 0), false)),
  .run (.call ⟨.builtin .len, #[(.tmp 0)], #[22]⟩) (some ((.tmp 1), false)),
  .run (.binOp .gtr 3 (.tmp 0) (.const (.int .i64 60)) 3) (some ((.tmp 2), false)),
  .run (.pick (.tmp 3) (.const (.bool true)) (.tmp 0)) none] [(22, 0)]) (
.cond (.tmp 22) (
  .seq (
  .reg [.run (.call ⟨.value (.func 6), #[], #[]⟩) none] [(6, 0)]) (
  .ret)) (
  .skip))) (
.seq (
.reg [.run (.buildSlice 22 0 #[]) none,
  .get 0,
  .run (.call ⟨.builtin .append, #[(.tmp 1), (.tmp 0)], #[22, 22]⟩) none,
  .run (.buildSlice 22 0 #[]) none,
  .get 1,
  .run (.call ⟨.builtin .append, #[(.tmp 1), (.tmp 0)], #[22, 22]⟩) none] [(8, 0), (7, 3)]) (
.seq (
.seq (
.reg [.run (.assign (.const (.int .i64 0))) none] [(9, 0)]) (
.block 0 (
 .loop (
  .seq (
  .seq (
  .reg [.get 9,
    .run (.binOp .lss 3 (.tmp 0) (.const (.int .i64 2)) 3) none] [(31, 0)]) (
  .cond (.tmp 31) (
    .skip) (
    .exit 0))) (
  .seq (
  .block 1 (
   .seq (
   .reg [.get 7,
     .get 8,
     .get 2,
     .run (.call ⟨.value (.func 7), #[(.tmp 2), (.tmp 1), (.tmp 0)], #[22, 22, 3]⟩) none,
     .run (.extract (.tmp 0) 0) none,
     .run (.extract (.tmp 1) 1) none] [(11, 0), (10, 1)]) (
   .seq (
   .reg [.get 0,
     .get 1,
     .get 2,
     .run (.call ⟨.value (.func 8), #[(.tmp 2), (.tmp 1), (.tmp 0)], #[22, 22, 3]⟩) none,
     .run (.extract (.tmp 0) 0) none,
     .run (.extract (.tmp 1) 1) none] [(13, 0), (12, 1)]) (
   .seq (
   .seq (
   .reg [.get 11,
     .get 13,
     .run (.binOp .neq 25 (.tmp 1) (.tmp 0) 25) none,
     .run (.move (.tmp (far + 10))) (some ((.tmp 0), false)),
     .run (.move (.tmp (far + 12))) (some ((.tmp 1), false)),
     .run (.call ⟨.value (.func 9), #[(.tmp 1), (.tmp 0)], #[24, 24]⟩) (some ((.tmp 2), false)),
     .run (.unOp .not 4 (.tmp 0)) (some ((.tmp 3), false)),
     .run (.pick (.tmp 4) (.const (.bool true)) (.tmp 0)) none] [(56, 0)]) (
   .cond (.tmp 56) (
     .seq (
     .reg [.run (.assign (.const (.bool false))) none] [(6, 0)]) (
     .ret)) (
     .skip))) (
   .seq (
   .reg [.run (.assign (.const (.int .i64 0))) none] [(14, 0)]) (
   .block 2 (
    .loop (
     .seq (
     .seq (
     .reg [.get 14,
       .get 10,
       .run (.call ⟨.builtin .len, #[(.tmp 0)], #[24]⟩) none,
       .run (.binOp .lss 3 (.tmp 2) (.tmp 0) 3) none] [(60, 0)]) (
     .cond (.tmp 60) (
       .skip) (
       .exit 2))) (
     .seq (
     .block 3 (
      .reg [.get 10,
        .get 14,
        .run (.indexAddr 24 (.tmp 1) (.tmp 0)) none,
        .run (.fieldAddr 30 (.tmp 0) 1) none,
        .run (.store 3 (.tmp 0) (.const (.int .i64 (-7)))) none] [])) (
     .reg [.get 14,
       .run (.binOp .add 3 (.tmp 0) (.const (.int .i64 1)) 3) none] [(14, 0)])))))))))) (
  .reg [.get 9,
    .run (.binOp .add 3 (.tmp 0) (.const (.int .i64 1)) 3) none] [(9, 0)])))))) (
.seq (
.reg [.get 7,
  .get 0,
  .run (.call ⟨.value (.func 10), #[(.tmp 1), (.tmp 0)], #[22, 22]⟩) none,
  .run (.move (.tmp (far + 8))) (some ((.tmp 0), true)),
  .run (.move (.tmp (far + 1))) (some ((.tmp 1), true)),
  .run (.call ⟨.value (.func 10), #[(.tmp 1), (.tmp 0)], #[22, 22]⟩) (some ((.tmp 2), true)),
  .run (.pick (.tmp 3) (.tmp 0) (.const (.bool false))) none,
  .run (.call ⟨.value (.func 6), #[], #[]⟩) (some ((.tmp 0), true)),
  .run (.pick (.tmp 1) (.tmp 0) (.const (.bool false))) none] [(6, 0)]) (
.ret)))))
theorem fn_law28_PhisRows : V.F 3 = some Try.f3 := by kernel_rfl
theorem is_law28_PhisRows : (V.F 3).isSome = true := by rw [fn_law28_PhisRows]; rfl
noncomputable def c_law28_PhisRows : Code := match Try.f3.body with
  | some c => c
  | none => .skip
theorem b_law28_PhisRows : Try.f3.body = some c_law28_PhisRows := rfl
theorem pc_law28_PhisRows : pcOf V Try.f3.ntmps (some (liveOf Try.f3 c_law28_PhisRows)) c_law28_PhisRows = some P_law28_PhisRows := by kernel_rfl
theorem Lc.law28_PhisRows {O : Orc} {vs : List Value} {H : AH} {R : Value → AH → Prop} (ho : O 3 vs H = none) (hlen : vs.length ≤ Try.f3.ntmps) (hlive : (List.range vs.length).all (isLive (some (liveOf Try.f3 c_law28_PhisRows))) = true)
    (h : WP V O (some (liveOf Try.f3 c_law28_PhisRows)) Try.f3.ntmps P_law28_PhisRows (initL vs 0) H fun e l H' => (e = .normal ∨ e = .ret) ∧ ∃ rs, resL V l H' Try.f3.results.toList = some rs ∧ R (resOf rs) H') : ∃ v H', Lc V O 3 vs H v H' ∧ R v H' :=
  Lc.fnP ho fn_law28_PhisRows b_law28_PhisRows pc_law28_PhisRows hlen hlive h
/- bobbin/bobbinlaw28.PhisOnce -/
abbrev F_law28_PhisOnce : FuncId := 4
def P_law28_PhisOnce : PC :=
.seq (
.reg [.run (.assign (.const (.bool false))) none] [(4, 0)]) (
.seq (
.seq (
.reg [.get 0,
  .run (.call ⟨.builtin .len, #[(.tmp 0)], #[33]⟩) none,
  .run (.binOp .gtr 3 (.tmp 0) (.const (.int .i64 60)) 3) none,
  .run (.call ⟨.value (.func 6), #[], #[]⟩) (some ((.tmp 0), false)),
  .run (.unOp .not 4 (.tmp 0)) (some ((.tmp 1), false)),
  .run (.pick (.tmp 2) (.const (.bool true)) (.tmp 0)) none] [(24, 0)]) (
.cond (.tmp 24) (
  .seq (
  .reg [.run (.call ⟨.value (.func 6), #[], #[]⟩) none] [(4, 0)]) (
  .ret)) (
  .skip))) (
.seq (
.reg [.run (.assign (.const (.slice none 0 0))) none,
  .run (.assign (.const (.slice none 0 0))) none] [(6, 0), (5, 1)]) (
.seq (
.reg [.run (.makeSlice 22 (.const (.int .i64 41)) (.const (.int .i64 41))) none] [(7, 0)]) (
.seq (
.seq (
.reg [.run (.assign (.const (.int .i64 0))) none] [(8, 0)]) (
.block 0 (
 .loop (
  .seq (
  .seq (
  .reg [.get 8,
    .get 7,
    .run (.call ⟨.builtin .len, #[(.tmp 0)], #[22]⟩) none,
    .run (.binOp .lss 3 (.tmp 2) (.tmp 0) 3) none] [(30, 0)]) (
  .cond (.tmp 30) (
    .skip) (
    .exit 0))) (
  .seq (
  .block 1 (
   .reg [.get 7,
     .get 8,
     .get 8,
     .run (.binOp .add 3 (.const (.int .i64 100)) (.tmp 0) 3) none,
     .run (.indexAddr 22 (.tmp 3) (.tmp 2)) none,
     .run (.store 3 (.tmp 0) (.tmp 1)) none] [])) (
  .reg [.get 8,
    .run (.binOp .add 3 (.tmp 0) (.const (.int .i64 1)) 3) none] [(8, 0)])))))) (
.seq (
.seq (
.reg [.run (.assign (.const (.int .i64 0))) none] [(9, 0)]) (
.block 2 (
 .loop (
  .seq (
  .seq (
  .reg [.get 9,
    .get 0,
    .run (.call ⟨.builtin .len, #[(.tmp 0)], #[33]⟩) none,
    .run (.binOp .lss 3 (.tmp 2) (.tmp 0) 3) none,
    .run (.move (.tmp (far + 9))) (some ((.tmp 0), true)),
    .run (.move (.tmp (far + 1))) (some ((.tmp 1), true)),
    .run (.call ⟨.builtin .len, #[(.tmp 0)], #[33]⟩) (some ((.tmp 2), true)),
    .run (.binOp .lss 3 (.tmp 2) (.tmp 0) 3) (some ((.tmp 3), true)),
    .run (.pick (.tmp 4) (.tmp 0) (.const (.bool false))) none] [(47, 0)]) (
  .cond (.tmp 47) (
    .skip) (
    .exit 2))) (
  .seq (
  .block 3 (
   .seq (
   .reg [.get 5,
     .get 0,
     .get 9,
     .run (.indexAddr 33 (.tmp 1) (.tmp 0)) none,
     .run (.load 5 (.tmp 0)) none,
     .run (.binOp .rem 5 (.tmp 0) (.const (.int .u8 40)) 5) none,
     .run (.convert 5 3 (.tmp 0)) none,
     .run (.buildSlice 22 1 #[(0, (.tmp 0))]) none,
     .run (.call ⟨.builtin .append, #[(.tmp 7), (.tmp 0)], #[22, 22]⟩) none] [(5, 0)]) (
   .reg [.get 6,
     .get 1,
     .get 9,
     .run (.indexAddr 33 (.tmp 1) (.tmp 0)) none,
     .run (.load 5 (.tmp 0)) none,
     .run (.binOp .rem 5 (.tmp 0) (.const (.int .u8 40)) 5) none,
     .run (.convert 5 3 (.tmp 0)) none,
     .run (.buildSlice 22 1 #[(0, (.tmp 0))]) none,
     .run (.call ⟨.builtin .append, #[(.tmp 7), (.tmp 0)], #[22, 22]⟩) none] [(6, 0)]))) (
  .reg [.get 9,
    .run (.binOp .add 3 (.tmp 0) (.const (.int .i64 1)) 3) none] [(9, 0)])))))) (
.seq (
.reg [.get 5,
  .get 6,
  .run (.call ⟨.value (.func 7), #[(.tmp 1), (.tmp 0), (.const (.int .i64 40))], #[22, 22, 3]⟩) none,
  .run (.extract (.tmp 0) 0) none,
  .run (.extract (.tmp 1) 1) none] [(11, 0), (10, 1)]) (
.seq (
.seq (
.reg [.get 11,
  .run (.binOp .neq 25 (.tmp 0) (.const (.int .i64 0)) 25) none] [(75, 0)]) (
.cond (.tmp 75) (
  .seq (
  .reg [.get 10,
    .run (.call ⟨.builtin .len, #[(.tmp 0)], #[24]⟩) none,
    .run (.binOp .eql 3 (.tmp 0) (.const (.int .i64 0)) 3) none] [(4, 0)]) (
  .ret)) (
  .skip))) (
.seq (
.reg [.run (.buildSlice 22 0 #[]) none,
  .get 7,
  .run (.call ⟨.builtin .append, #[(.tmp 1), (.tmp 0)], #[22, 22]⟩) none] [(12, 0)]) (
.seq (
.reg [.run (.assign (.const (.int .i64 0))) none] [(13, 0)]) (
.seq (
.seq (
.reg [.run (.assign (.const (.int .i64 0))) none] [(14, 0)]) (
.block 4 (
 .loop (
  .seq (
  .seq (
  .reg [.get 14,
    .get 10,
    .run (.call ⟨.builtin .len, #[(.tmp 0)], #[24]⟩) none,
    .run (.binOp .lss 3 (.tmp 2) (.tmp 0) 3) none] [(85, 0)]) (
  .cond (.tmp 85) (
    .skip) (
    .exit 4))) (
  .seq (
  .block 5 (
   .seq (
   .seq (
   .reg [.get 10,
     .get 14,
     .run (.indexAddr 24 (.tmp 1) (.tmp 0)) none,
     .run (.fieldAddr 30 (.tmp 0) 0) none,
     .run (.load 5 (.tmp 0)) none,
     .run (.binOp .neq 5 (.tmp 0) (.const (.int .u8 2)) 5) none,
     .run (.move (.tmp (far + 10))) (some ((.tmp 0), false)),
     .run (.move (.tmp (far + 14))) (some ((.tmp 1), false)),
     .run (.indexAddr 24 (.tmp 1) (.tmp 0)) (some ((.tmp 2), false)),
     .run (.fieldAddr 30 (.tmp 0) 1) (some ((.tmp 3), false)),
     .run (.load 3 (.tmp 0)) (some ((.tmp 4), false)),
     .run (.binOp .lss 3 (.tmp 0) (.const (.int .i64 0)) 3) (some ((.tmp 5), false)),
     .run (.pick (.tmp 6) (.const (.bool true)) (.tmp 0)) none,
     .run (.move (.tmp (far + 10))) (some ((.tmp 0), false)),
     .run (.move (.tmp (far + 14))) (some ((.tmp 1), false)),
     .run (.indexAddr 24 (.tmp 1) (.tmp 0)) (some ((.tmp 2), false)),
     .run (.fieldAddr 30 (.tmp 0) 1) (some ((.tmp 3), false)),
     .run (.load 3 (.tmp 0)) (some ((.tmp 4), false)),
     .run (.binOp .gtr 3 (.tmp 0) (.const (.int .i64 40)) 3) (some ((.tmp 5), false)),
     .run (.pick (.tmp 6) (.const (.bool true)) (.tmp 0)) none,
     .run (.move (.tmp (far + 10))) (some ((.tmp 0), false)),
     .run (.move (.tmp (far + 14))) (some ((.tmp 1), false)),
     .run (.indexAddr 24 (.tmp 1) (.tmp 0)) (some ((.tmp 2), false)),
     .run (.fieldAddr 30 (.tmp 0) 2) (some ((.tmp 3), false)),
     .run (.load 3 (.tmp 0)) (some ((.tmp 4), false)),
     .run (.binOp .lss 3 (.tmp 0) (.const (.int .i64 0)) 3) (some ((.tmp 5), false)),
     .run (.pick (.tmp 6) (.const (.bool true)) (.tmp 0)) none,
     .run (.move (.tmp (far + 10))) (some ((.tmp 0), false)),
     .run (.move (.tmp (far + 14))) (some ((.tmp 1), false)),
     .run (.indexAddr 24 (.tmp 1) (.tmp 0)) (some ((.tmp 2), false)),
     .run (.fieldAddr 30 (.tmp 0) 2) (some ((.tmp 3), false)),
     .run (.load 3 (.tmp 0)) (some ((.tmp 4), false)),
     .run (.binOp .gtr 3 (.tmp 0) (.const (.int .i64 40)) 3) (some ((.tmp 5), false)),
     .run (.pick (.tmp 6) (.const (.bool true)) (.tmp 0)) none] [(125, 0)]) (
   .cond (.tmp 125) (
     .seq (
     .reg [.run (.assign (.const (.bool false))) none] [(4, 0)]) (
     .ret)) (
     .skip))) (
   .seq (
   .reg [.get 12,
     .get 10,
     .get 14,
     .run (.indexAddr 24 (.tmp 1) (.tmp 0)) none,
     .run (.fieldAddr 30 (.tmp 0) 1) none,
     .run (.load 3 (.tmp 0)) none,
     .get 12,
     .get 10,
     .get 14,
     .run (.indexAddr 24 (.tmp 1) (.tmp 0)) none,
     .run (.fieldAddr 30 (.tmp 0) 2) none,
     .run (.load 3 (.tmp 0)) none,
     .run (.indexAddr 22 (.tmp 5) (.tmp 0)) none,
     .run (.load 3 (.tmp 0)) none,
     .run (.indexAddr 22 (.tmp 13) (.tmp 8)) none,
     .run (.store 3 (.tmp 0) (.tmp 1)) none] []) (
   .seq (
   .reg [.get 10,
     .get 14,
     .run (.indexAddr 24 (.tmp 1) (.tmp 0)) none,
     .run (.fieldAddr 30 (.tmp 0) 1) none,
     .run (.load 3 (.tmp 0)) none,
     .run (.binOp .eql 3 (.tmp 0) (.const (.int .i64 40)) 3) none] [(146, 0)]) (
   .cond (.tmp 146) (
     .reg [.get 13,
       .run (.binOp .add 3 (.tmp 0) (.const (.int .i64 1)) 3) none] [(13, 0)]) (
     .skip)))))) (
  .reg [.get 14,
    .run (.binOp .add 3 (.tmp 0) (.const (.int .i64 1)) 3) none] [(14, 0)])))))) (
.seq (
.reg [.run (.buildSlice 22 0 #[]) none,
  .get 7,
  .run (.call ⟨.builtin .append, #[(.tmp 1), (.tmp 0)], #[22, 22]⟩) none] [(15, 0)]) (
.seq (
.seq (
.reg [.run (.assign (.const (.int .i64 0))) none] [(16, 0)]) (
.block 6 (
 .loop (
  .seq (
  .seq (
  .reg [.get 16,
    .get 5,
    .run (.call ⟨.builtin .len, #[(.tmp 0)], #[22]⟩) none,
    .run (.binOp .lss 3 (.tmp 2) (.tmp 0) 3) none] [(155, 0)]) (
  .cond (.tmp 155) (
    .skip) (
    .exit 6))) (
  .seq (
  .block 7 (
   .reg [.get 15,
     .get 5,
     .get 16,
     .run (.indexAddr 22 (.tmp 1) (.tmp 0)) none,
     .run (.load 3 (.tmp 0)) none,
     .get 7,
     .get 6,
     .get 16,
     .run (.indexAddr 22 (.tmp 1) (.tmp 0)) none,
     .run (.load 3 (.tmp 0)) none,
     .run (.indexAddr 22 (.tmp 4) (.tmp 0)) none,
     .run (.load 3 (.tmp 0)) none,
     .run (.indexAddr 22 (.tmp 11) (.tmp 7)) none,
     .run (.store 3 (.tmp 0) (.tmp 1)) none] [])) (
  .reg [.get 16,
    .run (.binOp .add 3 (.tmp 0) (.const (.int .i64 1)) 3) none] [(16, 0)])))))) (
.seq (
.seq (
.reg [.run (.assign (.const (.int .i64 0))) none] [(17, 0)]) (
.block 8 (
 .loop (
  .seq (
  .seq (
  .reg [.get 17,
    .run (.binOp .lss 3 (.tmp 0) (.const (.int .i64 40)) 3) none] [(172, 0)]) (
  .cond (.tmp 172) (
    .skip) (
    .exit 8))) (
  .seq (
  .block 9 (
   .seq (
   .reg [.get 12,
     .get 17,
     .run (.indexAddr 22 (.tmp 1) (.tmp 0)) none,
     .run (.load 3 (.tmp 0)) none,
     .get 15,
     .get 17,
     .run (.indexAddr 22 (.tmp 1) (.tmp 0)) none,
     .run (.load 3 (.tmp 0)) none,
     .run (.binOp .neq 3 (.tmp 4) (.tmp 0) 3) none] [(183, 0)]) (
   .cond (.tmp 183) (
     .seq (
     .reg [.run (.assign (.const (.bool false))) none] [(4, 0)]) (
     .ret)) (
     .skip)))) (
  .reg [.get 17,
    .run (.binOp .add 3 (.tmp 0) (.const (.int .i64 1)) 3) none] [(17, 0)])))))) (
.seq (
.reg [.get 13,
  .run (.binOp .mul 3 (.const (.int .i64 2)) (.tmp 0) 3) none,
  .get 10,
  .run (.call ⟨.builtin .len, #[(.tmp 0)], #[24]⟩) none,
  .run (.binOp .leq 3 (.tmp 2) (.tmp 0) 3) none] [(4, 0)]) (
.ret)))))))))))))))
theorem fn_law28_PhisOnce : V.F 4 = some Try.f4 := by kernel_rfl
theorem is_law28_PhisOnce : (V.F 4).isSome = true := by rw [fn_law28_PhisOnce]; rfl
noncomputable def c_law28_PhisOnce : Code := match Try.f4.body with
  | some c => c
  | none => .skip
theorem b_law28_PhisOnce : Try.f4.body = some c_law28_PhisOnce := rfl
theorem pc_law28_PhisOnce : pcOf V Try.f4.ntmps (some (liveOf Try.f4 c_law28_PhisOnce)) c_law28_PhisOnce = some P_law28_PhisOnce := by kernel_rfl
theorem Lc.law28_PhisOnce {O : Orc} {vs : List Value} {H : AH} {R : Value → AH → Prop} (ho : O 4 vs H = none) (hlen : vs.length ≤ Try.f4.ntmps) (hlive : (List.range vs.length).all (isLive (some (liveOf Try.f4 c_law28_PhisOnce))) = true)
    (h : WP V O (some (liveOf Try.f4 c_law28_PhisOnce)) Try.f4.ntmps P_law28_PhisOnce (initL vs 0) H fun e l H' => (e = .normal ∨ e = .ret) ∧ ∃ rs, resL V l H' Try.f4.results.toList = some rs ∧ R (resOf rs) H') : ∃ v H', Lc V O 4 vs H v H' ∧ R v H' :=
  Lc.fnP ho fn_law28_PhisOnce b_law28_PhisOnce pc_law28_PhisOnce hlen hlive h
/- bobbin/bobbinlaw28.PhisApart -/
abbrev F_law28_PhisApart : FuncId := 5
def P_law28_PhisApart : PC :=
.seq (
.reg [.run (.assign (.const (.bool false))) none] [(6, 0)]) (
.seq (
.seq (
.reg [.get 0,
  .run (.call ⟨.builtin .len, #[(.tmp 0)], #[33]⟩) none,
  .run (.binOp .gtr 3 (.tmp 0) (.const (.int .i64 60)) 3) none,
  .run (.move (.tmp (far + 1))) (some ((.tmp 0), false)),
  .run (.call ⟨.builtin .len, #[(.tmp 0)], #[33]⟩) (some ((.tmp 1), false)),
  .run (.binOp .gtr 3 (.tmp 0) (.const (.int .i64 60)) 3) (some ((.tmp 2), false)),
  .run (.pick (.tmp 3) (.const (.bool true)) (.tmp 0)) none,
  .run (.call ⟨.value (.func 6), #[], #[]⟩) (some ((.tmp 0), false)),
  .run (.unOp .not 4 (.tmp 0)) (some ((.tmp 1), false)),
  .run (.pick (.tmp 2) (.const (.bool true)) (.tmp 0)) none] [(29, 0)]) (
.cond (.tmp 29) (
  .seq (
  .reg [.run (.call ⟨.value (.func 6), #[], #[]⟩) none] [(6, 0)]) (
  .ret)) (
  .skip))) (
.seq (
.reg [.run (.assign (.const (.slice none 0 0))) none,
  .run (.assign (.const (.slice none 0 0))) none] [(8, 0), (7, 1)]) (
.seq (
.reg [.run (.assign (.const (.int .i64 0))) none] [(9, 0)]) (
.seq (
.seq (
.reg [.run (.assign (.const (.int .i64 0))) none] [(10, 0)]) (
.block 0 (
 .loop (
  .seq (
  .seq (
  .reg [.get 10,
    .get 0,
    .run (.call ⟨.builtin .len, #[(.tmp 0)], #[33]⟩) none,
    .run (.binOp .lss 3 (.tmp 2) (.tmp 0) 3) none,
    .run (.move (.tmp (far + 10))) (some ((.tmp 0), true)),
    .run (.move (.tmp (far + 1))) (some ((.tmp 1), true)),
    .run (.call ⟨.builtin .len, #[(.tmp 0)], #[33]⟩) (some ((.tmp 2), true)),
    .run (.binOp .lss 3 (.tmp 2) (.tmp 0) 3) (some ((.tmp 3), true)),
    .run (.pick (.tmp 4) (.tmp 0) (.const (.bool false))) none] [(40, 0)]) (
  .cond (.tmp 40) (
    .skip) (
    .exit 0))) (
  .seq (
  .block 1 (
   .seq (
   .reg [.get 0,
     .get 10,
     .run (.indexAddr 33 (.tmp 1) (.tmp 0)) none,
     .run (.load 5 (.tmp 0)) none,
     .run (.binOp .rem 5 (.tmp 0) (.const (.int .u8 20)) 5) none,
     .run (.convert 5 3 (.tmp 0)) none] [(11, 0)]) (
   .seq (
   .reg [.run (.assign (.const (.bool false))) none] [(12, 0)]) (
   .seq (
   .seq (
   .reg [.run (.assign (.const (.int .i64 0))) none] [(13, 0)]) (
   .block 2 (
    .loop (
     .seq (
     .seq (
     .reg [.get 13,
       .get 7,
       .run (.call ⟨.builtin .len, #[(.tmp 0)], #[22]⟩) none,
       .run (.binOp .lss 3 (.tmp 2) (.tmp 0) 3) none] [(52, 0)]) (
     .cond (.tmp 52) (
       .skip) (
       .exit 2))) (
     .seq (
     .block 3 (
      .reg [.get 12,
        .run (.move (.tmp (far + 7))) (some ((.tmp 0), false)),
        .run (.move (.tmp (far + 13))) (some ((.tmp 1), false)),
        .run (.indexAddr 22 (.tmp 1) (.tmp 0)) (some ((.tmp 2), false)),
        .run (.load 3 (.tmp 0)) (some ((.tmp 3), false)),
        .run (.move (.tmp (far + 11))) (some ((.tmp 4), false)),
        .run (.binOp .eql 3 (.tmp 1) (.tmp 0) 3) (some ((.tmp 5), false)),
        .run (.pick (.tmp 6) (.const (.bool true)) (.tmp 0)) none] [(12, 0)])) (
     .reg [.get 13,
       .run (.binOp .add 3 (.tmp 0) (.const (.int .i64 1)) 3) none] [(13, 0)])))))) (
   .seq (
   .seq (
   .reg [.get 12] [(64, 0)]) (
   .cond (.tmp 64) (
     .exit 1) (
     .skip))) (
   .seq (
   .reg [.get 7,
     .get 11,
     .run (.buildSlice 22 1 #[(0, (.tmp 0))]) none,
     .run (.call ⟨.builtin .append, #[(.tmp 2), (.tmp 0)], #[22, 22]⟩) none] [(7, 0)]) (
   .seq (
   .seq (
   .reg [.get 10,
     .get 2,
     .run (.call ⟨.builtin .len, #[(.tmp 0)], #[35]⟩) none,
     .run (.binOp .lss 3 (.tmp 2) (.tmp 0) 3) none,
     .run (.move (.tmp (far + 2))) (some ((.tmp 0), true)),
     .run (.move (.tmp (far + 10))) (some ((.tmp 1), true)),
     .run (.indexAddr 35 (.tmp 1) (.tmp 0)) (some ((.tmp 2), true)),
     .run (.load 4 (.tmp 0)) (some ((.tmp 3), true)),
     .run (.pick (.tmp 4) (.tmp 0) (.const (.bool false))) none] [(78, 0)]) (
   .cond (.tmp 78) (
     .seq (
     .reg [.get 8,
       .get 11,
       .run (.buildSlice 22 1 #[(0, (.tmp 0))]) none,
       .run (.call ⟨.builtin .append, #[(.tmp 2), (.tmp 0)], #[22, 22]⟩) none] [(8, 0)]) (
     .exit 1)) (
     .skip))) (
   .seq (
   .reg [.get 8,
     .get 1,
     .get 10,
     .run (.indexAddr 33 (.tmp 1) (.tmp 0)) none,
     .run (.load 5 (.tmp 0)) none,
     .run (.binOp .rem 5 (.tmp 0) (.const (.int .u8 20)) 5) none,
     .run (.convert 5 3 (.tmp 0)) none,
     .run (.binOp .add 3 (.const (.int .i64 20)) (.tmp 0) 3) none,
     .run (.buildSlice 22 1 #[(0, (.tmp 0))]) none,
     .run (.call ⟨.builtin .append, #[(.tmp 8), (.tmp 0)], #[22, 22]⟩) none] [(8, 0)]) (
   .reg [.get 9,
     .run (.binOp .add 3 (.tmp 0) (.const (.int .i64 1)) 3) none] [(9, 0)]))))))))) (
  .reg [.get 10,
    .run (.binOp .add 3 (.tmp 0) (.const (.int .i64 1)) 3) none] [(10, 0)])))))) (
.seq (
.reg [.get 7,
  .get 8,
  .run (.call ⟨.value (.func 7), #[(.tmp 1), (.tmp 0), (.const (.int .i64 50))], #[22, 22, 3]⟩) none,
  .run (.extract (.tmp 0) 0) none,
  .run (.extract (.tmp 1) 1) none] [(15, 0), (14, 1)]) (
.seq (
.seq (
.reg [.get 15,
  .run (.binOp .neq 25 (.tmp 0) (.const (.int .i64 0)) 25) none,
  .run (.move (.tmp (far + 14))) (some ((.tmp 0), false)),
  .run (.call ⟨.builtin .len, #[(.tmp 0)], #[24]⟩) (some ((.tmp 1), false)),
  .run (.move (.tmp (far + 9))) (some ((.tmp 2), false)),
  .run (.binOp .neq 3 (.tmp 1) (.tmp 0) 3) (some ((.tmp 3), false)),
  .run (.pick (.tmp 4) (.const (.bool true)) (.tmp 0)) none] [(108, 0)]) (
.cond (.tmp 108) (
  .seq (
  .reg [.run (.assign (.const (.bool false))) none] [(6, 0)]) (
  .ret)) (
  .skip))) (
.seq (
.reg [.run (.assign (.const (.int .i64 0))) none] [(16, 0)]) (
.seq (
.seq (
.reg [.run (.assign (.const (.int .i64 0))) none] [(17, 0)]) (
.block 4 (
 .loop (
  .seq (
  .seq (
  .reg [.get 17,
    .get 7,
    .run (.call ⟨.builtin .len, #[(.tmp 0)], #[22]⟩) none,
    .run (.binOp .lss 3 (.tmp 2) (.tmp 0) 3) none] [(112, 0)]) (
  .cond (.tmp 112) (
    .skip) (
    .exit 4))) (
  .seq (
  .block 5 (
   .seq (
   .seq (
   .reg [.get 7,
     .get 17,
     .run (.indexAddr 22 (.tmp 1) (.tmp 0)) none,
     .run (.load 3 (.tmp 0)) none,
     .get 8,
     .get 17,
     .run (.indexAddr 22 (.tmp 1) (.tmp 0)) none,
     .run (.load 3 (.tmp 0)) none,
     .run (.binOp .eql 3 (.tmp 4) (.tmp 0) 3) none] [(123, 0)]) (
   .cond (.tmp 123) (
     .exit 5) (
     .skip))) (
   .seq (
   .seq (
   .reg [.get 14,
     .get 16,
     .run (.indexAddr 24 (.tmp 1) (.tmp 0)) none,
     .run (.fieldAddr 30 (.tmp 0) 0) none,
     .run (.load 5 (.tmp 0)) none,
     .run (.binOp .neq 5 (.tmp 0) (.const (.int .u8 2)) 5) none,
     .run (.move (.tmp (far + 14))) (some ((.tmp 0), false)),
     .run (.move (.tmp (far + 16))) (some ((.tmp 1), false)),
     .run (.indexAddr 24 (.tmp 1) (.tmp 0)) (some ((.tmp 2), false)),
     .run (.fieldAddr 30 (.tmp 0) 1) (some ((.tmp 3), false)),
     .run (.load 3 (.tmp 0)) (some ((.tmp 4), false)),
     .run (.move (.tmp (far + 7))) (some ((.tmp 5), false)),
     .run (.move (.tmp (far + 17))) (some ((.tmp 6), false)),
     .run (.indexAddr 22 (.tmp 1) (.tmp 0)) (some ((.tmp 7), false)),
     .run (.load 3 (.tmp 0)) (some ((.tmp 8), false)),
     .run (.binOp .neq 3 (.tmp 4) (.tmp 0) 3) (some ((.tmp 9), false)),
     .run (.pick (.tmp 10) (.const (.bool true)) (.tmp 0)) none,
     .run (.move (.tmp (far + 14))) (some ((.tmp 0), false)),
     .run (.move (.tmp (far + 16))) (some ((.tmp 1), false)),
     .run (.indexAddr 24 (.tmp 1) (.tmp 0)) (some ((.tmp 2), false)),
     .run (.fieldAddr 30 (.tmp 0) 2) (some ((.tmp 3), false)),
     .run (.load 3 (.tmp 0)) (some ((.tmp 4), false)),
     .run (.move (.tmp (far + 8))) (some ((.tmp 5), false)),
     .run (.move (.tmp (far + 17))) (some ((.tmp 6), false)),
     .run (.indexAddr 22 (.tmp 1) (.tmp 0)) (some ((.tmp 7), false)),
     .run (.load 3 (.tmp 0)) (some ((.tmp 8), false)),
     .run (.binOp .neq 3 (.tmp 4) (.tmp 0) 3) (some ((.tmp 9), false)),
     .run (.pick (.tmp 10) (.const (.bool true)) (.tmp 0)) none] [(153, 0)]) (
   .cond (.tmp 153) (
     .seq (
     .reg [.run (.assign (.const (.bool false))) none] [(6, 0)]) (
     .ret)) (
     .skip))) (
   .reg [.get 16,
     .run (.binOp .add 3 (.tmp 0) (.const (.int .i64 1)) 3) none] [(16, 0)])))) (
  .reg [.get 17,
    .run (.binOp .add 3 (.tmp 0) (.const (.int .i64 1)) 3) none] [(17, 0)])))))) (
.seq (
.reg [.run (.assign (.const (.bool true))) none] [(6, 0)]) (
.ret))))))))))
theorem fn_law28_PhisApart : V.F 5 = some Try.f5 := by kernel_rfl
theorem is_law28_PhisApart : (V.F 5).isSome = true := by rw [fn_law28_PhisApart]; rfl
noncomputable def c_law28_PhisApart : Code := match Try.f5.body with
  | some c => c
  | none => .skip
theorem b_law28_PhisApart : Try.f5.body = some c_law28_PhisApart := rfl
theorem pc_law28_PhisApart : pcOf V Try.f5.ntmps (some (liveOf Try.f5 c_law28_PhisApart)) c_law28_PhisApart = some P_law28_PhisApart := by kernel_rfl
theorem Lc.law28_PhisApart {O : Orc} {vs : List Value} {H : AH} {R : Value → AH → Prop} (ho : O 5 vs H = none) (hlen : vs.length ≤ Try.f5.ntmps) (hlive : (List.range vs.length).all (isLive (some (liveOf Try.f5 c_law28_PhisApart))) = true)
    (h : WP V O (some (liveOf Try.f5 c_law28_PhisApart)) Try.f5.ntmps P_law28_PhisApart (initL vs 0) H fun e l H' => (e = .normal ∨ e = .ret) ∧ ∃ rs, resL V l H' Try.f5.results.toList = some rs ∧ R (resOf rs) H') : ∃ v H', Lc V O 5 vs H v H' ∧ R v H' :=
  Lc.fnP ho fn_law28_PhisApart b_law28_PhisApart pc_law28_PhisApart hlen hlive h
/- bobbin/bobbinlaw28.awake -/
abbrev F_law28_awake : FuncId := 6
def P_law28_awake : PC :=
.seq (
.reg [.run (.assign (.const (.bool false))) none] [(0, 0)]) (
.seq (
.reg [.run (.buildSlice 22 2 #[(0, (.const (.int .i64 1))), (1, (.const (.int .i64 2)))]) none,
  .run (.buildSlice 22 2 #[(0, (.const (.int .i64 2))), (1, (.const (.int .i64 1)))]) none,
  .run (.call ⟨.value (.func 7), #[(.tmp 1), (.tmp 0), (.const (.int .i64 9))], #[22, 22, 3]⟩) none,
  .run (.extract (.tmp 0) 0) none,
  .run (.extract (.tmp 1) 1) none] [(2, 0), (1, 1)]) (
.seq (
.reg [.get 2,
  .run (.binOp .eql 25 (.tmp 0) (.const (.int .i64 0)) 25) none,
  .run (.move (.tmp (far + 1))) (some ((.tmp 0), true)),
  .run (.build 30 #[(0, (.const (.int .u8 2))), (1, (.const (.int .i64 9))), (2, (.const (.int .i64 1)))]) (some ((.tmp 1), true)),
  .run (.build 30 #[(0, (.const (.int .u8 2))), (1, (.const (.int .i64 1))), (2, (.const (.int .i64 2)))]) (some ((.tmp 2), true)),
  .run (.build 30 #[(0, (.const (.int .u8 2))), (1, (.const (.int .i64 2))), (2, (.const (.int .i64 9)))]) (some ((.tmp 3), true)),
  .run (.buildSlice 24 3 #[(0, (.tmp 2)), (1, (.tmp 1)), (2, (.tmp 0))]) (some ((.tmp 4), true)),
  .run (.call ⟨.value (.func 9), #[(.tmp 4), (.tmp 0)], #[24, 24]⟩) (some ((.tmp 5), true)),
  .run (.pick (.tmp 6) (.tmp 0) (.const (.bool false))) none] [(0, 0)]) (
.ret)))
theorem fn_law28_awake : V.F 6 = some Try.f6 := by kernel_rfl
theorem is_law28_awake : (V.F 6).isSome = true := by rw [fn_law28_awake]; rfl
noncomputable def c_law28_awake : Code := match Try.f6.body with
  | some c => c
  | none => .skip
theorem b_law28_awake : Try.f6.body = some c_law28_awake := rfl
theorem pc_law28_awake : pcOf V Try.f6.ntmps (some (liveOf Try.f6 c_law28_awake)) c_law28_awake = some P_law28_awake := by kernel_rfl
theorem Lc.law28_awake {O : Orc} {vs : List Value} {H : AH} {R : Value → AH → Prop} (ho : O 6 vs H = none) (hlen : vs.length ≤ Try.f6.ntmps) (hlive : (List.range vs.length).all (isLive (some (liveOf Try.f6 c_law28_awake))) = true)
    (h : WP V O (some (liveOf Try.f6 c_law28_awake)) Try.f6.ntmps P_law28_awake (initL vs 0) H fun e l H' => (e = .normal ∨ e = .ret) ∧ ∃ rs, resL V l H' Try.f6.results.toList = some rs ∧ R (resOf rs) H') : ∃ v H', Lc V O 6 vs H v H' ∧ R v H' :=
  Lc.fnP ho fn_law28_awake b_law28_awake pc_law28_awake hlen hlive h
/- bobbin/phis.Row -/
abbrev F_phis_Row : FuncId := 7
def P_phis_Row : PC :=
.seq (
.reg [.run (.assign (.const (.slice none 0 0))) none,
  .run (.assign (.const (.int .i64 0))) none] [(7, 0), (6, 1)]) (
.seq (
.seq (
.reg [.get 0,
  .run (.call ⟨.builtin .len, #[(.tmp 0)], #[22]⟩) none,
  .get 1,
  .run (.call ⟨.builtin .len, #[(.tmp 0)], #[22]⟩) none,
  .run (.binOp .neq 3 (.tmp 2) (.tmp 0) 3) none,
  .run (.move (.tmp (far + 2))) (some ((.tmp 0), false)),
  .run (.binOp .lss 3 (.tmp 0) (.const (.int .i64 0)) 3) (some ((.tmp 1), false)),
  .run (.pick (.tmp 2) (.const (.bool true)) (.tmp 0)) none] [(20, 0)]) (
.cond (.tmp 20) (
  .seq (
  .reg [.run (.assign (.const (.slice none 0 0))) none,
    .run (.assign (.const (.int .i64 4))) none] [(7, 0), (6, 1)]) (
  .ret)) (
  .skip))) (
.seq (
.reg [.run (.makeMap 37 none) none] [(8, 0)]) (
.seq (
.reg [.run (.assign (.const (.slice none 0 0))) none] [(9, 0)]) (
.seq (
.seq (
.reg [.get 0,
  .run (.call ⟨.builtin .len, #[(.tmp 0)], #[22]⟩) none,
  .run (.move (.const (.int .i64 0))) none] [(24, 0), (23, 1), (22, 2)]) (
.block 0 (
 .loop (
  .seq (
  .reg [.run (.binOp .lss 3 (.tmp (far + 24)) (.tmp (far + 23)) 3) none] [(25, 0)]) (
  .seq (
  .cond (.tmp 25) (
    .skip) (
    .exit 0)) (
  .seq (
  .block 1 (
   .seq (
   .reg [.get 24,
     .run (.indexAddr 22 (.tmp (far + 22)) (.tmp (far + 24))) none,
     .run (.load 3 (.tmp 0)) none] [(11, 0), (10, 2)]) (
   .seq (
   .seq (
   .reg [.get 11,
     .run (.binOp .lss 3 (.tmp 0) (.const (.int .i64 0)) 3) none,
     .run (.move (.tmp (far + 1))) (some ((.tmp 0), false)),
     .run (.move (.tmp (far + 10))) (some ((.tmp 1), false)),
     .run (.indexAddr 22 (.tmp 1) (.tmp 0)) (some ((.tmp 2), false)),
     .run (.load 3 (.tmp 0)) (some ((.tmp 3), false)),
     .run (.binOp .lss 3 (.tmp 0) (.const (.int .i64 0)) 3) (some ((.tmp 4), false)),
     .run (.pick (.tmp 5) (.const (.bool true)) (.tmp 0)) none,
     .run (.move (.tmp (far + 11))) (some ((.tmp 0), false)),
     .run (.move (.tmp (far + 2))) (some ((.tmp 1), false)),
     .run (.binOp .eql 3 (.tmp 1) (.tmp 0) 3) (some ((.tmp 2), false)),
     .run (.pick (.tmp 3) (.const (.bool true)) (.tmp 0)) none,
     .run (.move (.tmp (far + 1))) (some ((.tmp 0), false)),
     .run (.move (.tmp (far + 10))) (some ((.tmp 1), false)),
     .run (.indexAddr 22 (.tmp 1) (.tmp 0)) (some ((.tmp 2), false)),
     .run (.load 3 (.tmp 0)) (some ((.tmp 3), false)),
     .run (.move (.tmp (far + 2))) (some ((.tmp 4), false)),
     .run (.binOp .eql 3 (.tmp 1) (.tmp 0) 3) (some ((.tmp 5), false)),
     .run (.pick (.tmp 6) (.const (.bool true)) (.tmp 0)) none,
     .run (.move (.tmp (far + 8))) (some ((.tmp 0), false)),
     .run (.move (.tmp (far + 11))) (some ((.tmp 1), false)),
     .run (.lookup 37 (.tmp 1) (.tmp 0) false) (some ((.tmp 2), false)),
     .run (.binOp .gtr 3 (.tmp 0) (.const (.int .i64 0)) 3) (some ((.tmp 3), false)),
     .run (.pick (.tmp 4) (.const (.bool true)) (.tmp 0)) none] [(56, 0)]) (
   .cond (.tmp 56) (
     .seq (
     .reg [.run (.assign (.const (.slice none 0 0))) none,
       .run (.assign (.const (.int .i64 4))) none] [(7, 0), (6, 1)]) (
     .ret)) (
     .skip))) (
   .seq (
   .reg [.get 8,
     .get 11,
     .run (.lookup 37 (.tmp 1) (.tmp 0) false) none,
     .run (.binOp .add 3 (.tmp 0) (.const (.int .i64 1)) 3) none,
     .run (.mapUpdate 37 (.tmp 3) (.tmp 2) (.tmp 0)) none] []) (
   .reg [.get 9,
     .get 11,
     .get 1,
     .get 10,
     .run (.indexAddr 22 (.tmp 1) (.tmp 0)) none,
     .run (.load 3 (.tmp 0)) none,
     .run (.build 40 #[(0, (.tmp 4)), (1, (.tmp 0))]) none,
     .run (.buildSlice 38 1 #[(0, (.tmp 0))]) none,
     .run (.call ⟨.builtin .append, #[(.tmp 7), (.tmp 0)], #[38, 38]⟩) none] [(9, 0)]))))) (
  .reg [.run (.binOp .add 3 (.tmp (far + 24)) (.const (.int .i64 1)) 3) none] [(24, 0)]))))))) (
.seq (
.reg [.get 9,
  .get 2,
  .run (.call ⟨.value (.func 11), #[(.tmp 1), (.tmp 0)], #[38, 3]⟩) none,
  .run (.assign (.const (.int .i64 0))) none] [(7, 0), (6, 1)]) (
.ret))))))
theorem fn_phis_Row : V.F 7 = some Try.f7 := by kernel_rfl
theorem is_phis_Row : (V.F 7).isSome = true := by rw [fn_phis_Row]; rfl
noncomputable def c_phis_Row : Code := match Try.f7.body with
  | some c => c
  | none => .skip
theorem b_phis_Row : Try.f7.body = some c_phis_Row := rfl
theorem pc_phis_Row : pcOf V Try.f7.ntmps (some (liveOf Try.f7 c_phis_Row)) c_phis_Row = some P_phis_Row := by kernel_rfl
theorem Lc.phis_Row {O : Orc} {vs : List Value} {H : AH} {R : Value → AH → Prop} (ho : O 7 vs H = none) (hlen : vs.length ≤ Try.f7.ntmps) (hlive : (List.range vs.length).all (isLive (some (liveOf Try.f7 c_phis_Row))) = true)
    (h : WP V O (some (liveOf Try.f7 c_phis_Row)) Try.f7.ntmps P_phis_Row (initL vs 0) H fun e l H' => (e = .normal ∨ e = .ret) ∧ ∃ rs, resL V l H' Try.f7.results.toList = some rs ∧ R (resOf rs) H') : ∃ v H', Lc V O 7 vs H v H' ∧ R v H' :=
  Lc.fnP ho fn_phis_Row b_phis_Row pc_phis_Row hlen hlive h
/- bobbin/bobbinref28.Row -/
abbrev F_ref28_Row : FuncId := 8
def P_ref28_Row : PC :=
.seq (
.reg [.run (.assign (.const (.slice none 0 0))) none,
  .run (.assign (.const (.int .i64 0))) none] [(7, 0), (6, 1)]) (
.seq (
.seq (
.reg [.get 0,
  .run (.call ⟨.builtin .len, #[(.tmp 0)], #[22]⟩) none,
  .get 1,
  .run (.call ⟨.builtin .len, #[(.tmp 0)], #[22]⟩) none,
  .run (.binOp .neq 3 (.tmp 2) (.tmp 0) 3) none,
  .run (.move (.tmp (far + 2))) (some ((.tmp 0), false)),
  .run (.binOp .lss 3 (.tmp 0) (.const (.int .i64 0)) 3) (some ((.tmp 1), false)),
  .run (.pick (.tmp 2) (.const (.bool true)) (.tmp 0)) none] [(18, 0)]) (
.cond (.tmp 18) (
  .seq (
  .reg [.run (.assign (.const (.slice none 0 0))) none,
    .run (.assign (.const (.int .i64 4))) none] [(7, 0), (6, 1)]) (
  .ret)) (
  .skip))) (
.seq (
.seq (
.reg [.run (.assign (.const (.int .i64 0))) none] [(8, 0)]) (
.block 0 (
 .loop (
  .seq (
  .seq (
  .reg [.get 8,
    .get 0,
    .run (.call ⟨.builtin .len, #[(.tmp 0)], #[22]⟩) none,
    .run (.binOp .lss 3 (.tmp 2) (.tmp 0) 3) none] [(22, 0)]) (
  .cond (.tmp 22) (
    .skip) (
    .exit 0))) (
  .seq (
  .block 1 (
   .seq (
   .seq (
   .reg [.get 0,
     .get 8,
     .run (.indexAddr 22 (.tmp 1) (.tmp 0)) none,
     .run (.load 3 (.tmp 0)) none,
     .run (.binOp .lss 3 (.tmp 0) (.const (.int .i64 0)) 3) none,
     .run (.move (.tmp (far + 1))) (some ((.tmp 0), false)),
     .run (.move (.tmp (far + 8))) (some ((.tmp 1), false)),
     .run (.indexAddr 22 (.tmp 1) (.tmp 0)) (some ((.tmp 2), false)),
     .run (.load 3 (.tmp 0)) (some ((.tmp 3), false)),
     .run (.binOp .lss 3 (.tmp 0) (.const (.int .i64 0)) 3) (some ((.tmp 4), false)),
     .run (.pick (.tmp 5) (.const (.bool true)) (.tmp 0)) none,
     .run (.move (.tmp (far + 0))) (some ((.tmp 0), false)),
     .run (.move (.tmp (far + 8))) (some ((.tmp 1), false)),
     .run (.indexAddr 22 (.tmp 1) (.tmp 0)) (some ((.tmp 2), false)),
     .run (.load 3 (.tmp 0)) (some ((.tmp 3), false)),
     .run (.move (.tmp (far + 2))) (some ((.tmp 4), false)),
     .run (.binOp .eql 3 (.tmp 1) (.tmp 0) 3) (some ((.tmp 5), false)),
     .run (.pick (.tmp 6) (.const (.bool true)) (.tmp 0)) none,
     .run (.move (.tmp (far + 1))) (some ((.tmp 0), false)),
     .run (.move (.tmp (far + 8))) (some ((.tmp 1), false)),
     .run (.indexAddr 22 (.tmp 1) (.tmp 0)) (some ((.tmp 2), false)),
     .run (.load 3 (.tmp 0)) (some ((.tmp 3), false)),
     .run (.move (.tmp (far + 2))) (some ((.tmp 4), false)),
     .run (.binOp .eql 3 (.tmp 1) (.tmp 0) 3) (some ((.tmp 5), false)),
     .run (.pick (.tmp 6) (.const (.bool true)) (.tmp 0)) none] [(52, 0)]) (
   .cond (.tmp 52) (
     .seq (
     .reg [.run (.assign (.const (.slice none 0 0))) none,
       .run (.assign (.const (.int .i64 4))) none] [(7, 0), (6, 1)]) (
     .ret)) (
     .skip))) (
   .seq (
   .reg [.run (.assign (.const (.int .i64 0))) none] [(9, 0)]) (
   .block 2 (
    .loop (
     .seq (
     .seq (
     .reg [.get 9,
       .get 8,
       .run (.binOp .lss 3 (.tmp 1) (.tmp 0) 3) none] [(55, 0)]) (
     .cond (.tmp 55) (
       .skip) (
       .exit 2))) (
     .seq (
     .block 3 (
      .seq (
      .reg [.get 0,
        .get 9,
        .run (.indexAddr 22 (.tmp 1) (.tmp 0)) none,
        .run (.load 3 (.tmp 0)) none,
        .get 0,
        .get 8,
        .run (.indexAddr 22 (.tmp 1) (.tmp 0)) none,
        .run (.load 3 (.tmp 0)) none,
        .run (.binOp .eql 3 (.tmp 4) (.tmp 0) 3) none] [(66, 0)]) (
      .cond (.tmp 66) (
        .seq (
        .reg [.run (.assign (.const (.slice none 0 0))) none,
          .run (.assign (.const (.int .i64 4))) none] [(7, 0), (6, 1)]) (
        .ret)) (
        .skip)))) (
     .reg [.get 9,
       .run (.binOp .add 3 (.tmp 0) (.const (.int .i64 1)) 3) none] [(9, 0)])))))))) (
  .reg [.get 8,
    .run (.binOp .add 3 (.tmp 0) (.const (.int .i64 1)) 3) none] [(8, 0)])))))) (
.seq (
.reg [.get 0,
  .get 1,
  .get 2,
  .run (.call ⟨.value (.func 12), #[(.tmp 2), (.tmp 1), (.tmp 0)], #[22, 22, 3]⟩) none,
  .run (.assign (.const (.int .i64 0))) none] [(7, 0), (6, 1)]) (
.ret))))
theorem fn_ref28_Row : V.F 8 = some Try.f8 := by kernel_rfl
theorem is_ref28_Row : (V.F 8).isSome = true := by rw [fn_ref28_Row]; rfl
noncomputable def c_ref28_Row : Code := match Try.f8.body with
  | some c => c
  | none => .skip
theorem b_ref28_Row : Try.f8.body = some c_ref28_Row := rfl
theorem pc_ref28_Row : pcOf V Try.f8.ntmps (some (liveOf Try.f8 c_ref28_Row)) c_ref28_Row = some P_ref28_Row := by kernel_rfl
theorem Lc.ref28_Row {O : Orc} {vs : List Value} {H : AH} {R : Value → AH → Prop} (ho : O 8 vs H = none) (hlen : vs.length ≤ Try.f8.ntmps) (hlive : (List.range vs.length).all (isLive (some (liveOf Try.f8 c_ref28_Row))) = true)
    (h : WP V O (some (liveOf Try.f8 c_ref28_Row)) Try.f8.ntmps P_ref28_Row (initL vs 0) H fun e l H' => (e = .normal ∨ e = .ret) ∧ ∃ rs, resL V l H' Try.f8.results.toList = some rs ∧ R (resOf rs) H') : ∃ v H', Lc V O 8 vs H v H' ∧ R v H' :=
  Lc.fnP ho fn_ref28_Row b_ref28_Row pc_ref28_Row hlen hlive h
/- bobbin/bobbinref06.SameIns -/
abbrev F_ref06_SameIns : FuncId := 9
def P_ref06_SameIns : PC :=
.seq (
.reg [.run (.assign (.const (.bool false))) none] [(4, 0)]) (
.seq (
.seq (
.reg [.get 0,
  .run (.call ⟨.builtin .len, #[(.tmp 0)], #[24]⟩) none,
  .get 1,
  .run (.call ⟨.builtin .len, #[(.tmp 0)], #[24]⟩) none,
  .run (.binOp .neq 3 (.tmp 2) (.tmp 0) 3) none] [(11, 0)]) (
.cond (.tmp 11) (
  .seq (
  .reg [.run (.assign (.const (.bool false))) none] [(4, 0)]) (
  .ret)) (
  .skip))) (
.seq (
.seq (
.reg [.run (.assign (.const (.int .i64 0))) none] [(5, 0)]) (
.block 0 (
 .loop (
  .seq (
  .seq (
  .reg [.get 5,
    .get 0,
    .run (.call ⟨.builtin .len, #[(.tmp 0)], #[24]⟩) none,
    .run (.binOp .lss 3 (.tmp 2) (.tmp 0) 3) none] [(15, 0)]) (
  .cond (.tmp 15) (
    .skip) (
    .exit 0))) (
  .seq (
  .block 1 (
   .seq (
   .seq (
   .reg [.get 0,
     .get 5,
     .run (.indexAddr 24 (.tmp 1) (.tmp 0)) none,
     .run (.fieldAddr 30 (.tmp 0) 0) none,
     .run (.load 5 (.tmp 0)) none,
     .get 1,
     .get 5,
     .run (.indexAddr 24 (.tmp 1) (.tmp 0)) none,
     .run (.fieldAddr 30 (.tmp 0) 0) none,
     .run (.load 5 (.tmp 0)) none,
     .run (.binOp .neq 5 (.tmp 5) (.tmp 0) 5) none,
     .run (.move (.tmp (far + 0))) (some ((.tmp 0), false)),
     .run (.move (.tmp (far + 5))) (some ((.tmp 1), false)),
     .run (.indexAddr 24 (.tmp 1) (.tmp 0)) (some ((.tmp 2), false)),
     .run (.fieldAddr 30 (.tmp 0) 1) (some ((.tmp 3), false)),
     .run (.load 3 (.tmp 0)) (some ((.tmp 4), false)),
     .run (.move (.tmp (far + 1))) (some ((.tmp 5), false)),
     .run (.move (.tmp (far + 5))) (some ((.tmp 6), false)),
     .run (.indexAddr 24 (.tmp 1) (.tmp 0)) (some ((.tmp 7), false)),
     .run (.fieldAddr 30 (.tmp 0) 1) (some ((.tmp 8), false)),
     .run (.load 3 (.tmp 0)) (some ((.tmp 9), false)),
     .run (.binOp .neq 3 (.tmp 5) (.tmp 0) 3) (some ((.tmp 10), false)),
     .run (.pick (.tmp 11) (.const (.bool true)) (.tmp 0)) none,
     .run (.move (.tmp (far + 0))) (some ((.tmp 0), false)),
     .run (.move (.tmp (far + 5))) (some ((.tmp 1), false)),
     .run (.indexAddr 24 (.tmp 1) (.tmp 0)) (some ((.tmp 2), false)),
     .run (.fieldAddr 30 (.tmp 0) 2) (some ((.tmp 3), false)),
     .run (.load 3 (.tmp 0)) (some ((.tmp 4), false)),
     .run (.move (.tmp (far + 1))) (some ((.tmp 5), false)),
     .run (.move (.tmp (far + 5))) (some ((.tmp 6), false)),
     .run (.indexAddr 24 (.tmp 1) (.tmp 0)) (some ((.tmp 7), false)),
     .run (.fieldAddr 30 (.tmp 0) 2) (some ((.tmp 8), false)),
     .run (.load 3 (.tmp 0)) (some ((.tmp 9), false)),
     .run (.binOp .neq 3 (.tmp 5) (.tmp 0) 3) (some ((.tmp 10), false)),
     .run (.pick (.tmp 11) (.const (.bool true)) (.tmp 0)) none,
     .run (.move (.tmp (far + 0))) (some ((.tmp 0), false)),
     .run (.move (.tmp (far + 5))) (some ((.tmp 1), false)),
     .run (.indexAddr 24 (.tmp 1) (.tmp 0)) (some ((.tmp 2), false)),
     .run (.fieldAddr 30 (.tmp 0) 3) (some ((.tmp 3), false)),
     .run (.load 3 (.tmp 0)) (some ((.tmp 4), false)),
     .run (.move (.tmp (far + 1))) (some ((.tmp 5), false)),
     .run (.move (.tmp (far + 5))) (some ((.tmp 6), false)),
     .run (.indexAddr 24 (.tmp 1) (.tmp 0)) (some ((.tmp 7), false)),
     .run (.fieldAddr 30 (.tmp 0) 3) (some ((.tmp 8), false)),
     .run (.load 3 (.tmp 0)) (some ((.tmp 9), false)),
     .run (.binOp .neq 3 (.tmp 5) (.tmp 0) 3) (some ((.tmp 10), false)),
     .run (.pick (.tmp 11) (.const (.bool true)) (.tmp 0)) none,
     .run (.move (.tmp (far + 0))) (some ((.tmp 0), false)),
     .run (.move (.tmp (far + 5))) (some ((.tmp 1), false)),
     .run (.indexAddr 24 (.tmp 1) (.tmp 0)) (some ((.tmp 2), false)),
     .run (.fieldAddr 30 (.tmp 0) 4) (some ((.tmp 3), false)),
     .run (.load 2 (.tmp 0)) (some ((.tmp 4), false)),
     .run (.move (.tmp (far + 1))) (some ((.tmp 5), false)),
     .run (.move (.tmp (far + 5))) (some ((.tmp 6), false)),
     .run (.indexAddr 24 (.tmp 1) (.tmp 0)) (some ((.tmp 7), false)),
     .run (.fieldAddr 30 (.tmp 0) 4) (some ((.tmp 8), false)),
     .run (.load 2 (.tmp 0)) (some ((.tmp 9), false)),
     .run (.binOp .neq 2 (.tmp 5) (.tmp 0) 2) (some ((.tmp 10), false)),
     .run (.pick (.tmp 11) (.const (.bool true)) (.tmp 0)) none,
     .run (.move (.tmp (far + 0))) (some ((.tmp 0), false)),
     .run (.move (.tmp (far + 5))) (some ((.tmp 1), false)),
     .run (.indexAddr 24 (.tmp 1) (.tmp 0)) (some ((.tmp 2), false)),
     .run (.fieldAddr 30 (.tmp 0) 5) (some ((.tmp 3), false)),
     .run (.load 22 (.tmp 0)) (some ((.tmp 4), false)),
     .run (.call ⟨.builtin .len, #[(.tmp 0)], #[22]⟩) (some ((.tmp 5), false)),
     .run (.move (.tmp (far + 1))) (some ((.tmp 6), false)),
     .run (.move (.tmp (far + 5))) (some ((.tmp 7), false)),
     .run (.indexAddr 24 (.tmp 1) (.tmp 0)) (some ((.tmp 8), false)),
     .run (.fieldAddr 30 (.tmp 0) 5) (some ((.tmp 9), false)),
     .run (.load 22 (.tmp 0)) (some ((.tmp 10), false)),
     .run (.call ⟨.builtin .len, #[(.tmp 0)], #[22]⟩) (some ((.tmp 11), false)),
     .run (.binOp .neq 3 (.tmp 6) (.tmp 0) 3) (some ((.tmp 12), false)),
     .run (.pick (.tmp 13) (.const (.bool true)) (.tmp 0)) none] [(95, 0)]) (
   .cond (.tmp 95) (
     .seq (
     .reg [.run (.assign (.const (.bool false))) none] [(4, 0)]) (
     .ret)) (
     .skip))) (
   .seq (
   .reg [.run (.assign (.const (.int .i64 0))) none] [(6, 0)]) (
   .block 2 (
    .loop (
     .seq (
     .seq (
     .reg [.get 6,
       .get 0,
       .get 5,
       .run (.indexAddr 24 (.tmp 1) (.tmp 0)) none,
       .run (.fieldAddr 30 (.tmp 0) 5) none,
       .run (.load 22 (.tmp 0)) none,
       .run (.call ⟨.builtin .len, #[(.tmp 0)], #[22]⟩) none,
       .run (.binOp .lss 3 (.tmp 6) (.tmp 0) 3) none] [(103, 0)]) (
     .cond (.tmp 103) (
       .skip) (
       .exit 2))) (
     .seq (
     .block 3 (
      .seq (
      .reg [.get 0,
        .get 5,
        .run (.indexAddr 24 (.tmp 1) (.tmp 0)) none,
        .run (.fieldAddr 30 (.tmp 0) 5) none,
        .run (.load 22 (.tmp 0)) none,
        .get 6,
        .run (.indexAddr 22 (.tmp 1) (.tmp 0)) none,
        .run (.load 3 (.tmp 0)) none,
        .get 1,
        .get 5,
        .run (.indexAddr 24 (.tmp 1) (.tmp 0)) none,
        .run (.fieldAddr 30 (.tmp 0) 5) none,
        .run (.load 22 (.tmp 0)) none,
        .get 6,
        .run (.indexAddr 22 (.tmp 1) (.tmp 0)) none,
        .run (.load 3 (.tmp 0)) none,
        .run (.binOp .neq 3 (.tmp 8) (.tmp 0) 3) none] [(122, 0)]) (
      .cond (.tmp 122) (
        .seq (
        .reg [.run (.assign (.const (.bool false))) none] [(4, 0)]) (
        .ret)) (
        .skip)))) (
     .reg [.get 6,
       .run (.binOp .add 3 (.tmp 0) (.const (.int .i64 1)) 3) none] [(6, 0)])))))))) (
  .reg [.get 5,
    .run (.binOp .add 3 (.tmp 0) (.const (.int .i64 1)) 3) none] [(5, 0)])))))) (
.seq (
.reg [.run (.assign (.const (.bool true))) none] [(4, 0)]) (
.ret))))
theorem fn_ref06_SameIns : V.F 9 = some Try.f9 := by kernel_rfl
theorem is_ref06_SameIns : (V.F 9).isSome = true := by rw [fn_ref06_SameIns]; rfl
noncomputable def c_ref06_SameIns : Code := match Try.f9.body with
  | some c => c
  | none => .skip
theorem b_ref06_SameIns : Try.f9.body = some c_ref06_SameIns := rfl
theorem pc_ref06_SameIns : pcOf V Try.f9.ntmps (some (liveOf Try.f9 c_ref06_SameIns)) c_ref06_SameIns = some P_ref06_SameIns := by kernel_rfl
theorem Lc.ref06_SameIns {O : Orc} {vs : List Value} {H : AH} {R : Value → AH → Prop} (ho : O 9 vs H = none) (hlen : vs.length ≤ Try.f9.ntmps) (hlive : (List.range vs.length).all (isLive (some (liveOf Try.f9 c_ref06_SameIns))) = true)
    (h : WP V O (some (liveOf Try.f9 c_ref06_SameIns)) Try.f9.ntmps P_ref06_SameIns (initL vs 0) H fun e l H' => (e = .normal ∨ e = .ret) ∧ ∃ rs, resL V l H' Try.f9.results.toList = some rs ∧ R (resOf rs) H') : ∃ v H', Lc V O 9 vs H v H' ∧ R v H' :=
  Lc.fnP ho fn_ref06_SameIns b_ref06_SameIns pc_ref06_SameIns hlen hlive h
/- bobbin/bobbinref12.Ints -/
abbrev F_ref12_Ints : FuncId := 10
def P_ref12_Ints : PC :=
.seq (
.reg [.run (.assign (.const (.bool false))) none] [(4, 0)]) (
.seq (
.seq (
.reg [.get 0,
  .run (.call ⟨.builtin .len, #[(.tmp 0)], #[22]⟩) none,
  .get 1,
  .run (.call ⟨.builtin .len, #[(.tmp 0)], #[22]⟩) none,
  .run (.binOp .neq 3 (.tmp 2) (.tmp 0) 3) none] [(10, 0)]) (
.cond (.tmp 10) (
  .seq (
  .reg [.run (.assign (.const (.bool false))) none] [(4, 0)]) (
  .ret)) (
  .skip))) (
.seq (
.seq (
.reg [.run (.assign (.const (.int .i64 0))) none] [(5, 0)]) (
.block 0 (
 .loop (
  .seq (
  .seq (
  .reg [.get 5,
    .get 0,
    .run (.call ⟨.builtin .len, #[(.tmp 0)], #[22]⟩) none,
    .run (.binOp .lss 3 (.tmp 2) (.tmp 0) 3) none] [(14, 0)]) (
  .cond (.tmp 14) (
    .skip) (
    .exit 0))) (
  .seq (
  .block 1 (
   .seq (
   .reg [.get 0,
     .get 5,
     .run (.indexAddr 22 (.tmp 1) (.tmp 0)) none,
     .run (.load 3 (.tmp 0)) none,
     .get 1,
     .get 5,
     .run (.indexAddr 22 (.tmp 1) (.tmp 0)) none,
     .run (.load 3 (.tmp 0)) none,
     .run (.binOp .neq 3 (.tmp 4) (.tmp 0) 3) none] [(25, 0)]) (
   .cond (.tmp 25) (
     .seq (
     .reg [.run (.assign (.const (.bool false))) none] [(4, 0)]) (
     .ret)) (
     .skip)))) (
  .reg [.get 5,
    .run (.binOp .add 3 (.tmp 0) (.const (.int .i64 1)) 3) none] [(5, 0)])))))) (
.seq (
.reg [.run (.assign (.const (.bool true))) none] [(4, 0)]) (
.ret))))
theorem fn_ref12_Ints : V.F 10 = some Try.f10 := by kernel_rfl
theorem is_ref12_Ints : (V.F 10).isSome = true := by rw [fn_ref12_Ints]; rfl
noncomputable def c_ref12_Ints : Code := match Try.f10.body with
  | some c => c
  | none => .skip
theorem b_ref12_Ints : Try.f10.body = some c_ref12_Ints := rfl
theorem pc_ref12_Ints : pcOf V Try.f10.ntmps (some (liveOf Try.f10 c_ref12_Ints)) c_ref12_Ints = some P_ref12_Ints := by kernel_rfl
theorem Lc.ref12_Ints {O : Orc} {vs : List Value} {H : AH} {R : Value → AH → Prop} (ho : O 10 vs H = none) (hlen : vs.length ≤ Try.f10.ntmps) (hlive : (List.range vs.length).all (isLive (some (liveOf Try.f10 c_ref12_Ints))) = true)
    (h : WP V O (some (liveOf Try.f10 c_ref12_Ints)) Try.f10.ntmps P_ref12_Ints (initL vs 0) H fun e l H' => (e = .normal ∨ e = .ret) ∧ ∃ rs, resL V l H' Try.f10.results.toList = some rs ∧ R (resOf rs) H') : ∃ v H', Lc V O 10 vs H v H' ∧ R v H' :=
  Lc.fnP ho fn_ref12_Ints b_ref12_Ints pc_ref12_Ints hlen hlive h
/- bobbin/phis.rows -/
abbrev F_phis_rows : FuncId := 11
def P_phis_rows : PC :=
.seq (
.reg [.run (.assign (.const (.slice none 0 0))) none] [(4, 0)]) (
.seq (
.reg [.get 0,
  .run (.call ⟨.value (.func 13), #[(.tmp 0), (.func 14)], #[38, 44]⟩) none] [(0, 0)]) (
.seq (
.reg [.run (.makeMap 37 none) none,
  .run (.alloc 37) none,
  .run (.store 37 (.tmp 0) (.tmp 1)) none] [(5, 1)]) (
.seq (
.seq (
.reg [.get 0,
  .run (.call ⟨.builtin .len, #[(.tmp 0)], #[38]⟩) none,
  .run (.move (.const (.int .i64 0))) none] [(18, 0), (17, 1), (16, 2)]) (
.block 0 (
 .loop (
  .seq (
  .reg [.run (.binOp .lss 3 (.tmp (far + 18)) (.tmp (far + 17)) 3) none] [(19, 0)]) (
  .seq (
  .cond (.tmp 19) (
    .skip) (
    .exit 0)) (
  .seq (
  .block 1 (
   .seq (
   .reg [.run (.indexAddr 38 (.tmp (far + 16)) (.tmp (far + 18))) none,
     .run (.load 40 (.tmp 0)) none,
     .run (.alloc 40) none,
     .run (.store 40 (.tmp 0) (.tmp 1)) none] [(7, 1)]) (
   .reg [.run (.load 37 (.tmp (far + 5))) none,
     .run (.fieldAddr 40 (.tmp (far + 7)) 1) none,
     .run (.load 3 (.tmp 0)) none,
     .run (.lookup 37 (.tmp 2) (.tmp 0) false) none,
     .run (.binOp .add 3 (.tmp 0) (.const (.int .i64 1)) 3) none,
     .run (.mapUpdate 37 (.tmp 4) (.tmp 2) (.tmp 0)) none] []))) (
  .reg [.run (.binOp .add 3 (.tmp (far + 18)) (.const (.int .i64 1)) 3) none] [(18, 0)]))))))) (
.seq (
.reg [.run (.alloc 24) none] [(8, 0)]) (
.seq (
.reg [.run (.makeFunc (.func 15) #[] #[(.tmp (far + 8))]) none] [(9, 0)]) (
.seq (
.block 2 (
 .loop (
  .seq (
  .seq (
  .reg [.get 0,
    .run (.call ⟨.builtin .len, #[(.tmp 0)], #[38]⟩) none,
    .run (.binOp .gtr 3 (.tmp 0) (.const (.int .i64 0)) 3) none] [(31, 0)]) (
  .cond (.tmp 31) (
    .skip) (
    .exit 2))) (
  .block 3 (
   .seq (
   .reg [.get 0,
     .run (.makeFunc (.func 17) #[] #[(.tmp (far + 5))]) none,
     .run (.call ⟨.value (.func 16), #[(.tmp 1), (.tmp 0)], #[38, 44]⟩) none] [(10, 0)]) (
   .seq (
   .seq (
   .reg [.get 10,
     .run (.binOp .geq 3 (.tmp 0) (.const (.int .i64 0)) 3) none] [(36, 0)]) (
   .cond (.tmp 36) (
     .seq (
     .reg [.get 9,
       .get 0,
       .get 10,
       .run (.indexAddr 38 (.tmp 1) (.tmp 0)) none,
       .run (.load 40 (.tmp 0)) none,
       .run (.call ⟨.value (.tmp 4), #[(.tmp 0)], #[40]⟩) none] []) (
     .seq (
     .reg [.run (.load 37 (.tmp (far + 5))) none,
       .get 0,
       .get 10,
       .run (.indexAddr 38 (.tmp 1) (.tmp 0)) none,
       .run (.fieldAddr 40 (.tmp 0) 1) none,
       .run (.load 3 (.tmp 0)) none,
       .run (.lookup 37 (.tmp 5) (.tmp 0) false) none,
       .run (.binOp .sub 3 (.tmp 0) (.const (.int .i64 1)) 3) none,
       .run (.mapUpdate 37 (.tmp 7) (.tmp 2) (.tmp 0)) none] []) (
     .seq (
     .reg [.get 0,
       .get 10,
       .get 10,
       .run (.binOp .add 3 (.tmp 0) (.const (.int .i64 1)) 3) none,
       .run (.call ⟨.value (.func 18), #[(.tmp 3), (.tmp 2), (.tmp 0)], #[38, 3, 3]⟩) none] [(0, 0)]) (
     .exit 3)))) (
     .skip))) (
   .seq (
   .reg [.get 0,
     .run (.indexAddr 38 (.tmp 0) (.const (.int .i64 0))) none,
     .run (.fieldAddr 40 (.tmp 0) 0) none,
     .run (.load 3 (.tmp 0)) none] [(11, 0)]) (
   .seq (
   .reg [.get 9,
     .get 1,
     .get 11,
     .run (.build 40 #[(0, (.tmp 1)), (1, (.tmp 0))]) none,
     .run (.call ⟨.value (.tmp 3), #[(.tmp 0)], #[40]⟩) none] []) (
   .seq (
   .seq (
   .reg [.get 0,
     .run (.call ⟨.builtin .len, #[(.tmp 0)], #[38]⟩) none,
     .run (.move (.const (.int .i64 0))) none] [(67, 0), (66, 1)]) (
   .block 4 (
    .loop (
     .seq (
     .reg [.run (.binOp .lss 3 (.tmp (far + 67)) (.tmp (far + 66)) 3) none] [(68, 0)]) (
     .seq (
     .cond (.tmp 68) (
       .skip) (
       .exit 4)) (
     .seq (
     .block 5 (
      .seq (
      .reg [.get 67] [(12, 0)]) (
      .seq (
      .reg [.get 0,
        .get 12,
        .run (.indexAddr 38 (.tmp 1) (.tmp 0)) none,
        .run (.fieldAddr 40 (.tmp 0) 1) none,
        .run (.load 3 (.tmp 0)) none,
        .get 11,
        .run (.binOp .eql 3 (.tmp 1) (.tmp 0) 3) none] [(76, 0)]) (
      .cond (.tmp 76) (
        .reg [.get 0,
          .get 12,
          .get 1,
          .run (.indexAddr 38 (.tmp 2) (.tmp 1)) none,
          .run (.fieldAddr 40 (.tmp 0) 1) none,
          .run (.store 3 (.tmp 0) (.tmp 2)) none] []) (
        .skip))))) (
     .reg [.run (.binOp .add 3 (.tmp (far + 67)) (.const (.int .i64 1)) 3) none] [(67, 0)]))))))) (
   .rega [.run (.load 37 (.tmp (far + 5))) none,
     .get 1,
     .run (.load 37 (.tmp (far + 5))) none,
     .get 11,
     .run (.load 37 (.tmp (far + 5))) none,
     .get 1,
     .run (.lookup 37 (.tmp 1) (.tmp 0) false) none,
     .run (.load 37 (.tmp (far + 5))) none,
     .get 11,
     .run (.lookup 37 (.tmp 1) (.tmp 0) false) none,
     .run (.binOp .add 3 (.tmp 3) (.tmp 0) 3) none,
     .run (.mapUpdate 37 (.tmp 10) (.tmp 9) (.tmp 0)) none,
     .run (.mapUpdate 37 (.tmp 9) (.tmp 8) (.const (.int .i64 0))) none] [] 13 [⟨.load 37 (.tmp (far + 5)), none, 2, 12⟩])))))))))) (
.seq (
.reg [.run (.load 24 (.tmp (far + 8))) none] [(4, 0)]) (
.ret))))))))
theorem fn_phis_rows : V.F 11 = some Try.f11 := by kernel_rfl
theorem is_phis_rows : (V.F 11).isSome = true := by rw [fn_phis_rows]; rfl
noncomputable def c_phis_rows : Code := match Try.f11.body with
  | some c => c
  | none => .skip
theorem b_phis_rows : Try.f11.body = some c_phis_rows := rfl
theorem pc_phis_rows : pcOf V Try.f11.ntmps (some (liveOf Try.f11 c_phis_rows)) c_phis_rows = some P_phis_rows := by kernel_rfl
theorem Lc.phis_rows {O : Orc} {vs : List Value} {H : AH} {R : Value → AH → Prop} (ho : O 11 vs H = none) (hlen : vs.length ≤ Try.f11.ntmps) (hlive : (List.range vs.length).all (isLive (some (liveOf Try.f11 c_phis_rows))) = true)
    (h : WP V O (some (liveOf Try.f11 c_phis_rows)) Try.f11.ntmps P_phis_rows (initL vs 0) H fun e l H' => (e = .normal ∨ e = .ret) ∧ ∃ rs, resL V l H' Try.f11.results.toList = some rs ∧ R (resOf rs) H') : ∃ v H', Lc V O 11 vs H v H' ∧ R v H' :=
  Lc.fnP ho fn_phis_rows b_phis_rows pc_phis_rows hlen hlive h
/- bobbin/bobbinref28.row -/
abbrev F_ref28_row : FuncId := 12
def P_ref28_row : PC :=
.seq (
.reg [.run (.assign (.const (.slice none 0 0))) none] [(6, 0)]) (
.seq (
.reg [.run (.assign (.const (.slice none 0 0))) none,
  .run (.assign (.const (.slice none 0 0))) none] [(8, 0), (7, 1)]) (
.seq (
.seq (
.reg [.run (.assign (.const (.int .i64 0))) none] [(9, 0)]) (
.block 0 (
 .loop (
  .seq (
  .seq (
  .reg [.get 9,
    .get 0,
    .run (.call ⟨.builtin .len, #[(.tmp 0)], #[22]⟩) none,
    .run (.binOp .lss 3 (.tmp 2) (.tmp 0) 3) none] [(19, 0)]) (
  .cond (.tmp 19) (
    .skip) (
    .exit 0))) (
  .seq (
  .block 1 (
   .seq (
   .reg [.get 0,
     .get 9,
     .run (.indexAddr 22 (.tmp 1) (.tmp 0)) none,
     .run (.load 3 (.tmp 0)) none,
     .get 1,
     .get 9,
     .run (.indexAddr 22 (.tmp 1) (.tmp 0)) none,
     .run (.load 3 (.tmp 0)) none,
     .run (.binOp .neq 3 (.tmp 4) (.tmp 0) 3) none] [(30, 0)]) (
   .cond (.tmp 30) (
     .seq (
     .reg [.get 7,
       .get 0,
       .get 9,
       .run (.indexAddr 22 (.tmp 1) (.tmp 0)) none,
       .run (.load 3 (.tmp 0)) none,
       .run (.buildSlice 22 1 #[(0, (.tmp 0))]) none,
       .run (.call ⟨.builtin .append, #[(.tmp 5), (.tmp 0)], #[22, 22]⟩) none] [(7, 0)]) (
     .reg [.get 8,
       .get 1,
       .get 9,
       .run (.indexAddr 22 (.tmp 1) (.tmp 0)) none,
       .run (.load 3 (.tmp 0)) none,
       .run (.buildSlice 22 1 #[(0, (.tmp 0))]) none,
       .run (.call ⟨.builtin .append, #[(.tmp 5), (.tmp 0)], #[22, 22]⟩) none] [(8, 0)])) (
     .skip)))) (
  .reg [.get 9,
    .run (.binOp .add 3 (.tmp 0) (.const (.int .i64 1)) 3) none] [(9, 0)])))))) (
.seq (
.reg [.run (.assign (.const (.slice none 0 0))) none] [(10, 0)]) (
.seq (
.block 2 (
 .loop (
  .seq (
  .seq (
  .reg [.get 7,
    .run (.call ⟨.builtin .len, #[(.tmp 0)], #[22]⟩) none,
    .run (.binOp .gtr 3 (.tmp 0) (.const (.int .i64 0)) 3) none] [(47, 0)]) (
  .cond (.tmp 47) (
    .skip) (
    .exit 2))) (
  .block 3 (
   .seq (
   .reg [.run (.assign (.const (.int .i64 (-1)))) none] [(11, 0)]) (
   .seq (
   .seq (
   .reg [.run (.assign (.const (.int .i64 0))) none] [(12, 0)]) (
   .block 4 (
    .loop (
     .seq (
     .seq (
     .reg [.get 12,
       .get 7,
       .run (.call ⟨.builtin .len, #[(.tmp 0)], #[22]⟩) none,
       .run (.binOp .lss 3 (.tmp 2) (.tmp 0) 3) none,
       .run (.move (.tmp (far + 11))) (some ((.tmp 0), true)),
       .run (.binOp .lss 3 (.tmp 0) (.const (.int .i64 0)) 3) (some ((.tmp 1), true)),
       .run (.pick (.tmp 2) (.tmp 0) (.const (.bool false))) none] [(55, 0)]) (
     .cond (.tmp 55) (
       .skip) (
       .exit 4))) (
     .seq (
     .block 5 (
      .seq (
      .reg [.run (.assign (.const (.bool false))) none] [(13, 0)]) (
      .seq (
      .seq (
      .reg [.run (.assign (.const (.int .i64 0))) none] [(14, 0)]) (
      .block 6 (
       .loop (
        .seq (
        .seq (
        .reg [.get 14,
          .get 8,
          .run (.call ⟨.builtin .len, #[(.tmp 0)], #[22]⟩) none,
          .run (.binOp .lss 3 (.tmp 2) (.tmp 0) 3) none] [(61, 0)]) (
        .cond (.tmp 61) (
          .skip) (
          .exit 6))) (
        .seq (
        .block 7 (
         .reg [.get 13,
           .run (.move (.tmp (far + 8))) (some ((.tmp 0), false)),
           .run (.move (.tmp (far + 14))) (some ((.tmp 1), false)),
           .run (.indexAddr 22 (.tmp 1) (.tmp 0)) (some ((.tmp 2), false)),
           .run (.load 3 (.tmp 0)) (some ((.tmp 3), false)),
           .run (.move (.tmp (far + 7))) (some ((.tmp 4), false)),
           .run (.move (.tmp (far + 12))) (some ((.tmp 5), false)),
           .run (.indexAddr 22 (.tmp 1) (.tmp 0)) (some ((.tmp 6), false)),
           .run (.load 3 (.tmp 0)) (some ((.tmp 7), false)),
           .run (.binOp .eql 3 (.tmp 4) (.tmp 0) 3) (some ((.tmp 8), false)),
           .run (.pick (.tmp 9) (.const (.bool true)) (.tmp 0)) none] [(13, 0)])) (
        .reg [.get 14,
          .run (.binOp .add 3 (.tmp 0) (.const (.int .i64 1)) 3) none] [(14, 0)])))))) (
      .seq (
      .reg [.get 13,
        .run (.unOp .not 4 (.tmp 0)) none] [(77, 0)]) (
      .cond (.tmp 77) (
        .reg [.get 12] [(11, 0)]) (
        .skip)))))) (
     .reg [.get 12,
       .run (.binOp .add 3 (.tmp 0) (.const (.int .i64 1)) 3) none] [(12, 0)])))))) (
   .seq (
   .seq (
   .reg [.get 11,
     .run (.binOp .lss 3 (.tmp 0) (.const (.int .i64 0)) 3) none] [(80, 0)]) (
   .cond (.tmp 80) (
     .seq (
     .reg [.get 10,
       .get 2,
       .get 7,
       .run (.indexAddr 22 (.tmp 0) (.const (.int .i64 0))) none,
       .run (.load 3 (.tmp 0)) none,
       .run (.build 30 #[(0, (.const (.int .u8 2))), (1, (.tmp 3)), (2, (.tmp 0))]) none,
       .run (.buildSlice 24 1 #[(0, (.tmp 0))]) none,
       .run (.call ⟨.builtin .append, #[(.tmp 6), (.tmp 0)], #[24, 24]⟩) none] [(10, 0)]) (
     .seq (
     .seq (
     .reg [.run (.assign (.const (.int .i64 0))) none] [(15, 0)]) (
     .block 8 (
      .loop (
       .seq (
       .seq (
       .reg [.get 15,
         .get 8,
         .run (.call ⟨.builtin .len, #[(.tmp 0)], #[22]⟩) none,
         .run (.binOp .lss 3 (.tmp 2) (.tmp 0) 3) none] [(92, 0)]) (
       .cond (.tmp 92) (
         .skip) (
         .exit 8))) (
       .seq (
       .block 9 (
        .seq (
        .reg [.get 8,
          .get 15,
          .run (.indexAddr 22 (.tmp 1) (.tmp 0)) none,
          .run (.load 3 (.tmp 0)) none,
          .get 7,
          .run (.indexAddr 22 (.tmp 0) (.const (.int .i64 0))) none,
          .run (.load 3 (.tmp 0)) none,
          .run (.binOp .eql 3 (.tmp 3) (.tmp 0) 3) none] [(102, 0)]) (
        .cond (.tmp 102) (
          .reg [.get 8,
            .get 15,
            .get 2,
            .run (.indexAddr 22 (.tmp 2) (.tmp 1)) none,
            .run (.store 3 (.tmp 0) (.tmp 1)) none] []) (
          .skip)))) (
       .reg [.get 15,
         .run (.binOp .add 3 (.tmp 0) (.const (.int .i64 1)) 3) none] [(15, 0)])))))) (
     .exit 3))) (
     .skip))) (
   .seq (
   .reg [.get 10,
     .get 7,
     .get 11,
     .run (.indexAddr 22 (.tmp 1) (.tmp 0)) none,
     .run (.load 3 (.tmp 0)) none,
     .get 8,
     .get 11,
     .run (.indexAddr 22 (.tmp 1) (.tmp 0)) none,
     .run (.load 3 (.tmp 0)) none,
     .run (.build 30 #[(0, (.const (.int .u8 2))), (1, (.tmp 4)), (2, (.tmp 0))]) none,
     .run (.buildSlice 24 1 #[(0, (.tmp 0))]) none,
     .run (.call ⟨.builtin .append, #[(.tmp 10), (.tmp 0)], #[24, 24]⟩) none] [(10, 0)]) (
   .seq (
   .rega [.run (.buildSlice 22 0 #[]) none,
     .get 7,
     .get 11,
     .run (.slice 22 (.tmp 1) none (some (.tmp 0)) none) none,
     .get 7,
     .get 11,
     .run (.binOp .add 3 (.tmp 0) (.const (.int .i64 1)) 3) none,
     .run (.slice 22 (.tmp 2) (some (.tmp 0)) none none) none,
     .run (.call ⟨.builtin .append, #[(.tmp 7), (.tmp 4)], #[22, 22]⟩) none,
     .run (.call ⟨.builtin .append, #[(.tmp 0), (.tmp 1)], #[22, 22]⟩) none] [(7, 0)] 10 [⟨.slice 22 (.tmp 5) (some (.tmp 3)) none none, none, 7, 9⟩]) (
   .rega [.run (.buildSlice 22 0 #[]) none,
     .get 8,
     .get 11,
     .run (.slice 22 (.tmp 1) none (some (.tmp 0)) none) none,
     .get 8,
     .get 11,
     .run (.binOp .add 3 (.tmp 0) (.const (.int .i64 1)) 3) none,
     .run (.slice 22 (.tmp 2) (some (.tmp 0)) none none) none,
     .run (.call ⟨.builtin .append, #[(.tmp 7), (.tmp 4)], #[22, 22]⟩) none,
     .run (.call ⟨.builtin .append, #[(.tmp 0), (.tmp 1)], #[22, 22]⟩) none] [(8, 0)] 10 [⟨.slice 22 (.tmp 5) (some (.tmp 3)) none none, none, 7, 9⟩])))))))))) (
.seq (
.reg [.get 10] [(6, 0)]) (
.ret))))))
theorem fn_ref28_row : V.F 12 = some Try.f12 := by kernel_rfl
theorem is_ref28_row : (V.F 12).isSome = true := by rw [fn_ref28_row]; rfl
noncomputable def c_ref28_row : Code := match Try.f12.body with
  | some c => c
  | none => .skip
theorem b_ref28_row : Try.f12.body = some c_ref28_row := rfl
theorem pc_ref28_row : pcOf V Try.f12.ntmps (some (liveOf Try.f12 c_ref28_row)) c_ref28_row = some P_ref28_row := by kernel_rfl
theorem Lc.ref28_row {O : Orc} {vs : List Value} {H : AH} {R : Value → AH → Prop} (ho : O 12 vs H = none) (hlen : vs.length ≤ Try.f12.ntmps) (hlive : (List.range vs.length).all (isLive (some (liveOf Try.f12 c_ref28_row))) = true)
    (h : WP V O (some (liveOf Try.f12 c_ref28_row)) Try.f12.ntmps P_ref28_row (initL vs 0) H fun e l H' => (e = .normal ∨ e = .ret) ∧ ∃ rs, resL V l H' Try.f12.results.toList = some rs ∧ R (resOf rs) H') : ∃ v H', Lc V O 12 vs H v H' ∧ R v H' :=
  Lc.fnP ho fn_ref28_row b_ref28_row pc_ref28_row hlen hlive h
/- slices.DeleteFunc[[]bobbin/phis.move,bobbin/phis.move] -/
abbrev F_slices_DeleteFunc_s_phis_move_phis_move : FuncId := 13
def P_slices_DeleteFunc_s_phis_move_phis_move : PC :=
.seq (
.reg [.run (.assign (.const (.slice none 0 0))) none] [(4, 0)]) (
.seq (
.reg [.get 0,
  .get 1,
  .run (.call ⟨.value (.func 16), #[(.tmp 1), (.tmp 0)], #[38, 44]⟩) none] [(5, 0)]) (
.seq (
.seq (
.reg [.get 5,
  .run (.binOp .eql 3 (.tmp 0) (.const (.int .i64 (-1))) 3) none] [(12, 0)]) (
.cond (.tmp 12) (
  .seq (
  .reg [.get 0] [(4, 0)]) (
  .ret)) (
  .skip))) (
.seq (
.seq (
.reg [.get 5,
  .run (.binOp .add 3 (.tmp 0) (.const (.int .i64 1)) 3) none] [(6, 0)]) (
.block 0 (
 .loop (
  .seq (
  .seq (
  .reg [.get 6,
    .get 0,
    .run (.call ⟨.builtin .len, #[(.tmp 0)], #[38]⟩) none,
    .run (.binOp .lss 3 (.tmp 2) (.tmp 0) 3) none] [(19, 0)]) (
  .cond (.tmp 19) (
    .skip) (
    .exit 0))) (
  .seq (
  .block 1 (
   .seq (
   .reg [.get 0,
     .get 6,
     .run (.indexAddr 38 (.tmp 1) (.tmp 0)) none,
     .run (.load 40 (.tmp 0)) none,
     .run (.alloc 40) none,
     .run (.store 40 (.tmp 0) (.tmp 1)) none] [(7, 1)]) (
   .seq (
   .reg [.get 1,
     .run (.load 40 (.tmp (far + 7))) none,
     .run (.call ⟨.value (.tmp 1), #[(.tmp 0)], #[40]⟩) none,
     .run (.unOp .not 4 (.tmp 0)) none] [(29, 0)]) (
   .cond (.tmp 29) (
     .seq (
     .reg [.get 0,
       .get 5,
       .run (.load 40 (.tmp (far + 7))) none,
       .run (.indexAddr 38 (.tmp 2) (.tmp 1)) none,
       .run (.store 40 (.tmp 0) (.tmp 1)) none] []) (
     .reg [.get 5,
       .run (.binOp .add 3 (.tmp 0) (.const (.int .i64 1)) 3) none] [(5, 0)])) (
     .skip))))) (
  .reg [.get 6,
    .run (.binOp .add 3 (.tmp 0) (.const (.int .i64 1)) 3) none] [(6, 0)])))))) (
.seq (
.reg [.get 0,
  .get 5,
  .run (.slice 38 (.tmp 1) (some (.tmp 0)) none none) none,
  .run (.call ⟨.builtin .clear, #[(.tmp 0)], #[38]⟩) none] []) (
.seq (
.reg [.get 0,
  .get 5,
  .run (.slice 38 (.tmp 1) none (some (.tmp 0)) none) none] [(4, 0)]) (
.ret))))))
theorem fn_slices_DeleteFunc_s_phis_move_phis_move : V.F 13 = some Try.f13 := by kernel_rfl
theorem is_slices_DeleteFunc_s_phis_move_phis_move : (V.F 13).isSome = true := by rw [fn_slices_DeleteFunc_s_phis_move_phis_move]; rfl
noncomputable def c_slices_DeleteFunc_s_phis_move_phis_move : Code := match Try.f13.body with
  | some c => c
  | none => .skip
theorem b_slices_DeleteFunc_s_phis_move_phis_move : Try.f13.body = some c_slices_DeleteFunc_s_phis_move_phis_move := rfl
theorem pc_slices_DeleteFunc_s_phis_move_phis_move : pcOf V Try.f13.ntmps (some (liveOf Try.f13 c_slices_DeleteFunc_s_phis_move_phis_move)) c_slices_DeleteFunc_s_phis_move_phis_move = some P_slices_DeleteFunc_s_phis_move_phis_move := by kernel_rfl
theorem Lc.slices_DeleteFunc_s_phis_move_phis_move {O : Orc} {vs : List Value} {H : AH} {R : Value → AH → Prop} (ho : O 13 vs H = none) (hlen : vs.length ≤ Try.f13.ntmps) (hlive : (List.range vs.length).all (isLive (some (liveOf Try.f13 c_slices_DeleteFunc_s_phis_move_phis_move))) = true)
    (h : WP V O (some (liveOf Try.f13 c_slices_DeleteFunc_s_phis_move_phis_move)) Try.f13.ntmps P_slices_DeleteFunc_s_phis_move_phis_move (initL vs 0) H fun e l H' => (e = .normal ∨ e = .ret) ∧ ∃ rs, resL V l H' Try.f13.results.toList = some rs ∧ R (resOf rs) H') : ∃ v H', Lc V O 13 vs H v H' ∧ R v H' :=
  Lc.fnP ho fn_slices_DeleteFunc_s_phis_move_phis_move b_slices_DeleteFunc_s_phis_move_phis_move pc_slices_DeleteFunc_s_phis_move_phis_move hlen hlive h
/- bobbin/phis.rows$1 -/
abbrev F_phis_rows_q1 : FuncId := 14
def P_phis_rows_q1 : PC :=
.seq (
.reg [.run (.box 40 (.tmp (far + 0))) none,
  .run (.assign (.const (.bool false))) none] [(2, 0), (1, 1)]) (
.seq (
.reg [.run (.fieldAddr 40 (.tmp (far + 1)) 0) none,
  .run (.load 3 (.tmp 0)) none,
  .run (.fieldAddr 40 (.tmp (far + 1)) 1) none,
  .run (.load 3 (.tmp 0)) none,
  .run (.binOp .eql 3 (.tmp 2) (.tmp 0) 3) none] [(2, 0)]) (
.ret))
theorem fn_phis_rows_q1 : V.F 14 = some Try.f14 := by kernel_rfl
theorem is_phis_rows_q1 : (V.F 14).isSome = true := by rw [fn_phis_rows_q1]; rfl
noncomputable def c_phis_rows_q1 : Code := match Try.f14.body with
  | some c => c
  | none => .skip
theorem b_phis_rows_q1 : Try.f14.body = some c_phis_rows_q1 := rfl
theorem pc_phis_rows_q1 : pcOf V Try.f14.ntmps (some (liveOf Try.f14 c_phis_rows_q1)) c_phis_rows_q1 = some P_phis_rows_q1 := by kernel_rfl
theorem Lc.phis_rows_q1 {O : Orc} {vs : List Value} {H : AH} {R : Value → AH → Prop} (ho : O 14 vs H = none) (hlen : vs.length ≤ Try.f14.ntmps) (hlive : (List.range vs.length).all (isLive (some (liveOf Try.f14 c_phis_rows_q1))) = true)
    (h : WP V O (some (liveOf Try.f14 c_phis_rows_q1)) Try.f14.ntmps P_phis_rows_q1 (initL vs 0) H fun e l H' => (e = .normal ∨ e = .ret) ∧ ∃ rs, resL V l H' Try.f14.results.toList = some rs ∧ R (resOf rs) H') : ∃ v H', Lc V O 14 vs H v H' ∧ R v H' :=
  Lc.fnP ho fn_phis_rows_q1 b_phis_rows_q1 pc_phis_rows_q1 hlen hlive h
/- bobbin/phis.rows$2 -/
abbrev F_phis_rows_q2 : FuncId := 15
def P_phis_rows_q2 : PC :=
.seq (
.reg [.run (.box 40 (.tmp (far + 0))) none] [(2, 0)]) (
.reg [.run (.load 24 (.tmp (far + 1))) none,
  .run (.fieldAddr 40 (.tmp (far + 2)) 0) none,
  .run (.load 3 (.tmp 0)) none,
  .run (.fieldAddr 40 (.tmp (far + 2)) 1) none,
  .run (.load 3 (.tmp 0)) none,
  .run (.build 30 #[(0, (.const (.int .u8 2))), (1, (.tmp 2)), (2, (.tmp 0))]) none,
  .run (.buildSlice 24 1 #[(0, (.tmp 0))]) none,
  .run (.call ⟨.builtin .append, #[(.tmp 6), (.tmp 0)], #[24, 24]⟩) none,
  .run (.store 24 (.tmp (far + 1)) (.tmp 0)) none] [])
theorem fn_phis_rows_q2 : V.F 15 = some Try.f15 := by kernel_rfl
theorem is_phis_rows_q2 : (V.F 15).isSome = true := by rw [fn_phis_rows_q2]; rfl
noncomputable def c_phis_rows_q2 : Code := match Try.f15.body with
  | some c => c
  | none => .skip
theorem b_phis_rows_q2 : Try.f15.body = some c_phis_rows_q2 := rfl
theorem pc_phis_rows_q2 : pcOf V Try.f15.ntmps (some (liveOf Try.f15 c_phis_rows_q2)) c_phis_rows_q2 = some P_phis_rows_q2 := by kernel_rfl
theorem Lc.phis_rows_q2 {O : Orc} {vs : List Value} {H : AH} {R : Value → AH → Prop} (ho : O 15 vs H = none) (hlen : vs.length ≤ Try.f15.ntmps) (hlive : (List.range vs.length).all (isLive (some (liveOf Try.f15 c_phis_rows_q2))) = true)
    (h : WP V O (some (liveOf Try.f15 c_phis_rows_q2)) Try.f15.ntmps P_phis_rows_q2 (initL vs 0) H fun e l H' => (e = .normal ∨ e = .ret) ∧ ∃ rs, resL V l H' Try.f15.results.toList = some rs ∧ R (resOf rs) H') : ∃ v H', Lc V O 15 vs H v H' ∧ R v H' :=
  Lc.fnP ho fn_phis_rows_q2 b_phis_rows_q2 pc_phis_rows_q2 hlen hlive h
/- slices.IndexFunc[[]bobbin/phis.move,bobbin/phis.move] -/
abbrev F_slices_IndexFunc_s_phis_move_phis_move : FuncId := 16
def P_slices_IndexFunc_s_phis_move_phis_move : PC :=
.seq (
.reg [.run (.assign (.const (.int .i64 0))) none] [(4, 0)]) (
.seq (
.seq (
.reg [.get 0,
  .run (.call ⟨.builtin .len, #[(.tmp 0)], #[38]⟩) none,
  .run (.move (.const (.int .i64 0))) none] [(8, 0), (7, 1)]) (
.block 0 (
 .loop (
  .seq (
  .reg [.run (.binOp .lss 3 (.tmp (far + 8)) (.tmp (far + 7)) 3) none] [(9, 0)]) (
  .seq (
  .cond (.tmp 9) (
    .skip) (
    .exit 0)) (
  .seq (
  .block 1 (
   .seq (
   .reg [.get 8] [(5, 0)]) (
   .seq (
   .reg [.get 1,
     .get 0,
     .get 5,
     .run (.indexAddr 38 (.tmp 1) (.tmp 0)) none,
     .run (.load 40 (.tmp 0)) none,
     .run (.call ⟨.value (.tmp 4), #[(.tmp 0)], #[40]⟩) none] [(16, 0)]) (
   .cond (.tmp 16) (
     .seq (
     .reg [.get 5] [(4, 0)]) (
     .ret)) (
     .skip))))) (
  .reg [.run (.binOp .add 3 (.tmp (far + 8)) (.const (.int .i64 1)) 3) none] [(8, 0)]))))))) (
.seq (
.reg [.run (.assign (.const (.int .i64 (-1)))) none] [(4, 0)]) (
.ret)))
theorem fn_slices_IndexFunc_s_phis_move_phis_move : V.F 16 = some Try.f16 := by kernel_rfl
theorem is_slices_IndexFunc_s_phis_move_phis_move : (V.F 16).isSome = true := by rw [fn_slices_IndexFunc_s_phis_move_phis_move]; rfl
noncomputable def c_slices_IndexFunc_s_phis_move_phis_move : Code := match Try.f16.body with
  | some c => c
  | none => .skip
theorem b_slices_IndexFunc_s_phis_move_phis_move : Try.f16.body = some c_slices_IndexFunc_s_phis_move_phis_move := rfl
theorem pc_slices_IndexFunc_s_phis_move_phis_move : pcOf V Try.f16.ntmps (some (liveOf Try.f16 c_slices_IndexFunc_s_phis_move_phis_move)) c_slices_IndexFunc_s_phis_move_phis_move = some P_slices_IndexFunc_s_phis_move_phis_move := by kernel_rfl
theorem Lc.slices_IndexFunc_s_phis_move_phis_move {O : Orc} {vs : List Value} {H : AH} {R : Value → AH → Prop} (ho : O 16 vs H = none) (hlen : vs.length ≤ Try.f16.ntmps) (hlive : (List.range vs.length).all (isLive (some (liveOf Try.f16 c_slices_IndexFunc_s_phis_move_phis_move))) = true)
    (h : WP V O (some (liveOf Try.f16 c_slices_IndexFunc_s_phis_move_phis_move)) Try.f16.ntmps P_slices_IndexFunc_s_phis_move_phis_move (initL vs 0) H fun e l H' => (e = .normal ∨ e = .ret) ∧ ∃ rs, resL V l H' Try.f16.results.toList = some rs ∧ R (resOf rs) H') : ∃ v H', Lc V O 16 vs H v H' ∧ R v H' :=
  Lc.fnP ho fn_slices_IndexFunc_s_phis_move_phis_move b_slices_IndexFunc_s_phis_move_phis_move pc_slices_IndexFunc_s_phis_move_phis_move hlen hlive h
/- bobbin/phis.rows$3 -/
abbrev F_phis_rows_q3 : FuncId := 17
def P_phis_rows_q3 : PC :=
.seq (
.reg [.run (.box 40 (.tmp (far + 0))) none,
  .run (.assign (.const (.bool false))) none] [(3, 0), (2, 1)]) (
.seq (
.reg [.run (.load 37 (.tmp (far + 1))) none,
  .run (.fieldAddr 40 (.tmp (far + 2)) 0) none,
  .run (.load 3 (.tmp 0)) none,
  .run (.lookup 37 (.tmp 2) (.tmp 0) false) none,
  .run (.binOp .eql 3 (.tmp 0) (.const (.int .i64 0)) 3) none] [(3, 0)]) (
.ret))
theorem fn_phis_rows_q3 : V.F 17 = some Try.f17 := by kernel_rfl
theorem is_phis_rows_q3 : (V.F 17).isSome = true := by rw [fn_phis_rows_q3]; rfl
noncomputable def c_phis_rows_q3 : Code := match Try.f17.body with
  | some c => c
  | none => .skip
theorem b_phis_rows_q3 : Try.f17.body = some c_phis_rows_q3 := rfl
theorem pc_phis_rows_q3 : pcOf V Try.f17.ntmps (some (liveOf Try.f17 c_phis_rows_q3)) c_phis_rows_q3 = some P_phis_rows_q3 := by kernel_rfl
theorem Lc.phis_rows_q3 {O : Orc} {vs : List Value} {H : AH} {R : Value → AH → Prop} (ho : O 17 vs H = none) (hlen : vs.length ≤ Try.f17.ntmps) (hlive : (List.range vs.length).all (isLive (some (liveOf Try.f17 c_phis_rows_q3))) = true)
    (h : WP V O (some (liveOf Try.f17 c_phis_rows_q3)) Try.f17.ntmps P_phis_rows_q3 (initL vs 0) H fun e l H' => (e = .normal ∨ e = .ret) ∧ ∃ rs, resL V l H' Try.f17.results.toList = some rs ∧ R (resOf rs) H') : ∃ v H', Lc V O 17 vs H v H' ∧ R v H' :=
  Lc.fnP ho fn_phis_rows_q3 b_phis_rows_q3 pc_phis_rows_q3 hlen hlive h
/- slices.Delete[[]bobbin/phis.move,bobbin/phis.move] -/
abbrev F_slices_Delete_s_phis_move_phis_move : FuncId := 18
def P_slices_Delete_s_phis_move_phis_move : PC :=
.seq (
.reg [.run (.assign (.const (.slice none 0 0))) none] [(6, 0)]) (
.seq (
.reg [.get 0,
  .get 1,
  .get 2,
  .get 0,
  .run (.call ⟨.builtin .len, #[(.tmp 0)], #[38]⟩) none,
  .run (.slice 38 (.tmp 4) (some (.tmp 3)) (some (.tmp 2)) (some (.tmp 0))) none] []) (
.seq (
.seq (
.reg [.get 1,
  .get 2,
  .run (.binOp .eql 3 (.tmp 1) (.tmp 0) 3) none] [(16, 0)]) (
.cond (.tmp 16) (
  .seq (
  .reg [.get 0] [(6, 0)]) (
  .ret)) (
  .skip))) (
.seq (
.reg [.get 0,
  .run (.call ⟨.builtin .len, #[(.tmp 0)], #[38]⟩) none] [(7, 0)]) (
.seq (
.reg [.get 0,
  .get 1,
  .run (.slice 38 (.tmp 1) none (some (.tmp 0)) none) none,
  .get 0,
  .get 2,
  .run (.slice 38 (.tmp 1) (some (.tmp 0)) none none) none,
  .run (.call ⟨.builtin .append, #[(.tmp 3), (.tmp 0)], #[38, 38]⟩) none] [(0, 0)]) (
.seq (
.reg [.get 0,
  .get 0,
  .run (.call ⟨.builtin .len, #[(.tmp 0)], #[38]⟩) none,
  .get 7,
  .run (.slice 38 (.tmp 3) (some (.tmp 1)) (some (.tmp 0)) none) none,
  .run (.call ⟨.builtin .clear, #[(.tmp 0)], #[38]⟩) none] []) (
.seq (
.reg [.get 0] [(6, 0)]) (
.ret)))))))
theorem fn_slices_Delete_s_phis_move_phis_move : V.F 18 = some Try.f18 := by kernel_rfl
theorem is_slices_Delete_s_phis_move_phis_move : (V.F 18).isSome = true := by rw [fn_slices_Delete_s_phis_move_phis_move]; rfl
noncomputable def c_slices_Delete_s_phis_move_phis_move : Code := match Try.f18.body with
  | some c => c
  | none => .skip
theorem b_slices_Delete_s_phis_move_phis_move : Try.f18.body = some c_slices_Delete_s_phis_move_phis_move := rfl
theorem pc_slices_Delete_s_phis_move_phis_move : pcOf V Try.f18.ntmps (some (liveOf Try.f18 c_slices_Delete_s_phis_move_phis_move)) c_slices_Delete_s_phis_move_phis_move = some P_slices_Delete_s_phis_move_phis_move := by kernel_rfl
theorem Lc.slices_Delete_s_phis_move_phis_move {O : Orc} {vs : List Value} {H : AH} {R : Value → AH → Prop} (ho : O 18 vs H = none) (hlen : vs.length ≤ Try.f18.ntmps) (hlive : (List.range vs.length).all (isLive (some (liveOf Try.f18 c_slices_Delete_s_phis_move_phis_move))) = true)
    (h : WP V O (some (liveOf Try.f18 c_slices_Delete_s_phis_move_phis_move)) Try.f18.ntmps P_slices_Delete_s_phis_move_phis_move (initL vs 0) H fun e l H' => (e = .normal ∨ e = .ret) ∧ ∃ rs, resL V l H' Try.f18.results.toList = some rs ∧ R (resOf rs) H') : ∃ v H', Lc V O 18 vs H v H' ∧ R v H' :=
  Lc.fnP ho fn_slices_Delete_s_phis_move_phis_move b_slices_Delete_s_phis_move_phis_move pc_slices_Delete_s_phis_move_phis_move hlen hlive h
end Go.Proofs.Ytalhmpcllfhllaa.U

/-
  Contracts of phis: closures and what slices has for moves.
-/
namespace Go.Proofs.Ytalhmpcllfhllaa.U
open Go Go.Ev
attribute [local irreducible] WL WP WH W
variable {O : Orc} {H : AH}
abbrev Mv := Int × Int
def mvC (m : Mv) : List Value := [.int .i64 m.1, .int .i64 m.2]
def mvV (m : Mv) : Value := .agg #[.int .i64 m.1, .int .i64 m.2]
def mvs (l : List Mv) : List Value := l.flatMap mvC
theorem mvs_len (l : List Mv) : (mvs l).length = l.length * 2 := by
  induction l with
  | nil => rfl
  | cons a l ih => rw [mvs, List.flatMap_cons, List.length_append, ← mvs, ih]; simp [mvC]; omega
theorem mvs_app (a b : List Mv) : mvs (a ++ b) = mvs a ++ mvs b := List.flatMap_append
theorem mvs_drop : ∀ (l : List Mv) (i : Nat), (mvs l).drop (i * 2) = mvs (l.drop i)
  | [], i => by simp [mvs]
  | a :: l, 0 => rfl
  | a :: l, i + 1 => by
    have e : (i + 1) * 2 = i * 2 + 2 := by omega
    rw [e, List.drop_succ_cons, ← mvs_drop l i]; rfl
theorem mvs_take : ∀ (l : List Mv) (i : Nat), (mvs l).take (i * 2) = mvs (l.take i)
  | [], i => by simp [mvs]
  | a :: l, 0 => rfl
  | a :: l, i + 1 => by
    have e : (i + 1) * 2 = i * 2 + 2 := by omega
    have e2 : mvs ((a :: l).take (i + 1)) = mvC a ++ mvs (l.take i) := rfl
    rw [e, e2, ← mvs_take l i]; rfl
theorem mv_at {l : List Mv} {i : Nat} (h : i < l.length) : ((mvs l).drop (i * 2)).take 2 = mvC l[i] := by
  rw [mvs_drop, List.drop_eq_getElem_cons h]; rfl
theorem mvs_set {l : List Mv} {i : Nat} (h : i < l.length) (m : Mv) : splice (mvs l) (i * 2 + 0) (mvC m) = mvs (l.set i m) := by
  unfold splice
  rw [Nat.add_zero, mvs_take, show i * 2 + (mvC m).length = (i + 1) * 2 by simp [mvC]; omega, mvs_drop, List.set_eq_take_append_cons_drop, if_pos h, mvs_app, List.append_assoc]
  rfl
theorem sl_mv {v : Value} {l : List Mv} (h : Sl H v 2 l.length (mvs l)) {i : Nat} (hi : i < l.length) :
    ∃ b off, aIndex V.E 38 v (.int .i64 i) = some (.pointer (some ⟨b, off, none⟩)) ∧ aLoad V.E H 40 (.pointer (some ⟨b, off, none⟩)) = some (mvV l[i]) ∧ aLoad V.E H 3 (.pointer (some ⟨b, off + 0, none⟩)) = some (.int .i64 l[i].1) ∧ aLoad V.E H 3 (.pointer (some ⟨b, off + 1, none⟩)) = some (.int .i64 l[i].2) := by
  obtain ⟨b, off, ha, hr⟩ := h.at E_s_phis_move E_phis_move te_phis_move_size (kd := .i64) (i := i) (by omega) (by omega)
  rw [show (i : Int).toNat = i from rfl, mv_at hi] at hr
  exact ⟨b, off, ha, hr.loadN E_phis_move te_phis_move_agg te_phis_move_size, (hr.at1 (i := 0) rfl).load1 E_int rfl, (hr.at1 (i := 1) rfl).load1 E_int rfl⟩
theorem box_mv (H : AH) (m : Mv) : Rd (H.alloc (.row 40 (mvC m) .exact 0 0)) H.next 0 2 (mvC m) := Rd.new rfl
theorem box_ld {H : AH} {b : Nat} {m : Mv} (h : Rd H b 0 2 (mvC m)) : aLoad V.E H 3 (.pointer (some ⟨b, 0 + 0, none⟩)) = some (.int .i64 m.1) ∧ aLoad V.E H 3 (.pointer (some ⟨b, 0 + 1, none⟩)) = some (.int .i64 m.2) :=
  ⟨(h.at1 (i := 0) rfl).load1 E_int rfl, (h.at1 (i := 1) rfl).load1 E_int rfl⟩
theorem own_c (hO : ∀ f vs H, f ≠ 6 → O f vs H = none) (m : Mv) : ∃ H', Lc V O F_phis_rows_q1 [mvV m] H (.bool (m.1 == m.2)) H' ∧ Fr H H' := by
  have key : ∃ u H', Lc V O F_phis_rows_q1 [mvV m] H u H' ∧ (u = .bool (m.1 == m.2) ∧ Fr H H') := by
    refine Lc.phis_rows_q1 (R := fun u H' => u = .bool (m.1 == m.2) ∧ Fr H H') (hO _ _ _ (by decide)) (Nat.le_of_ble_eq_true rfl) (by kernel_rfl) ?_
    unfold P_phis_rows_q1
    refine zSeq ?_
    refine zReg ?_
    refine WL.op (o := .box 40 _) (v := .pointer (some ⟨H.next, 0, none⟩)) (H1 := H.alloc (.row 40 (mvC m) .exact 0 0)) rfl ?_
    obtain ⟨hl0, hl1⟩ := box_ld (box_mv H m)
    (repeat first | refine zSeq ?_ | refine zReg ?_ | refine zBlk ?_ | refine zSkp ?_ | refine zExt ?_ | refine zNil rfl ?_ | refine zGet rfl ?_ | refine zOn rfl rfl ?_ | refine zOff rfl rfl ?_ | refine zU rfl ?_ | refine zOn rfl (by assumption) ?_ | refine zOff rfl (by assumption) ?_ | refine zMov rfl ?_ | refine zAsg rfl ?_ | refine zXtr rfl ?_ | refine zPT rfl rfl rfl ?_ | refine zPF rfl rfl rfl ?_ | refine zPT rfl (by assumption) rfl ?_ | refine zPF rfl (by assumption) rfl ?_ | refine zLss rfl rfl ?_ | refine zLeq rfl rfl ?_ | refine zGtr rfl rfl ?_ | refine zGeq rfl rfl ?_ | refine zEql rfl rfl ?_ | refine zNeq rfl rfl ?_ | refine zAdd rfl rfl (by omega) ?_ | refine zSub rfl rfl (by omega) ?_ | refine zLenS rfl E_string ?_ | refine zNot rfl ?_ | refine zEqS rfl rfl ?_ | refine zNeS rfl rfl ?_ | refine zT rfl rfl ?_ | refine zF rfl rfl ?_ | refine zT rfl (by assumption) ?_ | refine zF rfl (by assumption) ?_ | refine zIdx rfl rfl ha ?_ | refine zFld (f := 0) rfl O_phis_move_to ?_ | refine zFld (f := 1) rfl O_phis_move_from ?_ | refine zLd (ty := 3) rfl hl0 ?_ | refine zLd (ty := 3) rfl hl1 ?_ | refine zLd (ty := 40) rfl hlm ?_ | refine zLen rfl (hv.len E_s_phis_move) ?_)
    exact WP.ret ⟨.inr rfl, _, rfl, rfl, .alloc _ _⟩
  obtain ⟨u, H', h, rfl, hk⟩ := key
  exact ⟨H', h, hk⟩
theorem unread_c (hO : ∀ f vs H, f ≠ 6 → O f vs H = none) (m : Mv) {b c : Nat} {f : Int → Option Value} (hb : Rd H b 0 1 [.map (some c)]) (hm : MI H c f) {k : Int} (hf : (f m.1).getD (.int .i64 0) = .int .i64 k) :
    ∃ H', Lc V O F_phis_rows_q3 [mvV m, .pointer (some ⟨b, 0, none⟩)] H (.bool (k == 0)) H' ∧ Fr H H' := by
  have key : ∃ u H', Lc V O F_phis_rows_q3 [mvV m, .pointer (some ⟨b, 0, none⟩)] H u H' ∧ (u = .bool (k == 0) ∧ Fr H H') := by
    refine Lc.phis_rows_q3 (R := fun u H' => u = .bool (k == 0) ∧ Fr H H') (hO _ _ _ (by decide)) (Nat.le_of_ble_eq_true rfl) (by kernel_rfl) ?_
    unfold P_phis_rows_q3
    refine zSeq ?_
    refine zReg ?_
    refine WL.op (o := .box 40 _) (v := .pointer (some ⟨H.next, 0, none⟩)) (H1 := H.alloc (.row 40 (mvC m) .exact 0 0)) rfl ?_
    obtain ⟨hl0, hl1⟩ := box_ld (box_mv H m)
    have hfr := Fr.alloc H (.row 40 (mvC m) .exact 0 0)
    have hb' := hb.fr hfr
    have hm' := hm.fr hfr
    (repeat first | refine zSeq ?_ | refine zReg ?_ | refine zBlk ?_ | refine zSkp ?_ | refine zExt ?_ | refine zNil rfl ?_ | refine zGet rfl ?_ | refine zOn rfl rfl ?_ | refine zOff rfl rfl ?_ | refine zU rfl ?_ | refine zOn rfl (by assumption) ?_ | refine zOff rfl (by assumption) ?_ | refine zMov rfl ?_ | refine zAsg rfl ?_ | refine zXtr rfl ?_ | refine zPT rfl rfl rfl ?_ | refine zPF rfl rfl rfl ?_ | refine zPT rfl (by assumption) rfl ?_ | refine zPF rfl (by assumption) rfl ?_ | refine zLss rfl rfl ?_ | refine zLeq rfl rfl ?_ | refine zGtr rfl rfl ?_ | refine zGeq rfl rfl ?_ | refine zEql rfl rfl ?_ | refine zNeq rfl rfl ?_ | refine zAdd rfl rfl (by omega) ?_ | refine zSub rfl rfl (by omega) ?_ | refine zLenS rfl E_string ?_ | refine zNot rfl ?_ | refine zEqS rfl rfl ?_ | refine zNeS rfl rfl ?_ | refine zT rfl rfl ?_ | refine zF rfl rfl ?_ | refine zT rfl (by assumption) ?_ | refine zF rfl (by assumption) ?_ | refine zIdx rfl rfl ha ?_ | refine zFld (f := 0) rfl O_phis_move_to ?_ | refine zFld (f := 1) rfl O_phis_move_from ?_ | refine zLd (ty := 3) rfl hl0 ?_ | refine zLd (ty := 3) rfl hl1 ?_ | refine zLd (ty := 40) rfl hlm ?_ | refine zLen rfl (hv.len E_s_phis_move) ?_)
    refine zLd (ty := 37) rfl (hb'.load1 E_map_int_int rfl) ?_
    (repeat first | refine zSeq ?_ | refine zReg ?_ | refine zBlk ?_ | refine zSkp ?_ | refine zExt ?_ | refine zNil rfl ?_ | refine zGet rfl ?_ | refine zOn rfl rfl ?_ | refine zOff rfl rfl ?_ | refine zU rfl ?_ | refine zOn rfl (by assumption) ?_ | refine zOff rfl (by assumption) ?_ | refine zMov rfl ?_ | refine zAsg rfl ?_ | refine zXtr rfl ?_ | refine zPT rfl rfl rfl ?_ | refine zPF rfl rfl rfl ?_ | refine zPT rfl (by assumption) rfl ?_ | refine zPF rfl (by assumption) rfl ?_ | refine zLss rfl rfl ?_ | refine zLeq rfl rfl ?_ | refine zGtr rfl rfl ?_ | refine zGeq rfl rfl ?_ | refine zEql rfl rfl ?_ | refine zNeq rfl rfl ?_ | refine zAdd rfl rfl (by omega) ?_ | refine zSub rfl rfl (by omega) ?_ | refine zLenS rfl E_string ?_ | refine zNot rfl ?_ | refine zEqS rfl rfl ?_ | refine zNeS rfl rfl ?_ | refine zT rfl rfl ?_ | refine zF rfl rfl ?_ | refine zT rfl (by assumption) ?_ | refine zF rfl (by assumption) ?_ | refine zIdx rfl rfl ha ?_ | refine zFld (f := 0) rfl O_phis_move_to ?_ | refine zFld (f := 1) rfl O_phis_move_from ?_ | refine zLd (ty := 3) rfl hl0 ?_ | refine zLd (ty := 3) rfl hl1 ?_ | refine zLd (ty := 40) rfl hlm ?_ | refine zLen rfl (hv.len E_s_phis_move) ?_)
    have hg := hm'.get E_map_int_int E_int E_int rfl m.1
    rw [show (f m.1).getD (TI.zv ⟨.int .i64, 1, 8, .int .i64 0⟩) = .int .i64 k from hf] at hg
    refine WL.op (op_lookup rfl rfl hg) ?_
    (repeat first | refine zSeq ?_ | refine zReg ?_ | refine zBlk ?_ | refine zSkp ?_ | refine zExt ?_ | refine zNil rfl ?_ | refine zGet rfl ?_ | refine zOn rfl rfl ?_ | refine zOff rfl rfl ?_ | refine zU rfl ?_ | refine zOn rfl (by assumption) ?_ | refine zOff rfl (by assumption) ?_ | refine zMov rfl ?_ | refine zAsg rfl ?_ | refine zXtr rfl ?_ | refine zPT rfl rfl rfl ?_ | refine zPF rfl rfl rfl ?_ | refine zPT rfl (by assumption) rfl ?_ | refine zPF rfl (by assumption) rfl ?_ | refine zLss rfl rfl ?_ | refine zLeq rfl rfl ?_ | refine zGtr rfl rfl ?_ | refine zGeq rfl rfl ?_ | refine zEql rfl rfl ?_ | refine zNeq rfl rfl ?_ | refine zAdd rfl rfl (by omega) ?_ | refine zSub rfl rfl (by omega) ?_ | refine zLenS rfl E_string ?_ | refine zNot rfl ?_ | refine zEqS rfl rfl ?_ | refine zNeS rfl rfl ?_ | refine zT rfl rfl ?_ | refine zF rfl rfl ?_ | refine zT rfl (by assumption) ?_ | refine zF rfl (by assumption) ?_ | refine zIdx rfl rfl ha ?_ | refine zFld (f := 0) rfl O_phis_move_to ?_ | refine zFld (f := 1) rfl O_phis_move_from ?_ | refine zLd (ty := 3) rfl hl0 ?_ | refine zLd (ty := 3) rfl hl1 ?_ | refine zLd (ty := 40) rfl hlm ?_ | refine zLen rfl (hv.len E_s_phis_move) ?_)
    exact WP.ret ⟨.inr rfl, _, rfl, rfl, hfr⟩
  obtain ⟨u, H', h, rfl, hk⟩ := key
  exact ⟨H', h, hk⟩
def idxI (p : Mv → Bool) (l : List Mv) : Int := match l.findIdx? p with
  | some i => i
  | none => -1
theorem idxI_none {p : Mv → Bool} {l : List Mv} (h : ∀ j (h : j < l.length), p l[j] = false) : idxI p l = -1 := by
  have : l.findIdx? p = none := by
    rw [List.findIdx?_eq_none_iff]
    intro x hx
    obtain ⟨j, hj, rfl⟩ := List.mem_iff_getElem.1 hx
    exact h j hj
  rw [idxI, this]
theorem idxI_some {p : Mv → Bool} {l : List Mv} {i : Nat} (h : i < l.length) (hp : p l[i] = true) (hn : ∀ j (hj : j < i), p (l[j]'(Nat.lt_trans hj h)) = false) : idxI p l = i := by
  have : l.findIdx? p = some i := by
    rw [List.findIdx?_eq_some_iff_getElem]
    exact ⟨h, hp, fun j hj => by simp [hn j hj]⟩
  rw [idxI, this]
theorem indexFunc_c (hO : ∀ f vs H, f ≠ 6 → O f vs H = none) {v : Value} {l : List Mv} (hv : Sl H v 2 l.length (mvs l)) {f : FuncId} {cap : Array Value} {p : Mv → Bool} (hf : (V.F f).isSome = true) (hp : ∀ m ∈ l, ∀ H1, Fr H H1 → ∃ H2, Lc V O f ([mvV m] ++ cap.toList) H1 (.bool (p m)) H2 ∧ Fr H1 H2) :
    ∃ H', Lc V O F_slices_IndexFunc_s_phis_move_phis_move [v, .func (.func f) #[] cap] H (.int .i64 (idxI p l)) H' ∧ Fr H H' := by
  have hlen := hv.2.1
  have key : ∃ u H', Lc V O F_slices_IndexFunc_s_phis_move_phis_move [v, .func (.func f) #[] cap] H u H' ∧ (u = .int .i64 (idxI p l) ∧ Fr H H') := by
    refine Lc.slices_IndexFunc_s_phis_move_phis_move (R := fun u H' => u = .int .i64 (idxI p l) ∧ Fr H H') (hO _ _ _ (by decide)) (Nat.le_of_ble_eq_true rfl) (by kernel_rfl) ?_
    unfold P_slices_IndexFunc_s_phis_move_phis_move
    (repeat first | refine zSeq ?_ | refine zReg ?_ | refine zBlk ?_ | refine zSkp ?_ | refine zExt ?_ | refine zNil rfl ?_ | refine zGet rfl ?_ | refine zOn rfl rfl ?_ | refine zOff rfl rfl ?_ | refine zU rfl ?_ | refine zOn rfl (by assumption) ?_ | refine zOff rfl (by assumption) ?_ | refine zMov rfl ?_ | refine zAsg rfl ?_ | refine zXtr rfl ?_ | refine zPT rfl rfl rfl ?_ | refine zPF rfl rfl rfl ?_ | refine zPT rfl (by assumption) rfl ?_ | refine zPF rfl (by assumption) rfl ?_ | refine zLss rfl rfl ?_ | refine zLeq rfl rfl ?_ | refine zGtr rfl rfl ?_ | refine zGeq rfl rfl ?_ | refine zEql rfl rfl ?_ | refine zNeq rfl rfl ?_ | refine zAdd rfl rfl (by omega) ?_ | refine zSub rfl rfl (by omega) ?_ | refine zLenS rfl E_string ?_ | refine zNot rfl ?_ | refine zEqS rfl rfl ?_ | refine zNeS rfl rfl ?_ | refine zT rfl rfl ?_ | refine zF rfl rfl ?_ | refine zT rfl (by assumption) ?_ | refine zF rfl (by assumption) ?_ | refine zIdx rfl rfl ha ?_ | refine zFld (f := 0) rfl O_phis_move_to ?_ | refine zFld (f := 1) rfl O_phis_move_from ?_ | refine zLd (ty := 3) rfl hl0 ?_ | refine zLd (ty := 3) rfl hl1 ?_ | refine zLd (ty := 40) rfl hlm ?_ | refine zLen rfl (hv.len E_s_phis_move) ?_)
    refine WP.loopH (σ := Nat) (fun i => [(0, v), (1, .func (.func f) #[] cap), (7, .int .i64 l.length), (8, .int .i64 i)]) (fun i H' => Fr H H' ∧ i ≤ l.length ∧ ∀ j (h : j < l.length), j < i → p l[j] = false) (fun i => l.length - i) 0 ⟨.refl _, by simp, fun j _ h => absurd h (by omega)⟩ ⟨rfl, rfl, rfl, rfl, trivial⟩ ?_
    rintro i H1 ⟨hfr, hi, hn⟩
    rcases Nat.lt_or_ge i l.length with h | h
    · have hd : decide ((i : Int) < l.length) = true := decide_eq_true (by omega)
      obtain ⟨b, off, ha, hlm, _, _⟩ := sl_mv (hv.fr hfr) h
      obtain ⟨H2, hc, hf2⟩ := hp l[i] (List.getElem_mem _) H1 hfr
      (repeat first | refine zSeq ?_ | refine zReg ?_ | refine zBlk ?_ | refine zSkp ?_ | refine zExt ?_ | refine zNil rfl ?_ | refine zGet rfl ?_ | refine zOn rfl rfl ?_ | refine zOff rfl rfl ?_ | refine zU rfl ?_ | refine zOn rfl (by assumption) ?_ | refine zOff rfl (by assumption) ?_ | refine zMov rfl ?_ | refine zAsg rfl ?_ | refine zXtr rfl ?_ | refine zPT rfl rfl rfl ?_ | refine zPF rfl rfl rfl ?_ | refine zPT rfl (by assumption) rfl ?_ | refine zPF rfl (by assumption) rfl ?_ | refine zLss rfl rfl ?_ | refine zLeq rfl rfl ?_ | refine zGtr rfl rfl ?_ | refine zGeq rfl rfl ?_ | refine zEql rfl rfl ?_ | refine zNeq rfl rfl ?_ | refine zAdd rfl rfl (by omega) ?_ | refine zSub rfl rfl (by omega) ?_ | refine zLenS rfl E_string ?_ | refine zNot rfl ?_ | refine zEqS rfl rfl ?_ | refine zNeS rfl rfl ?_ | refine zT rfl rfl ?_ | refine zF rfl rfl ?_ | refine zT rfl (by assumption) ?_ | refine zF rfl (by assumption) ?_ | refine zIdx rfl rfl ha ?_ | refine zFld (f := 0) rfl O_phis_move_to ?_ | refine zFld (f := 1) rfl O_phis_move_from ?_ | refine zLd (ty := 3) rfl hl0 ?_ | refine zLd (ty := 3) rfl hl1 ?_ | refine zLd (ty := 40) rfl hlm ?_ | refine zLen rfl (hv.len E_s_phis_move) ?_)
      refine WL.call rfl rfl hf hc ?_
      cases he : p l[i]
      · (repeat first | refine zSeq ?_ | refine zReg ?_ | refine zBlk ?_ | refine zSkp ?_ | refine zExt ?_ | refine zNil rfl ?_ | refine zGet rfl ?_ | refine zOn rfl rfl ?_ | refine zOff rfl rfl ?_ | refine zU rfl ?_ | refine zOn rfl (by assumption) ?_ | refine zOff rfl (by assumption) ?_ | refine zMov rfl ?_ | refine zAsg rfl ?_ | refine zXtr rfl ?_ | refine zPT rfl rfl rfl ?_ | refine zPF rfl rfl rfl ?_ | refine zPT rfl (by assumption) rfl ?_ | refine zPF rfl (by assumption) rfl ?_ | refine zLss rfl rfl ?_ | refine zLeq rfl rfl ?_ | refine zGtr rfl rfl ?_ | refine zGeq rfl rfl ?_ | refine zEql rfl rfl ?_ | refine zNeq rfl rfl ?_ | refine zAdd rfl rfl (by omega) ?_ | refine zSub rfl rfl (by omega) ?_ | refine zLenS rfl E_string ?_ | refine zNot rfl ?_ | refine zEqS rfl rfl ?_ | refine zNeS rfl rfl ?_ | refine zT rfl rfl ?_ | refine zF rfl rfl ?_ | refine zT rfl (by assumption) ?_ | refine zF rfl (by assumption) ?_ | refine zIdx rfl rfl ha ?_ | refine zFld (f := 0) rfl O_phis_move_to ?_ | refine zFld (f := 1) rfl O_phis_move_from ?_ | refine zLd (ty := 3) rfl hl0 ?_ | refine zLd (ty := 3) rfl hl1 ?_ | refine zLd (ty := 40) rfl hlm ?_ | refine zLen rfl (hv.len E_s_phis_move) ?_)
        refine ⟨i + 1, ⟨hfr.trans hf2, by omega, fun j hj hji => ?_⟩, by omega, rfl, rfl, rfl, rfl, trivial⟩
        by_cases e : j = i
        · subst e; exact he
        · exact hn j hj (by omega)
      · (repeat first | refine zSeq ?_ | refine zReg ?_ | refine zBlk ?_ | refine zSkp ?_ | refine zExt ?_ | refine zNil rfl ?_ | refine zGet rfl ?_ | refine zOn rfl rfl ?_ | refine zOff rfl rfl ?_ | refine zU rfl ?_ | refine zOn rfl (by assumption) ?_ | refine zOff rfl (by assumption) ?_ | refine zMov rfl ?_ | refine zAsg rfl ?_ | refine zXtr rfl ?_ | refine zPT rfl rfl rfl ?_ | refine zPF rfl rfl rfl ?_ | refine zPT rfl (by assumption) rfl ?_ | refine zPF rfl (by assumption) rfl ?_ | refine zLss rfl rfl ?_ | refine zLeq rfl rfl ?_ | refine zGtr rfl rfl ?_ | refine zGeq rfl rfl ?_ | refine zEql rfl rfl ?_ | refine zNeq rfl rfl ?_ | refine zAdd rfl rfl (by omega) ?_ | refine zSub rfl rfl (by omega) ?_ | refine zLenS rfl E_string ?_ | refine zNot rfl ?_ | refine zEqS rfl rfl ?_ | refine zNeS rfl rfl ?_ | refine zT rfl rfl ?_ | refine zF rfl rfl ?_ | refine zT rfl (by assumption) ?_ | refine zF rfl (by assumption) ?_ | refine zIdx rfl rfl ha ?_ | refine zFld (f := 0) rfl O_phis_move_to ?_ | refine zFld (f := 1) rfl O_phis_move_from ?_ | refine zLd (ty := 3) rfl hl0 ?_ | refine zLd (ty := 3) rfl hl1 ?_ | refine zLd (ty := 40) rfl hlm ?_ | refine zLen rfl (hv.len E_s_phis_move) ?_)
        refine WP.ret ⟨.inr rfl, _, rfl, ?_, hfr.trans hf2⟩
        rw [idxI_some h he fun j hj => hn j (by omega) hj]; rfl
    · have hd : decide ((i : Int) < l.length) = false := decide_eq_false (by omega)
      (repeat first | refine zSeq ?_ | refine zReg ?_ | refine zBlk ?_ | refine zSkp ?_ | refine zExt ?_ | refine zNil rfl ?_ | refine zGet rfl ?_ | refine zOn rfl rfl ?_ | refine zOff rfl rfl ?_ | refine zU rfl ?_ | refine zOn rfl (by assumption) ?_ | refine zOff rfl (by assumption) ?_ | refine zMov rfl ?_ | refine zAsg rfl ?_ | refine zXtr rfl ?_ | refine zPT rfl rfl rfl ?_ | refine zPF rfl rfl rfl ?_ | refine zPT rfl (by assumption) rfl ?_ | refine zPF rfl (by assumption) rfl ?_ | refine zLss rfl rfl ?_ | refine zLeq rfl rfl ?_ | refine zGtr rfl rfl ?_ | refine zGeq rfl rfl ?_ | refine zEql rfl rfl ?_ | refine zNeq rfl rfl ?_ | refine zAdd rfl rfl (by omega) ?_ | refine zSub rfl rfl (by omega) ?_ | refine zLenS rfl E_string ?_ | refine zNot rfl ?_ | refine zEqS rfl rfl ?_ | refine zNeS rfl rfl ?_ | refine zT rfl rfl ?_ | refine zF rfl rfl ?_ | refine zT rfl (by assumption) ?_ | refine zF rfl (by assumption) ?_ | refine zIdx rfl rfl ha ?_ | refine zFld (f := 0) rfl O_phis_move_to ?_ | refine zFld (f := 1) rfl O_phis_move_from ?_ | refine zLd (ty := 3) rfl hl0 ?_ | refine zLd (ty := 3) rfl hl1 ?_ | refine zLd (ty := 40) rfl hlm ?_ | refine zLen rfl (hv.len E_s_phis_move) ?_)
      refine WP.ret ⟨.inr rfl, _, rfl, ?_, hfr⟩
      rw [idxI_none fun j hj => hn j hj (by omega)]; rfl
  obtain ⟨u, H', h, rfl, hk⟩ := key
  exact ⟨H', h, hk⟩
end Go.Proofs.Ytalhmpcllfhllaa.U

/-
  Contracts of phis: DeleteFunc and Delete.
-/
namespace Go.Proofs.Ytalhmpcllfhllaa.U
open Go Go.Ev
attribute [local irreducible] WL WP WH W
variable {O : Orc} {H : AH}
theorem zeroM : te_phis_move.zv.cells.toList = [.int .i64 0, .int .i64 0] := by kernel_rfl
theorem filter_take {p : Mv → Bool} {l : List Mv} {j : Nat} (h : j < l.length) : (l.take (j + 1)).filter p = (l.take j).filter p ++ (if p l[j] = true then [l[j]] else []) := by
  rw [List.take_add_one, List.getElem?_eq_getElem h, Option.toList_some, List.filter_append, List.filter_cons, List.filter_nil]
theorem idxI_cases (p : Mv → Bool) (l : List Mv) : (idxI p l = -1 ∧ ∀ m ∈ l, p m = false) ∨ ∃ i, ∃ h : i < l.length, idxI p l = i ∧ p l[i] = true ∧ ∀ j (hj : j < i), p (l[j]'(Nat.lt_trans hj h)) = false := by
  cases e : l.findIdx? p with
  | none => exact .inl ⟨by rw [idxI, e], fun m hm => List.findIdx?_eq_none_iff.1 e m hm⟩
  | some i =>
    obtain ⟨h, hp, hj⟩ := List.findIdx?_eq_some_iff_getElem.1 e
    exact .inr ⟨i, h, by rw [idxI, e], hp, fun j hji => by simpa using hj j hji⟩
set_option maxHeartbeats 1000000 in
theorem deleteFunc_c (hO : ∀ f vs H, f ≠ 6 → O f vs H = none) {n0 : Nat} {v : Value} {l : List Mv} {tl : List Value} {o : Option (Nat × Nat)} (hw : OwT H n0 40 2 v l.length (mvs l) tl o) {f : FuncId} {p : Mv → Bool} (hf : (V.F f).isSome = true) (hp : ∀ m H1, ∃ H2, Lc V O f [mvV m] H1 (.bool (p m)) H2 ∧ Fr H1 H2) :
    ∃ v' H' tl', Lc V O F_slices_DeleteFunc_s_phis_move_phis_move [v, .func (.func f) #[] #[]] H v' H' ∧ FrX (obs o) (ogs o) H H' ∧ OwT H' n0 40 2 v' (l.filter fun m => !p m).length (mvs (l.filter fun m => !p m)) tl' o := by
  have hlen := hw.2.1
  have hyo := hw.young
  have key : ∃ u H', Lc V O F_slices_DeleteFunc_s_phis_move_phis_move [v, .func (.func f) #[] #[]] H u H' ∧ (FrX (obs o) (ogs o) H H' ∧ ∃ tl', OwT H' n0 40 2 u (l.filter fun m => !p m).length (mvs (l.filter fun m => !p m)) tl' o) := by
    refine Lc.slices_DeleteFunc_s_phis_move_phis_move (R := fun u H' => FrX (obs o) (ogs o) H H' ∧ ∃ tl', OwT H' n0 40 2 u (l.filter fun m => !p m).length (mvs (l.filter fun m => !p m)) tl' o) (hO _ _ _ (by decide)) (Nat.le_of_ble_eq_true rfl) (by kernel_rfl) ?_
    unfold P_slices_DeleteFunc_s_phis_move_phis_move
    (repeat first | refine zSeq ?_ | refine zReg ?_ | refine zBlk ?_ | refine zSkp ?_ | refine zExt ?_ | refine zNil rfl ?_ | refine zGet rfl ?_ | refine zOn rfl rfl ?_ | refine zOff rfl rfl ?_ | refine zU rfl ?_ | refine zOn rfl (by assumption) ?_ | refine zOff rfl (by assumption) ?_ | refine zMov rfl ?_ | refine zAsg rfl ?_ | refine zXtr rfl ?_ | refine zPT rfl rfl rfl ?_ | refine zPF rfl rfl rfl ?_ | refine zPT rfl (by assumption) rfl ?_ | refine zPF rfl (by assumption) rfl ?_ | refine zLss rfl rfl ?_ | refine zLeq rfl rfl ?_ | refine zGtr rfl rfl ?_ | refine zGeq rfl rfl ?_ | refine zEql rfl rfl ?_ | refine zNeq rfl rfl ?_ | refine zAdd rfl rfl (by omega) ?_ | refine zSub rfl rfl (by omega) ?_ | refine zLenS rfl E_string ?_ | refine zNot rfl ?_ | refine zEqS rfl rfl ?_ | refine zNeS rfl rfl ?_ | refine zT rfl rfl ?_ | refine zF rfl rfl ?_ | refine zT rfl (by assumption) ?_ | refine zF rfl (by assumption) ?_ | refine zIdx rfl rfl ha ?_ | refine zFld (f := 0) rfl O_phis_move_to ?_ | refine zFld (f := 1) rfl O_phis_move_from ?_ | refine zLd (ty := 3) rfl hl0 ?_ | refine zLd (ty := 3) rfl hl1 ?_ | refine zLd (ty := 40) rfl hlm ?_ | refine zLd (ty := 40) rfl hlb ?_ | refine zLen rfl (hv.len E_s_phis_move) ?_)
    obtain ⟨H1, hi, hf1⟩ := indexFunc_c (H := H) hO hw.sl (f := f) (cap := #[]) (p := p) hf (fun m _ H1 _ => hp m H1)
    refine WL.call rfl rfl is_slices_IndexFunc_s_phis_move_phis_move hi ?_
    replace hw := hw.fr hf1
    rcases idxI_cases p l with ⟨e, hn⟩ | ⟨i0, h0, e, hpi, hpj⟩
    · rw [e]
      (repeat first | refine zSeq ?_ | refine zReg ?_ | refine zBlk ?_ | refine zSkp ?_ | refine zExt ?_ | refine zNil rfl ?_ | refine zGet rfl ?_ | refine zOn rfl rfl ?_ | refine zOff rfl rfl ?_ | refine zU rfl ?_ | refine zOn rfl (by assumption) ?_ | refine zOff rfl (by assumption) ?_ | refine zMov rfl ?_ | refine zAsg rfl ?_ | refine zXtr rfl ?_ | refine zPT rfl rfl rfl ?_ | refine zPF rfl rfl rfl ?_ | refine zPT rfl (by assumption) rfl ?_ | refine zPF rfl (by assumption) rfl ?_ | refine zLss rfl rfl ?_ | refine zLeq rfl rfl ?_ | refine zGtr rfl rfl ?_ | refine zGeq rfl rfl ?_ | refine zEql rfl rfl ?_ | refine zNeq rfl rfl ?_ | refine zAdd rfl rfl (by omega) ?_ | refine zSub rfl rfl (by omega) ?_ | refine zLenS rfl E_string ?_ | refine zNot rfl ?_ | refine zEqS rfl rfl ?_ | refine zNeS rfl rfl ?_ | refine zT rfl rfl ?_ | refine zF rfl rfl ?_ | refine zT rfl (by assumption) ?_ | refine zF rfl (by assumption) ?_ | refine zIdx rfl rfl ha ?_ | refine zFld (f := 0) rfl O_phis_move_to ?_ | refine zFld (f := 1) rfl O_phis_move_from ?_ | refine zLd (ty := 3) rfl hl0 ?_ | refine zLd (ty := 3) rfl hl1 ?_ | refine zLd (ty := 40) rfl hlm ?_ | refine zLd (ty := 40) rfl hlb ?_ | refine zLen rfl (hv.len E_s_phis_move) ?_)
      have : (l.filter fun m => !p m) = l := List.filter_eq_self.2 fun m hm => by rw [hn m hm]; rfl
      exact WP.ret ⟨.inr rfl, _, rfl, hf1.x _ _, tl, by rw [this]; exact hw⟩
    rw [e]
    have g0 : ((i0 : Int) == -1) = false := by rw [beq_eq_false_iff_ne]; omega
    (repeat first | refine zSeq ?_ | refine zReg ?_ | refine zBlk ?_ | refine zSkp ?_ | refine zExt ?_ | refine zNil rfl ?_ | refine zGet rfl ?_ | refine zOn rfl rfl ?_ | refine zOff rfl rfl ?_ | refine zU rfl ?_ | refine zOn rfl (by assumption) ?_ | refine zOff rfl (by assumption) ?_ | refine zMov rfl ?_ | refine zAsg rfl ?_ | refine zXtr rfl ?_ | refine zPT rfl rfl rfl ?_ | refine zPF rfl rfl rfl ?_ | refine zPT rfl (by assumption) rfl ?_ | refine zPF rfl (by assumption) rfl ?_ | refine zLss rfl rfl ?_ | refine zLeq rfl rfl ?_ | refine zGtr rfl rfl ?_ | refine zGeq rfl rfl ?_ | refine zEql rfl rfl ?_ | refine zNeq rfl rfl ?_ | refine zAdd rfl rfl (by omega) ?_ | refine zSub rfl rfl (by omega) ?_ | refine zLenS rfl E_string ?_ | refine zNot rfl ?_ | refine zEqS rfl rfl ?_ | refine zNeS rfl rfl ?_ | refine zT rfl rfl ?_ | refine zF rfl rfl ?_ | refine zT rfl (by assumption) ?_ | refine zF rfl (by assumption) ?_ | refine zIdx rfl rfl ha ?_ | refine zFld (f := 0) rfl O_phis_move_to ?_ | refine zFld (f := 1) rfl O_phis_move_from ?_ | refine zLd (ty := 3) rfl hl0 ?_ | refine zLd (ty := 3) rfl hl1 ?_ | refine zLd (ty := 40) rfl hlm ?_ | refine zLd (ty := 40) rfl hlb ?_ | refine zLen rfl (hv.len E_s_phis_move) ?_)
    refine WP.loopH (σ := Nat × Nat × List Mv) (fun x => [(0, v), (1, .func (.func f) #[] #[]), (5, .int .i64 x.1), (6, .int .i64 x.2.1)])
      (fun x H' => FrX (obs o) (ogs o) H H' ∧ OwT H' n0 40 2 v l.length (mvs x.2.2) tl o ∧ x.2.2.length = l.length ∧ x.1 < x.2.1 ∧ x.2.1 ≤ l.length ∧ x.2.2.take x.1 = (l.take x.2.1).filter (fun m => !p m) ∧ x.2.2.drop x.2.1 = l.drop x.2.1) (fun x => l.length - x.2.1) (i0, i0 + 1, l)
      ⟨hf1.x _ _, hw, rfl, by simp, h0, ?_, rfl⟩ ⟨rfl, rfl, rfl, rfl, trivial⟩ ?_
    · simp only
      rw [filter_take h0, hpi]
      simp only [Bool.not_true, Bool.false_eq_true, if_false, List.append_nil]
      rw [List.filter_eq_self.2 fun m hm => ?_]
      obtain ⟨j, hj, rfl⟩ := List.mem_iff_getElem.1 hm
      simp only [List.getElem_take]
      rw [hpj j (by simp at hj; omega)]; rfl
    rintro ⟨i, j, M⟩ H2 ⟨hfr, hw2, hM, hij, hj, ht, hdr⟩
    simp only at hfr hw2 hM hij hj ht hdr ⊢
    have hv := hw2.sl
    rcases Nat.lt_or_ge j l.length with h | h
    · have g1 : decide ((j : Int) < l.length) = true := decide_eq_true (by omega)
      have hMj : M[j]'(by omega) = l[j] := by
        have := congrArg (·[0]?) hdr
        simp only [List.getElem?_drop, Nat.add_zero] at this
        rw [List.getElem?_eq_getElem (by omega), List.getElem?_eq_getElem h] at this
        exact Option.some.inj this
      obtain ⟨b, off, ha, hlm, _, _⟩ := sl_mv (l := M) (by rw [hM]; exact hv) (i := j) (by omega)
      rw [hMj] at hlm
      (repeat first | refine zSeq ?_ | refine zReg ?_ | refine zBlk ?_ | refine zSkp ?_ | refine zExt ?_ | refine zNil rfl ?_ | refine zGet rfl ?_ | refine zOn rfl rfl ?_ | refine zOff rfl rfl ?_ | refine zU rfl ?_ | refine zOn rfl (by assumption) ?_ | refine zOff rfl (by assumption) ?_ | refine zMov rfl ?_ | refine zAsg rfl ?_ | refine zXtr rfl ?_ | refine zPT rfl rfl rfl ?_ | refine zPF rfl rfl rfl ?_ | refine zPT rfl (by assumption) rfl ?_ | refine zPF rfl (by assumption) rfl ?_ | refine zLss rfl rfl ?_ | refine zLeq rfl rfl ?_ | refine zGtr rfl rfl ?_ | refine zGeq rfl rfl ?_ | refine zEql rfl rfl ?_ | refine zNeq rfl rfl ?_ | refine zAdd rfl rfl (by omega) ?_ | refine zSub rfl rfl (by omega) ?_ | refine zLenS rfl E_string ?_ | refine zNot rfl ?_ | refine zEqS rfl rfl ?_ | refine zNeS rfl rfl ?_ | refine zT rfl rfl ?_ | refine zF rfl rfl ?_ | refine zT rfl (by assumption) ?_ | refine zF rfl (by assumption) ?_ | refine zIdx rfl rfl ha ?_ | refine zFld (f := 0) rfl O_phis_move_to ?_ | refine zFld (f := 1) rfl O_phis_move_from ?_ | refine zLd (ty := 3) rfl hl0 ?_ | refine zLd (ty := 3) rfl hl1 ?_ | refine zLd (ty := 40) rfl hlm ?_ | refine zLd (ty := 40) rfl hlb ?_ | refine zLen rfl (hv.len E_s_phis_move) ?_)
      refine WL.op (op_alloc E_phis_move zeroM) ?_
      obtain ⟨H3, hw3, hb3, hf3, hn3⟩ := (Bx.new (H := H2) (et := 40) (cs := [.int .i64 0, .int .i64 0])).wr (off := 0) (vs := mvC l[j]) (by simp [mvC]) (by simp [mvC])
      refine WL.op (op_store rfl rfl E_phis_move (by rw [te_phis_move_size]; rfl) rfl hw3) ?_
      have hfr3 : Fr H2 H3 := (Fr.alloc H2 _).young hf3 (by simp) (by simp)
      have hb3' : Bx H3 H2.next 40 (mvC l[j]) := hb3
      obtain ⟨H4, hc4, hf4⟩ := hp l[j] H3
      have hlb := (hb3'.rd (n := 2) rfl).loadN (V := V) E_phis_move te_phis_move_agg te_phis_move_size
      (repeat first | refine zSeq ?_ | refine zReg ?_ | refine zBlk ?_ | refine zSkp ?_ | refine zExt ?_ | refine zNil rfl ?_ | refine zGet rfl ?_ | refine zOn rfl rfl ?_ | refine zOff rfl rfl ?_ | refine zU rfl ?_ | refine zOn rfl (by assumption) ?_ | refine zOff rfl (by assumption) ?_ | refine zMov rfl ?_ | refine zAsg rfl ?_ | refine zXtr rfl ?_ | refine zPT rfl rfl rfl ?_ | refine zPF rfl rfl rfl ?_ | refine zPT rfl (by assumption) rfl ?_ | refine zPF rfl (by assumption) rfl ?_ | refine zLss rfl rfl ?_ | refine zLeq rfl rfl ?_ | refine zGtr rfl rfl ?_ | refine zGeq rfl rfl ?_ | refine zEql rfl rfl ?_ | refine zNeq rfl rfl ?_ | refine zAdd rfl rfl (by omega) ?_ | refine zSub rfl rfl (by omega) ?_ | refine zLenS rfl E_string ?_ | refine zNot rfl ?_ | refine zEqS rfl rfl ?_ | refine zNeS rfl rfl ?_ | refine zT rfl rfl ?_ | refine zF rfl rfl ?_ | refine zT rfl (by assumption) ?_ | refine zF rfl (by assumption) ?_ | refine zIdx rfl rfl ha ?_ | refine zFld (f := 0) rfl O_phis_move_to ?_ | refine zFld (f := 1) rfl O_phis_move_from ?_ | refine zLd (ty := 3) rfl hl0 ?_ | refine zLd (ty := 3) rfl hl1 ?_ | refine zLd (ty := 40) rfl hlm ?_ | refine zLd (ty := 40) rfl hlb ?_ | refine zLen rfl (hv.len E_s_phis_move) ?_)
      refine WL.call rfl rfl hf hc4 ?_
      have hfr4 := hfr3.trans hf4
      have hnext : H.next ≤ H2.next := hfr.1
      have hfrx4 : FrX (obs o) (ogs o) H H4 := hfr.trans (hfr4.x [] []) (by simp) (by simp)
      replace hw2 := hw2.fr hfr4
      cases he : p l[j]
      · replace hlb := ((hb3'.fr hf4).rd (n := 2) rfl).loadN (V := V) E_phis_move te_phis_move_agg te_phis_move_size
        obtain ⟨b', off', H5, ha, _, hwr, hw5, hf5, hn5⟩ := hw2.set E_s_phis_move E_phis_move te_phis_move_size (kd := .i64) (i := i) (by omega) (by omega) (vs := mvC l[j]) (by simp [mvC]) (k := 0) (by simp [mvC])
        rw [show (i : Int).toNat = i from rfl, mvs_set (by omega)] at hw5
        (repeat first | refine zSeq ?_ | refine zReg ?_ | refine zBlk ?_ | refine zSkp ?_ | refine zExt ?_ | refine zNil rfl ?_ | refine zGet rfl ?_ | refine zOn rfl rfl ?_ | refine zOff rfl rfl ?_ | refine zU rfl ?_ | refine zOn rfl (by assumption) ?_ | refine zOff rfl (by assumption) ?_ | refine zMov rfl ?_ | refine zAsg rfl ?_ | refine zXtr rfl ?_ | refine zPT rfl rfl rfl ?_ | refine zPF rfl rfl rfl ?_ | refine zPT rfl (by assumption) rfl ?_ | refine zPF rfl (by assumption) rfl ?_ | refine zLss rfl rfl ?_ | refine zLeq rfl rfl ?_ | refine zGtr rfl rfl ?_ | refine zGeq rfl rfl ?_ | refine zEql rfl rfl ?_ | refine zNeq rfl rfl ?_ | refine zAdd rfl rfl (by omega) ?_ | refine zSub rfl rfl (by omega) ?_ | refine zLenS rfl E_string ?_ | refine zNot rfl ?_ | refine zEqS rfl rfl ?_ | refine zNeS rfl rfl ?_ | refine zT rfl rfl ?_ | refine zF rfl rfl ?_ | refine zT rfl (by assumption) ?_ | refine zF rfl (by assumption) ?_ | refine zIdx rfl rfl ha ?_ | refine zFld (f := 0) rfl O_phis_move_to ?_ | refine zFld (f := 1) rfl O_phis_move_from ?_ | refine zLd (ty := 3) rfl hl0 ?_ | refine zLd (ty := 3) rfl hl1 ?_ | refine zLd (ty := 40) rfl hlm ?_ | refine zLd (ty := 40) rfl hlb ?_ | refine zLen rfl (hv.len E_s_phis_move) ?_)
        refine WL.op (op_store rfl rfl E_phis_move (by rw [te_phis_move_size]; rfl) rfl hwr) ?_
        (repeat first | refine zSeq ?_ | refine zReg ?_ | refine zBlk ?_ | refine zSkp ?_ | refine zExt ?_ | refine zNil rfl ?_ | refine zGet rfl ?_ | refine zOn rfl rfl ?_ | refine zOff rfl rfl ?_ | refine zU rfl ?_ | refine zOn rfl (by assumption) ?_ | refine zOff rfl (by assumption) ?_ | refine zMov rfl ?_ | refine zAsg rfl ?_ | refine zXtr rfl ?_ | refine zPT rfl rfl rfl ?_ | refine zPF rfl rfl rfl ?_ | refine zPT rfl (by assumption) rfl ?_ | refine zPF rfl (by assumption) rfl ?_ | refine zLss rfl rfl ?_ | refine zLeq rfl rfl ?_ | refine zGtr rfl rfl ?_ | refine zGeq rfl rfl ?_ | refine zEql rfl rfl ?_ | refine zNeq rfl rfl ?_ | refine zAdd rfl rfl (by omega) ?_ | refine zSub rfl rfl (by omega) ?_ | refine zLenS rfl E_string ?_ | refine zNot rfl ?_ | refine zEqS rfl rfl ?_ | refine zNeS rfl rfl ?_ | refine zT rfl rfl ?_ | refine zF rfl rfl ?_ | refine zT rfl (by assumption) ?_ | refine zF rfl (by assumption) ?_ | refine zIdx rfl rfl ha ?_ | refine zFld (f := 0) rfl O_phis_move_to ?_ | refine zFld (f := 1) rfl O_phis_move_from ?_ | refine zLd (ty := 3) rfl hl0 ?_ | refine zLd (ty := 3) rfl hl1 ?_ | refine zLd (ty := 40) rfl hlm ?_ | refine zLd (ty := 40) rfl hlb ?_ | refine zLen rfl (hv.len E_s_phis_move) ?_)
        refine ⟨(i + 1, j + 1, M.set i l[j]), ⟨hfrx4.trans hf5 (fun b hb _ => hb) (fun b hb _ => hb), hw5, by simpa using hM, by simp only; omega, by simp only; omega, ?_, ?_⟩, by simp only; omega, rfl, rfl, rfl, rfl, trivial⟩
        · simp only
          rw [filter_take h, he, ← ht]
          simp only [Bool.not_false, if_true]
          rw [List.take_add_one, List.getElem?_set_self (by omega), List.take_set_of_le (Nat.le_refl _)]; rfl
        · simp only
          rw [List.drop_set_of_lt (by omega), ← List.drop_drop, hdr, List.drop_drop]
      · (repeat first | refine zSeq ?_ | refine zReg ?_ | refine zBlk ?_ | refine zSkp ?_ | refine zExt ?_ | refine zNil rfl ?_ | refine zGet rfl ?_ | refine zOn rfl rfl ?_ | refine zOff rfl rfl ?_ | refine zU rfl ?_ | refine zOn rfl (by assumption) ?_ | refine zOff rfl (by assumption) ?_ | refine zMov rfl ?_ | refine zAsg rfl ?_ | refine zXtr rfl ?_ | refine zPT rfl rfl rfl ?_ | refine zPF rfl rfl rfl ?_ | refine zPT rfl (by assumption) rfl ?_ | refine zPF rfl (by assumption) rfl ?_ | refine zLss rfl rfl ?_ | refine zLeq rfl rfl ?_ | refine zGtr rfl rfl ?_ | refine zGeq rfl rfl ?_ | refine zEql rfl rfl ?_ | refine zNeq rfl rfl ?_ | refine zAdd rfl rfl (by omega) ?_ | refine zSub rfl rfl (by omega) ?_ | refine zLenS rfl E_string ?_ | refine zNot rfl ?_ | refine zEqS rfl rfl ?_ | refine zNeS rfl rfl ?_ | refine zT rfl rfl ?_ | refine zF rfl rfl ?_ | refine zT rfl (by assumption) ?_ | refine zF rfl (by assumption) ?_ | refine zIdx rfl rfl ha ?_ | refine zFld (f := 0) rfl O_phis_move_to ?_ | refine zFld (f := 1) rfl O_phis_move_from ?_ | refine zLd (ty := 3) rfl hl0 ?_ | refine zLd (ty := 3) rfl hl1 ?_ | refine zLd (ty := 40) rfl hlm ?_ | refine zLd (ty := 40) rfl hlb ?_ | refine zLen rfl (hv.len E_s_phis_move) ?_)
        refine ⟨(i, j + 1, M), ⟨hfrx4, hw2, hM, by simp only; omega, by simp only; omega, ?_, ?_⟩, by simp only; omega, rfl, rfl, rfl, rfl, trivial⟩
        · simp only
          rw [filter_take h, he, ← ht]
          simp
        · simp only
          rw [← List.drop_drop, hdr, List.drop_drop]
    · have g1 : decide ((j : Int) < l.length) = false := decide_eq_false (by omega)
      obtain rfl : j = l.length := by omega
      rw [List.take_length] at ht
      obtain ⟨w, H3, hs3, hc3, hw3, hf3, hn3⟩ := hw2.clearFrom E_s_phis_move E_phis_move te_phis_move_size (by decide) (by rw [zeroM]; rfl) (i := i) (m := l.length) hij (Nat.le_refl _) (k := .i64) (hi' := none) rfl
      obtain ⟨b, hs4, hw4, _⟩ := hw3.upto E_s_phis_move E_phis_move te_phis_move_size (by decide) (by omega) (i := i) (by omega) (k := .i64)
      (repeat first | refine zSeq ?_ | refine zReg ?_ | refine zBlk ?_ | refine zSkp ?_ | refine zExt ?_ | refine zNil rfl ?_ | refine zGet rfl ?_ | refine zOn rfl rfl ?_ | refine zOff rfl rfl ?_ | refine zU rfl ?_ | refine zOn rfl (by assumption) ?_ | refine zOff rfl (by assumption) ?_ | refine zMov rfl ?_ | refine zAsg rfl ?_ | refine zXtr rfl ?_ | refine zPT rfl rfl rfl ?_ | refine zPF rfl rfl rfl ?_ | refine zPT rfl (by assumption) rfl ?_ | refine zPF rfl (by assumption) rfl ?_ | refine zLss rfl rfl ?_ | refine zLeq rfl rfl ?_ | refine zGtr rfl rfl ?_ | refine zGeq rfl rfl ?_ | refine zEql rfl rfl ?_ | refine zNeq rfl rfl ?_ | refine zAdd rfl rfl (by omega) ?_ | refine zSub rfl rfl (by omega) ?_ | refine zLenS rfl E_string ?_ | refine zNot rfl ?_ | refine zEqS rfl rfl ?_ | refine zNeS rfl rfl ?_ | refine zT rfl rfl ?_ | refine zF rfl rfl ?_ | refine zT rfl (by assumption) ?_ | refine zF rfl (by assumption) ?_ | refine zIdx rfl rfl ha ?_ | refine zFld (f := 0) rfl O_phis_move_to ?_ | refine zFld (f := 1) rfl O_phis_move_from ?_ | refine zLd (ty := 3) rfl hl0 ?_ | refine zLd (ty := 3) rfl hl1 ?_ | refine zLd (ty := 40) rfl hlm ?_ | refine zLd (ty := 40) rfl hlb ?_ | refine zLen rfl (hv.len E_s_phis_move) ?_)
      refine WL.op (op_slice rfl rfl rfl rfl hs3) ?_
      refine WL.op (op_clear rfl hc3) ?_
      (repeat first | refine zSeq ?_ | refine zReg ?_ | refine zBlk ?_ | refine zSkp ?_ | refine zExt ?_ | refine zNil rfl ?_ | refine zGet rfl ?_ | refine zOn rfl rfl ?_ | refine zOff rfl rfl ?_ | refine zU rfl ?_ | refine zOn rfl (by assumption) ?_ | refine zOff rfl (by assumption) ?_ | refine zMov rfl ?_ | refine zAsg rfl ?_ | refine zXtr rfl ?_ | refine zPT rfl rfl rfl ?_ | refine zPF rfl rfl rfl ?_ | refine zPT rfl (by assumption) rfl ?_ | refine zPF rfl (by assumption) rfl ?_ | refine zLss rfl rfl ?_ | refine zLeq rfl rfl ?_ | refine zGtr rfl rfl ?_ | refine zGeq rfl rfl ?_ | refine zEql rfl rfl ?_ | refine zNeq rfl rfl ?_ | refine zAdd rfl rfl (by omega) ?_ | refine zSub rfl rfl (by omega) ?_ | refine zLenS rfl E_string ?_ | refine zNot rfl ?_ | refine zEqS rfl rfl ?_ | refine zNeS rfl rfl ?_ | refine zT rfl rfl ?_ | refine zF rfl rfl ?_ | refine zT rfl (by assumption) ?_ | refine zF rfl (by assumption) ?_ | refine zIdx rfl rfl ha ?_ | refine zFld (f := 0) rfl O_phis_move_to ?_ | refine zFld (f := 1) rfl O_phis_move_from ?_ | refine zLd (ty := 3) rfl hl0 ?_ | refine zLd (ty := 3) rfl hl1 ?_ | refine zLd (ty := 40) rfl hlm ?_ | refine zLd (ty := 40) rfl hlb ?_ | refine zLen rfl (hv.len E_s_phis_move) ?_)
      refine WL.op (op_slice rfl rfl rfl rfl hs4) ?_
      (repeat first | refine zSeq ?_ | refine zReg ?_ | refine zBlk ?_ | refine zSkp ?_ | refine zExt ?_ | refine zNil rfl ?_ | refine zGet rfl ?_ | refine zOn rfl rfl ?_ | refine zOff rfl rfl ?_ | refine zU rfl ?_ | refine zOn rfl (by assumption) ?_ | refine zOff rfl (by assumption) ?_ | refine zMov rfl ?_ | refine zAsg rfl ?_ | refine zXtr rfl ?_ | refine zPT rfl rfl rfl ?_ | refine zPF rfl rfl rfl ?_ | refine zPT rfl (by assumption) rfl ?_ | refine zPF rfl (by assumption) rfl ?_ | refine zLss rfl rfl ?_ | refine zLeq rfl rfl ?_ | refine zGtr rfl rfl ?_ | refine zGeq rfl rfl ?_ | refine zEql rfl rfl ?_ | refine zNeq rfl rfl ?_ | refine zAdd rfl rfl (by omega) ?_ | refine zSub rfl rfl (by omega) ?_ | refine zLenS rfl E_string ?_ | refine zNot rfl ?_ | refine zEqS rfl rfl ?_ | refine zNeS rfl rfl ?_ | refine zT rfl rfl ?_ | refine zF rfl rfl ?_ | refine zT rfl (by assumption) ?_ | refine zF rfl (by assumption) ?_ | refine zIdx rfl rfl ha ?_ | refine zFld (f := 0) rfl O_phis_move_to ?_ | refine zFld (f := 1) rfl O_phis_move_from ?_ | refine zLd (ty := 3) rfl hl0 ?_ | refine zLd (ty := 3) rfl hl1 ?_ | refine zLd (ty := 40) rfl hlm ?_ | refine zLd (ty := 40) rfl hlb ?_ | refine zLen rfl (hv.len E_s_phis_move) ?_)
      have e1 : (splice (mvs M) (i * 2) (azeros te_phis_move.zv.cells.toList (l.length - i))).take (i * 2) = mvs (l.filter fun m => !p m) := by
        unfold splice
        rw [List.append_assoc, List.take_append_of_le_length (by rw [List.length_take, mvs_len]; omega), List.take_take, Nat.min_self, mvs_take, ht]
      have e2 : i = (l.filter fun m => !p m).length := by
        have := congrArg List.length ht
        rw [List.length_take] at this; omega
      rw [e1] at hw4
      have hw5 : ∃ tl', OwT H3 n0 40 2 (.slice (some ⟨b, 0, none⟩) i unk) (l.filter fun m => !p m).length (mvs (l.filter fun m => !p m)) tl' o := ⟨_, by rw [← e2]; exact hw4⟩
      exact WP.ret ⟨.inr rfl, _, rfl, hfr.trans hf3 (fun b hb _ => hb) (fun b hb _ => hb), hw5⟩
  obtain ⟨u, H', h, hk, tl', hw'⟩ := key
  exact ⟨u, H', tl', h, hk, hw'⟩
end Go.Proofs.Ytalhmpcllfhllaa.U

/-
  Contracts of phis: Delete, and the closure that puts a move.
-/
namespace Go.Proofs.Ytalhmpcllfhllaa.U
open Go Go.Ev
attribute [local irreducible] WL WP WH W
variable {O : Orc} {H : AH}
theorem mvs_one (l : List Mv) : (mvs l).all Value.oneCell' = true := by
  rw [List.all_eq_true]; intro x hx
  obtain ⟨m, _, hm⟩ := List.mem_flatMap.1 hx
  simp [mvC] at hm
  rcases hm with rfl | rfl <;> rfl
set_option maxHeartbeats 1000000 in
theorem delete_c (hO : ∀ f vs H, f ≠ 6 → O f vs H = none) {n0 : Nat} {v : Value} {l : List Mv} {tl : List Value} {o : Option (Nat × Nat)} (hw : OwT H n0 40 2 v l.length (mvs l) tl o) {i : Nat} (hi : i < l.length) (hL : l.length ≤ 65536) :
    ∃ v' H' tl', Lc V O F_slices_Delete_s_phis_move_phis_move [v, .int .i64 i, .int .i64 ((i : Int) + 1)] H v' H' ∧ FrX (obs o) (ogs o) H H' ∧ OwT H' n0 40 2 v' (l.eraseIdx i).length (mvs (l.eraseIdx i)) tl' o := by
  have key : ∃ u H', Lc V O F_slices_Delete_s_phis_move_phis_move [v, .int .i64 i, .int .i64 ((i : Int) + 1)] H u H' ∧ (FrX (obs o) (ogs o) H H' ∧ ∃ tl', OwT H' n0 40 2 u (l.eraseIdx i).length (mvs (l.eraseIdx i)) tl' o) := by
    refine Lc.slices_Delete_s_phis_move_phis_move (R := fun u H' => FrX (obs o) (ogs o) H H' ∧ ∃ tl', OwT H' n0 40 2 u (l.eraseIdx i).length (mvs (l.eraseIdx i)) tl' o) (hO _ _ _ (by decide)) (Nat.le_of_ble_eq_true rfl) (by kernel_rfl) ?_
    unfold P_slices_Delete_s_phis_move_phis_move
    have hv := hw.sl
    have g0 : ((i : Int) == (i : Int) + 1) = false := by rw [beq_eq_false_iff_ne]; omega
    obtain ⟨b, g, ho, hvb, hr⟩ := hw.row (by omega)
    obtain ⟨w0, hs0⟩ := slice_unk3 (k := .i64) (k' := .i64) (k'' := .i64) (n := l.length) hr E_s_phis_move E_phis_move (by rw [te_phis_move_size]; decide) (l := i) (h := i + 1) (by omega) (by omega) (by omega) (by unfold unk; omega)
    rw [show ((i + 1 : Nat) : Int) = (i : Int) + 1 from rfl, ← hvb] at hs0
    obtain ⟨b1, hs1, hw1, hv1⟩ := hw.upto E_s_phis_move E_phis_move te_phis_move_size (by decide) (by omega) (i := i) (by omega) (k := .i64)
    obtain ⟨w2, hs2, hsl2⟩ := hw.from_ E_s_phis_move E_phis_move te_phis_move_size (by decide) (by omega) (j := i + 1) (by omega) (k := .i64)
    rw [show ((i + 1 : Nat) : Int) = (i : Int) + 1 from rfl] at hs2
    rw [mvs_drop] at hsl2
    have hfit : (l.length - (i + 1)) * 2 ≤ ((mvs l).drop (i * 2) ++ tl).length := by rw [List.length_append, List.length_drop, mvs_len]; omega
    obtain ⟨H2, ha2, hw2, hf2, hn2⟩ := hw1.appSl rfl hsl2 (by decide) (bytes := 16) (by omega) (by omega) hfit (mvs_one _) E_s_phis_move E_s_phis_move E_phis_move te_phis_move_size te_phis_move_bytes
    have hv2 := hw2.sl
    obtain ⟨w3, H3, tl3, hs3, hc3, hw3, hf3, hn3⟩ := hw2.clearTail rfl E_s_phis_move E_phis_move te_phis_move_size (by decide) (by rw [zeroM]; rfl) (m := l.length) (by omega) (by omega) (by rw [List.length_drop, List.length_append, List.length_drop, mvs_len]; omega) (k := .i64) (k' := .i64)
    (repeat first | refine zSeq ?_ | refine zReg ?_ | refine zBlk ?_ | refine zSkp ?_ | refine zExt ?_ | refine zNil rfl ?_ | refine zGet rfl ?_ | refine zOn rfl rfl ?_ | refine zOff rfl rfl ?_ | refine zU rfl ?_ | refine zOn rfl (by assumption) ?_ | refine zOff rfl (by assumption) ?_ | refine zMov rfl ?_ | refine zAsg rfl ?_ | refine zXtr rfl ?_ | refine zPT rfl rfl rfl ?_ | refine zPF rfl rfl rfl ?_ | refine zPT rfl (by assumption) rfl ?_ | refine zPF rfl (by assumption) rfl ?_ | refine zLss rfl rfl ?_ | refine zLeq rfl rfl ?_ | refine zGtr rfl rfl ?_ | refine zGeq rfl rfl ?_ | refine zEql rfl rfl ?_ | refine zNeq rfl rfl ?_ | refine zAdd rfl rfl (by omega) ?_ | refine zSub rfl rfl (by omega) ?_ | refine zLenS rfl E_string ?_ | refine zNot rfl ?_ | refine zEqS rfl rfl ?_ | refine zNeS rfl rfl ?_ | refine zT rfl rfl ?_ | refine zF rfl rfl ?_ | refine zT rfl (by assumption) ?_ | refine zF rfl (by assumption) ?_ | refine zIdx rfl rfl ha ?_ | refine zFld (f := 0) rfl O_phis_move_to ?_ | refine zFld (f := 1) rfl O_phis_move_from ?_ | refine zLd (ty := 3) rfl hl0 ?_ | refine zLd (ty := 3) rfl hl1 ?_ | refine zLd (ty := 40) rfl hlm ?_ | refine zLd (ty := 24) rfl hlo ?_ | refine zLen rfl (hv.len E_s_phis_move) ?_ | refine zLen rfl (hv2.len E_s_phis_move) ?_)
    refine WL.op (op_slice rfl rfl rfl rfl hs0) ?_
    (repeat first | refine zSeq ?_ | refine zReg ?_ | refine zBlk ?_ | refine zSkp ?_ | refine zExt ?_ | refine zNil rfl ?_ | refine zGet rfl ?_ | refine zOn rfl rfl ?_ | refine zOff rfl rfl ?_ | refine zU rfl ?_ | refine zOn rfl (by assumption) ?_ | refine zOff rfl (by assumption) ?_ | refine zMov rfl ?_ | refine zAsg rfl ?_ | refine zXtr rfl ?_ | refine zPT rfl rfl rfl ?_ | refine zPF rfl rfl rfl ?_ | refine zPT rfl (by assumption) rfl ?_ | refine zPF rfl (by assumption) rfl ?_ | refine zLss rfl rfl ?_ | refine zLeq rfl rfl ?_ | refine zGtr rfl rfl ?_ | refine zGeq rfl rfl ?_ | refine zEql rfl rfl ?_ | refine zNeq rfl rfl ?_ | refine zAdd rfl rfl (by omega) ?_ | refine zSub rfl rfl (by omega) ?_ | refine zLenS rfl E_string ?_ | refine zNot rfl ?_ | refine zEqS rfl rfl ?_ | refine zNeS rfl rfl ?_ | refine zT rfl rfl ?_ | refine zF rfl rfl ?_ | refine zT rfl (by assumption) ?_ | refine zF rfl (by assumption) ?_ | refine zIdx rfl rfl ha ?_ | refine zFld (f := 0) rfl O_phis_move_to ?_ | refine zFld (f := 1) rfl O_phis_move_from ?_ | refine zLd (ty := 3) rfl hl0 ?_ | refine zLd (ty := 3) rfl hl1 ?_ | refine zLd (ty := 40) rfl hlm ?_ | refine zLd (ty := 24) rfl hlo ?_ | refine zLen rfl (hv.len E_s_phis_move) ?_ | refine zLen rfl (hv2.len E_s_phis_move) ?_)
    refine WL.op (op_slice rfl rfl rfl rfl hs1) ?_
    (repeat first | refine zSeq ?_ | refine zReg ?_ | refine zBlk ?_ | refine zSkp ?_ | refine zExt ?_ | refine zNil rfl ?_ | refine zGet rfl ?_ | refine zOn rfl rfl ?_ | refine zOff rfl rfl ?_ | refine zU rfl ?_ | refine zOn rfl (by assumption) ?_ | refine zOff rfl (by assumption) ?_ | refine zMov rfl ?_ | refine zAsg rfl ?_ | refine zXtr rfl ?_ | refine zPT rfl rfl rfl ?_ | refine zPF rfl rfl rfl ?_ | refine zPT rfl (by assumption) rfl ?_ | refine zPF rfl (by assumption) rfl ?_ | refine zLss rfl rfl ?_ | refine zLeq rfl rfl ?_ | refine zGtr rfl rfl ?_ | refine zGeq rfl rfl ?_ | refine zEql rfl rfl ?_ | refine zNeq rfl rfl ?_ | refine zAdd rfl rfl (by omega) ?_ | refine zSub rfl rfl (by omega) ?_ | refine zLenS rfl E_string ?_ | refine zNot rfl ?_ | refine zEqS rfl rfl ?_ | refine zNeS rfl rfl ?_ | refine zT rfl rfl ?_ | refine zF rfl rfl ?_ | refine zT rfl (by assumption) ?_ | refine zF rfl (by assumption) ?_ | refine zIdx rfl rfl ha ?_ | refine zFld (f := 0) rfl O_phis_move_to ?_ | refine zFld (f := 1) rfl O_phis_move_from ?_ | refine zLd (ty := 3) rfl hl0 ?_ | refine zLd (ty := 3) rfl hl1 ?_ | refine zLd (ty := 40) rfl hlm ?_ | refine zLd (ty := 24) rfl hlo ?_ | refine zLen rfl (hv.len E_s_phis_move) ?_ | refine zLen rfl (hv2.len E_s_phis_move) ?_)
    refine WL.op (op_slice rfl rfl rfl rfl hs2) ?_
    refine WL.op (ha2 rfl rfl) ?_
    (repeat first | refine zSeq ?_ | refine zReg ?_ | refine zBlk ?_ | refine zSkp ?_ | refine zExt ?_ | refine zNil rfl ?_ | refine zGet rfl ?_ | refine zOn rfl rfl ?_ | refine zOff rfl rfl ?_ | refine zU rfl ?_ | refine zOn rfl (by assumption) ?_ | refine zOff rfl (by assumption) ?_ | refine zMov rfl ?_ | refine zAsg rfl ?_ | refine zXtr rfl ?_ | refine zPT rfl rfl rfl ?_ | refine zPF rfl rfl rfl ?_ | refine zPT rfl (by assumption) rfl ?_ | refine zPF rfl (by assumption) rfl ?_ | refine zLss rfl rfl ?_ | refine zLeq rfl rfl ?_ | refine zGtr rfl rfl ?_ | refine zGeq rfl rfl ?_ | refine zEql rfl rfl ?_ | refine zNeq rfl rfl ?_ | refine zAdd rfl rfl (by omega) ?_ | refine zSub rfl rfl (by omega) ?_ | refine zLenS rfl E_string ?_ | refine zNot rfl ?_ | refine zEqS rfl rfl ?_ | refine zNeS rfl rfl ?_ | refine zT rfl rfl ?_ | refine zF rfl rfl ?_ | refine zT rfl (by assumption) ?_ | refine zF rfl (by assumption) ?_ | refine zIdx rfl rfl ha ?_ | refine zFld (f := 0) rfl O_phis_move_to ?_ | refine zFld (f := 1) rfl O_phis_move_from ?_ | refine zLd (ty := 3) rfl hl0 ?_ | refine zLd (ty := 3) rfl hl1 ?_ | refine zLd (ty := 40) rfl hlm ?_ | refine zLd (ty := 24) rfl hlo ?_ | refine zLen rfl (hv.len E_s_phis_move) ?_ | refine zLen rfl (hv2.len E_s_phis_move) ?_)
    refine WL.op (op_slice rfl rfl rfl rfl hs3) ?_
    refine WL.op (op_clear rfl hc3) ?_
    (repeat first | refine zSeq ?_ | refine zReg ?_ | refine zBlk ?_ | refine zSkp ?_ | refine zExt ?_ | refine zNil rfl ?_ | refine zGet rfl ?_ | refine zOn rfl rfl ?_ | refine zOff rfl rfl ?_ | refine zU rfl ?_ | refine zOn rfl (by assumption) ?_ | refine zOff rfl (by assumption) ?_ | refine zMov rfl ?_ | refine zAsg rfl ?_ | refine zXtr rfl ?_ | refine zPT rfl rfl rfl ?_ | refine zPF rfl rfl rfl ?_ | refine zPT rfl (by assumption) rfl ?_ | refine zPF rfl (by assumption) rfl ?_ | refine zLss rfl rfl ?_ | refine zLeq rfl rfl ?_ | refine zGtr rfl rfl ?_ | refine zGeq rfl rfl ?_ | refine zEql rfl rfl ?_ | refine zNeq rfl rfl ?_ | refine zAdd rfl rfl (by omega) ?_ | refine zSub rfl rfl (by omega) ?_ | refine zLenS rfl E_string ?_ | refine zNot rfl ?_ | refine zEqS rfl rfl ?_ | refine zNeS rfl rfl ?_ | refine zT rfl rfl ?_ | refine zF rfl rfl ?_ | refine zT rfl (by assumption) ?_ | refine zF rfl (by assumption) ?_ | refine zIdx rfl rfl ha ?_ | refine zFld (f := 0) rfl O_phis_move_to ?_ | refine zFld (f := 1) rfl O_phis_move_from ?_ | refine zLd (ty := 3) rfl hl0 ?_ | refine zLd (ty := 3) rfl hl1 ?_ | refine zLd (ty := 40) rfl hlm ?_ | refine zLd (ty := 24) rfl hlo ?_ | refine zLen rfl (hv.len E_s_phis_move) ?_ | refine zLen rfl (hv2.len E_s_phis_move) ?_)
    have e1 : (mvs l).take (i * 2) ++ mvs (l.drop (i + 1)) = mvs (l.eraseIdx i) := by rw [mvs_take, ← mvs_app, List.eraseIdx_eq_take_drop_succ]
    have e2 : i + (l.length - (i + 1)) = (l.eraseIdx i).length := by rw [List.length_eraseIdx_of_lt hi]; omega
    rw [e1] at hw3
    have hw5 : ∃ tl', OwT H3 n0 40 2 (.slice (some ⟨b1, 0, none⟩) (i + (l.length - (i + 1))) unk) (l.eraseIdx i).length (mvs (l.eraseIdx i)) tl' o := ⟨tl3, by rw [← e2]; exact hw3⟩
    exact WP.ret ⟨.inr rfl, _, rfl, hf2.trans hf3 (fun b hb _ => hb) (fun b hb _ => hb), hw5⟩
  obtain ⟨u, H', h, hk, tl', hw'⟩ := key
  exact ⟨u, H', tl', h, hk, hw'⟩
end Go.Proofs.Ytalhmpcllfhllaa.U

/-
  Contracts of phis: the closure that puts a move.
-/
namespace Go.Proofs.Ytalhmpcllfhllaa.U
open Go Go.Ev
attribute [local irreducible] WL WP WH W
variable {O : Orc} {H : AH}
def insC (m : Mv) : List Value := [.int .u8 2, .int .i64 m.1, .int .i64 m.2, .int .i64 0, .int .i64 0, .slice none 0 0]
def inss (l : List Mv) : List Value := l.flatMap insC
theorem inss_app (a b : List Mv) : inss (a ++ b) = inss a ++ inss b := List.flatMap_append
theorem build30 {a b : Int} : aBuild V.E 30 [(0, .int .u8 2), (1, .int .i64 a), (2, .int .i64 b)] = some (.agg #[.int .u8 2, .int .i64 a, .int .i64 b, .int .i64 0, .int .i64 0, .slice none 0 0]) := by kernel_rfl
theorem fill30 {a b : Int} : afill (fun i => some (i * te_api_Ins.size, te_api_Ins.size)) (azeros te_api_Ins.zv.cells.toList 1) [(0, .agg #[.int .u8 2, .int .i64 a, .int .i64 b, .int .i64 0, .int .i64 0, .slice none 0 0])] = some (insC (a, b)) := by kernel_rfl
theorem put_c (hO : ∀ f vs H, f ≠ 6 → O f vs H = none) (m : Mv) {n0 box : Nat} {v : Value} {out : List Mv} {o : Option (Nat × Nat)} (hb : Bx H box 24 [v]) (hw : Ow H n0 30 6 v out.length (inss out) o) (h0 : n0 ≤ H.next) (hx : box ∉ obs o) (hL : out.length ≤ 262144) :
    ∃ v' H' o', Lc V O F_phis_rows_q2 [mvV m, .pointer (some ⟨box, 0, none⟩)] H (.tuple #[]) H' ∧ Bx H' box 24 [v'] ∧ Ow H' n0 30 6 v' (out ++ [m]).length (inss (out ++ [m])) o' ∧ FrX (box :: obs o) (ogs o) H H' ∧ (∀ b ∈ obs o', H.next ≤ b) ∧ (∀ g ∈ ogs o', g ∈ ogs o ∨ H.next ≤ g) := by
  have key : ∃ u H', Lc V O F_phis_rows_q2 [mvV m, .pointer (some ⟨box, 0, none⟩)] H u H' ∧ (u = .tuple #[] ∧ ∃ v' o', Bx H' box 24 [v'] ∧ Ow H' n0 30 6 v' (out ++ [m]).length (inss (out ++ [m])) o' ∧ FrX (box :: obs o) (ogs o) H H' ∧ (∀ b ∈ obs o', H.next ≤ b) ∧ (∀ g ∈ ogs o', g ∈ ogs o ∨ H.next ≤ g)) := by
    refine Lc.phis_rows_q2 (R := fun u H' => u = .tuple #[] ∧ ∃ v' o', Bx H' box 24 [v'] ∧ Ow H' n0 30 6 v' (out ++ [m]).length (inss (out ++ [m])) o' ∧ FrX (box :: obs o) (ogs o) H H' ∧ (∀ b ∈ obs o', H.next ≤ b) ∧ (∀ g ∈ ogs o', g ∈ ogs o ∨ H.next ≤ g)) (hO _ _ _ (by decide)) (Nat.le_of_ble_eq_true rfl) (by kernel_rfl) ?_
    unfold P_phis_rows_q2
    refine zSeq ?_
    refine zReg ?_
    refine WL.op (o := .box 40 _) (v := .pointer (some ⟨H.next, 0, none⟩)) (H1 := H.alloc (.row 40 (mvC m) .exact 0 0)) rfl ?_
    obtain ⟨hl0, hl1⟩ := box_ld (box_mv H m)
    have hfr := Fr.alloc H (.row 40 (mvC m) .exact 0 0)
    have hb1 := hb.fr hfr
    have hw1 := hw.fr hfr
    have hlo := (hb1.rd (n := 1) rfl).load1 (V := V) E_s_api_Ins rfl
    (repeat first | refine zSeq ?_ | refine zReg ?_ | refine zBlk ?_ | refine zSkp ?_ | refine zExt ?_ | refine zNil rfl ?_ | refine zGet rfl ?_ | refine zOn rfl rfl ?_ | refine zOff rfl rfl ?_ | refine zU rfl ?_ | refine zOn rfl (by assumption) ?_ | refine zOff rfl (by assumption) ?_ | refine zMov rfl ?_ | refine zAsg rfl ?_ | refine zXtr rfl ?_ | refine zPT rfl rfl rfl ?_ | refine zPF rfl rfl rfl ?_ | refine zPT rfl (by assumption) rfl ?_ | refine zPF rfl (by assumption) rfl ?_ | refine zLss rfl rfl ?_ | refine zLeq rfl rfl ?_ | refine zGtr rfl rfl ?_ | refine zGeq rfl rfl ?_ | refine zEql rfl rfl ?_ | refine zNeq rfl rfl ?_ | refine zAdd rfl rfl (by omega) ?_ | refine zSub rfl rfl (by omega) ?_ | refine zLenS rfl E_string ?_ | refine zNot rfl ?_ | refine zEqS rfl rfl ?_ | refine zNeS rfl rfl ?_ | refine zT rfl rfl ?_ | refine zF rfl rfl ?_ | refine zT rfl (by assumption) ?_ | refine zF rfl (by assumption) ?_ | refine zFld (f := 0) rfl O_phis_move_to ?_ | refine zFld (f := 1) rfl O_phis_move_from ?_ | refine zLd (ty := 3) rfl hl0 ?_ | refine zLd (ty := 3) rfl hl1 ?_ | refine zLd (ty := 24) rfl hlo ?_)
    refine WL.op (op_build rfl build30) ?_
    refine WL.op (op_buildSlice rfl E_s_api_Ins E_api_Ins (by rw [te_api_Ins_size]; decide) fill30) ?_
    generalize hHa : H.alloc (.row 40 (mvC m) .exact 0 0) = Ha at *
    have hfr2 := Fr.alloc Ha (.row 30 (insC (m.1, m.2)) .exact 0 0)
    have hb2 := hb1.fr hfr2
    have hw2 := hw1.fr hfr2
    have hn1 : H.next ≤ Ha.next := hfr.1
    obtain ⟨v', H3, o', ha, hw3, hfx, ho1, ho2⟩ := hw2.app (m := 1) (bytes := 64) (new := insC (m.1, m.2)) (by decide) (by decide) rfl (by omega) (by omega) (by have := hfr2.1; omega)
    refine WL.op (op_append rfl rfl E_s_api_Ins E_s_api_Ins E_api_Ins (by decide) (by rw [te_api_Ins_size]; exact rd_alloc rfl) rfl (by rw [te_api_Ins_size, te_api_Ins_bytes]; exact ha)) ?_
    have hb3 := hb2.frX hfx hx
    have hfr3 : Fr H (Ha.alloc (.row 30 (insC (m.1, m.2)) .exact 0 0)) := hfr.trans hfr2
    obtain ⟨H4, hwr, hb4, hf4, hn4⟩ := hb3.wr (off := 0) (vs := [v']) (by simp) (by simp)
    have hn2 : Ha.next ≤ (Ha.alloc (.row 30 (insC (m.1, m.2)) .exact 0 0)).next := hfr2.1
    have hno : box ∉ obs o' := fun h => by have := ho1 _ h; have := hb.1; omega
    obtain ⟨a, nn, cc, rfl⟩ : ∃ a n c, v' = .slice a n c := by
      obtain ⟨_, _, ⟨rfl, _⟩ | ⟨b, g, _, _, _, _, _, rfl, _⟩⟩ := hw3 <;> exact ⟨_, _, _, rfl⟩
    refine WL.op (op_store rfl rfl E_s_api_Ins rfl rfl hwr) ?_
    have hend : FrX (box :: obs o) (ogs o) H H4 := by
      refine (hfr3.x (box :: obs o) (ogs o)).trans ((hfx.sub (fun b h => List.mem_cons_of_mem _ h) (fun g h => h)).trans (hf4.sub (bs' := box :: obs o) (gs' := ogs o) (by simp) (by simp)) (fun b h _ => h) (fun g h _ => h)) (fun b h _ => h) (fun g h _ => h)
    refine WL.nil ⟨_, rfl, .inl rfl, _, rfl, rfl, _, o', hb4, ?_, hend, fun b h => by have := ho1 b h; omega, fun g h => (ho2 g h).imp id fun h => by omega⟩
    have hw4 := hw3.frX hf4 (fun b hb' hm => by rw [List.mem_singleton] at hm; rw [hm] at hb'; exact hno hb') (by simp)
    rw [inss_app, List.length_append]
    simpa [inss] using hw4
  obtain ⟨u, H', h, rfl, v', o', hk⟩ := key
  exact ⟨v', H', o', h, hk⟩
end Go.Proofs.Ytalhmpcllfhllaa.U

/-
  Contracts of phis: rows.
-/
namespace Go.Proofs.Ytalhmpcllfhllaa.U
open Go Go.Ev
attribute [local irreducible] WL WP WH W
variable {O : Orc} {H : AH}
open Go.Phi (Rows)
def cnt (l : List Mv) (k : Int) : Nat := l.countP fun m => m.2 == k
theorem cnt_le (l : List Mv) (k : Int) : cnt l k ≤ l.length := List.countP_le_length
theorem cnt_cons (m : Mv) (l : List Mv) (k : Int) : cnt (m :: l) k = cnt l k + if m.2 = k then 1 else 0 := by
  unfold cnt; rw [List.countP_cons]; simp only [beq_iff_eq]
theorem cnt_app (a b : List Mv) (k : Int) : cnt (a ++ b) k = cnt a k + cnt b k := List.countP_append
theorem cnt_free {l : List Mv} {m : Mv} : Phi.free l m = (((cnt l m.1 : Nat) : Int) == 0) := by
  rw [Bool.eq_iff_iff, Phi.free_iff, beq_iff_eq]
  unfold cnt
  constructor
  · intro h
    have : l.countP (fun x => x.2 == m.1) = 0 := by rw [List.countP_eq_zero]; intro x hx; simpa using h x hx
    omega
  · intro h x hx
    have h2 : l.countP (fun x => x.2 == m.1) = 0 := by omega
    rw [List.countP_eq_zero] at h2
    simpa using h2 x hx
theorem cnt_erase {l : List Mv} {i : Nat} (h : i < l.length) (k : Int) : cnt l k = cnt (l.eraseIdx i) k + if l[i].2 = k then 1 else 0 := by
  rw [List.eraseIdx_eq_take_drop_succ]
  conv => lhs; rw [← List.take_append_drop i l, List.drop_eq_getElem_cons h, cnt_app, cnt_cons]
  rw [cnt_app]; omega
theorem cnt_take {l : List Mv} {i : Nat} (h : i < l.length) (k : Int) : cnt (l.take (i + 1)) k = cnt (l.take i) k + if l[i].2 = k then 1 else 0 := by
  rw [List.take_add_one, List.getElem?_eq_getElem h, Option.toList_some, cnt_app, cnt_cons]; simp [cnt]
theorem cnt_turn (g t : Int) (h : g ≠ t) : ∀ (l : List Mv) (k : Int), cnt (Phi.turn g t l) k = if k = g then 0 else if k = t then cnt l t + cnt l g else cnt l k
  | [], k => by simp [cnt, Phi.turn]
  | m :: l, k => by
    have ih := cnt_turn g t h l k
    have e : Phi.turn g t (m :: l) = (if m.2 = g then (m.1, t) else m) :: Phi.turn g t l := rfl
    rw [e, cnt_cons, ih, cnt_cons, cnt_cons, cnt_cons]
    by_cases h1 : m.2 = g
    · rw [if_pos h1, if_pos h1]
      simp only
      by_cases h2 : k = g
      · subst h2; rw [if_pos rfl, if_pos rfl, if_neg (Ne.symm h)]
      · rw [if_neg h2, if_neg h2]
        by_cases h3 : k = t
        · subst h3; rw [if_pos rfl, if_pos rfl, if_pos rfl, h1, if_neg h]; omega
        · rw [if_neg h3, if_neg h3, if_neg (Ne.symm h3), h1, if_neg (Ne.symm h2)]
    · rw [if_neg h1, if_neg h1]
      by_cases h2 : k = g
      · subst h2; rw [if_pos rfl, if_pos rfl, if_neg h1]
      · rw [if_neg h2, if_neg h2]
        by_cases h3 : k = t
        · subst h3; rw [if_pos rfl, if_pos rfl]; omega
        · rw [if_neg h3, if_neg h3]
def mu (l : List Mv) : Nat := 2 * l.length + if (∃ m ∈ l, Phi.free l m = true) then 0 else 1
theorem mu_free {l : List Mv} {i : Nat} (h : i < l.length) (hf : Phi.free l l[i] = true) : mu (l.eraseIdx i) + 1 ≤ mu l := by
  unfold mu
  have : (l.eraseIdx i).length + 1 = l.length := by rw [List.length_eraseIdx_of_lt h]; omega
  split <;> split <;> omega
theorem mu_turn {m : Mv} {l : List Mv} {t : Int} (ht : m.1 ≠ t) (hn : ∀ x ∈ m :: l, Phi.free (m :: l) x = false) : mu (Phi.turn m.1 t (m :: l)) + 1 = mu (m :: l) := by
  unfold mu
  rw [Phi.turn_length, if_pos, if_neg]
  · rintro ⟨x, hx, hf⟩
    rw [hn x hx] at hf; cases hf
  · refine ⟨if m.2 = m.1 then (m.1, t) else m, List.mem_cons_self .., ?_⟩
    rw [cnt_free]
    have : (if m.2 = m.1 then (m.1, t) else m).1 = m.1 := by split <;> rfl
    rw [this, cnt_turn _ _ ht, if_pos rfl]; rfl
theorem mu_le (l : List Mv) : mu l ≤ 2 * l.length + 1 := by unfold mu; split <;> omega
structure Hp (Hc : AH) (n0 n1 n2 c b5 b8 : Nat) (o : Option (Nat × Nat)) (v : Value) (l : List Mv) (f : Int → Option Value) (vo : Value) (out : List Mv) (oo : Option (Nat × Nat)) : Prop where
  mv : ∃ tl, OwT Hc n0 40 2 v l.length (mvs l) tl o
  rb : Bx Hc b5 37 [.map (some c)]
  rm : MI Hc c f
  ob : Bx Hc b8 24 [vo]
  ow : Ow Hc n2 30 6 vo out.length (inss out) oo
  nx : n2 ≤ Hc.next
  s1 : (∀ b ∈ obs o, b < n1) ∧ (∀ g ∈ ogs o, g < n1)
  s2 : n1 ≤ c ∧ c < b5 ∧ b5 < b8 ∧ b8 < n2
section
variable {Hc Hd : AH} {n0 n1 n2 c b5 b8 : Nat} {o oo : Option (Nat × Nat)} {v vo : Value} {l out : List Mv} {f : Int → Option Value}
theorem Hp.fr (h : Hp Hc n0 n1 n2 c b5 b8 o v l f vo out oo) (k : Fr Hc Hd) : Hp Hd n0 n1 n2 c b5 b8 o v l f vo out oo :=
  let ⟨tl, hw⟩ := h.mv
  ⟨⟨tl, hw.fr k⟩, h.rb.fr k, h.rm.fr k, h.ob.fr k, h.ow.fr k, Nat.le_trans h.nx k.1, h.s1, h.s2⟩
theorem Hp.mvd (h : Hp Hc n0 n1 n2 c b5 b8 o v l f vo out oo) (k : FrX (obs o) (ogs o) Hc Hd) {v' : Value} {l' tl' : List _} (hw : OwT Hd n0 40 2 v' l'.length (mvs l') tl' o) : Hp Hd n0 n1 n2 c b5 b8 o v' l' f vo out oo := by
  have hy := h.ow.young
  obtain ⟨h1, h2⟩ := h.s1
  obtain ⟨h3, h4, h5, h6⟩ := h.s2
  exact ⟨⟨tl', hw⟩, h.rb.frX k (fun hb => by have := h1 _ hb; omega), h.rm.frX k (fun hb => by have := h1 _ hb; omega), h.ob.frX k (fun hb => by have := h1 _ hb; omega), h.ow.frX k (fun b hb hc => by have := h1 _ hc; have := hy.1 _ hb; omega) (fun b hb hc => by have := h2 _ hc; have := hy.2.1 _ hb; omega), Nat.le_trans h.nx k.1, h.s1, h.s2⟩
theorem Hp.rmd (h : Hp Hc n0 n1 n2 c b5 b8 o v l f vo out oo) (k : FrX [c] [] Hc Hd) {f' : Int → Option Value} (hm : MI Hd c f') : Hp Hd n0 n1 n2 c b5 b8 o v l f' vo out oo := by
  have hy := h.ow.young
  obtain ⟨tl, hw⟩ := h.mv
  obtain ⟨h1, h2⟩ := h.s1
  obtain ⟨h3, h4, h5, h6⟩ := h.s2
  exact ⟨⟨tl, hw.frX k (fun b hb hc => by have := h1 _ hb; simp at hc; omega) (by simp)⟩, h.rb.frX k (by simp; omega), hm, h.ob.frX k (by simp; omega), h.ow.frX k (fun b hb hc => by have := hy.1 _ hb; simp at hc; omega) (by simp), Nat.le_trans h.nx k.1, h.s1, h.s2⟩
theorem Hp.put (h : Hp Hc n0 n1 n2 c b5 b8 o v l f vo out oo) (hO : ∀ f vs H, f ≠ 6 → O f vs H = none) (m : Mv) (hL : out.length ≤ 262144) :
    ∃ vo' oo' Hd, Lc V O F_phis_rows_q2 [mvV m, .pointer (some ⟨b8, 0, none⟩)] Hc (.tuple #[]) Hd ∧ Hp Hd n0 n1 n2 c b5 b8 o v l f vo' (out ++ [m]) oo' ∧ FrX (b8 :: obs oo) (ogs oo) Hc Hd := by
  have hy := h.ow.young
  obtain ⟨tl, hw⟩ := h.mv
  obtain ⟨h1, h2⟩ := h.s1
  obtain ⟨h3, h4, h5, h6⟩ := h.s2
  obtain ⟨vo', Hd, oo', hc, hb, ho, hf, _, _⟩ := put_c hO m h.ob h.ow h.nx (fun hb => by have := hy.1 _ hb; omega) hL
  refine ⟨vo', oo', Hd, hc, ⟨⟨tl, hw.frX hf (fun b hb hc => ?_) (fun g hg hc => ?_)⟩, h.rb.frX hf ?_, h.rm.frX hf ?_, hb, ho, Nat.le_trans h.nx hf.1, h.s1, h.s2⟩, hf⟩
  · have := h1 _ hb
    rcases List.mem_cons.1 hc with rfl | hc
    · omega
    · have := hy.1 _ hc; omega
  · have := h2 _ hg; have := hy.2.1 _ hc; omega
  · intro hc
    rcases List.mem_cons.1 hc with rfl | hc
    · omega
    · have := hy.1 _ hc; omega
  · intro hc
    rcases List.mem_cons.1 hc with rfl | hc
    · omega
    · have := hy.1 _ hc; omega
end
end Go.Proofs.Ytalhmpcllfhllaa.U

