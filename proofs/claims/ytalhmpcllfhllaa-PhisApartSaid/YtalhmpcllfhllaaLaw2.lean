/-
  Contracts of phis: rows, the walk.
-/
import Derived.Test.YtalhmpcllfhllaaLaw1
import Derived.Test.YtalhmpcllfhllaaEv6
set_option linter.all false
namespace Go.Proofs.Ytalhmpcllfhllaa.U
open Go Go.Ev
attribute [local irreducible] WL WP WH W
variable {O : Orc} {H : AH}
theorem zMk {V : Env} {O : Orc} {l : SL} {H : AH} {is : List LI} {E : List Value} {K : List Value → AH → Prop} {f : FuncId} {x : Operand} {v : Value} (hx : gS V.nG E l x = some v) (h : WL V O is (.func (.func f) #[] #[v] :: E) l H K) : WL V O (.run (.makeFunc (.func f) #[] #[x]) none :: is) E l H K :=
  .op (by simp only [aopG, gvals, hx]) h
theorem build40 {a b : Int} : aBuild V.E 40 [(0, .int .i64 a), (1, .int .i64 b)] = some (.agg #[.int .i64 a, .int .i64 b]) := by kernel_rfl
def tw (g t : Int) (l : List Mv) (i : Nat) : List Mv := Phi.turn g t (l.take i) ++ l.drop i
theorem tw_len (g t : Int) (l : List Mv) (i : Nat) : (tw g t l i).length = l.length := by
  unfold tw; rw [List.length_append, Phi.turn_length, List.length_take, List.length_drop]; omega
theorem tw_zero (g t : Int) (l : List Mv) : tw g t l 0 = l := rfl
theorem tw_end (g t : Int) (l : List Mv) : tw g t l l.length = Phi.turn g t l := by unfold tw; simp
theorem tw_eq {g t : Int} {l : List Mv} {i : Nat} (h : i < l.length) : tw g t l i = Phi.turn g t (l.take i) ++ l[i] :: l.drop (i + 1) := by
  unfold tw; rw [← List.drop_eq_getElem_cons h]
theorem tw_get {g t : Int} {l : List Mv} {i : Nat} (h : i < l.length) : (tw g t l i)[i]'(by rw [tw_len]; exact h) = l[i] := by
  have hl : (Phi.turn g t (l.take i)).length = i := by rw [Phi.turn_length, List.length_take]; omega
  have : (tw g t l i)[i]? = some l[i] := by rw [tw_eq h, List.getElem?_append_right (by omega), hl]; simp
  rw [List.getElem?_eq_getElem (by rw [tw_len]; exact h)] at this
  exact Option.some.inj this
theorem tw_succ {g t : Int} {l : List Mv} {i : Nat} (h : i < l.length) : tw g t l (i + 1) = (tw g t l i).set i (if l[i].2 = g then (l[i].1, t) else l[i]) := by
  have hl : (Phi.turn g t (l.take i)).length = i := by rw [Phi.turn_length, List.length_take]; omega
  rw [tw_eq h, List.set_append_right _ _ (by omega), hl, Nat.sub_self, List.set_cons_zero]
  unfold tw Phi.turn
  rw [List.take_add_one, List.getElem?_eq_getElem h, Option.toList_some, List.map_append, List.append_assoc]
  rfl
theorem mvs_set1 {l : List Mv} {i : Nat} (h : i < l.length) (t : Int) : splice (mvs l) (i * 2 + 1) [.int .i64 t] = mvs (l.set i (l[i].1, t)) := by
  have e : mvs l = mvs (l.take i) ++ (mvC l[i] ++ mvs (l.drop (i + 1))) := by
    conv => lhs; rw [← List.take_append_drop i l, List.drop_eq_getElem_cons h, mvs_app]
    rfl
  have hl : (mvs (l.take i)).length = i * 2 := by rw [mvs_len, List.length_take]; omega
  have e1 : i * 2 + 1 - i * 2 = 1 := by omega
  have e2 : i * 2 + 1 + [Value.int .i64 t].length - i * 2 = 2 := by simp; omega
  rw [List.set_eq_take_append_cons_drop, if_pos h, mvs_app, e]
  unfold splice
  rw [List.take_append, List.drop_append, hl, List.take_of_length_le (by omega), show List.drop (i * 2 + 1 + [Value.int .i64 t].length) (mvs (l.take i)) = [] from List.drop_eq_nil_of_le (by simp only [hl, List.length_singleton]; omega), e1, e2, List.nil_append, List.append_assoc, List.append_assoc]
  rfl
def RI (H Hc : AH) (n0 n2 c b5 b8 : Nat) (o : Option (Nat × Nat)) (t : Int) (l0 : List Mv) (x : List Mv × Value × (Int → Option Value) × Value × List Mv × Option (Nat × Nat)) : Prop :=
  Hp Hc n0 H.next n2 c b5 b8 o x.2.1 x.1 x.2.2.1 x.2.2.2.1 x.2.2.2.2.1 x.2.2.2.2.2 ∧ FrX (obs o) (ogs o) H Hc ∧ (∀ k, (x.2.2.1 k).getD (.int .i64 0) = .int .i64 (cnt x.1 k)) ∧ (∀ m ∈ x.1, m.1 ≠ t) ∧ (∀ r, Phi.Rows t x.1 r → Phi.Rows t l0 (x.2.2.2.2.1 ++ r)) ∧ x.2.2.2.2.1.length + mu x.1 ≤ mu l0 ∧ x.1.length ≤ 65536
set_option maxHeartbeats 2000000 in
theorem rows_c (hO : ∀ f vs H, f ≠ 6 → O f vs H = none) {n0 : Nat} {v : Value} {l : List Mv} {tl : List Value} {o : Option (Nat × Nat)} {t : Int} (hw : OwT H n0 40 2 v l.length (mvs l) tl o) (hL : l.length ≤ 65536) (ht : ∀ m ∈ l, m.1 ≠ t) :
    ∃ v' H' out oo n2, Lc V O F_phis_rows [v, .int .i64 t] H v' H' ∧ Phi.Rows t (l.filter fun m => !(m.1 == m.2)) out ∧ Ow H' n2 30 6 v' out.length (inss out) oo ∧ H.next ≤ n2 ∧ FrX (obs o) (ogs o) H H' ∧ out.length ≤ 2 * l.length + 1 := by
  have hyo := hw.young
  have key : ∃ u H', Lc V O F_phis_rows [v, .int .i64 t] H u H' ∧ (∃ out oo n2, Phi.Rows t (l.filter fun m => !(m.1 == m.2)) out ∧ Ow H' n2 30 6 u out.length (inss out) oo ∧ H.next ≤ n2 ∧ FrX (obs o) (ogs o) H H' ∧ out.length ≤ 2 * l.length + 1) := by
    refine Lc.phis_rows (R := fun u H' => ∃ out oo n2, Phi.Rows t (l.filter fun m => !(m.1 == m.2)) out ∧ Ow H' n2 30 6 u out.length (inss out) oo ∧ H.next ≤ n2 ∧ FrX (obs o) (ogs o) H H' ∧ out.length ≤ 2 * l.length + 1) (hO _ _ _ (by decide)) (Nat.le_of_ble_eq_true rfl) (by kernel_rfl) ?_
    unfold P_phis_rows
    obtain ⟨v1, H1, tl1, hc1, hf1, hw1⟩ := deleteFunc_c hO hw (f := 14) (p := fun m => m.1 == m.2) is_phis_rows_q1 (fun m H1 => own_c hO m)
    have hl0 : (l.filter fun m => !(m.1 == m.2)).length ≤ l.length := List.length_filter_le _ _
    have ht0 : ∀ m ∈ l.filter fun m => !(m.1 == m.2), m.1 ≠ t := fun m hm => ht m (List.mem_filter.1 hm).1
    generalize (l.filter fun m => !(m.1 == m.2)) = l1 at *
    (repeat first | refine zSeq ?_ | refine zReg ?_ | refine zBlk ?_ | refine zSkp ?_ | refine zExt ?_ | refine zNil rfl ?_ | refine zGet rfl ?_ | refine zOn rfl rfl ?_ | refine zOff rfl rfl ?_ | refine zU rfl ?_ | refine zOn rfl (by assumption) ?_ | refine zOff rfl (by assumption) ?_ | refine zMov rfl ?_ | refine zAsg rfl ?_ | refine zXtr rfl ?_ | refine zPT rfl rfl rfl ?_ | refine zPF rfl rfl rfl ?_ | refine zPT rfl (by assumption) rfl ?_ | refine zPF rfl (by assumption) rfl ?_ | refine zLss rfl rfl ?_ | refine zLeq rfl rfl ?_ | refine zGtr rfl rfl ?_ | refine zGeq rfl rfl ?_ | refine zEql rfl rfl ?_ | refine zNeq rfl rfl ?_ | refine zAdd rfl rfl (by omega) ?_ | refine zSub rfl rfl (by omega) ?_ | refine zLenS rfl E_string ?_ | refine zNot rfl ?_ | refine zEqS rfl rfl ?_ | refine zNeS rfl rfl ?_ | refine zT rfl rfl ?_ | refine zF rfl rfl ?_ | refine zT rfl (by assumption) ?_ | refine zF rfl (by assumption) ?_ | refine zIdx rfl rfl ha ?_ | refine zFld (f := 0) rfl O_phis_move_to ?_ | refine zFld (f := 1) rfl O_phis_move_from ?_ | refine zLd (ty := 3) rfl hl0 ?_ | refine zLd (ty := 3) rfl hl1 ?_ | refine zLd (ty := 40) rfl hlm ?_ | refine zLd (ty := 37) rfl hlr ?_ | refine zLd (ty := 24) rfl hlo ?_ | refine zLen rfl (hv.len E_s_phis_move) ?_ | refine zMk rfl ?_ | refine WL.op (op_lookup rfl rfl hg) ?_)
    refine WL.call rfl rfl is_slices_DeleteFunc_s_phis_move_phis_move hc1 ?_
    (repeat first | refine zSeq ?_ | refine zReg ?_ | refine zBlk ?_ | refine zSkp ?_ | refine zExt ?_ | refine zNil rfl ?_ | refine zGet rfl ?_ | refine zOn rfl rfl ?_ | refine zOff rfl rfl ?_ | refine zU rfl ?_ | refine zOn rfl (by assumption) ?_ | refine zOff rfl (by assumption) ?_ | refine zMov rfl ?_ | refine zAsg rfl ?_ | refine zXtr rfl ?_ | refine zPT rfl rfl rfl ?_ | refine zPF rfl rfl rfl ?_ | refine zPT rfl (by assumption) rfl ?_ | refine zPF rfl (by assumption) rfl ?_ | refine zLss rfl rfl ?_ | refine zLeq rfl rfl ?_ | refine zGtr rfl rfl ?_ | refine zGeq rfl rfl ?_ | refine zEql rfl rfl ?_ | refine zNeq rfl rfl ?_ | refine zAdd rfl rfl (by omega) ?_ | refine zSub rfl rfl (by omega) ?_ | refine zLenS rfl E_string ?_ | refine zNot rfl ?_ | refine zEqS rfl rfl ?_ | refine zNeS rfl rfl ?_ | refine zT rfl rfl ?_ | refine zF rfl rfl ?_ | refine zT rfl (by assumption) ?_ | refine zF rfl (by assumption) ?_ | refine zIdx rfl rfl ha ?_ | refine zFld (f := 0) rfl O_phis_move_to ?_ | refine zFld (f := 1) rfl O_phis_move_from ?_ | refine zLd (ty := 3) rfl hl0 ?_ | refine zLd (ty := 3) rfl hl1 ?_ | refine zLd (ty := 40) rfl hlm ?_ | refine zLd (ty := 37) rfl hlr ?_ | refine zLd (ty := 24) rfl hlo ?_ | refine zLen rfl (hv.len E_s_phis_move) ?_ | refine zMk rfl ?_ | refine WL.op (op_lookup rfl rfl hg) ?_)
    refine WL.op op_makeMap ?_
    refine WL.op (op_alloc E_map_int_int rfl) ?_
    have hm2 := MI.new (H := H1)
    generalize hH2 : H1.alloc (.map []) = H2 at *
    have hf2 : Fr H1 H2 := by rw [← hH2]; exact .alloc _ _
    have hn2 : H2.next = H1.next + 1 := by rw [← hH2]; simp
    obtain ⟨H4, hwr, hb4, hf4, hn4⟩ := (Bx.new (H := H2) (et := 37) (cs := [.map none])).wr (off := 0) (vs := [.map (some H1.next)]) (by simp) (by simp)
    refine WL.op (op_store rfl rfl E_map_int_int rfl rfl hwr) ?_
    have hf24 : Fr H2 H4 := (Fr.alloc H2 _).young hf4 (by simp) (by simp)
    have hw4 := (hw1.fr hf2).fr hf24
    have hm4 := hm2.fr hf24
    have hb4 : Bx H4 H2.next 37 [.map (some H1.next)] := hb4
    have hfx4 : FrX (obs o) (ogs o) H H4 := hf1.trans ((hf2.trans hf24).x [] []) (by simp) (by simp)
    have hv := hw4.sl
    have hHn : H.next ≤ H1.next := hf1.1
    generalize hc : H1.next = c at *
    generalize hb5 : H2.next = b5 at *
    (repeat first | refine zSeq ?_ | refine zReg ?_ | refine zBlk ?_ | refine zSkp ?_ | refine zExt ?_ | refine zNil rfl ?_ | refine zGet rfl ?_ | refine zOn rfl rfl ?_ | refine zOff rfl rfl ?_ | refine zU rfl ?_ | refine zOn rfl (by assumption) ?_ | refine zOff rfl (by assumption) ?_ | refine zMov rfl ?_ | refine zAsg rfl ?_ | refine zXtr rfl ?_ | refine zPT rfl rfl rfl ?_ | refine zPF rfl rfl rfl ?_ | refine zPT rfl (by assumption) rfl ?_ | refine zPF rfl (by assumption) rfl ?_ | refine zLss rfl rfl ?_ | refine zLeq rfl rfl ?_ | refine zGtr rfl rfl ?_ | refine zGeq rfl rfl ?_ | refine zEql rfl rfl ?_ | refine zNeq rfl rfl ?_ | refine zAdd rfl rfl (by omega) ?_ | refine zSub rfl rfl (by omega) ?_ | refine zLenS rfl E_string ?_ | refine zNot rfl ?_ | refine zEqS rfl rfl ?_ | refine zNeS rfl rfl ?_ | refine zT rfl rfl ?_ | refine zF rfl rfl ?_ | refine zT rfl (by assumption) ?_ | refine zF rfl (by assumption) ?_ | refine zIdx rfl rfl ha ?_ | refine zFld (f := 0) rfl O_phis_move_to ?_ | refine zFld (f := 1) rfl O_phis_move_from ?_ | refine zLd (ty := 3) rfl hl0 ?_ | refine zLd (ty := 3) rfl hl1 ?_ | refine zLd (ty := 40) rfl hlm ?_ | refine zLd (ty := 37) rfl hlr ?_ | refine zLd (ty := 24) rfl hlo ?_ | refine zLen rfl (hv.len E_s_phis_move) ?_ | refine zMk rfl ?_ | refine WL.op (op_lookup rfl rfl hg) ?_)
    refine WP.loopH (σ := Nat × (Int → Option Value)) (fun x => [(0, v1), (1, .int .i64 t), (5, .pointer (some ⟨b5, 0, none⟩)), (16, v1), (17, .int .i64 l1.length), (18, .int .i64 x.1)])
      (fun x Hc => FrX (obs o) (ogs o) H Hc ∧ OwT Hc n0 40 2 v1 l1.length (mvs l1) tl1 o ∧ Bx Hc b5 37 [.map (some c)] ∧ MI Hc c x.2 ∧ x.1 ≤ l1.length ∧ ∀ k, (x.2 k).getD (.int .i64 0) = .int .i64 (cnt (l1.take x.1) k)) (fun x => l1.length - x.1) (0, fun _ => none)
      ⟨hfx4, hw4, hb4, hm4, Nat.zero_le _, fun k => rfl⟩ ⟨rfl, rfl, rfl, rfl, rfl, rfl, trivial⟩ ?_
    have hL1 : l1.length ≤ 65536 := Nat.le_trans hl0 hL
    have hlen1 := hl0
    clear hl0
    rintro ⟨i, f⟩ Hc ⟨hfx, hwc, hbc, hmc, hi, hcn⟩
    simp only at hfx hwc hbc hmc hi hcn ⊢
    have hv := hwc.sl
    rcases Nat.lt_or_ge i l1.length with h | h
    · have g1 : decide ((i : Int) < l1.length) = true := decide_eq_true (by omega)
      obtain ⟨b, off, ha, hlm, _, _⟩ := sl_mv hv h
      (repeat first | refine zSeq ?_ | refine zReg ?_ | refine zBlk ?_ | refine zSkp ?_ | refine zExt ?_ | refine zNil rfl ?_ | refine zGet rfl ?_ | refine zOn rfl rfl ?_ | refine zOff rfl rfl ?_ | refine zU rfl ?_ | refine zOn rfl (by assumption) ?_ | refine zOff rfl (by assumption) ?_ | refine zMov rfl ?_ | refine zAsg rfl ?_ | refine zXtr rfl ?_ | refine zPT rfl rfl rfl ?_ | refine zPF rfl rfl rfl ?_ | refine zPT rfl (by assumption) rfl ?_ | refine zPF rfl (by assumption) rfl ?_ | refine zLss rfl rfl ?_ | refine zLeq rfl rfl ?_ | refine zGtr rfl rfl ?_ | refine zGeq rfl rfl ?_ | refine zEql rfl rfl ?_ | refine zNeq rfl rfl ?_ | refine zAdd rfl rfl (by omega) ?_ | refine zSub rfl rfl (by omega) ?_ | refine zLenS rfl E_string ?_ | refine zNot rfl ?_ | refine zEqS rfl rfl ?_ | refine zNeS rfl rfl ?_ | refine zT rfl rfl ?_ | refine zF rfl rfl ?_ | refine zT rfl (by assumption) ?_ | refine zF rfl (by assumption) ?_ | refine zIdx rfl rfl ha ?_ | refine zFld (f := 0) rfl O_phis_move_to ?_ | refine zFld (f := 1) rfl O_phis_move_from ?_ | refine zLd (ty := 3) rfl hl0 ?_ | refine zLd (ty := 3) rfl hl1 ?_ | refine zLd (ty := 40) rfl hlm ?_ | refine zLd (ty := 37) rfl hlr ?_ | refine zLd (ty := 24) rfl hlo ?_ | refine zLen rfl (hv.len E_s_phis_move) ?_ | refine zMk rfl ?_ | refine WL.op (op_lookup rfl rfl hg) ?_)
      refine WL.op (op_alloc E_phis_move zeroM) ?_
      obtain ⟨Hd, hwd, hbd, hfd, hnd⟩ := (Bx.new (H := Hc) (et := 40) (cs := [.int .i64 0, .int .i64 0])).wr (off := 0) (vs := mvC l1[i]) (by simp [mvC]) (by simp [mvC])
      refine WL.op (op_store rfl rfl E_phis_move (by rw [te_phis_move_size]; rfl) rfl hwd) ?_
      have hfr : Fr Hc Hd := (Fr.alloc Hc _).young hfd (by simp) (by simp)
      have hbd' : Bx Hd Hc.next 40 (mvC l1[i]) := hbd
      have hl1 := (box_ld (hbd'.rd (n := 2) rfl)).2
      have hlr := ((hbc.fr hfr).rd (n := 1) rfl).load1 (V := V) E_map_int_int rfl
      have hg := (hmc.fr hfr).get E_map_int_int E_int E_int rfl l1[i].2
      rw [show (f l1[i].2).getD (TI.zv ⟨.int .i64, 1, 8, .int .i64 0⟩) = .int .i64 (cnt (l1.take i) l1[i].2) from hcn _] at hg
      have hcb : cnt (l1.take i) l1[i].2 ≤ 65536 := Nat.le_trans (cnt_le _ _) (by rw [List.length_take]; omega)
      obtain ⟨He, hu, hme, hfe, hne⟩ := (hmc.fr hfr).set E_map_int_int E_int l1[i].2 (.int .i64 ((cnt (l1.take i) l1[i].2 : Nat) + 1 : Int))
      (repeat first | refine zSeq ?_ | refine zReg ?_ | refine zBlk ?_ | refine zSkp ?_ | refine zExt ?_ | refine zNil rfl ?_ | refine zGet rfl ?_ | refine zOn rfl rfl ?_ | refine zOff rfl rfl ?_ | refine zU rfl ?_ | refine zOn rfl (by assumption) ?_ | refine zOff rfl (by assumption) ?_ | refine zMov rfl ?_ | refine zAsg rfl ?_ | refine zXtr rfl ?_ | refine zPT rfl rfl rfl ?_ | refine zPF rfl rfl rfl ?_ | refine zPT rfl (by assumption) rfl ?_ | refine zPF rfl (by assumption) rfl ?_ | refine zLss rfl rfl ?_ | refine zLeq rfl rfl ?_ | refine zGtr rfl rfl ?_ | refine zGeq rfl rfl ?_ | refine zEql rfl rfl ?_ | refine zNeq rfl rfl ?_ | refine zAdd rfl rfl (by omega) ?_ | refine zSub rfl rfl (by omega) ?_ | refine zLenS rfl E_string ?_ | refine zNot rfl ?_ | refine zEqS rfl rfl ?_ | refine zNeS rfl rfl ?_ | refine zT rfl rfl ?_ | refine zF rfl rfl ?_ | refine zT rfl (by assumption) ?_ | refine zF rfl (by assumption) ?_ | refine zIdx rfl rfl ha ?_ | refine zFld (f := 0) rfl O_phis_move_to ?_ | refine zFld (f := 1) rfl O_phis_move_from ?_ | refine zLd (ty := 3) rfl hl0 ?_ | refine zLd (ty := 3) rfl hl1 ?_ | refine zLd (ty := 40) rfl hlm ?_ | refine zLd (ty := 37) rfl hlr ?_ | refine zLd (ty := 24) rfl hlo ?_ | refine zLen rfl (hv.len E_s_phis_move) ?_ | refine zMk rfl ?_ | refine WL.op (op_lookup rfl rfl hg) ?_)
      refine WL.op (op_mapUpdate rfl rfl rfl hu) ?_
      (repeat first | refine zSeq ?_ | refine zReg ?_ | refine zBlk ?_ | refine zSkp ?_ | refine zExt ?_ | refine zNil rfl ?_ | refine zGet rfl ?_ | refine zOn rfl rfl ?_ | refine zOff rfl rfl ?_ | refine zU rfl ?_ | refine zOn rfl (by assumption) ?_ | refine zOff rfl (by assumption) ?_ | refine zMov rfl ?_ | refine zAsg rfl ?_ | refine zXtr rfl ?_ | refine zPT rfl rfl rfl ?_ | refine zPF rfl rfl rfl ?_ | refine zPT rfl (by assumption) rfl ?_ | refine zPF rfl (by assumption) rfl ?_ | refine zLss rfl rfl ?_ | refine zLeq rfl rfl ?_ | refine zGtr rfl rfl ?_ | refine zGeq rfl rfl ?_ | refine zEql rfl rfl ?_ | refine zNeq rfl rfl ?_ | refine zAdd rfl rfl (by omega) ?_ | refine zSub rfl rfl (by omega) ?_ | refine zLenS rfl E_string ?_ | refine zNot rfl ?_ | refine zEqS rfl rfl ?_ | refine zNeS rfl rfl ?_ | refine zT rfl rfl ?_ | refine zF rfl rfl ?_ | refine zT rfl (by assumption) ?_ | refine zF rfl (by assumption) ?_ | refine zIdx rfl rfl ha ?_ | refine zFld (f := 0) rfl O_phis_move_to ?_ | refine zFld (f := 1) rfl O_phis_move_from ?_ | refine zLd (ty := 3) rfl hl0 ?_ | refine zLd (ty := 3) rfl hl1 ?_ | refine zLd (ty := 40) rfl hlm ?_ | refine zLd (ty := 37) rfl hlr ?_ | refine zLd (ty := 24) rfl hlo ?_ | refine zLen rfl (hv.len E_s_phis_move) ?_ | refine zMk rfl ?_ | refine WL.op (op_lookup rfl rfl hg) ?_)
      refine ⟨(i + 1, fun x => if x = l1[i].2 then some (.int .i64 ((cnt (l1.take i) l1[i].2 : Nat) + 1 : Int)) else f x), ⟨hfx.trans ((hfr.x [c] []).trans hfe (fun b h _ => h) (fun b h _ => h)) (fun b h hb => by simp at h; omega) (by simp), (hwc.fr hfr).frX hfe (fun b hb h => by have := hyo.2.2.1 b hb; simp at h; omega) (by simp), (hbc.fr hfr).frX hfe (by simp; omega), hme, h, fun k => ?_⟩, by simp only; omega, rfl, rfl, rfl, rfl, rfl, rfl, trivial⟩
      simp only
      rw [cnt_take h]
      by_cases e : k = l1[i].2
      · subst e; rw [if_pos rfl, if_pos rfl]; rfl
      · rw [if_neg e, if_neg (Ne.symm e), hcn]; rfl
    · have g1 : decide ((i : Int) < l1.length) = false := decide_eq_false (by omega)
      obtain rfl : i = l1.length := by omega
      rw [List.take_length] at hcn
      (repeat first | refine zSeq ?_ | refine zReg ?_ | refine zBlk ?_ | refine zSkp ?_ | refine zExt ?_ | refine zNil rfl ?_ | refine zGet rfl ?_ | refine zOn rfl rfl ?_ | refine zOff rfl rfl ?_ | refine zU rfl ?_ | refine zOn rfl (by assumption) ?_ | refine zOff rfl (by assumption) ?_ | refine zMov rfl ?_ | refine zAsg rfl ?_ | refine zXtr rfl ?_ | refine zPT rfl rfl rfl ?_ | refine zPF rfl rfl rfl ?_ | refine zPT rfl (by assumption) rfl ?_ | refine zPF rfl (by assumption) rfl ?_ | refine zLss rfl rfl ?_ | refine zLeq rfl rfl ?_ | refine zGtr rfl rfl ?_ | refine zGeq rfl rfl ?_ | refine zEql rfl rfl ?_ | refine zNeq rfl rfl ?_ | refine zAdd rfl rfl (by omega) ?_ | refine zSub rfl rfl (by omega) ?_ | refine zLenS rfl E_string ?_ | refine zNot rfl ?_ | refine zEqS rfl rfl ?_ | refine zNeS rfl rfl ?_ | refine zT rfl rfl ?_ | refine zF rfl rfl ?_ | refine zT rfl (by assumption) ?_ | refine zF rfl (by assumption) ?_ | refine zIdx rfl rfl ha ?_ | refine zFld (f := 0) rfl O_phis_move_to ?_ | refine zFld (f := 1) rfl O_phis_move_from ?_ | refine zLd (ty := 3) rfl hl0 ?_ | refine zLd (ty := 3) rfl hl1 ?_ | refine zLd (ty := 40) rfl hlm ?_ | refine zLd (ty := 37) rfl hlr ?_ | refine zLd (ty := 24) rfl hlo ?_ | refine zLen rfl (hv.len E_s_phis_move) ?_ | refine zMk rfl ?_ | refine WL.op (op_lookup rfl rfl hg) ?_)
      refine WL.op (op_alloc E_s_api_Ins rfl) ?_
      (repeat first | refine zSeq ?_ | refine zReg ?_ | refine zBlk ?_ | refine zSkp ?_ | refine zExt ?_ | refine zNil rfl ?_ | refine zGet rfl ?_ | refine zOn rfl rfl ?_ | refine zOff rfl rfl ?_ | refine zU rfl ?_ | refine zOn rfl (by assumption) ?_ | refine zOff rfl (by assumption) ?_ | refine zMov rfl ?_ | refine zAsg rfl ?_ | refine zXtr rfl ?_ | refine zPT rfl rfl rfl ?_ | refine zPF rfl rfl rfl ?_ | refine zPT rfl (by assumption) rfl ?_ | refine zPF rfl (by assumption) rfl ?_ | refine zLss rfl rfl ?_ | refine zLeq rfl rfl ?_ | refine zGtr rfl rfl ?_ | refine zGeq rfl rfl ?_ | refine zEql rfl rfl ?_ | refine zNeq rfl rfl ?_ | refine zAdd rfl rfl (by omega) ?_ | refine zSub rfl rfl (by omega) ?_ | refine zLenS rfl E_string ?_ | refine zNot rfl ?_ | refine zEqS rfl rfl ?_ | refine zNeS rfl rfl ?_ | refine zT rfl rfl ?_ | refine zF rfl rfl ?_ | refine zT rfl (by assumption) ?_ | refine zF rfl (by assumption) ?_ | refine zIdx rfl rfl ha ?_ | refine zFld (f := 0) rfl O_phis_move_to ?_ | refine zFld (f := 1) rfl O_phis_move_from ?_ | refine zLd (ty := 3) rfl hl0 ?_ | refine zLd (ty := 3) rfl hl1 ?_ | refine zLd (ty := 40) rfl hlm ?_ | refine zLd (ty := 37) rfl hlr ?_ | refine zLd (ty := 24) rfl hlo ?_ | refine zLen rfl (hv.len E_s_phis_move) ?_ | refine zMk rfl ?_ | refine WL.op (op_lookup rfl rfl hg) ?_)
      refine WP.loopH (σ := List Mv × Value × (Int → Option Value) × Value × List Mv × Option (Nat × Nat)) (fun x => [(0, x.2.1), (1, .int .i64 t), (5, .pointer (some ⟨b5, 0, none⟩)), (8, .pointer (some ⟨Hc.next, 0, none⟩)), (9, .func (.func 15) #[] #[.pointer (some ⟨Hc.next, 0, none⟩)])])
        (fun x Hd => RI H Hd n0 (Hc.next + 1) c b5 Hc.next o t l1 x) (fun x => mu x.1) (l1, v1, f, .slice none 0 0, [], none)
        ⟨⟨⟨tl1, hwc.fr (.alloc _ _)⟩, hbc.fr (.alloc _ _), hmc.fr (.alloc _ _), .new, .nil, by simp, hyo.2.2, hHn, by omega, hbc.1, by omega⟩, hfx.trans ((Fr.alloc _ _).x [] []) (by simp) (by simp), hcn, ht0, fun r h => h, by simp, hL1⟩ ⟨rfl, rfl, rfl, rfl, rfl, trivial⟩ ?_
      have hHc : H.next ≤ Hc.next := hfx.1
      generalize Hc.next = b8 at *
      clear hcn hmc hbc hwc hfx hv hf24 hw4 hm4 hb4 hfx4 hf4 hwr
      rintro ⟨l, v, f, vo, out, oo⟩ Hc ⟨hp, hfx, hcn, ht, hR, hmu, hL⟩
      simp only at hp hfx hcn ht hR hmu hL ⊢
      obtain ⟨tl, hwc⟩ := hp.mv
      have hv := hwc.sl
      have hlo := (hp.ob.rd (n := 1) rfl).load1 (V := V) E_s_api_Ins rfl
      rcases Nat.eq_zero_or_pos l.length with h0 | h0
      · have g1 : decide ((l.length : Int) > 0) = false := decide_eq_false (by omega)
        (repeat first | refine zSeq ?_ | refine zReg ?_ | refine zBlk ?_ | refine zSkp ?_ | refine zExt ?_ | refine zNil rfl ?_ | refine zGet rfl ?_ | refine zOn rfl rfl ?_ | refine zOff rfl rfl ?_ | refine zU rfl ?_ | refine zOn rfl (by assumption) ?_ | refine zOff rfl (by assumption) ?_ | refine zMov rfl ?_ | refine zAsg rfl ?_ | refine zXtr rfl ?_ | refine zPT rfl rfl rfl ?_ | refine zPF rfl rfl rfl ?_ | refine zPT rfl (by assumption) rfl ?_ | refine zPF rfl (by assumption) rfl ?_ | refine zLss rfl rfl ?_ | refine zLeq rfl rfl ?_ | refine zGtr rfl rfl ?_ | refine zGeq rfl rfl ?_ | refine zEql rfl rfl ?_ | refine zNeq rfl rfl ?_ | refine zAdd rfl rfl (by omega) ?_ | refine zSub rfl rfl (by omega) ?_ | refine zLenS rfl E_string ?_ | refine zNot rfl ?_ | refine zEqS rfl rfl ?_ | refine zNeS rfl rfl ?_ | refine zT rfl rfl ?_ | refine zF rfl rfl ?_ | refine zT rfl (by assumption) ?_ | refine zF rfl (by assumption) ?_ | refine zIdx rfl rfl ha ?_ | refine zFld (f := 0) rfl O_phis_move_to ?_ | refine zFld (f := 1) rfl O_phis_move_from ?_ | refine zLd (ty := 3) rfl hl0 ?_ | refine zLd (ty := 3) rfl hl1 ?_ | refine zLd (ty := 40) rfl hlm ?_ | refine zLd (ty := 37) rfl hlr ?_ | refine zLd (ty := 24) rfl hlo ?_ | refine zLen rfl (hv.len E_s_phis_move) ?_ | refine zMk rfl ?_ | refine WL.op (op_lookup rfl rfl hg) ?_)
        obtain rfl : l = [] := List.length_eq_zero_iff.1 h0
        have hr := hR [] .nil
        rw [List.append_nil] at hr
        have := mu_le l1
        exact WP.ret ⟨.inr rfl, _, rfl, out, oo, _, hr, hp.ow, by omega, hfx, by omega⟩
      · have g1 : decide ((l.length : Int) > 0) = true := decide_eq_true (by omega)
        (repeat first | refine zSeq ?_ | refine zReg ?_ | refine zBlk ?_ | refine zSkp ?_ | refine zExt ?_ | refine zNil rfl ?_ | refine zGet rfl ?_ | refine zOn rfl rfl ?_ | refine zOff rfl rfl ?_ | refine zU rfl ?_ | refine zOn rfl (by assumption) ?_ | refine zOff rfl (by assumption) ?_ | refine zMov rfl ?_ | refine zAsg rfl ?_ | refine zXtr rfl ?_ | refine zPT rfl rfl rfl ?_ | refine zPF rfl rfl rfl ?_ | refine zPT rfl (by assumption) rfl ?_ | refine zPF rfl (by assumption) rfl ?_ | refine zLss rfl rfl ?_ | refine zLeq rfl rfl ?_ | refine zGtr rfl rfl ?_ | refine zGeq rfl rfl ?_ | refine zEql rfl rfl ?_ | refine zNeq rfl rfl ?_ | refine zAdd rfl rfl (by omega) ?_ | refine zSub rfl rfl (by omega) ?_ | refine zLenS rfl E_string ?_ | refine zNot rfl ?_ | refine zEqS rfl rfl ?_ | refine zNeS rfl rfl ?_ | refine zT rfl rfl ?_ | refine zF rfl rfl ?_ | refine zT rfl (by assumption) ?_ | refine zF rfl (by assumption) ?_ | refine zIdx rfl rfl ha ?_ | refine zFld (f := 0) rfl O_phis_move_to ?_ | refine zFld (f := 1) rfl O_phis_move_from ?_ | refine zLd (ty := 3) rfl hl0 ?_ | refine zLd (ty := 3) rfl hl1 ?_ | refine zLd (ty := 40) rfl hlm ?_ | refine zLd (ty := 37) rfl hlr ?_ | refine zLd (ty := 24) rfl hlo ?_ | refine zLen rfl (hv.len E_s_phis_move) ?_ | refine zMk rfl ?_ | refine WL.op (op_lookup rfl rfl hg) ?_)
        obtain ⟨Hx, hix, hfi⟩ := indexFunc_c hO hv (f := 17) (cap := #[.pointer (some ⟨b5, 0, none⟩)]) (p := Phi.free l) is_phis_rows_q3 (fun m _ Hy hy => by
          obtain ⟨Hz, h1, h2⟩ := unread_c hO m ((hp.rb.fr hy).rd (n := 1) rfl) (hp.rm.fr hy) (hcn m.1)
          exact ⟨Hz, by rw [cnt_free]; exact h1, h2⟩)
        refine WL.call rfl rfl is_slices_IndexFunc_s_phis_move_phis_move hix ?_
        replace hp := hp.fr hfi
        replace hfx := hfx.trans (hfi.x (obs o) (ogs o)) (fun b h _ => h) (fun b h _ => h)
        replace hwc := hwc.fr hfi
        have hv := hwc.sl
        have hlo := (hp.ob.rd (n := 1) rfl).load1 (V := V) E_s_api_Ins rfl
        have hlr := (hp.rb.rd (n := 1) rfl).load1 (V := V) E_map_int_int rfl
        clear hix hfi
        rcases idxI_cases (Phi.free l) l with ⟨e, hn⟩ | ⟨i, hi, e, hpi, hpj⟩
        · rw [e]
          have g2 : decide ((-1 : Int) ≥ 0) = false := by decide
          (repeat first | refine zSeq ?_ | refine zReg ?_ | refine zBlk ?_ | refine zSkp ?_ | refine zExt ?_ | refine zNil rfl ?_ | refine zGet rfl ?_ | refine zOn rfl rfl ?_ | refine zOff rfl rfl ?_ | refine zU rfl ?_ | refine zOn rfl (by assumption) ?_ | refine zOff rfl (by assumption) ?_ | refine zMov rfl ?_ | refine zAsg rfl ?_ | refine zXtr rfl ?_ | refine zPT rfl rfl rfl ?_ | refine zPF rfl rfl rfl ?_ | refine zPT rfl (by assumption) rfl ?_ | refine zPF rfl (by assumption) rfl ?_ | refine zLss rfl rfl ?_ | refine zLeq rfl rfl ?_ | refine zGtr rfl rfl ?_ | refine zGeq rfl rfl ?_ | refine zEql rfl rfl ?_ | refine zNeq rfl rfl ?_ | refine zAdd rfl rfl (by omega) ?_ | refine zSub rfl rfl (by omega) ?_ | refine zLenS rfl E_string ?_ | refine zNot rfl ?_ | refine zEqS rfl rfl ?_ | refine zNeS rfl rfl ?_ | refine zT rfl rfl ?_ | refine zF rfl rfl ?_ | refine zT rfl (by assumption) ?_ | refine zF rfl (by assumption) ?_ | refine zIdx rfl rfl ha ?_ | refine zFld (f := 0) rfl O_phis_move_to ?_ | refine zFld (f := 1) rfl O_phis_move_from ?_ | refine zLd (ty := 3) rfl hl0 ?_ | refine zLd (ty := 3) rfl hl1 ?_ | refine zLd (ty := 40) rfl hlm ?_ | refine zLd (ty := 37) rfl hlr ?_ | refine zLd (ty := 24) rfl hlo ?_ | refine zLen rfl (hv.len E_s_phis_move) ?_ | refine zMk rfl ?_ | refine WL.op (op_lookup rfl rfl hg) ?_)
          cases l with
          | nil => exact absurd h0 (by simp)
          | cons m0 l =>
          have ht0 : m0.1 ≠ t := ht m0 List.mem_cons_self
          obtain ⟨b, off, ha, _, hl0, _⟩ := sl_mv hv (i := 0) h0
          replace ha : aIndex V.E 38 v (.int .i64 0) = some (.pointer (some ⟨b, off, none⟩)) := ha
          replace hl0 : aLoad V.E Hx 3 (.pointer (some ⟨b, off + 0, none⟩)) = some (.int .i64 m0.1) := hl0
          have hol : out.length ≤ 262144 := by have := mu_le l1; omega
          obtain ⟨vo', oo', Hd, hcp, hp2, hfp⟩ := hp.put hO (t, m0.1) hol
          have hy := hp.ow.young
          have hfx2 : FrX (obs o) (ogs o) H Hd := hfx.trans hfp (fun b hb hlt => by
            rcases List.mem_cons.1 hb with rfl | hb
            · omega
            · have := hy.1 _ hb; omega) (fun b hb hlt => by have := hy.2.1 _ hb; omega)
          (repeat first | refine zSeq ?_ | refine zReg ?_ | refine zBlk ?_ | refine zSkp ?_ | refine zExt ?_ | refine zNil rfl ?_ | refine zGet rfl ?_ | refine zOn rfl rfl ?_ | refine zOff rfl rfl ?_ | refine zU rfl ?_ | refine zOn rfl (by assumption) ?_ | refine zOff rfl (by assumption) ?_ | refine zMov rfl ?_ | refine zAsg rfl ?_ | refine zXtr rfl ?_ | refine zPT rfl rfl rfl ?_ | refine zPF rfl rfl rfl ?_ | refine zPT rfl (by assumption) rfl ?_ | refine zPF rfl (by assumption) rfl ?_ | refine zLss rfl rfl ?_ | refine zLeq rfl rfl ?_ | refine zGtr rfl rfl ?_ | refine zGeq rfl rfl ?_ | refine zEql rfl rfl ?_ | refine zNeq rfl rfl ?_ | refine zAdd rfl rfl (by omega) ?_ | refine zSub rfl rfl (by omega) ?_ | refine zLenS rfl E_string ?_ | refine zNot rfl ?_ | refine zEqS rfl rfl ?_ | refine zNeS rfl rfl ?_ | refine zT rfl rfl ?_ | refine zF rfl rfl ?_ | refine zT rfl (by assumption) ?_ | refine zF rfl (by assumption) ?_ | refine zIdx rfl rfl ha ?_ | refine zFld (f := 0) rfl O_phis_move_to ?_ | refine zFld (f := 1) rfl O_phis_move_from ?_ | refine zLd (ty := 3) rfl hl0 ?_ | refine zLd (ty := 3) rfl hl1 ?_ | refine zLd (ty := 40) rfl hlm ?_ | refine zLd (ty := 37) rfl hlr ?_ | refine zLd (ty := 24) rfl hlo ?_ | refine zLen rfl (hv.len E_s_phis_move) ?_ | refine zMk rfl ?_ | refine WL.op (op_lookup rfl rfl hg) ?_)
          refine WL.op (op_build rfl build40) ?_
          refine WL.call rfl rfl is_phis_rows_q2 hcp ?_
          have hv := hp2.mv.choose_spec.sl
          (repeat first | refine zSeq ?_ | refine zReg ?_ | refine zBlk ?_ | refine zSkp ?_ | refine zExt ?_ | refine zNil rfl ?_ | refine zGet rfl ?_ | refine zOn rfl rfl ?_ | refine zOff rfl rfl ?_ | refine zU rfl ?_ | refine zOn rfl (by assumption) ?_ | refine zOff rfl (by assumption) ?_ | refine zMov rfl ?_ | refine zAsg rfl ?_ | refine zXtr rfl ?_ | refine zPT rfl rfl rfl ?_ | refine zPF rfl rfl rfl ?_ | refine zPT rfl (by assumption) rfl ?_ | refine zPF rfl (by assumption) rfl ?_ | refine zLss rfl rfl ?_ | refine zLeq rfl rfl ?_ | refine zGtr rfl rfl ?_ | refine zGeq rfl rfl ?_ | refine zEql rfl rfl ?_ | refine zNeq rfl rfl ?_ | refine zAdd rfl rfl (by omega) ?_ | refine zSub rfl rfl (by omega) ?_ | refine zLenS rfl E_string ?_ | refine zNot rfl ?_ | refine zEqS rfl rfl ?_ | refine zNeS rfl rfl ?_ | refine zT rfl rfl ?_ | refine zF rfl rfl ?_ | refine zT rfl (by assumption) ?_ | refine zF rfl (by assumption) ?_ | refine zIdx rfl rfl ha ?_ | refine zFld (f := 0) rfl O_phis_move_to ?_ | refine zFld (f := 1) rfl O_phis_move_from ?_ | refine zLd (ty := 3) rfl hl0 ?_ | refine zLd (ty := 3) rfl hl1 ?_ | refine zLd (ty := 40) rfl hlm ?_ | refine zLd (ty := 37) rfl hlr ?_ | refine zLd (ty := 24) rfl hlo ?_ | refine zLen rfl (hv.len E_s_phis_move) ?_ | refine zMk rfl ?_ | refine WL.op (op_lookup rfl rfl hg) ?_)
          have hmt := mu_turn ht0 hn
          refine WP.loopH (σ := Nat) (fun i => [(0, v), (1, .int .i64 t), (5, .pointer (some ⟨b5, 0, none⟩)), (8, .pointer (some ⟨b8, 0, none⟩)), (9, .func (.func 15) #[] #[.pointer (some ⟨b8, 0, none⟩)]), (11, .int .i64 m0.1), (66, .int .i64 (m0 :: l).length), (67, .int .i64 i)])
            (fun i He => Hp He n0 H.next (b8 + 1) c b5 b8 o v (tw m0.1 t (m0 :: l) i) f vo' (out ++ [(t, m0.1)]) oo' ∧ FrX (obs o) (ogs o) H He ∧ i ≤ (m0 :: l).length) (fun i => (m0 :: l).length - i) 0 ⟨hp2, hfx2, Nat.zero_le _⟩ ⟨rfl, rfl, rfl, rfl, rfl, rfl, rfl, rfl, trivial⟩ ?_
          clear hfx2 hv ha hl0 hp2 hcp hfp hwc hlo hlr hfx hp
          generalize hll : m0 :: l = ll at *
          rintro i Hc ⟨hp, hfx, hi⟩
          obtain ⟨tl2, hwc⟩ := hp.mv
          have hv := hwc.sl
          rcases Nat.lt_or_ge i ll.length with h | h
          · have g3 : decide ((i : Int) < ll.length) = true := decide_eq_true (by omega)
            have hti := tw_get (g := m0.1) (t := t) h
            obtain ⟨b, off, ha, _, _, hl1⟩ := sl_mv hv (i := i) (by rw [tw_len]; exact h)
            rw [hti] at hl1
            have hs := tw_succ (g := m0.1) (t := t) h
            by_cases he : ll[i].2 = m0.1
            · have g4 : (ll[i].2 == m0.1) = true := by rw [he]; exact beq_self_eq_true _
              rw [if_pos he] at hs
              obtain ⟨b', off', Hd, ha', _, hwr, hw5, hf5, hn5⟩ := hwc.set E_s_phis_move E_phis_move te_phis_move_size (kd := .i64) (i := i) (by omega) (by rw [tw_len]; omega) (vs := [.int .i64 t]) (by simp) (k := 1) (by simp)
              rw [show (i : Int).toNat = i from rfl, mvs_set1 (by rw [tw_len]; exact h), hti, ← hs] at hw5
              rw [ha] at ha'
              cases ha'
              (repeat first | refine zSeq ?_ | refine zReg ?_ | refine zBlk ?_ | refine zSkp ?_ | refine zExt ?_ | refine zNil rfl ?_ | refine zGet rfl ?_ | refine zOn rfl rfl ?_ | refine zOff rfl rfl ?_ | refine zU rfl ?_ | refine zOn rfl (by assumption) ?_ | refine zOff rfl (by assumption) ?_ | refine zMov rfl ?_ | refine zAsg rfl ?_ | refine zXtr rfl ?_ | refine zPT rfl rfl rfl ?_ | refine zPF rfl rfl rfl ?_ | refine zPT rfl (by assumption) rfl ?_ | refine zPF rfl (by assumption) rfl ?_ | refine zLss rfl rfl ?_ | refine zLeq rfl rfl ?_ | refine zGtr rfl rfl ?_ | refine zGeq rfl rfl ?_ | refine zEql rfl rfl ?_ | refine zNeq rfl rfl ?_ | refine zAdd rfl rfl (by omega) ?_ | refine zSub rfl rfl (by omega) ?_ | refine zLenS rfl E_string ?_ | refine zNot rfl ?_ | refine zEqS rfl rfl ?_ | refine zNeS rfl rfl ?_ | refine zT rfl rfl ?_ | refine zF rfl rfl ?_ | refine zT rfl (by assumption) ?_ | refine zF rfl (by assumption) ?_ | refine zIdx rfl rfl ha ?_ | refine zFld (f := 0) rfl O_phis_move_to ?_ | refine zFld (f := 1) rfl O_phis_move_from ?_ | refine zLd (ty := 3) rfl hl0 ?_ | refine zLd (ty := 3) rfl hl1 ?_ | refine zLd (ty := 40) rfl hlm ?_ | refine zLd (ty := 37) rfl hlr ?_ | refine zLd (ty := 24) rfl hlo ?_ | refine zLen rfl (hv.len E_s_phis_move) ?_ | refine zMk rfl ?_ | refine WL.op (op_lookup rfl rfl hg) ?_)
              refine WL.op (op_store rfl rfl E_int rfl rfl hwr) ?_
              (repeat first | refine zSeq ?_ | refine zReg ?_ | refine zBlk ?_ | refine zSkp ?_ | refine zExt ?_ | refine zNil rfl ?_ | refine zGet rfl ?_ | refine zOn rfl rfl ?_ | refine zOff rfl rfl ?_ | refine zU rfl ?_ | refine zOn rfl (by assumption) ?_ | refine zOff rfl (by assumption) ?_ | refine zMov rfl ?_ | refine zAsg rfl ?_ | refine zXtr rfl ?_ | refine zPT rfl rfl rfl ?_ | refine zPF rfl rfl rfl ?_ | refine zPT rfl (by assumption) rfl ?_ | refine zPF rfl (by assumption) rfl ?_ | refine zLss rfl rfl ?_ | refine zLeq rfl rfl ?_ | refine zGtr rfl rfl ?_ | refine zGeq rfl rfl ?_ | refine zEql rfl rfl ?_ | refine zNeq rfl rfl ?_ | refine zAdd rfl rfl (by omega) ?_ | refine zSub rfl rfl (by omega) ?_ | refine zLenS rfl E_string ?_ | refine zNot rfl ?_ | refine zEqS rfl rfl ?_ | refine zNeS rfl rfl ?_ | refine zT rfl rfl ?_ | refine zF rfl rfl ?_ | refine zT rfl (by assumption) ?_ | refine zF rfl (by assumption) ?_ | refine zIdx rfl rfl ha ?_ | refine zFld (f := 0) rfl O_phis_move_to ?_ | refine zFld (f := 1) rfl O_phis_move_from ?_ | refine zLd (ty := 3) rfl hl0 ?_ | refine zLd (ty := 3) rfl hl1 ?_ | refine zLd (ty := 40) rfl hlm ?_ | refine zLd (ty := 37) rfl hlr ?_ | refine zLd (ty := 24) rfl hlo ?_ | refine zLen rfl (hv.len E_s_phis_move) ?_ | refine zMk rfl ?_ | refine WL.op (op_lookup rfl rfl hg) ?_)
              exact ⟨i + 1, ⟨hp.mvd hf5 (by rw [tw_len] at hw5 ⊢; exact hw5), hfx.trans hf5 (fun b h _ => h) (fun b h _ => h), h⟩, by omega, rfl, rfl, rfl, rfl, rfl, rfl, rfl, rfl, trivial⟩
            · have g4 : (ll[i].2 == m0.1) = false := by rw [beq_eq_false_iff_ne]; exact he
              rw [if_neg he, ← hti, List.set_getElem_self] at hs
              (repeat first | refine zSeq ?_ | refine zReg ?_ | refine zBlk ?_ | refine zSkp ?_ | refine zExt ?_ | refine zNil rfl ?_ | refine zGet rfl ?_ | refine zOn rfl rfl ?_ | refine zOff rfl rfl ?_ | refine zU rfl ?_ | refine zOn rfl (by assumption) ?_ | refine zOff rfl (by assumption) ?_ | refine zMov rfl ?_ | refine zAsg rfl ?_ | refine zXtr rfl ?_ | refine zPT rfl rfl rfl ?_ | refine zPF rfl rfl rfl ?_ | refine zPT rfl (by assumption) rfl ?_ | refine zPF rfl (by assumption) rfl ?_ | refine zLss rfl rfl ?_ | refine zLeq rfl rfl ?_ | refine zGtr rfl rfl ?_ | refine zGeq rfl rfl ?_ | refine zEql rfl rfl ?_ | refine zNeq rfl rfl ?_ | refine zAdd rfl rfl (by omega) ?_ | refine zSub rfl rfl (by omega) ?_ | refine zLenS rfl E_string ?_ | refine zNot rfl ?_ | refine zEqS rfl rfl ?_ | refine zNeS rfl rfl ?_ | refine zT rfl rfl ?_ | refine zF rfl rfl ?_ | refine zT rfl (by assumption) ?_ | refine zF rfl (by assumption) ?_ | refine zIdx rfl rfl ha ?_ | refine zFld (f := 0) rfl O_phis_move_to ?_ | refine zFld (f := 1) rfl O_phis_move_from ?_ | refine zLd (ty := 3) rfl hl0 ?_ | refine zLd (ty := 3) rfl hl1 ?_ | refine zLd (ty := 40) rfl hlm ?_ | refine zLd (ty := 37) rfl hlr ?_ | refine zLd (ty := 24) rfl hlo ?_ | refine zLen rfl (hv.len E_s_phis_move) ?_ | refine zMk rfl ?_ | refine WL.op (op_lookup rfl rfl hg) ?_)
              exact ⟨i + 1, ⟨by rw [hs]; exact hp, hfx, h⟩, by omega, rfl, rfl, rfl, rfl, rfl, rfl, rfl, rfl, trivial⟩
          · have g3 : decide ((i : Int) < ll.length) = false := decide_eq_false (by omega)
            obtain rfl : i = ll.length := by omega
            rw [tw_end] at hp
            have hlr := (hp.rb.rd (n := 1) rfl).load1 (V := V) E_map_int_int rfl
            have hgt := hp.rm.get E_map_int_int E_int E_int rfl t
            rw [show (f t).getD (TI.zv ⟨.int .i64, 1, 8, .int .i64 0⟩) = .int .i64 (cnt ll t) from hcn _] at hgt
            have hgg := hp.rm.get E_map_int_int E_int E_int rfl m0.1
            rw [show (f m0.1).getD (TI.zv ⟨.int .i64, 1, 8, .int .i64 0⟩) = .int .i64 (cnt ll m0.1) from hcn _] at hgg
            have hc1 := cnt_le ll t
            have hc2 := cnt_le ll m0.1
            obtain ⟨Hd, hu, hmd, hfd, hnd⟩ := hp.rm.set E_map_int_int E_int t (.int .i64 ((cnt ll t : Nat) + (cnt ll m0.1 : Nat) : Int))
            have hp2 := hp.rmd hfd hmd
            have hfx2 : FrX (obs o) (ogs o) H Hd := hfx.trans hfd (fun b hb hlt => by simp at hb; omega) (by simp)
            have hlr2 := (hp2.rb.rd (n := 1) rfl).load1 (V := V) E_map_int_int rfl
            obtain ⟨He, hu2, hme, hfe, hne⟩ := hp2.rm.set E_map_int_int E_int m0.1 (.int .i64 0)
            have hp3 := hp2.rmd hfe hme
            have hfx3 : FrX (obs o) (ogs o) H He := hfx2.trans hfe (fun b hb hlt => by simp at hb; omega) (by simp)
            (repeat first | refine zSeq ?_ | refine zReg ?_ | refine zBlk ?_ | refine zSkp ?_ | refine zExt ?_ | refine zNil rfl ?_ | refine zGet rfl ?_ | refine zOn rfl rfl ?_ | refine zOff rfl rfl ?_ | refine zU rfl ?_ | refine zOn rfl (by assumption) ?_ | refine zOff rfl (by assumption) ?_ | refine zMov rfl ?_ | refine zAsg rfl ?_ | refine zXtr rfl ?_ | refine zPT rfl rfl rfl ?_ | refine zPF rfl rfl rfl ?_ | refine zPT rfl (by assumption) rfl ?_ | refine zPF rfl (by assumption) rfl ?_ | refine zLss rfl rfl ?_ | refine zLeq rfl rfl ?_ | refine zGtr rfl rfl ?_ | refine zGeq rfl rfl ?_ | refine zEql rfl rfl ?_ | refine zNeq rfl rfl ?_ | refine zAdd rfl rfl (by omega) ?_ | refine zSub rfl rfl (by omega) ?_ | refine zLenS rfl E_string ?_ | refine zNot rfl ?_ | refine zEqS rfl rfl ?_ | refine zNeS rfl rfl ?_ | refine zT rfl rfl ?_ | refine zF rfl rfl ?_ | refine zT rfl (by assumption) ?_ | refine zF rfl (by assumption) ?_ | refine zIdx rfl rfl ha ?_ | refine zFld (f := 0) rfl O_phis_move_to ?_ | refine zFld (f := 1) rfl O_phis_move_from ?_ | refine zLd (ty := 3) rfl hl0 ?_ | refine zLd (ty := 3) rfl hl1 ?_ | refine zLd (ty := 40) rfl hlm ?_ | refine zLd (ty := 37) rfl hlr ?_ | refine zLd (ty := 24) rfl hlo ?_ | refine zLen rfl (hv.len E_s_phis_move) ?_ | refine zMk rfl ?_ | refine WL.op (op_lookup rfl rfl hg) ?_)
            refine WP.rega ?_
            refine WH.op (op_load rfl hlr) ?_
            refine WH.get rfl ?_
            refine WH.op (op_load rfl hlr) ?_
            refine WH.get rfl ?_
            refine WH.op (op_load rfl hlr) ?_
            refine WH.get rfl ?_
            refine WH.op (op_lookup rfl rfl hgt) ?_
            refine WH.op (op_load rfl hlr) ?_
            refine WH.get rfl ?_
            refine WH.op (op_lookup rfl rfl hgg) ?_
            refine WH.op (op_int rfl rfl (aInt_add _ _ (by omega) (by omega))) ?_
            refine WH.op (op_mapUpdate rfl rfl rfl hu) ?_
            refine WH.op (op_mapUpdate rfl rfl rfl hu2) ?_
            refine WH.nil ⟨?_, _, rfl, ?_⟩
            · intro x hx
              rw [List.mem_singleton] at hx
              subst hx
              exact .inr ⟨rfl, _, _, _, rfl, rfl, op_load rfl hlr2, by simp [sameV, same0]⟩
            · refine ⟨(Phi.turn m0.1 t ll, v, (fun x => if x = m0.1 then some (.int .i64 0) else if x = t then some (.int .i64 ((cnt ll t : Nat) + (cnt ll m0.1 : Nat) : Int)) else f x), vo', out ++ [(t, m0.1)], oo'), ⟨hp3, hfx3, fun k => ?_, fun m hm => ?_, fun r hr => ?_, by simp only [List.length_append, List.length_singleton]; subst hll; omega, by simp only; rw [Phi.turn_length]; exact hL⟩, by simp only; subst hll; omega, rfl, rfl, rfl, rfl, rfl, trivial⟩
              · simp only
                rw [cnt_turn _ _ ht0]
                split
                · rfl
                · split
                  · simp
                  · rw [hcn]
              · obtain ⟨y, hy1, hy2⟩ := List.mem_map.1 hm
                rw [← hy2]
                have := ht y hy1
                split <;> exact this
              · subst hll
                have := hR _ (.turn hn hr)
                simpa using this
        · rw [e]
          have g2 : decide ((i : Int) ≥ 0) = true := decide_eq_true (by omega)
          obtain ⟨b, off, ha, hlm, _, _⟩ := sl_mv hv hi
          have hol : out.length ≤ 262144 := by have := mu_le l1; omega
          obtain ⟨vo', oo', Hd, hcp, hp2, hfp⟩ := hp.put hO l[i] hol
          (repeat first | refine zSeq ?_ | refine zReg ?_ | refine zBlk ?_ | refine zSkp ?_ | refine zExt ?_ | refine zNil rfl ?_ | refine zGet rfl ?_ | refine zOn rfl rfl ?_ | refine zOff rfl rfl ?_ | refine zU rfl ?_ | refine zOn rfl (by assumption) ?_ | refine zOff rfl (by assumption) ?_ | refine zMov rfl ?_ | refine zAsg rfl ?_ | refine zXtr rfl ?_ | refine zPT rfl rfl rfl ?_ | refine zPF rfl rfl rfl ?_ | refine zPT rfl (by assumption) rfl ?_ | refine zPF rfl (by assumption) rfl ?_ | refine zLss rfl rfl ?_ | refine zLeq rfl rfl ?_ | refine zGtr rfl rfl ?_ | refine zGeq rfl rfl ?_ | refine zEql rfl rfl ?_ | refine zNeq rfl rfl ?_ | refine zAdd rfl rfl (by omega) ?_ | refine zSub rfl rfl (by omega) ?_ | refine zLenS rfl E_string ?_ | refine zNot rfl ?_ | refine zEqS rfl rfl ?_ | refine zNeS rfl rfl ?_ | refine zT rfl rfl ?_ | refine zF rfl rfl ?_ | refine zT rfl (by assumption) ?_ | refine zF rfl (by assumption) ?_ | refine zIdx rfl rfl ha ?_ | refine zFld (f := 0) rfl O_phis_move_to ?_ | refine zFld (f := 1) rfl O_phis_move_from ?_ | refine zLd (ty := 3) rfl hl0 ?_ | refine zLd (ty := 3) rfl hl1 ?_ | refine zLd (ty := 40) rfl hlm ?_ | refine zLd (ty := 37) rfl hlr ?_ | refine zLd (ty := 24) rfl hlo ?_ | refine zLen rfl (hv.len E_s_phis_move) ?_ | refine zMk rfl ?_ | refine WL.op (op_lookup rfl rfl hg) ?_)
          refine WL.call rfl rfl is_phis_rows_q2 hcp ?_
          (repeat first | refine zSeq ?_ | refine zReg ?_ | refine zBlk ?_ | refine zSkp ?_ | refine zExt ?_ | refine zNil rfl ?_ | refine zGet rfl ?_ | refine zOn rfl rfl ?_ | refine zOff rfl rfl ?_ | refine zU rfl ?_ | refine zOn rfl (by assumption) ?_ | refine zOff rfl (by assumption) ?_ | refine zMov rfl ?_ | refine zAsg rfl ?_ | refine zXtr rfl ?_ | refine zPT rfl rfl rfl ?_ | refine zPF rfl rfl rfl ?_ | refine zPT rfl (by assumption) rfl ?_ | refine zPF rfl (by assumption) rfl ?_ | refine zLss rfl rfl ?_ | refine zLeq rfl rfl ?_ | refine zGtr rfl rfl ?_ | refine zGeq rfl rfl ?_ | refine zEql rfl rfl ?_ | refine zNeq rfl rfl ?_ | refine zAdd rfl rfl (by omega) ?_ | refine zSub rfl rfl (by omega) ?_ | refine zLenS rfl E_string ?_ | refine zNot rfl ?_ | refine zEqS rfl rfl ?_ | refine zNeS rfl rfl ?_ | refine zT rfl rfl ?_ | refine zF rfl rfl ?_ | refine zT rfl (by assumption) ?_ | refine zF rfl (by assumption) ?_ | refine zIdx rfl rfl ha ?_ | refine zFld (f := 0) rfl O_phis_move_to ?_ | refine zFld (f := 1) rfl O_phis_move_from ?_ | refine zLd (ty := 3) rfl hl0 ?_ | refine zLd (ty := 3) rfl hl1 ?_ | refine zLd (ty := 40) rfl hlm ?_ | refine zLd (ty := 37) rfl hlr ?_ | refine zLd (ty := 24) rfl hlo ?_ | refine zLen rfl (hv.len E_s_phis_move) ?_ | refine zMk rfl ?_ | refine WL.op (op_lookup rfl rfl hg) ?_)
          have hy := hp.ow.young
          obtain ⟨tl2, hw2⟩ := hp2.mv
          have hv := hw2.sl
          obtain ⟨b, off, ha, _, _, hl1⟩ := sl_mv hv hi
          have hlr := (hp2.rb.rd (n := 1) rfl).load1 (V := V) E_map_int_int rfl
          have hg := hp2.rm.get E_map_int_int E_int E_int rfl l[i].2
          rw [show (f l[i].2).getD (TI.zv ⟨.int .i64, 1, 8, .int .i64 0⟩) = .int .i64 (cnt l l[i].2) from hcn _] at hg
          have hcb : cnt l l[i].2 ≤ 65536 := Nat.le_trans (cnt_le _ _) hL
          obtain ⟨He, hu, hme, hfe, hne⟩ := hp2.rm.set E_map_int_int E_int l[i].2 (.int .i64 ((cnt l l[i].2 : Nat) - 1 : Int))
          have hfx2 : FrX (obs o) (ogs o) H Hd := hfx.trans hfp (fun b hb hlt => by
            rcases List.mem_cons.1 hb with rfl | hb
            · omega
            · have := hy.1 _ hb; omega) (fun b hb hlt => by have := hy.2.1 _ hb; omega)
          have hp3 := hp2.rmd hfe hme
          have hfx3 : FrX (obs o) (ogs o) H He := hfx2.trans hfe (fun b hb hlt => by simp at hb; omega) (by simp)
          obtain ⟨tl3, hw3⟩ := hp3.mv
          obtain ⟨v', Hf, tl', hcd, hfd, hwd⟩ := delete_c hO hw3 hi hL
          have hp4 := hp3.mvd hfd hwd
          (repeat first | refine zSeq ?_ | refine zReg ?_ | refine zBlk ?_ | refine zSkp ?_ | refine zExt ?_ | refine zNil rfl ?_ | refine zGet rfl ?_ | refine zOn rfl rfl ?_ | refine zOff rfl rfl ?_ | refine zU rfl ?_ | refine zOn rfl (by assumption) ?_ | refine zOff rfl (by assumption) ?_ | refine zMov rfl ?_ | refine zAsg rfl ?_ | refine zXtr rfl ?_ | refine zPT rfl rfl rfl ?_ | refine zPF rfl rfl rfl ?_ | refine zPT rfl (by assumption) rfl ?_ | refine zPF rfl (by assumption) rfl ?_ | refine zLss rfl rfl ?_ | refine zLeq rfl rfl ?_ | refine zGtr rfl rfl ?_ | refine zGeq rfl rfl ?_ | refine zEql rfl rfl ?_ | refine zNeq rfl rfl ?_ | refine zAdd rfl rfl (by omega) ?_ | refine zSub rfl rfl (by omega) ?_ | refine zLenS rfl E_string ?_ | refine zNot rfl ?_ | refine zEqS rfl rfl ?_ | refine zNeS rfl rfl ?_ | refine zT rfl rfl ?_ | refine zF rfl rfl ?_ | refine zT rfl (by assumption) ?_ | refine zF rfl (by assumption) ?_ | refine zIdx rfl rfl ha ?_ | refine zFld (f := 0) rfl O_phis_move_to ?_ | refine zFld (f := 1) rfl O_phis_move_from ?_ | refine zLd (ty := 3) rfl hl0 ?_ | refine zLd (ty := 3) rfl hl1 ?_ | refine zLd (ty := 40) rfl hlm ?_ | refine zLd (ty := 37) rfl hlr ?_ | refine zLd (ty := 24) rfl hlo ?_ | refine zLen rfl (hv.len E_s_phis_move) ?_ | refine zMk rfl ?_ | refine WL.op (op_lookup rfl rfl hg) ?_)
          refine WL.op (op_mapUpdate rfl rfl rfl hu) ?_
          (repeat first | refine zSeq ?_ | refine zReg ?_ | refine zBlk ?_ | refine zSkp ?_ | refine zExt ?_ | refine zNil rfl ?_ | refine zGet rfl ?_ | refine zOn rfl rfl ?_ | refine zOff rfl rfl ?_ | refine zU rfl ?_ | refine zOn rfl (by assumption) ?_ | refine zOff rfl (by assumption) ?_ | refine zMov rfl ?_ | refine zAsg rfl ?_ | refine zXtr rfl ?_ | refine zPT rfl rfl rfl ?_ | refine zPF rfl rfl rfl ?_ | refine zPT rfl (by assumption) rfl ?_ | refine zPF rfl (by assumption) rfl ?_ | refine zLss rfl rfl ?_ | refine zLeq rfl rfl ?_ | refine zGtr rfl rfl ?_ | refine zGeq rfl rfl ?_ | refine zEql rfl rfl ?_ | refine zNeq rfl rfl ?_ | refine zAdd rfl rfl (by omega) ?_ | refine zSub rfl rfl (by omega) ?_ | refine zLenS rfl E_string ?_ | refine zNot rfl ?_ | refine zEqS rfl rfl ?_ | refine zNeS rfl rfl ?_ | refine zT rfl rfl ?_ | refine zF rfl rfl ?_ | refine zT rfl (by assumption) ?_ | refine zF rfl (by assumption) ?_ | refine zIdx rfl rfl ha ?_ | refine zFld (f := 0) rfl O_phis_move_to ?_ | refine zFld (f := 1) rfl O_phis_move_from ?_ | refine zLd (ty := 3) rfl hl0 ?_ | refine zLd (ty := 3) rfl hl1 ?_ | refine zLd (ty := 40) rfl hlm ?_ | refine zLd (ty := 37) rfl hlr ?_ | refine zLd (ty := 24) rfl hlo ?_ | refine zLen rfl (hv.len E_s_phis_move) ?_ | refine zMk rfl ?_ | refine WL.op (op_lookup rfl rfl hg) ?_)
          refine WL.call rfl rfl is_slices_Delete_s_phis_move_phis_move hcd ?_
          (repeat first | refine zSeq ?_ | refine zReg ?_ | refine zBlk ?_ | refine zSkp ?_ | refine zExt ?_ | refine zNil rfl ?_ | refine zGet rfl ?_ | refine zOn rfl rfl ?_ | refine zOff rfl rfl ?_ | refine zU rfl ?_ | refine zOn rfl (by assumption) ?_ | refine zOff rfl (by assumption) ?_ | refine zMov rfl ?_ | refine zAsg rfl ?_ | refine zXtr rfl ?_ | refine zPT rfl rfl rfl ?_ | refine zPF rfl rfl rfl ?_ | refine zPT rfl (by assumption) rfl ?_ | refine zPF rfl (by assumption) rfl ?_ | refine zLss rfl rfl ?_ | refine zLeq rfl rfl ?_ | refine zGtr rfl rfl ?_ | refine zGeq rfl rfl ?_ | refine zEql rfl rfl ?_ | refine zNeq rfl rfl ?_ | refine zAdd rfl rfl (by omega) ?_ | refine zSub rfl rfl (by omega) ?_ | refine zLenS rfl E_string ?_ | refine zNot rfl ?_ | refine zEqS rfl rfl ?_ | refine zNeS rfl rfl ?_ | refine zT rfl rfl ?_ | refine zF rfl rfl ?_ | refine zT rfl (by assumption) ?_ | refine zF rfl (by assumption) ?_ | refine zIdx rfl rfl ha ?_ | refine zFld (f := 0) rfl O_phis_move_to ?_ | refine zFld (f := 1) rfl O_phis_move_from ?_ | refine zLd (ty := 3) rfl hl0 ?_ | refine zLd (ty := 3) rfl hl1 ?_ | refine zLd (ty := 40) rfl hlm ?_ | refine zLd (ty := 37) rfl hlr ?_ | refine zLd (ty := 24) rfl hlo ?_ | refine zLen rfl (hv.len E_s_phis_move) ?_ | refine zMk rfl ?_ | refine WL.op (op_lookup rfl rfl hg) ?_)
          have hmf := mu_free hi hpi
          refine ⟨(l.eraseIdx i, v', (fun x => if x = l[i].2 then some (.int .i64 ((cnt l l[i].2 : Nat) - 1 : Int)) else f x), vo', out ++ [l[i]], oo'), ⟨hp4, hfx3.trans hfd (fun b h _ => h) (fun b h _ => h), fun k => ?_, fun m hm => ht m (List.mem_of_mem_eraseIdx hm), fun r hr => ?_, by simp only [List.length_append, List.length_singleton]; omega, by simp only; rw [List.length_eraseIdx_of_lt hi]; omega⟩, by simp only; omega, rfl, rfl, rfl, rfl, rfl, trivial⟩
          · simp only
            have hce := cnt_erase hi k
            by_cases e : k = l[i].2
            · subst e
              rw [if_pos rfl] at hce ⊢
              rw [hce]; simp
            · rw [if_neg (Ne.symm e)] at hce
              rw [if_neg e, hcn, hce]; rfl
          · have := hR _ (.free hi hpi hpj hr)
            simpa using this
  obtain ⟨u, H', h, out, oo, n2, hk⟩ := key
  exact ⟨u, H', out, oo, n2, h, hk⟩
end Go.Proofs.Ytalhmpcllfhllaa.U

/-
  Contracts of phis: Row.
-/
namespace Go.Proofs.Ytalhmpcllfhllaa.U
open Go Go.Ev
attribute [local irreducible] WL WP WH W
variable {O : Orc} {H : AH}
def ints (l : List Int) : List Value := l.map fun x => .int .i64 x
def ok1 (p : List Int) (x y t : Int) : Bool := !decide (x < 0) && !decide (y < 0) && !(x == t) && !(y == t) && !decide ((p.count x : Int) > 0)
def okf (a b : List Int) (t : Int) (i : Nat) : Bool := match a[i]?, b[i]? with
  | some x, some y => ok1 (a.take i) x y t
  | _, _ => false
def rowOk (a b : List Int) (t : Int) : Bool := !((a.length : Int) != b.length) && !decide (t < 0) && (List.range a.length).all (okf a b t)
def live_ (a b : List Int) : List Mv := (a.zip b).filter fun m => !(m.1 == m.2)
def RowR (H H' : AH) (a b : List Int) (t : Int) (v : Value) : Prop :=
  Fr H H' ∧ ((rowOk a b t = true ∧ ∃ w out oo n2, v = .tuple #[w, .int .i64 0] ∧ Phi.Rows t (live_ a b) out ∧ Ow H' n2 30 6 w out.length (inss out) oo ∧ H.next ≤ n2 ∧ out.length ≤ 2 * a.length + 1) ∨ (rowOk a b t = false ∧ v = .tuple #[.slice none 0 0, .int .i64 4]))
theorem okf_at {a b : List Int} {t : Int} {i : Nat} (h1 : i < a.length) (h2 : i < b.length) : okf a b t i = ok1 (a.take i) a[i] b[i] t := by
  unfold okf; rw [List.getElem?_eq_getElem h1, List.getElem?_eq_getElem h2]
theorem rowR_bad {H' : AH} {a b : List Int} {t : Int} (hf : Fr H H') {i : Nat} (h1 : i < a.length) (h2 : i < b.length) (h : ok1 (a.take i) a[i] b[i] t = false) : RowR H H' a b t (.tuple #[.slice none 0 0, .int .i64 4]) := by
  refine ⟨hf, .inr ⟨?_, rfl⟩⟩
  unfold rowOk
  have : (List.range a.length).all (okf a b t) = false := by
    rw [List.all_eq_false]
    exact ⟨i, List.mem_range.2 h1, by rw [okf_at h1 h2, h]; simp⟩
  rw [this, Bool.and_false]
theorem rows_goals {a b : List Int} {t : Int} (h : (List.range a.length).all (okf a b t) = true) : ∀ m ∈ a.zip b, m.1 ≠ t := by
  intro m hm
  obtain ⟨i, hi, rfl⟩ := List.mem_iff_getElem.1 hm
  have hi' : i < a.length ∧ i < b.length := by simp at hi; omega
  have := List.all_eq_true.1 h i (List.mem_range.2 hi'.1)
  rw [okf_at hi'.1 hi'.2] at this
  simp only [ok1, Bool.and_eq_true, Bool.not_eq_true', beq_eq_false_iff_ne] at this
  simpa using this.1.1.2
theorem sl_int {v : Value} {l : List Int} (h : Sl H v 1 l.length (ints l)) {i : Nat} (hi : i < l.length) :
    ∃ b off, aIndex V.E 22 v (.int .i64 i) = some (.pointer (some ⟨b, off, none⟩)) ∧ aLoad V.E H 3 (.pointer (some ⟨b, off, none⟩)) = some (.int .i64 l[i]) := by
  obtain ⟨b, off, ha, hr⟩ := h.at E_s_int E_int rfl (kd := .i64) (i := i) (by omega) (by omega)
  rw [show (i : Int).toNat = i from rfl, Nat.mul_one] at hr
  have e : (List.drop i (ints l)).take 1 = [.int .i64 l[i]] := by
    unfold ints
    rw [← List.map_drop, List.drop_eq_getElem_cons hi]; rfl
  rw [e] at hr
  exact ⟨b, off, ha, hr.load1 E_int rfl⟩
theorem fill40 {a b : Int} : afill (fun i => some (i * te_phis_move.size, te_phis_move.size)) (azeros te_phis_move.zv.cells.toList 1) [(0, .agg #[.int .i64 a, .int .i64 b])] = some (mvC (a, b)) := by kernel_rfl
set_option maxHeartbeats 2000000 in
theorem row_c (hO : ∀ f vs H, f ≠ 6 → O f vs H = none) {a b : List Int} {vt vf : Value} (hv1 : Sl H vt 1 a.length (ints a)) (hv2 : Sl H vf 1 b.length (ints b)) (hL : a.length ≤ 60) (t : Int) :
    ∃ v H', Lc V O F_phis_Row [vt, vf, .int .i64 t] H v H' ∧ RowR H H' a b t v := by
  refine Lc.phis_Row (R := fun u H' => RowR H H' a b t u) (hO _ _ _ (by decide)) (Nat.le_of_ble_eq_true rfl) (by kernel_rfl) ?_
  unfold P_phis_Row
  cases c0 : ((a.length : Int) != b.length)
  case true =>
    (repeat first | refine zSeq ?_ | refine zReg ?_ | refine zBlk ?_ | refine zSkp ?_ | refine zExt ?_ | refine zNil rfl ?_ | refine zGet rfl ?_ | refine zOn rfl rfl ?_ | refine zOff rfl rfl ?_ | refine zU rfl ?_ | refine zOn rfl (by assumption) ?_ | refine zOff rfl (by assumption) ?_ | refine zMov rfl ?_ | refine zAsg rfl ?_ | refine zXtr rfl ?_ | refine zPT rfl rfl rfl ?_ | refine zPF rfl rfl rfl ?_ | refine zPT rfl (by assumption) rfl ?_ | refine zPF rfl (by assumption) rfl ?_ | refine zLss rfl rfl ?_ | refine zLeq rfl rfl ?_ | refine zGtr rfl rfl ?_ | refine zGeq rfl rfl ?_ | refine zEql rfl rfl ?_ | refine zNeq rfl rfl ?_ | refine zAdd rfl rfl (by omega) ?_ | refine zSub rfl rfl (by omega) ?_ | refine zLenS rfl E_string ?_ | refine zNot rfl ?_ | refine zEqS rfl rfl ?_ | refine zNeS rfl rfl ?_ | refine zT rfl rfl ?_ | refine zF rfl rfl ?_ | refine zT rfl (by assumption) ?_ | refine zF rfl (by assumption) ?_ | refine zIdx rfl rfl ha1 ?_ | refine zIdx rfl rfl ha2 ?_ | refine zLd (ty := 3) rfl hl1 ?_ | refine zLd (ty := 3) rfl hl2 ?_ | refine zLen rfl (hv1.len E_s_int) ?_ | refine zLen rfl (hv2.len E_s_int) ?_ | refine WL.op (op_lookup rfl rfl hg) ?_)
    exact WP.ret ⟨.inr rfl, _, rfl, .refl _, .inr ⟨by unfold rowOk; rw [c0]; rfl, rfl⟩⟩
  cases c1 : decide (t < 0)
  case true =>
    (repeat first | refine zSeq ?_ | refine zReg ?_ | refine zBlk ?_ | refine zSkp ?_ | refine zExt ?_ | refine zNil rfl ?_ | refine zGet rfl ?_ | refine zOn rfl rfl ?_ | refine zOff rfl rfl ?_ | refine zU rfl ?_ | refine zOn rfl (by assumption) ?_ | refine zOff rfl (by assumption) ?_ | refine zMov rfl ?_ | refine zAsg rfl ?_ | refine zXtr rfl ?_ | refine zPT rfl rfl rfl ?_ | refine zPF rfl rfl rfl ?_ | refine zPT rfl (by assumption) rfl ?_ | refine zPF rfl (by assumption) rfl ?_ | refine zLss rfl rfl ?_ | refine zLeq rfl rfl ?_ | refine zGtr rfl rfl ?_ | refine zGeq rfl rfl ?_ | refine zEql rfl rfl ?_ | refine zNeq rfl rfl ?_ | refine zAdd rfl rfl (by omega) ?_ | refine zSub rfl rfl (by omega) ?_ | refine zLenS rfl E_string ?_ | refine zNot rfl ?_ | refine zEqS rfl rfl ?_ | refine zNeS rfl rfl ?_ | refine zT rfl rfl ?_ | refine zF rfl rfl ?_ | refine zT rfl (by assumption) ?_ | refine zF rfl (by assumption) ?_ | refine zIdx rfl rfl ha1 ?_ | refine zIdx rfl rfl ha2 ?_ | refine zLd (ty := 3) rfl hl1 ?_ | refine zLd (ty := 3) rfl hl2 ?_ | refine zLen rfl (hv1.len E_s_int) ?_ | refine zLen rfl (hv2.len E_s_int) ?_ | refine WL.op (op_lookup rfl rfl hg) ?_)
    exact WP.ret ⟨.inr rfl, _, rfl, .refl _, .inr ⟨by unfold rowOk; rw [c1]; simp, rfl⟩⟩
  have hlen : a.length = b.length := by have := bne_eq_false_iff_eq.1 c0; omega
  (repeat first | refine zSeq ?_ | refine zReg ?_ | refine zBlk ?_ | refine zSkp ?_ | refine zExt ?_ | refine zNil rfl ?_ | refine zGet rfl ?_ | refine zOn rfl rfl ?_ | refine zOff rfl rfl ?_ | refine zU rfl ?_ | refine zOn rfl (by assumption) ?_ | refine zOff rfl (by assumption) ?_ | refine zMov rfl ?_ | refine zAsg rfl ?_ | refine zXtr rfl ?_ | refine zPT rfl rfl rfl ?_ | refine zPF rfl rfl rfl ?_ | refine zPT rfl (by assumption) rfl ?_ | refine zPF rfl (by assumption) rfl ?_ | refine zLss rfl rfl ?_ | refine zLeq rfl rfl ?_ | refine zGtr rfl rfl ?_ | refine zGeq rfl rfl ?_ | refine zEql rfl rfl ?_ | refine zNeq rfl rfl ?_ | refine zAdd rfl rfl (by omega) ?_ | refine zSub rfl rfl (by omega) ?_ | refine zLenS rfl E_string ?_ | refine zNot rfl ?_ | refine zEqS rfl rfl ?_ | refine zNeS rfl rfl ?_ | refine zT rfl rfl ?_ | refine zF rfl rfl ?_ | refine zT rfl (by assumption) ?_ | refine zF rfl (by assumption) ?_ | refine zIdx rfl rfl ha1 ?_ | refine zIdx rfl rfl ha2 ?_ | refine zLd (ty := 3) rfl hl1 ?_ | refine zLd (ty := 3) rfl hl2 ?_ | refine zLen rfl (hv1.len E_s_int) ?_ | refine zLen rfl (hv2.len E_s_int) ?_ | refine WL.op (op_lookup rfl rfl hg) ?_)
  refine WL.op op_makeMap ?_
  have hm0 := MI.new (H := H)
  have hf0 := Fr.alloc H (.map [])
  have hv1o := hv1
  have hv1 := hv1.fr hf0
  (repeat first | refine zSeq ?_ | refine zReg ?_ | refine zBlk ?_ | refine zSkp ?_ | refine zExt ?_ | refine zNil rfl ?_ | refine zGet rfl ?_ | refine zOn rfl rfl ?_ | refine zOff rfl rfl ?_ | refine zU rfl ?_ | refine zOn rfl (by assumption) ?_ | refine zOff rfl (by assumption) ?_ | refine zMov rfl ?_ | refine zAsg rfl ?_ | refine zXtr rfl ?_ | refine zPT rfl rfl rfl ?_ | refine zPF rfl rfl rfl ?_ | refine zPT rfl (by assumption) rfl ?_ | refine zPF rfl (by assumption) rfl ?_ | refine zLss rfl rfl ?_ | refine zLeq rfl rfl ?_ | refine zGtr rfl rfl ?_ | refine zGeq rfl rfl ?_ | refine zEql rfl rfl ?_ | refine zNeq rfl rfl ?_ | refine zAdd rfl rfl (by omega) ?_ | refine zSub rfl rfl (by omega) ?_ | refine zLenS rfl E_string ?_ | refine zNot rfl ?_ | refine zEqS rfl rfl ?_ | refine zNeS rfl rfl ?_ | refine zT rfl rfl ?_ | refine zF rfl rfl ?_ | refine zT rfl (by assumption) ?_ | refine zF rfl (by assumption) ?_ | refine zIdx rfl rfl ha1 ?_ | refine zIdx rfl rfl ha2 ?_ | refine zLd (ty := 3) rfl hl1 ?_ | refine zLd (ty := 3) rfl hl2 ?_ | refine zLen rfl (hv1.len E_s_int) ?_ | refine zLen rfl (hv2.len E_s_int) ?_ | refine WL.op (op_lookup rfl rfl hg) ?_)
  refine WP.loopH (σ := Nat × (Int → Option Value) × Value × Option (Nat × Nat)) (fun x => [(0, vt), (1, vf), (2, .int .i64 t), (8, .map (some H.next)), (9, x.2.2.1), (22, vt), (23, .int .i64 a.length), (24, .int .i64 x.1)])
    (fun x Hc => Fr H Hc ∧ H.next < Hc.next ∧ MI Hc H.next x.2.1 ∧ (∀ k, (x.2.1 k).getD (.int .i64 0) = .int .i64 ((a.take x.1).count k)) ∧ Ow Hc (H.next + 1) 40 2 x.2.2.1 x.1 (mvs ((a.zip b).take x.1)) x.2.2.2 ∧ x.1 ≤ a.length ∧ (List.range x.1).all (okf a b t) = true) (fun x => a.length - x.1) (0, (fun _ => none), .slice none 0 0, none)
    ⟨hf0, by simp, hm0, fun k => rfl, .nil, Nat.zero_le _, rfl⟩ ⟨rfl, rfl, rfl, rfl, rfl, rfl, rfl, rfl, trivial⟩ ?_
  rintro ⟨i, f, vm, om⟩ Hc ⟨hfr, hnx, hm, hcn, how, hi, hok⟩
  simp only at hfr hnx hm hcn how hi hok ⊢
  have hv1 := hv1o.fr hfr
  have hv2o := hv2
  have hv2 := hv2.fr hfr
  rcases Nat.lt_or_ge i a.length with h | h
  · have g1 : decide ((i : Int) < a.length) = true := decide_eq_true (by omega)
    have hb : i < b.length := by omega
    obtain ⟨b1, o1, ha1, hl1⟩ := sl_int hv1 h
    obtain ⟨b2, o2, ha2, hl2⟩ := sl_int hv2 hb
    have hg := hm.get E_map_int_int E_int E_int rfl a[i]
    rw [show (f a[i]).getD (TI.zv ⟨.int .i64, 1, 8, .int .i64 0⟩) = .int .i64 ((a.take i).count a[i]) from hcn _] at hg
    cases d1 : decide (a[i] < 0)
    case true =>
      (repeat first | refine zSeq ?_ | refine zReg ?_ | refine zBlk ?_ | refine zSkp ?_ | refine zExt ?_ | refine zNil rfl ?_ | refine zGet rfl ?_ | refine zOn rfl rfl ?_ | refine zOff rfl rfl ?_ | refine zU rfl ?_ | refine zOn rfl (by assumption) ?_ | refine zOff rfl (by assumption) ?_ | refine zMov rfl ?_ | refine zAsg rfl ?_ | refine zXtr rfl ?_ | refine zPT rfl rfl rfl ?_ | refine zPF rfl rfl rfl ?_ | refine zPT rfl (by assumption) rfl ?_ | refine zPF rfl (by assumption) rfl ?_ | refine zLss rfl rfl ?_ | refine zLeq rfl rfl ?_ | refine zGtr rfl rfl ?_ | refine zGeq rfl rfl ?_ | refine zEql rfl rfl ?_ | refine zNeq rfl rfl ?_ | refine zAdd rfl rfl (by omega) ?_ | refine zSub rfl rfl (by omega) ?_ | refine zLenS rfl E_string ?_ | refine zNot rfl ?_ | refine zEqS rfl rfl ?_ | refine zNeS rfl rfl ?_ | refine zT rfl rfl ?_ | refine zF rfl rfl ?_ | refine zT rfl (by assumption) ?_ | refine zF rfl (by assumption) ?_ | refine zIdx rfl rfl ha1 ?_ | refine zIdx rfl rfl ha2 ?_ | refine zLd (ty := 3) rfl hl1 ?_ | refine zLd (ty := 3) rfl hl2 ?_ | refine zLen rfl (hv1.len E_s_int) ?_ | refine zLen rfl (hv2.len E_s_int) ?_ | refine WL.op (op_lookup rfl rfl hg) ?_)
      exact WP.ret ⟨.inr rfl, _, rfl, rowR_bad hfr h hb (by simp [ok1, d1])⟩
    cases d2 : decide (b[i] < 0)
    case true =>
      (repeat first | refine zSeq ?_ | refine zReg ?_ | refine zBlk ?_ | refine zSkp ?_ | refine zExt ?_ | refine zNil rfl ?_ | refine zGet rfl ?_ | refine zOn rfl rfl ?_ | refine zOff rfl rfl ?_ | refine zU rfl ?_ | refine zOn rfl (by assumption) ?_ | refine zOff rfl (by assumption) ?_ | refine zMov rfl ?_ | refine zAsg rfl ?_ | refine zXtr rfl ?_ | refine zPT rfl rfl rfl ?_ | refine zPF rfl rfl rfl ?_ | refine zPT rfl (by assumption) rfl ?_ | refine zPF rfl (by assumption) rfl ?_ | refine zLss rfl rfl ?_ | refine zLeq rfl rfl ?_ | refine zGtr rfl rfl ?_ | refine zGeq rfl rfl ?_ | refine zEql rfl rfl ?_ | refine zNeq rfl rfl ?_ | refine zAdd rfl rfl (by omega) ?_ | refine zSub rfl rfl (by omega) ?_ | refine zLenS rfl E_string ?_ | refine zNot rfl ?_ | refine zEqS rfl rfl ?_ | refine zNeS rfl rfl ?_ | refine zT rfl rfl ?_ | refine zF rfl rfl ?_ | refine zT rfl (by assumption) ?_ | refine zF rfl (by assumption) ?_ | refine zIdx rfl rfl ha1 ?_ | refine zIdx rfl rfl ha2 ?_ | refine zLd (ty := 3) rfl hl1 ?_ | refine zLd (ty := 3) rfl hl2 ?_ | refine zLen rfl (hv1.len E_s_int) ?_ | refine zLen rfl (hv2.len E_s_int) ?_ | refine WL.op (op_lookup rfl rfl hg) ?_)
      exact WP.ret ⟨.inr rfl, _, rfl, rowR_bad hfr h hb (by simp [ok1, d2])⟩
    cases d3 : a[i] == t
    case true =>
      (repeat first | refine zSeq ?_ | refine zReg ?_ | refine zBlk ?_ | refine zSkp ?_ | refine zExt ?_ | refine zNil rfl ?_ | refine zGet rfl ?_ | refine zOn rfl rfl ?_ | refine zOff rfl rfl ?_ | refine zU rfl ?_ | refine zOn rfl (by assumption) ?_ | refine zOff rfl (by assumption) ?_ | refine zMov rfl ?_ | refine zAsg rfl ?_ | refine zXtr rfl ?_ | refine zPT rfl rfl rfl ?_ | refine zPF rfl rfl rfl ?_ | refine zPT rfl (by assumption) rfl ?_ | refine zPF rfl (by assumption) rfl ?_ | refine zLss rfl rfl ?_ | refine zLeq rfl rfl ?_ | refine zGtr rfl rfl ?_ | refine zGeq rfl rfl ?_ | refine zEql rfl rfl ?_ | refine zNeq rfl rfl ?_ | refine zAdd rfl rfl (by omega) ?_ | refine zSub rfl rfl (by omega) ?_ | refine zLenS rfl E_string ?_ | refine zNot rfl ?_ | refine zEqS rfl rfl ?_ | refine zNeS rfl rfl ?_ | refine zT rfl rfl ?_ | refine zF rfl rfl ?_ | refine zT rfl (by assumption) ?_ | refine zF rfl (by assumption) ?_ | refine zIdx rfl rfl ha1 ?_ | refine zIdx rfl rfl ha2 ?_ | refine zLd (ty := 3) rfl hl1 ?_ | refine zLd (ty := 3) rfl hl2 ?_ | refine zLen rfl (hv1.len E_s_int) ?_ | refine zLen rfl (hv2.len E_s_int) ?_ | refine WL.op (op_lookup rfl rfl hg) ?_)
      exact WP.ret ⟨.inr rfl, _, rfl, rowR_bad hfr h hb (by simp [ok1, d3])⟩
    cases d4 : b[i] == t
    case true =>
      (repeat first | refine zSeq ?_ | refine zReg ?_ | refine zBlk ?_ | refine zSkp ?_ | refine zExt ?_ | refine zNil rfl ?_ | refine zGet rfl ?_ | refine zOn rfl rfl ?_ | refine zOff rfl rfl ?_ | refine zU rfl ?_ | refine zOn rfl (by assumption) ?_ | refine zOff rfl (by assumption) ?_ | refine zMov rfl ?_ | refine zAsg rfl ?_ | refine zXtr rfl ?_ | refine zPT rfl rfl rfl ?_ | refine zPF rfl rfl rfl ?_ | refine zPT rfl (by assumption) rfl ?_ | refine zPF rfl (by assumption) rfl ?_ | refine zLss rfl rfl ?_ | refine zLeq rfl rfl ?_ | refine zGtr rfl rfl ?_ | refine zGeq rfl rfl ?_ | refine zEql rfl rfl ?_ | refine zNeq rfl rfl ?_ | refine zAdd rfl rfl (by omega) ?_ | refine zSub rfl rfl (by omega) ?_ | refine zLenS rfl E_string ?_ | refine zNot rfl ?_ | refine zEqS rfl rfl ?_ | refine zNeS rfl rfl ?_ | refine zT rfl rfl ?_ | refine zF rfl rfl ?_ | refine zT rfl (by assumption) ?_ | refine zF rfl (by assumption) ?_ | refine zIdx rfl rfl ha1 ?_ | refine zIdx rfl rfl ha2 ?_ | refine zLd (ty := 3) rfl hl1 ?_ | refine zLd (ty := 3) rfl hl2 ?_ | refine zLen rfl (hv1.len E_s_int) ?_ | refine zLen rfl (hv2.len E_s_int) ?_ | refine WL.op (op_lookup rfl rfl hg) ?_)
      exact WP.ret ⟨.inr rfl, _, rfl, rowR_bad hfr h hb (by simp [ok1, d4])⟩
    cases d5 : decide (((a.take i).count a[i] : Int) > 0)
    case true =>
      (repeat first | refine zSeq ?_ | refine zReg ?_ | refine zBlk ?_ | refine zSkp ?_ | refine zExt ?_ | refine zNil rfl ?_ | refine zGet rfl ?_ | refine zOn rfl rfl ?_ | refine zOff rfl rfl ?_ | refine zU rfl ?_ | refine zOn rfl (by assumption) ?_ | refine zOff rfl (by assumption) ?_ | refine zMov rfl ?_ | refine zAsg rfl ?_ | refine zXtr rfl ?_ | refine zPT rfl rfl rfl ?_ | refine zPF rfl rfl rfl ?_ | refine zPT rfl (by assumption) rfl ?_ | refine zPF rfl (by assumption) rfl ?_ | refine zLss rfl rfl ?_ | refine zLeq rfl rfl ?_ | refine zGtr rfl rfl ?_ | refine zGeq rfl rfl ?_ | refine zEql rfl rfl ?_ | refine zNeq rfl rfl ?_ | refine zAdd rfl rfl (by omega) ?_ | refine zSub rfl rfl (by omega) ?_ | refine zLenS rfl E_string ?_ | refine zNot rfl ?_ | refine zEqS rfl rfl ?_ | refine zNeS rfl rfl ?_ | refine zT rfl rfl ?_ | refine zF rfl rfl ?_ | refine zT rfl (by assumption) ?_ | refine zF rfl (by assumption) ?_ | refine zIdx rfl rfl ha1 ?_ | refine zIdx rfl rfl ha2 ?_ | refine zLd (ty := 3) rfl hl1 ?_ | refine zLd (ty := 3) rfl hl2 ?_ | refine zLen rfl (hv1.len E_s_int) ?_ | refine zLen rfl (hv2.len E_s_int) ?_ | refine WL.op (op_lookup rfl rfl hg) ?_)
      exact WP.ret ⟨.inr rfl, _, rfl, rowR_bad hfr h hb (by unfold ok1; rw [d5]; simp)⟩
    obtain ⟨Hd, hu, hmd, hfd, hnd⟩ := hm.set E_map_int_int E_int a[i] (.int .i64 (((a.take i).count a[i] : Nat) + 1 : Int))
    have hcb : (a.take i).count a[i] ≤ 60 := Nat.le_trans List.count_le_length (by rw [List.length_take]; omega)
    (repeat first | refine zSeq ?_ | refine zReg ?_ | refine zBlk ?_ | refine zSkp ?_ | refine zExt ?_ | refine zNil rfl ?_ | refine zGet rfl ?_ | refine zOn rfl rfl ?_ | refine zOff rfl rfl ?_ | refine zU rfl ?_ | refine zOn rfl (by assumption) ?_ | refine zOff rfl (by assumption) ?_ | refine zMov rfl ?_ | refine zAsg rfl ?_ | refine zXtr rfl ?_ | refine zPT rfl rfl rfl ?_ | refine zPF rfl rfl rfl ?_ | refine zPT rfl (by assumption) rfl ?_ | refine zPF rfl (by assumption) rfl ?_ | refine zLss rfl rfl ?_ | refine zLeq rfl rfl ?_ | refine zGtr rfl rfl ?_ | refine zGeq rfl rfl ?_ | refine zEql rfl rfl ?_ | refine zNeq rfl rfl ?_ | refine zAdd rfl rfl (by omega) ?_ | refine zSub rfl rfl (by omega) ?_ | refine zLenS rfl E_string ?_ | refine zNot rfl ?_ | refine zEqS rfl rfl ?_ | refine zNeS rfl rfl ?_ | refine zT rfl rfl ?_ | refine zF rfl rfl ?_ | refine zT rfl (by assumption) ?_ | refine zF rfl (by assumption) ?_ | refine zIdx rfl rfl ha1 ?_ | refine zIdx rfl rfl ha2 ?_ | refine zLd (ty := 3) rfl hl1 ?_ | refine zLd (ty := 3) rfl hl2 ?_ | refine zLen rfl (hv1.len E_s_int) ?_ | refine zLen rfl (hv2.len E_s_int) ?_ | refine WL.op (op_lookup rfl rfl hg) ?_)
    refine WL.op (op_mapUpdate rfl rfl rfl hu) ?_
    have hfr2 : Fr H Hd := hfr.young hfd (by simp) (by simp)
    obtain ⟨b2, o2, ha2, hl2⟩ := sl_int (hv2o.fr hfr2) hb
    have how2 := how.frX hfd (fun b hb hc => by have := how.young.1 b hb; simp at hc; omega) (by simp)
    (repeat first | refine zSeq ?_ | refine zReg ?_ | refine zBlk ?_ | refine zSkp ?_ | refine zExt ?_ | refine zNil rfl ?_ | refine zGet rfl ?_ | refine zOn rfl rfl ?_ | refine zOff rfl rfl ?_ | refine zU rfl ?_ | refine zOn rfl (by assumption) ?_ | refine zOff rfl (by assumption) ?_ | refine zMov rfl ?_ | refine zAsg rfl ?_ | refine zXtr rfl ?_ | refine zPT rfl rfl rfl ?_ | refine zPF rfl rfl rfl ?_ | refine zPT rfl (by assumption) rfl ?_ | refine zPF rfl (by assumption) rfl ?_ | refine zLss rfl rfl ?_ | refine zLeq rfl rfl ?_ | refine zGtr rfl rfl ?_ | refine zGeq rfl rfl ?_ | refine zEql rfl rfl ?_ | refine zNeq rfl rfl ?_ | refine zAdd rfl rfl (by omega) ?_ | refine zSub rfl rfl (by omega) ?_ | refine zLenS rfl E_string ?_ | refine zNot rfl ?_ | refine zEqS rfl rfl ?_ | refine zNeS rfl rfl ?_ | refine zT rfl rfl ?_ | refine zF rfl rfl ?_ | refine zT rfl (by assumption) ?_ | refine zF rfl (by assumption) ?_ | refine zIdx rfl rfl ha1 ?_ | refine zIdx rfl rfl ha2 ?_ | refine zLd (ty := 3) rfl hl1 ?_ | refine zLd (ty := 3) rfl hl2 ?_ | refine zLen rfl (hv1.len E_s_int) ?_ | refine zLen rfl (hv2.len E_s_int) ?_ | refine WL.op (op_lookup rfl rfl hg) ?_)
    refine WL.op (op_build rfl build40) ?_
    refine WL.op (op_buildSlice rfl E_s_phis_move E_phis_move (by rw [te_phis_move_size]; decide) fill40) ?_
    have hfa := Fr.alloc Hd (.row 40 (mvC (a[i], b[i])) .exact 0 0)
    obtain ⟨v', H3, o', hap, hw3, hfx, ho1, ho2⟩ := (how2.fr hfa).app (m := 1) (bytes := 16) (new := mvC (a[i], b[i])) (by decide) (by decide) rfl (by omega) (by omega) (by have := hfa.1; omega)
    refine WL.op (op_append rfl rfl E_s_phis_move E_s_phis_move E_phis_move (by decide) (by rw [te_phis_move_size]; exact rd_alloc rfl) rfl (by rw [te_phis_move_size, te_phis_move_bytes]; exact hap)) ?_
    have hy := how.young
    have hn1 := hfr.1
    have hfa1 := hfa.1
    have hfr3 : Fr H H3 := (hfr2.trans hfa).young hfx (fun b h => by have := hy.1 b h; omega) (fun b h => by have := hy.2.1 b h; omega)
    have hm3 := ((hmd.fr hfa).frX hfx (fun h => by have := hy.1 _ h; omega))
    (repeat first | refine zSeq ?_ | refine zReg ?_ | refine zBlk ?_ | refine zSkp ?_ | refine zExt ?_ | refine zNil rfl ?_ | refine zGet rfl ?_ | refine zOn rfl rfl ?_ | refine zOff rfl rfl ?_ | refine zU rfl ?_ | refine zOn rfl (by assumption) ?_ | refine zOff rfl (by assumption) ?_ | refine zMov rfl ?_ | refine zAsg rfl ?_ | refine zXtr rfl ?_ | refine zPT rfl rfl rfl ?_ | refine zPF rfl rfl rfl ?_ | refine zPT rfl (by assumption) rfl ?_ | refine zPF rfl (by assumption) rfl ?_ | refine zLss rfl rfl ?_ | refine zLeq rfl rfl ?_ | refine zGtr rfl rfl ?_ | refine zGeq rfl rfl ?_ | refine zEql rfl rfl ?_ | refine zNeq rfl rfl ?_ | refine zAdd rfl rfl (by omega) ?_ | refine zSub rfl rfl (by omega) ?_ | refine zLenS rfl E_string ?_ | refine zNot rfl ?_ | refine zEqS rfl rfl ?_ | refine zNeS rfl rfl ?_ | refine zT rfl rfl ?_ | refine zF rfl rfl ?_ | refine zT rfl (by assumption) ?_ | refine zF rfl (by assumption) ?_ | refine zIdx rfl rfl ha1 ?_ | refine zIdx rfl rfl ha2 ?_ | refine zLd (ty := 3) rfl hl1 ?_ | refine zLd (ty := 3) rfl hl2 ?_ | refine zLen rfl (hv1.len E_s_int) ?_ | refine zLen rfl (hv2.len E_s_int) ?_ | refine WL.op (op_lookup rfl rfl hg) ?_)
    refine ⟨(i + 1, (fun x => if x = a[i] then some (.int .i64 (((a.take i).count a[i] : Nat) + 1 : Int)) else f x), v', o'), ⟨hfr3, by have := hfx.1; omega, hm3, fun k => ?_, ?_, h, ?_⟩, by simp only; omega, rfl, rfl, rfl, rfl, rfl, rfl, rfl, rfl, trivial⟩
    · simp only
      rw [List.take_add_one, List.getElem?_eq_getElem h, Option.toList_some, List.count_append, List.count_singleton]
      by_cases e : k = a[i]
      · subst e; simp
      · rw [if_neg e, hcn]
        have : (a[i] == k) = false := beq_eq_false_iff_ne.2 (Ne.symm e)
        rw [this]; simp
    · simp only
      rw [List.take_add_one, List.getElem?_eq_getElem (by rw [List.length_zip]; omega), Option.toList_some, List.getElem_zip, mvs_app]
      simpa [mvs] using hw3
    · simp only
      rw [List.range_succ, List.all_append, hok, Bool.true_and]
      simp only [List.all_cons, List.all_nil, Bool.and_true]
      rw [okf_at h hb]
      unfold ok1
      rw [d1, d2, d3, d4, d5]; rfl
  · have g1 : decide ((i : Int) < a.length) = false := decide_eq_false (by omega)
    obtain rfl : i = a.length := by omega
    have hz : (a.zip b).take a.length = a.zip b := List.take_of_length_le (by rw [List.length_zip]; omega)
    have hzl : (a.zip b).length = a.length := by rw [List.length_zip]; omega
    rw [hz] at how
    rw [← hzl] at how
    obtain ⟨v', H', out, oo, n2, hc, hR, hw', hn2, hfx, hol⟩ := rows_c hO how.t (by omega) (rows_goals hok)
    (repeat first | refine zSeq ?_ | refine zReg ?_ | refine zBlk ?_ | refine zSkp ?_ | refine zExt ?_ | refine zNil rfl ?_ | refine zGet rfl ?_ | refine zOn rfl rfl ?_ | refine zOff rfl rfl ?_ | refine zU rfl ?_ | refine zOn rfl (by assumption) ?_ | refine zOff rfl (by assumption) ?_ | refine zMov rfl ?_ | refine zAsg rfl ?_ | refine zXtr rfl ?_ | refine zPT rfl rfl rfl ?_ | refine zPF rfl rfl rfl ?_ | refine zPT rfl (by assumption) rfl ?_ | refine zPF rfl (by assumption) rfl ?_ | refine zLss rfl rfl ?_ | refine zLeq rfl rfl ?_ | refine zGtr rfl rfl ?_ | refine zGeq rfl rfl ?_ | refine zEql rfl rfl ?_ | refine zNeq rfl rfl ?_ | refine zAdd rfl rfl (by omega) ?_ | refine zSub rfl rfl (by omega) ?_ | refine zLenS rfl E_string ?_ | refine zNot rfl ?_ | refine zEqS rfl rfl ?_ | refine zNeS rfl rfl ?_ | refine zT rfl rfl ?_ | refine zF rfl rfl ?_ | refine zT rfl (by assumption) ?_ | refine zF rfl (by assumption) ?_ | refine zIdx rfl rfl ha1 ?_ | refine zIdx rfl rfl ha2 ?_ | refine zLd (ty := 3) rfl hl1 ?_ | refine zLd (ty := 3) rfl hl2 ?_ | refine zLen rfl (hv1.len E_s_int) ?_ | refine zLen rfl (hv2.len E_s_int) ?_ | refine WL.op (op_lookup rfl rfl hg) ?_)
    refine WL.call rfl rfl is_phis_rows hc ?_
    (repeat first | refine zSeq ?_ | refine zReg ?_ | refine zBlk ?_ | refine zSkp ?_ | refine zExt ?_ | refine zNil rfl ?_ | refine zGet rfl ?_ | refine zOn rfl rfl ?_ | refine zOff rfl rfl ?_ | refine zU rfl ?_ | refine zOn rfl (by assumption) ?_ | refine zOff rfl (by assumption) ?_ | refine zMov rfl ?_ | refine zAsg rfl ?_ | refine zXtr rfl ?_ | refine zPT rfl rfl rfl ?_ | refine zPF rfl rfl rfl ?_ | refine zPT rfl (by assumption) rfl ?_ | refine zPF rfl (by assumption) rfl ?_ | refine zLss rfl rfl ?_ | refine zLeq rfl rfl ?_ | refine zGtr rfl rfl ?_ | refine zGeq rfl rfl ?_ | refine zEql rfl rfl ?_ | refine zNeq rfl rfl ?_ | refine zAdd rfl rfl (by omega) ?_ | refine zSub rfl rfl (by omega) ?_ | refine zLenS rfl E_string ?_ | refine zNot rfl ?_ | refine zEqS rfl rfl ?_ | refine zNeS rfl rfl ?_ | refine zT rfl rfl ?_ | refine zF rfl rfl ?_ | refine zT rfl (by assumption) ?_ | refine zF rfl (by assumption) ?_ | refine zIdx rfl rfl ha1 ?_ | refine zIdx rfl rfl ha2 ?_ | refine zLd (ty := 3) rfl hl1 ?_ | refine zLd (ty := 3) rfl hl2 ?_ | refine zLen rfl (hv1.len E_s_int) ?_ | refine zLen rfl (hv2.len E_s_int) ?_ | refine WL.op (op_lookup rfl rfl hg) ?_)
    have hy := how.young
    refine WP.ret ⟨.inr rfl, _, rfl, hfr.young hfx (fun b h => by have := hy.1 b h; omega) (fun b h => by have := hy.2.1 b h; omega), .inl ⟨by unfold rowOk; rw [c0, c1, hok]; rfl, v', out, oo, n2, rfl, hR, hw', Nat.le_trans hfr.1 hn2, by omega⟩⟩
end Go.Proofs.Ytalhmpcllfhllaa.U

/-
  Contracts of phis: the reference's row.
-/
namespace Go.Proofs.Ytalhmpcllfhllaa.U
open Go Go.Ev
attribute [local irreducible] WL WP WH W
variable {O : Orc} {H : AH}
def Dj (o1 o2 : Option (Nat × Nat)) : Prop := (∀ b ∈ obs o1, b ∉ obs o2) ∧ (∀ g ∈ ogs o1, g ∉ ogs o2)
theorem Dj.symm {o1 o2 : Option (Nat × Nat)} (h : Dj o1 o2) : Dj o2 o1 := ⟨fun b h1 h2 => h.1 b h2 h1, fun b h1 h2 => h.2 b h2 h1⟩
theorem Dj.none {o : Option (Nat × Nat)} : Dj none o := ⟨by simp [obs], by simp [ogs]⟩
def Gr (n : Nat) (o o' : Option (Nat × Nat)) : Prop := (∀ b ∈ obs o', b ∈ obs o ∨ n ≤ b) ∧ (∀ g ∈ ogs o', g ∈ ogs o ∨ n ≤ g)
theorem Dj.grow {n : Nat} {o o' o2 : Option (Nat × Nat)} (h : Dj o o2) (g : Gr n o o') (h1 : ∀ b ∈ obs o2, b < n) (h2 : ∀ g ∈ ogs o2, g < n) : Dj o' o2 :=
  ⟨fun b k1 k2 => (g.1 b k1).elim (fun k => h.1 b k k2) (fun k => by have := h1 b k2; omega), fun b k1 k2 => (g.2 b k1).elim (fun k => h.2 b k k2) (fun k => by have := h2 b k2; omega)⟩
structure Tr (Hc : AH) (n1 : Nat) (G : List Int) (vg : Value) (og : Option (Nat × Nat)) (S : List Int) (vs : Value) (os : Option (Nat × Nat)) (vo : Value) (out : List Mv) (oo : Option (Nat × Nat)) : Prop where
  g : OwE Hc n1 3 1 vg G.length (ints G) og
  s : OwE Hc n1 3 1 vs S.length (ints S) os
  o : Ow Hc n1 30 6 vo out.length (inss out) oo
  gs : Dj og os
  go : Dj og oo
  so : Dj os oo
  nx : n1 ≤ Hc.next
section
variable {Hc Hd : AH} {n1 : Nat} {G S : List Int} {vg vs vo : Value} {og os oo : Option (Nat × Nat)} {out : List Mv}
theorem Tr.fr (h : Tr Hc n1 G vg og S vs os vo out oo) (k : Fr Hc Hd) : Tr Hd n1 G vg og S vs os vo out oo := ⟨h.g.fr k, h.s.fr k, h.o.fr k, h.gs, h.go, h.so, Nat.le_trans h.nx k.1⟩
theorem Tr.setG (h : Tr Hc n1 G vg og S vs os vo out oo) (k : FrX (obs og) (ogs og) Hc Hd) {G' : List Int} {vg' : Value} {og' : Option (Nat × Nat)} (hw : OwE Hd n1 3 1 vg' G'.length (ints G') og') (gr : Gr Hc.next og og') : Tr Hd n1 G' vg' og' S vs os vo out oo :=
  ⟨hw, h.s.frX k (fun b h1 h2 => h.gs.1 b h2 h1) (fun b h1 h2 => h.gs.2 b h2 h1), h.o.frX k (fun b h1 h2 => h.go.1 b h2 h1) (fun b h1 h2 => h.go.2 b h2 h1), h.gs.grow gr h.s.young.2.2.1 h.s.young.2.2.2, h.go.grow gr h.o.young.2.2.1 h.o.young.2.2.2, h.so, Nat.le_trans h.nx k.1⟩
theorem Tr.setS (h : Tr Hc n1 G vg og S vs os vo out oo) (k : FrX (obs os) (ogs os) Hc Hd) {S' : List Int} {vs' : Value} {os' : Option (Nat × Nat)} (hw : OwE Hd n1 3 1 vs' S'.length (ints S') os') (gr : Gr Hc.next os os') : Tr Hd n1 G vg og S' vs' os' vo out oo :=
  ⟨h.g.frX k h.gs.1 h.gs.2, hw, h.o.frX k (fun b h1 h2 => h.so.1 b h2 h1) (fun b h1 h2 => h.so.2 b h2 h1), (h.gs.symm.grow gr h.g.young.2.2.1 h.g.young.2.2.2).symm, h.go, h.so.grow gr h.o.young.2.2.1 h.o.young.2.2.2, Nat.le_trans h.nx k.1⟩
theorem Tr.setO (h : Tr Hc n1 G vg og S vs os vo out oo) (k : FrX (obs oo) (ogs oo) Hc Hd) {out' : List Mv} {vo' : Value} {oo' : Option (Nat × Nat)} (hw : Ow Hd n1 30 6 vo' out'.length (inss out') oo') (gr : Gr Hc.next oo oo') : Tr Hd n1 G vg og S vs os vo' out' oo' :=
  ⟨h.g.frX k h.go.1 h.go.2, h.s.frX k h.so.1 h.so.2, hw, h.gs, (h.go.symm.grow gr h.g.young.2.2.1 h.g.young.2.2.2).symm, (h.so.symm.grow gr h.s.young.2.2.1 h.s.young.2.2.2).symm, Nat.le_trans h.nx k.1⟩
theorem fr_of {n1 : Nat} {H Hc Hd : AH} (h : Fr H Hc) (hn : H.next ≤ n1) {o : Option (Nat × Nat)} (h1 : ∀ b ∈ obs o, n1 ≤ b) (h2 : ∀ g ∈ ogs o, n1 ≤ g) (k : FrX (obs o) (ogs o) Hc Hd) : Fr H Hd :=
  h.young k (fun b hb => Nat.le_trans hn (h1 b hb)) (fun b hb => Nat.le_trans hn (h2 b hb))
theorem Tr.appG (h : Tr Hc n1 G vg og S vs os vo out oo) {H : AH} (hf : Fr H Hc) (hn : H.next ≤ n1) (x : Int) (hL : G.length ≤ 65536) :
    ∃ vg' Hd og', (∀ {g : Ft} {y w : Operand}, g y = some vg → g w = some (.slice (some ⟨Hc.next, 0, none⟩) 1 1) → aopG V g (Hc.alloc (.row 3 [.int .i64 x] .exact 0 0)) (.call ⟨.builtin .append, #[y, w], #[22, 22]⟩) = some (vg', Hd)) ∧ Tr Hd n1 (G ++ [x]) vg' og' S vs os vo out oo ∧ Fr H Hd := by
  have hfa := Fr.alloc Hc (.row 3 [.int .i64 x] .exact 0 0)
  have h' := h.fr hfa
  obtain ⟨v', Hd, o', k1, k2, k3, k4, k5⟩ := h'.g.appSl (V := V) (bytes := 8) (OneAt.toSl (H := Hc) (e := 3) (cs := [.int .i64 x]) (cap := 1) (by simp)) (by decide) (by simp; omega) (by simp; omega) h'.nx rfl E_s_int E_s_int E_int rfl rfl
  exact ⟨v', Hd, o', k1, h'.setG k3 (by simpa [ints] using k2) ⟨k4, k5⟩, fr_of (hf.trans hfa) hn h'.g.young.1 h'.g.young.2.1 k3⟩
theorem Tr.appS (h : Tr Hc n1 G vg og S vs os vo out oo) {H : AH} (hf : Fr H Hc) (hn : H.next ≤ n1) (x : Int) (hL : S.length ≤ 65536) :
    ∃ vs' Hd os', (∀ {g : Ft} {y w : Operand}, g y = some vs → g w = some (.slice (some ⟨Hc.next, 0, none⟩) 1 1) → aopG V g (Hc.alloc (.row 3 [.int .i64 x] .exact 0 0)) (.call ⟨.builtin .append, #[y, w], #[22, 22]⟩) = some (vs', Hd)) ∧ Tr Hd n1 G vg og (S ++ [x]) vs' os' vo out oo ∧ Fr H Hd := by
  have hfa := Fr.alloc Hc (.row 3 [.int .i64 x] .exact 0 0)
  have h' := h.fr hfa
  obtain ⟨v', Hd, o', k1, k2, k3, k4, k5⟩ := h'.s.appSl (V := V) (bytes := 8) (OneAt.toSl (H := Hc) (e := 3) (cs := [.int .i64 x]) (cap := 1) (by simp)) (by decide) (by simp; omega) (by simp; omega) h'.nx rfl E_s_int E_s_int E_int rfl rfl
  exact ⟨v', Hd, o', k1, h'.setS k3 (by simpa [ints] using k2) ⟨k4, k5⟩, fr_of (hf.trans hfa) hn h'.s.young.1 h'.s.young.2.1 k3⟩
theorem Tr.appO (h : Tr Hc n1 G vg og S vs os vo out oo) {H : AH} (hf : Fr H Hc) (hn : H.next ≤ n1) (m : Mv) (hL : out.length ≤ 65536) :
    ∃ vo' Hd oo', (∀ {g : Ft} {y w : Operand}, g y = some vo → g w = some (.slice (some ⟨Hc.next, 0, none⟩) 1 1) → aopG V g (Hc.alloc (.row 30 (insC m) .exact 0 0)) (.call ⟨.builtin .append, #[y, w], #[24, 24]⟩) = some (vo', Hd)) ∧ Tr Hd n1 G vg og S vs os vo' (out ++ [m]) oo' ∧ Fr H Hd := by
  have hfa := Fr.alloc Hc (.row 30 (insC m) .exact 0 0)
  have h' := h.fr hfa
  obtain ⟨v', Hd, o', k1, k2, k3, k4, k5⟩ := h'.o.app (m := 1) (bytes := 64) (new := insC m) (by decide) (by decide) rfl (by omega) (by omega) h'.nx
  exact ⟨v', Hd, o', fun hy hw => op_append hy hw E_s_api_Ins E_s_api_Ins E_api_Ins (by decide) (by rw [te_api_Ins_size]; exact rd_alloc rfl) rfl (by rw [te_api_Ins_size, te_api_Ins_bytes]; exact k1), h'.setO k3 (by rw [inss_app, List.length_append]; simpa [inss] using k2) ⟨fun b hb => .inr (k4 b hb), k5⟩, fr_of (hf.trans hfa) hn h'.o.young.1 h'.o.young.2.1 k3⟩
end
theorem free_any (l : List Mv) (m : Mv) : Phi.free l m = !((l.map (·.2)).any (· == m.1)) := by
  unfold Phi.free
  rw [List.any_map, List.not_any_eq_all_not]; rfl
end Go.Proofs.Ytalhmpcllfhllaa.U

/-
  Contracts of phis: one taken out of a slice, by two appends.
-/
namespace Go.Proofs.Ytalhmpcllfhllaa.U
open Go Go.Ev
attribute [local irreducible] WL WP WH W
variable {O : Orc} {H : AH}
theorem ints_len (l : List Int) : (ints l).length = l.length := List.length_map _
theorem ints_one (l : List Int) : (ints l).all Value.oneCell' = true := by
  rw [List.all_eq_true]; intro x hx
  obtain ⟨m, _, rfl⟩ := List.mem_map.1 hx; rfl
theorem cut_own {Hc : AH} {n1 : Nat} {v : Value} {L : List Int} {o : Option (Nat × Nat)} (h : OwE Hc n1 3 1 v L.length (ints L) o) {i : Nat} (hi : i < L.length) (hn : n1 ≤ Hc.next) (hL : L.length ≤ 65536) :
    ∃ w1 w2 v1 H1 v2 H2 o2, aSlice V.E (Hc.alloc (.row 3 [] .exact 0 0)) 22 v none (some (.int .i64 i)) none = some w1 ∧ aSlice V.E (Hc.alloc (.row 3 [] .exact 0 0)) 22 v (some (.int .i64 ((i : Int) + 1))) none none = some w2 ∧ aSlice V.E H1 22 v (some (.int .i64 ((i : Int) + 1))) none none = some w2 ∧ sameV w2 w2 = true ∧
      (∀ {g : Ft} {y w : Operand}, g y = some (.slice (some ⟨Hc.next, 0, none⟩) 0 0) → g w = some w1 → aopG V g (Hc.alloc (.row 3 [] .exact 0 0)) (.call ⟨.builtin .append, #[y, w], #[22, 22]⟩) = some (v1, H1)) ∧
      (∀ {g : Ft} {y w : Operand}, g y = some v1 → g w = some w2 → aopG V g H1 (.call ⟨.builtin .append, #[y, w], #[22, 22]⟩) = some (v2, H2)) ∧
      OwE H2 n1 3 1 v2 (L.eraseIdx i).length (ints (L.eraseIdx i)) o2 ∧ Fr Hc H2 ∧ (∀ b ∈ obs o2, Hc.next ≤ b) ∧ (∀ g ∈ ogs o2, Hc.next ≤ g) := by
  have hf := Fr.alloc Hc (.row 3 [] .exact 0 0)
  have hy := h.young
  have hA := ((h.fr hf).ow (by omega)).t
  have hE : OwE (Hc.alloc (.row 3 [] .exact 0 0)) n1 3 1 (.slice (some ⟨Hc.next, 0, none⟩) 0 0) 0 [] (some (Hc.next, Hc.next)) := .new hn
  obtain ⟨b1, hs1, hw1, _⟩ := hA.upto E_s_int E_int rfl (by decide) (by omega) (i := i) (by omega) (k := .i64)
  obtain ⟨w2, hs2, _⟩ := hA.from_ E_s_int E_int rfl (by decide) (by omega) (j := i + 1) (by omega) (k := .i64)
  have e1 : (ints L).take (i * 1) = ints (L.take i) := by rw [Nat.mul_one]; unfold ints; rw [List.map_take]
  have e2 : (ints L).drop ((i + 1) * 1) = ints (L.drop (i + 1)) := by rw [Nat.mul_one]; unfold ints; rw [List.map_drop]
  have hsl1 := hw1.sl
  rw [e1] at hsl1
  obtain ⟨v1, H1, o1, k1, k2, k3, k4, k5⟩ := hE.appSl (V := V) (bytes := 8) hsl1 (by decide) (by omega) (by omega) (Nat.le_trans hn hf.1) (ints_one _) E_s_int E_s_int E_int rfl rfl
  have hB := ((h.fr hf).frX k3 (fun b hb hc => by have := hy.2.2.1 b hb; simp [obs] at hc; omega) (fun b hb hc => by have := hy.2.2.2 b hb; simp [ogs] at hc; omega)).ow (by omega)
  obtain ⟨w2', hs3, hsl3⟩ := hB.t.from_ E_s_int E_int rfl (by decide) (by omega) (j := i + 1) (by omega) (k := .i64)
  obtain ⟨bA, gA, eA, evA, hrA⟩ := hA.row (by omega)
  obtain ⟨bB, gB, eB, evB, hrB⟩ := hB.t.row (by omega)
  rw [evA] at evB
  cases evB
  have q2 := slice_unk (n := L.length) hrA E_s_int E_int (by decide) (lo := some (.int .i64 ((i + 1 : Nat) : Int))) (hi := none) (h := L.length) rfl (bound_int (k := .i64) (i := i + 1) (by omega)).1
  have q3 := slice_unk (n := L.length) hrB E_s_int E_int (by decide) (lo := some (.int .i64 ((i + 1 : Nat) : Int))) (hi := none) (h := L.length) rfl (bound_int (k := .i64) (i := i + 1) (by omega)).1
  rw [← evA, hs2] at q2
  rw [← evA, hs3, ← q2] at q3
  have e3 : w2' = w2 := Option.some.inj q3
  subst e3
  have hsame : sameV w2' w2' = true := by
    have := Option.some.inj q2
    rw [if_neg (by omega)] at this
    rw [this]; simp [sameV, same0]
  rw [e2] at hsl3
  have hn1 : n1 ≤ H1.next := Nat.le_trans (Nat.le_trans hn hf.1) k3.1
  obtain ⟨v2, H2, o2, m1, m2, m3, m4, m5⟩ := k2.appSl (V := V) (bytes := 8) hsl3 (by decide) (by omega) (by omega) hn1 (ints_one _) E_s_int E_s_int E_int rfl rfl
  have hb1 : ∀ b ∈ obs o1, Hc.next ≤ b := fun b hb => (k4 b hb).elim (fun h => by simp [obs] at h; omega) (fun h => Nat.le_trans hf.1 h)
  have hg1 : ∀ b ∈ ogs o1, Hc.next ≤ b := fun b hb => (k5 b hb).elim (fun h => by simp [ogs] at h; omega) (fun h => Nat.le_trans hf.1 h)
  have hfr1 : Fr Hc H1 := hf.young k3 (fun b hb => by simp [obs] at hb; omega) (fun b hb => by simp [ogs] at hb; omega)
  refine ⟨_, w2', v1, H1, v2, H2, o2, hs1, hs2, hs3, hsame, k1, m1, ?_, hfr1.young m3 hb1 hg1, fun b hb => (m4 b hb).elim (hb1 b) (fun h => Nat.le_trans hfr1.1 h), fun b hb => (m5 b hb).elim (hg1 b) (fun h => Nat.le_trans hfr1.1 h)⟩
  have e4 : 0 + i + (L.length - (i + 1)) = (L.eraseIdx i).length := by rw [List.length_eraseIdx_of_lt hi]; omega
  have e5 : ([] ++ ints (L.take i)) ++ ints (L.drop (i + 1)) = ints (L.eraseIdx i) := by
    rw [List.nil_append, List.eraseIdx_eq_take_drop_succ]; unfold ints; rw [List.map_append]
  rw [e4, e5] at m2
  exact m2
end Go.Proofs.Ytalhmpcllfhllaa.U

/-
  Contracts of phis: the reference's row, the walk.
-/
namespace Go.Proofs.Ytalhmpcllfhllaa.U
open Go Go.Ev
attribute [local irreducible] WL WP WH W
variable {O : Orc} {H : AH}
def RJ (H Hc : AH) (t : Int) (l0 : List Mv) (x : List Mv × (Value × Option (Nat × Nat)) × (Value × Option (Nat × Nat)) × Value × List Mv × Option (Nat × Nat)) : Prop :=
  Fr H Hc ∧ Tr Hc H.next (x.1.map (·.1)) x.2.1.1 x.2.1.2 (x.1.map (·.2)) x.2.2.1.1 x.2.2.1.2 x.2.2.2.1 x.2.2.2.2.1 x.2.2.2.2.2 ∧ (∀ m ∈ x.1, m.1 ≠ t) ∧ (∀ r, Phi.Rows t x.1 r → Phi.Rows t l0 (x.2.2.2.2.1 ++ r)) ∧ x.2.2.2.2.1.length + mu x.1 ≤ mu l0 ∧ x.1.length ≤ 60
theorem fill22 {x : Int} : afill (fun i => some (i * TI.size ⟨.int .i64, 1, 8, .int .i64 0⟩, TI.size ⟨.int .i64, 1, 8, .int .i64 0⟩)) (azeros (TI.zv ⟨.int .i64, 1, 8, .int .i64 0⟩).cells.toList 1) [(0, .int .i64 x)] = some [.int .i64 x] := by rfl
theorem ints_set {S : List Int} {i : Nat} (h : i < S.length) (t : Int) : splice (ints S) (i * 1 + 0) [.int .i64 t] = ints (S.set i t) := by
  unfold splice ints
  rw [Nat.mul_one, Nat.add_zero, List.set_eq_take_append_cons_drop, if_pos h, List.map_append, List.map_cons, List.map_take, List.map_drop, List.append_assoc]
  rfl
set_option maxHeartbeats 4000000 in
theorem refrow_c (hO : ∀ f vs H, f ≠ 6 → O f vs H = none) {a b : List Int} {vt vf : Value} (hv1 : Sl H vt 1 a.length (ints a)) (hv2 : Sl H vf 1 b.length (ints b)) (hlen : a.length = b.length) (hL : a.length ≤ 60) (t : Int) (ht : ∀ m ∈ a.zip b, m.1 ≠ t) :
    ∃ v' H' out oo n2, Lc V O F_ref28_row [vt, vf, .int .i64 t] H v' H' ∧ Phi.Rows t (live_ a b) out ∧ Ow H' n2 30 6 v' out.length (inss out) oo ∧ H.next ≤ n2 ∧ Fr H H' ∧ out.length ≤ 2 * a.length + 1 := by
  have key : ∃ u H', Lc V O F_ref28_row [vt, vf, .int .i64 t] H u H' ∧ (∃ out oo n2, Phi.Rows t (live_ a b) out ∧ Ow H' n2 30 6 u out.length (inss out) oo ∧ H.next ≤ n2 ∧ Fr H H' ∧ out.length ≤ 2 * a.length + 1) := by
    refine Lc.ref28_row (R := fun u H' => ∃ out oo n2, Phi.Rows t (live_ a b) out ∧ Ow H' n2 30 6 u out.length (inss out) oo ∧ H.next ≤ n2 ∧ Fr H H' ∧ out.length ≤ 2 * a.length + 1) (hO _ _ _ (by decide)) (Nat.le_of_ble_eq_true rfl) (by kernel_rfl) ?_
    unfold P_ref28_row
    (repeat first | refine zSeq ?_ | refine zReg ?_ | refine zBlk ?_ | refine zSkp ?_ | refine zExt ?_ | refine zNil rfl ?_ | refine zGet rfl ?_ | refine zOn rfl rfl ?_ | refine zOff rfl rfl ?_ | refine zU rfl ?_ | refine zOn rfl (by assumption) ?_ | refine zOff rfl (by assumption) ?_ | refine zMov rfl ?_ | refine zAsg rfl ?_ | refine zXtr rfl ?_ | refine zPT rfl rfl rfl ?_ | refine zPF rfl rfl rfl ?_ | refine zPT rfl (by assumption) rfl ?_ | refine zPF rfl (by assumption) rfl ?_ | refine zLss rfl rfl ?_ | refine zLeq rfl rfl ?_ | refine zGtr rfl rfl ?_ | refine zGeq rfl rfl ?_ | refine zEql rfl rfl ?_ | refine zNeq rfl rfl ?_ | refine zAdd rfl rfl (by omega) ?_ | refine zSub rfl rfl (by omega) ?_ | refine zLenS rfl E_string ?_ | refine zNot rfl ?_ | refine zEqS rfl rfl ?_ | refine zNeS rfl rfl ?_ | refine zT rfl rfl ?_ | refine zF rfl rfl ?_ | refine zT rfl (by assumption) ?_ | refine zF rfl (by assumption) ?_ | refine zIdx rfl rfl ha1 ?_ | refine zIdx rfl rfl ha2 ?_ | refine zLd (ty := 3) rfl hl1 ?_ | refine zLd (ty := 3) rfl hl2 ?_ | refine zLen rfl (hv1.len E_s_int) ?_ | refine zLen rfl (hv2.len E_s_int) ?_)
    refine WP.loopH (σ := Nat × (Value × Option (Nat × Nat)) × (Value × Option (Nat × Nat))) (fun x => [(0, vt), (1, vf), (2, .int .i64 t), (7, x.2.1.1), (8, x.2.2.1), (9, .int .i64 x.1)])
      (fun x Hc => Fr H Hc ∧ Tr Hc H.next (((((a.zip b).take x.1).filter fun m => !(m.1 == m.2))).map (·.1)) x.2.1.1 x.2.1.2 (((((a.zip b).take x.1).filter fun m => !(m.1 == m.2))).map (·.2)) x.2.2.1 x.2.2.2 (.slice none 0 0) [] none ∧ x.1 ≤ a.length) (fun x => a.length - x.1) (0, (.slice none 0 0, none), (.slice none 0 0, none))
      ⟨.refl _, ⟨.inl .nil, .inl .nil, .nil, .none, .none, .none, Nat.le_refl _⟩, Nat.zero_le _⟩ ⟨rfl, rfl, rfl, rfl, rfl, rfl, trivial⟩ ?_
    have hzl : (a.zip b).length = a.length := by rw [List.length_zip]; omega
    rintro ⟨i, ⟨vg, og⟩, ⟨vs, os⟩⟩ Hc ⟨hfr, htr, hi⟩
    simp only at hfr htr hi ⊢
    have hv1o := hv1
    have hv2o := hv2
    have hv1 := hv1o.fr hfr
    have hv2 := hv2o.fr hfr
    rcases Nat.lt_or_ge i a.length with h | h
    · have g1 : decide ((i : Int) < a.length) = true := decide_eq_true (by omega)
      have hb : i < b.length := by omega
      obtain ⟨b1, o1, ha1, hl1⟩ := sl_int hv1 h
      obtain ⟨b2, o2, ha2, hl2⟩ := sl_int hv2 hb
      have hfl : ∀ c, (a[i] != b[i]) = c → ((a.zip b).take (i + 1)).filter (fun m => !(m.1 == m.2)) = ((a.zip b).take i).filter (fun m => !(m.1 == m.2)) ++ if c = true then [(a[i], b[i])] else [] := fun c hc => by
        rw [filter_take (by omega), List.getElem_zip]; subst hc; rfl
      cases c1 : a[i] != b[i]
      · (repeat first | refine zSeq ?_ | refine zReg ?_ | refine zBlk ?_ | refine zSkp ?_ | refine zExt ?_ | refine zNil rfl ?_ | refine zGet rfl ?_ | refine zOn rfl rfl ?_ | refine zOff rfl rfl ?_ | refine zU rfl ?_ | refine zOn rfl (by assumption) ?_ | refine zOff rfl (by assumption) ?_ | refine zMov rfl ?_ | refine zAsg rfl ?_ | refine zXtr rfl ?_ | refine zPT rfl rfl rfl ?_ | refine zPF rfl rfl rfl ?_ | refine zPT rfl (by assumption) rfl ?_ | refine zPF rfl (by assumption) rfl ?_ | refine zLss rfl rfl ?_ | refine zLeq rfl rfl ?_ | refine zGtr rfl rfl ?_ | refine zGeq rfl rfl ?_ | refine zEql rfl rfl ?_ | refine zNeq rfl rfl ?_ | refine zAdd rfl rfl (by omega) ?_ | refine zSub rfl rfl (by omega) ?_ | refine zLenS rfl E_string ?_ | refine zNot rfl ?_ | refine zEqS rfl rfl ?_ | refine zNeS rfl rfl ?_ | refine zT rfl rfl ?_ | refine zF rfl rfl ?_ | refine zT rfl (by assumption) ?_ | refine zF rfl (by assumption) ?_ | refine zIdx rfl rfl ha1 ?_ | refine zIdx rfl rfl ha2 ?_ | refine zLd (ty := 3) rfl hl1 ?_ | refine zLd (ty := 3) rfl hl2 ?_ | refine zLen rfl (hv1.len E_s_int) ?_ | refine zLen rfl (hv2.len E_s_int) ?_)
        refine ⟨(i + 1, (vg, og), (vs, os)), ⟨hfr, ?_, h⟩, by simp only; omega, rfl, rfl, rfl, rfl, rfl, rfl, trivial⟩
        simp only
        rw [hfl _ c1]; simpa using htr
      · have hb1 : (((((a.zip b).take i).filter fun m => !(m.1 == m.2))).map (·.1)).length ≤ 65536 := by
          rw [List.length_map]; exact Nat.le_trans (List.length_filter_le _ _) (by rw [List.length_take]; omega)
        have hb2 : (((((a.zip b).take i).filter fun m => !(m.1 == m.2))).map (·.2)).length ≤ 65536 := by
          rw [List.length_map]; exact Nat.le_trans (List.length_filter_le _ _) (by rw [List.length_take]; omega)
        obtain ⟨vg', Hd, og', k1, k2, k3⟩ := htr.appG hfr (Nat.le_refl _) a[i] hb1
        obtain ⟨vs', He, os', m1, m2, m3⟩ := k2.appS k3 (Nat.le_refl _) b[i] hb2
        (repeat first | refine zSeq ?_ | refine zReg ?_ | refine zBlk ?_ | refine zSkp ?_ | refine zExt ?_ | refine zNil rfl ?_ | refine zGet rfl ?_ | refine zOn rfl rfl ?_ | refine zOff rfl rfl ?_ | refine zU rfl ?_ | refine zOn rfl (by assumption) ?_ | refine zOff rfl (by assumption) ?_ | refine zMov rfl ?_ | refine zAsg rfl ?_ | refine zXtr rfl ?_ | refine zPT rfl rfl rfl ?_ | refine zPF rfl rfl rfl ?_ | refine zPT rfl (by assumption) rfl ?_ | refine zPF rfl (by assumption) rfl ?_ | refine zLss rfl rfl ?_ | refine zLeq rfl rfl ?_ | refine zGtr rfl rfl ?_ | refine zGeq rfl rfl ?_ | refine zEql rfl rfl ?_ | refine zNeq rfl rfl ?_ | refine zAdd rfl rfl (by omega) ?_ | refine zSub rfl rfl (by omega) ?_ | refine zLenS rfl E_string ?_ | refine zNot rfl ?_ | refine zEqS rfl rfl ?_ | refine zNeS rfl rfl ?_ | refine zT rfl rfl ?_ | refine zF rfl rfl ?_ | refine zT rfl (by assumption) ?_ | refine zF rfl (by assumption) ?_ | refine zIdx rfl rfl ha1 ?_ | refine zIdx rfl rfl ha2 ?_ | refine zLd (ty := 3) rfl hl1 ?_ | refine zLd (ty := 3) rfl hl2 ?_ | refine zLen rfl (hv1.len E_s_int) ?_ | refine zLen rfl (hv2.len E_s_int) ?_)
        refine WL.op (op_buildSlice rfl E_s_int E_int (by decide) fill22) ?_
        refine WL.op (k1 rfl rfl) ?_
        obtain ⟨b2, o2, ha2, hl2⟩ := sl_int (hv2o.fr k3) hb
        (repeat first | refine zSeq ?_ | refine zReg ?_ | refine zBlk ?_ | refine zSkp ?_ | refine zExt ?_ | refine zNil rfl ?_ | refine zGet rfl ?_ | refine zOn rfl rfl ?_ | refine zOff rfl rfl ?_ | refine zU rfl ?_ | refine zOn rfl (by assumption) ?_ | refine zOff rfl (by assumption) ?_ | refine zMov rfl ?_ | refine zAsg rfl ?_ | refine zXtr rfl ?_ | refine zPT rfl rfl rfl ?_ | refine zPF rfl rfl rfl ?_ | refine zPT rfl (by assumption) rfl ?_ | refine zPF rfl (by assumption) rfl ?_ | refine zLss rfl rfl ?_ | refine zLeq rfl rfl ?_ | refine zGtr rfl rfl ?_ | refine zGeq rfl rfl ?_ | refine zEql rfl rfl ?_ | refine zNeq rfl rfl ?_ | refine zAdd rfl rfl (by omega) ?_ | refine zSub rfl rfl (by omega) ?_ | refine zLenS rfl E_string ?_ | refine zNot rfl ?_ | refine zEqS rfl rfl ?_ | refine zNeS rfl rfl ?_ | refine zT rfl rfl ?_ | refine zF rfl rfl ?_ | refine zT rfl (by assumption) ?_ | refine zF rfl (by assumption) ?_ | refine zIdx rfl rfl ha1 ?_ | refine zIdx rfl rfl ha2 ?_ | refine zLd (ty := 3) rfl hl1 ?_ | refine zLd (ty := 3) rfl hl2 ?_ | refine zLen rfl (hv1.len E_s_int) ?_ | refine zLen rfl (hv2.len E_s_int) ?_)
        refine WL.op (op_buildSlice rfl E_s_int E_int (by decide) fill22) ?_
        refine WL.op (m1 rfl rfl) ?_
        (repeat first | refine zSeq ?_ | refine zReg ?_ | refine zBlk ?_ | refine zSkp ?_ | refine zExt ?_ | refine zNil rfl ?_ | refine zGet rfl ?_ | refine zOn rfl rfl ?_ | refine zOff rfl rfl ?_ | refine zU rfl ?_ | refine zOn rfl (by assumption) ?_ | refine zOff rfl (by assumption) ?_ | refine zMov rfl ?_ | refine zAsg rfl ?_ | refine zXtr rfl ?_ | refine zPT rfl rfl rfl ?_ | refine zPF rfl rfl rfl ?_ | refine zPT rfl (by assumption) rfl ?_ | refine zPF rfl (by assumption) rfl ?_ | refine zLss rfl rfl ?_ | refine zLeq rfl rfl ?_ | refine zGtr rfl rfl ?_ | refine zGeq rfl rfl ?_ | refine zEql rfl rfl ?_ | refine zNeq rfl rfl ?_ | refine zAdd rfl rfl (by omega) ?_ | refine zSub rfl rfl (by omega) ?_ | refine zLenS rfl E_string ?_ | refine zNot rfl ?_ | refine zEqS rfl rfl ?_ | refine zNeS rfl rfl ?_ | refine zT rfl rfl ?_ | refine zF rfl rfl ?_ | refine zT rfl (by assumption) ?_ | refine zF rfl (by assumption) ?_ | refine zIdx rfl rfl ha1 ?_ | refine zIdx rfl rfl ha2 ?_ | refine zLd (ty := 3) rfl hl1 ?_ | refine zLd (ty := 3) rfl hl2 ?_ | refine zLen rfl (hv1.len E_s_int) ?_ | refine zLen rfl (hv2.len E_s_int) ?_)
        refine ⟨(i + 1, (vg', og'), (vs', os')), ⟨m3, ?_, h⟩, by simp only; omega, rfl, rfl, rfl, rfl, rfl, rfl, trivial⟩
        simp only
        rw [hfl _ c1]; simpa using m2
    · have g1 : decide ((i : Int) < a.length) = false := decide_eq_false (by omega)
      obtain rfl : i = a.length := by omega
      rw [List.take_of_length_le (by omega)] at htr
      (repeat first | refine zSeq ?_ | refine zReg ?_ | refine zBlk ?_ | refine zSkp ?_ | refine zExt ?_ | refine zNil rfl ?_ | refine zGet rfl ?_ | refine zOn rfl rfl ?_ | refine zOff rfl rfl ?_ | refine zU rfl ?_ | refine zOn rfl (by assumption) ?_ | refine zOff rfl (by assumption) ?_ | refine zMov rfl ?_ | refine zAsg rfl ?_ | refine zXtr rfl ?_ | refine zPT rfl rfl rfl ?_ | refine zPF rfl rfl rfl ?_ | refine zPT rfl (by assumption) rfl ?_ | refine zPF rfl (by assumption) rfl ?_ | refine zLss rfl rfl ?_ | refine zLeq rfl rfl ?_ | refine zGtr rfl rfl ?_ | refine zGeq rfl rfl ?_ | refine zEql rfl rfl ?_ | refine zNeq rfl rfl ?_ | refine zAdd rfl rfl (by omega) ?_ | refine zSub rfl rfl (by omega) ?_ | refine zLenS rfl E_string ?_ | refine zNot rfl ?_ | refine zEqS rfl rfl ?_ | refine zNeS rfl rfl ?_ | refine zT rfl rfl ?_ | refine zF rfl rfl ?_ | refine zT rfl (by assumption) ?_ | refine zF rfl (by assumption) ?_ | refine zIdx rfl rfl ha1 ?_ | refine zIdx rfl rfl ha2 ?_ | refine zLd (ty := 3) rfl hl1 ?_ | refine zLd (ty := 3) rfl hl2 ?_ | refine zLen rfl (hv1.len E_s_int) ?_ | refine zLen rfl (hv2.len E_s_int) ?_)
      have ht0 : ∀ m ∈ live_ a b, m.1 ≠ t := fun m hm => ht m (List.mem_filter.1 hm).1
      have hl0 : (live_ a b).length ≤ a.length := Nat.le_trans (List.length_filter_le _ _) (by omega)
      change Tr Hc H.next ((live_ a b).map (·.1)) vg og ((live_ a b).map (·.2)) vs os (.slice none 0 0) [] none at htr
      refine WP.loopH (σ := List Mv × (Value × Option (Nat × Nat)) × (Value × Option (Nat × Nat)) × Value × List Mv × Option (Nat × Nat)) (fun x => [(2, .int .i64 t), (7, x.2.1.1), (8, x.2.2.1.1), (10, x.2.2.2.1)])
        (fun x Hd => RJ H Hd t (live_ a b) x) (fun x => mu x.1) (live_ a b, (vg, og), (vs, os), .slice none 0 0, [], none) ⟨hfr, htr, ht0, fun r h => h, by simp, by simp only; omega⟩ ⟨rfl, rfl, rfl, rfl, trivial⟩ ?_
      generalize hl1e : live_ a b = l1 at *
      clear htr hfr hv1 hv2 g1 hi h ht0
      rintro ⟨l, ⟨vg, og⟩, ⟨vs, os⟩, vo, out, oo⟩ Hc ⟨hfr, htr, ht, hR, hmu, hL⟩
      simp only at hfr htr ht hR hmu hL ⊢
      have hv1 := htr.g.sl
      have hv2 := htr.s.sl
      rcases Nat.eq_zero_or_pos l.length with h0 | h0
      · have g1 : decide (((l.map (·.1)).length : Int) > 0) = false := decide_eq_false (by rw [List.length_map]; omega)
        (repeat first | refine zSeq ?_ | refine zReg ?_ | refine zBlk ?_ | refine zSkp ?_ | refine zExt ?_ | refine zNil rfl ?_ | refine zGet rfl ?_ | refine zOn rfl rfl ?_ | refine zOff rfl rfl ?_ | refine zU rfl ?_ | refine zOn rfl (by assumption) ?_ | refine zOff rfl (by assumption) ?_ | refine zMov rfl ?_ | refine zAsg rfl ?_ | refine zXtr rfl ?_ | refine zPT rfl rfl rfl ?_ | refine zPF rfl rfl rfl ?_ | refine zPT rfl (by assumption) rfl ?_ | refine zPF rfl (by assumption) rfl ?_ | refine zLss rfl rfl ?_ | refine zLeq rfl rfl ?_ | refine zGtr rfl rfl ?_ | refine zGeq rfl rfl ?_ | refine zEql rfl rfl ?_ | refine zNeq rfl rfl ?_ | refine zAdd rfl rfl (by omega) ?_ | refine zSub rfl rfl (by omega) ?_ | refine zLenS rfl E_string ?_ | refine zNot rfl ?_ | refine zEqS rfl rfl ?_ | refine zNeS rfl rfl ?_ | refine zT rfl rfl ?_ | refine zF rfl rfl ?_ | refine zT rfl (by assumption) ?_ | refine zF rfl (by assumption) ?_ | refine zIdx rfl rfl ha1 ?_ | refine zIdx rfl rfl ha2 ?_ | refine zLd (ty := 3) rfl hl1 ?_ | refine zLd (ty := 3) rfl hl2 ?_ | refine zLen rfl (hv1.len E_s_int) ?_ | refine zLen rfl (hv2.len E_s_int) ?_)
        obtain rfl : l = [] := List.length_eq_zero_iff.1 h0
        have hr := hR [] .nil
        rw [List.append_nil] at hr
        have := mu_le l1
        exact WP.ret ⟨.inr rfl, _, rfl, out, oo, _, hr, htr.o, Nat.le_refl _, hfr, by omega⟩
      · have g1 : decide (((l.map (·.1)).length : Int) > 0) = true := decide_eq_true (by rw [List.length_map]; omega)
        refine zSeq ?_
        refine zSeq ?_
        (repeat first | refine zReg ?_ | refine zSkp ?_ | refine zExt ?_ | refine zNil rfl ?_ | refine zGet rfl ?_ | refine zOn rfl rfl ?_ | refine zOff rfl rfl ?_ | refine zU rfl ?_ | refine zOn rfl (by assumption) ?_ | refine zOff rfl (by assumption) ?_ | refine zMov rfl ?_ | refine zAsg rfl ?_ | refine zXtr rfl ?_ | refine zPT rfl rfl rfl ?_ | refine zPF rfl rfl rfl ?_ | refine zPT rfl (by assumption) rfl ?_ | refine zPF rfl (by assumption) rfl ?_ | refine zLss rfl rfl ?_ | refine zLeq rfl rfl ?_ | refine zGtr rfl rfl ?_ | refine zGeq rfl rfl ?_ | refine zEql rfl rfl ?_ | refine zNeq rfl rfl ?_ | refine zAdd rfl rfl (by omega) ?_ | refine zSub rfl rfl (by omega) ?_ | refine zLenS rfl E_string ?_ | refine zNot rfl ?_ | refine zEqS rfl rfl ?_ | refine zNeS rfl rfl ?_ | refine zT rfl rfl ?_ | refine zF rfl rfl ?_ | refine zT rfl (by assumption) ?_ | refine zF rfl (by assumption) ?_ | refine zIdx rfl rfl ha1 ?_ | refine zIdx rfl rfl ha2 ?_ | refine zLd (ty := 3) rfl hl1 ?_ | refine zLd (ty := 3) rfl hl2 ?_ | refine zLen rfl (hv1.len E_s_int) ?_ | refine zLen rfl (hv2.len E_s_int) ?_)
        refine zBlk ?_
        refine zSeq ?_
        (repeat first | refine zReg ?_ | refine zSkp ?_ | refine zExt ?_ | refine zNil rfl ?_ | refine zGet rfl ?_ | refine zOn rfl rfl ?_ | refine zOff rfl rfl ?_ | refine zU rfl ?_ | refine zOn rfl (by assumption) ?_ | refine zOff rfl (by assumption) ?_ | refine zMov rfl ?_ | refine zAsg rfl ?_ | refine zXtr rfl ?_ | refine zPT rfl rfl rfl ?_ | refine zPF rfl rfl rfl ?_ | refine zPT rfl (by assumption) rfl ?_ | refine zPF rfl (by assumption) rfl ?_ | refine zLss rfl rfl ?_ | refine zLeq rfl rfl ?_ | refine zGtr rfl rfl ?_ | refine zGeq rfl rfl ?_ | refine zEql rfl rfl ?_ | refine zNeq rfl rfl ?_ | refine zAdd rfl rfl (by omega) ?_ | refine zSub rfl rfl (by omega) ?_ | refine zLenS rfl E_string ?_ | refine zNot rfl ?_ | refine zEqS rfl rfl ?_ | refine zNeS rfl rfl ?_ | refine zT rfl rfl ?_ | refine zF rfl rfl ?_ | refine zT rfl (by assumption) ?_ | refine zF rfl (by assumption) ?_ | refine zIdx rfl rfl ha1 ?_ | refine zIdx rfl rfl ha2 ?_ | refine zLd (ty := 3) rfl hl1 ?_ | refine zLd (ty := 3) rfl hl2 ?_ | refine zLen rfl (hv1.len E_s_int) ?_ | refine zLen rfl (hv2.len E_s_int) ?_)
        refine WP.seqS (σ := Int) (fun x => [(2, .int .i64 t), (7, vg), (8, vs), (10, vo), (11, .int .i64 x)]) (fun x H' => H' = Hc ∧ ((x = -1 ∧ ∀ m ∈ l, Phi.free l m = false) ∨ ∃ k, ∃ h : k < l.length, x = (k : Int) ∧ Phi.free l l[k] = true ∧ ∀ j (hj : j < k), Phi.free l (l[j]'(Nat.lt_trans hj h)) = false)) ?_ ?_
        · have hg1 : ∀ i : Nat, i < l.length → i < (l.map (·.1)).length := fun i h => by rw [List.length_map]; exact h
          have hg2 : ∀ i : Nat, i < l.length → i < (l.map (·.2)).length := fun i h => by rw [List.length_map]; exact h
          have hlm1 : (l.map (·.1)).length = l.length := List.length_map _
          have hlm2 : (l.map (·.2)).length = l.length := List.length_map _
          (repeat first | refine zSeq ?_ | refine zReg ?_ | refine zBlk ?_ | refine zSkp ?_ | refine zExt ?_ | refine zNil rfl ?_ | refine zGet rfl ?_ | refine zOn rfl rfl ?_ | refine zOff rfl rfl ?_ | refine zU rfl ?_ | refine zOn rfl (by assumption) ?_ | refine zOff rfl (by assumption) ?_ | refine zMov rfl ?_ | refine zAsg rfl ?_ | refine zXtr rfl ?_ | refine zPT rfl rfl rfl ?_ | refine zPF rfl rfl rfl ?_ | refine zPT rfl (by assumption) rfl ?_ | refine zPF rfl (by assumption) rfl ?_ | refine zLss rfl rfl ?_ | refine zLeq rfl rfl ?_ | refine zGtr rfl rfl ?_ | refine zGeq rfl rfl ?_ | refine zEql rfl rfl ?_ | refine zNeq rfl rfl ?_ | refine zAdd rfl rfl (by omega) ?_ | refine zSub rfl rfl (by omega) ?_ | refine zLenS rfl E_string ?_ | refine zNot rfl ?_ | refine zEqS rfl rfl ?_ | refine zNeS rfl rfl ?_ | refine zT rfl rfl ?_ | refine zF rfl rfl ?_ | refine zT rfl (by assumption) ?_ | refine zF rfl (by assumption) ?_ | refine zIdx rfl rfl ha1 ?_ | refine zIdx rfl rfl ha2 ?_ | refine zLd (ty := 3) rfl hl1 ?_ | refine zLd (ty := 3) rfl hl2 ?_ | refine zLen rfl (hv1.len E_s_int) ?_ | refine zLen rfl (hv2.len E_s_int) ?_)
          refine WP.loopH (σ := Nat × Int) (fun x => [(2, .int .i64 t), (7, vg), (8, vs), (10, vo), (11, .int .i64 x.2), (12, .int .i64 x.1)])
            (fun x H' => H' = Hc ∧ ((x.2 = -1 ∧ x.1 ≤ l.length ∧ ∀ j (h : j < l.length), j < x.1 → Phi.free l l[j] = false) ∨ ∃ k, ∃ h : k < l.length, x.2 = (k : Int) ∧ x.1 = k + 1 ∧ Phi.free l l[k] = true ∧ ∀ j (hj : j < k), Phi.free l (l[j]'(Nat.lt_trans hj h)) = false)) (fun x => l.length - x.1) (0, -1)
            ⟨rfl, .inl ⟨rfl, Nat.zero_le _, fun j _ h => absurd h (by omega)⟩⟩ ⟨rfl, rfl, rfl, rfl, rfl, rfl, trivial⟩ ?_
          rintro ⟨i, x⟩ Hy ⟨hy, hx⟩
          replace hy := hy.symm
          subst hy
          simp only at hx ⊢
          rcases hx with ⟨rfl, hi, hn⟩ | ⟨k, hk, rfl, rfl, hfk, hbk⟩
          · rcases Nat.lt_or_ge i l.length with h | h
            · have g2 : decide ((i : Int) < (l.map (·.1)).length) = true := decide_eq_true (by omega)
              obtain ⟨b2, o2, ha2, hl2⟩ := sl_int hv1 (hg1 i h)
              rw [List.getElem_map] at hl2
              (repeat first | refine zSeq ?_ | refine zReg ?_ | refine zBlk ?_ | refine zSkp ?_ | refine zExt ?_ | refine zNil rfl ?_ | refine zGet rfl ?_ | refine zOn rfl rfl ?_ | refine zOff rfl rfl ?_ | refine zU rfl ?_ | refine zOn rfl (by assumption) ?_ | refine zOff rfl (by assumption) ?_ | refine zMov rfl ?_ | refine zAsg rfl ?_ | refine zXtr rfl ?_ | refine zPT rfl rfl rfl ?_ | refine zPF rfl rfl rfl ?_ | refine zPT rfl (by assumption) rfl ?_ | refine zPF rfl (by assumption) rfl ?_ | refine zLss rfl rfl ?_ | refine zLeq rfl rfl ?_ | refine zGtr rfl rfl ?_ | refine zGeq rfl rfl ?_ | refine zEql rfl rfl ?_ | refine zNeq rfl rfl ?_ | refine zAdd rfl rfl (by omega) ?_ | refine zSub rfl rfl (by omega) ?_ | refine zLenS rfl E_string ?_ | refine zNot rfl ?_ | refine zEqS rfl rfl ?_ | refine zNeS rfl rfl ?_ | refine zT rfl rfl ?_ | refine zF rfl rfl ?_ | refine zT rfl (by assumption) ?_ | refine zF rfl (by assumption) ?_ | refine zIdx rfl rfl ha1 ?_ | refine zIdx rfl rfl ha2 ?_ | refine zLd (ty := 3) rfl hl1 ?_ | refine zLd (ty := 3) rfl hl2 ?_ | refine zLen rfl (hv1.len E_s_int) ?_ | refine zLen rfl (hv2.len E_s_int) ?_)
              refine WP.loopH (σ := Nat × Bool) (fun x => [(2, .int .i64 t), (7, vg), (8, vs), (10, vo), (11, .int .i64 (-1)), (12, .int .i64 i), (13, .bool x.2), (14, .int .i64 x.1)])
                (fun x H' => H' = Hc ∧ x.1 ≤ l.length ∧ x.2 = ((l.map (·.2)).take x.1).any (· == l[i].1)) (fun x => l.length - x.1) (0, false)
                ⟨rfl, Nat.zero_le _, rfl⟩ ⟨rfl, rfl, rfl, rfl, rfl, rfl, rfl, rfl, trivial⟩ ?_
              rintro ⟨j, r⟩ Hy ⟨hy, hj, hr⟩
              replace hy := hy.symm
              subst hy
              simp only at hj hr ⊢
              rcases Nat.lt_or_ge j l.length with hj2 | hj2
              · have g3 : decide ((j : Int) < (l.map (·.2)).length) = true := decide_eq_true (by omega)
                obtain ⟨b1, o1, ha1, hl1⟩ := sl_int hv2 (hg2 j hj2)
                rw [List.getElem_map] at hl1
                have hs : ((l.map (·.2)).take (j + 1)).any (· == l[i].1) = (r || (l[j].2 == l[i].1)) := by
                  rw [List.take_add_one, List.getElem?_eq_getElem (hg2 j hj2), Option.toList_some, List.any_append, ← hr, List.getElem_map]; simp
                cases r
                · (repeat first | refine zSeq ?_ | refine zReg ?_ | refine zBlk ?_ | refine zSkp ?_ | refine zExt ?_ | refine zNil rfl ?_ | refine zGet rfl ?_ | refine zOn rfl rfl ?_ | refine zOff rfl rfl ?_ | refine zU rfl ?_ | refine zOn rfl (by assumption) ?_ | refine zOff rfl (by assumption) ?_ | refine zMov rfl ?_ | refine zAsg rfl ?_ | refine zXtr rfl ?_ | refine zPT rfl rfl rfl ?_ | refine zPF rfl rfl rfl ?_ | refine zPT rfl (by assumption) rfl ?_ | refine zPF rfl (by assumption) rfl ?_ | refine zLss rfl rfl ?_ | refine zLeq rfl rfl ?_ | refine zGtr rfl rfl ?_ | refine zGeq rfl rfl ?_ | refine zEql rfl rfl ?_ | refine zNeq rfl rfl ?_ | refine zAdd rfl rfl (by omega) ?_ | refine zSub rfl rfl (by omega) ?_ | refine zLenS rfl E_string ?_ | refine zNot rfl ?_ | refine zEqS rfl rfl ?_ | refine zNeS rfl rfl ?_ | refine zT rfl rfl ?_ | refine zF rfl rfl ?_ | refine zT rfl (by assumption) ?_ | refine zF rfl (by assumption) ?_ | refine zIdx rfl rfl ha1 ?_ | refine zIdx rfl rfl ha2 ?_ | refine zLd (ty := 3) rfl hl1 ?_ | refine zLd (ty := 3) rfl hl2 ?_ | refine zLen rfl (hv1.len E_s_int) ?_ | refine zLen rfl (hv2.len E_s_int) ?_)
                  exact ⟨(j + 1, l[j].2 == l[i].1), ⟨rfl, hj2, by rw [hs]; rfl⟩, by simp only; omega, rfl, rfl, rfl, rfl, rfl, rfl, rfl, rfl, trivial⟩
                · (repeat first | refine zSeq ?_ | refine zReg ?_ | refine zBlk ?_ | refine zSkp ?_ | refine zExt ?_ | refine zNil rfl ?_ | refine zGet rfl ?_ | refine zOn rfl rfl ?_ | refine zOff rfl rfl ?_ | refine zU rfl ?_ | refine zOn rfl (by assumption) ?_ | refine zOff rfl (by assumption) ?_ | refine zMov rfl ?_ | refine zAsg rfl ?_ | refine zXtr rfl ?_ | refine zPT rfl rfl rfl ?_ | refine zPF rfl rfl rfl ?_ | refine zPT rfl (by assumption) rfl ?_ | refine zPF rfl (by assumption) rfl ?_ | refine zLss rfl rfl ?_ | refine zLeq rfl rfl ?_ | refine zGtr rfl rfl ?_ | refine zGeq rfl rfl ?_ | refine zEql rfl rfl ?_ | refine zNeq rfl rfl ?_ | refine zAdd rfl rfl (by omega) ?_ | refine zSub rfl rfl (by omega) ?_ | refine zLenS rfl E_string ?_ | refine zNot rfl ?_ | refine zEqS rfl rfl ?_ | refine zNeS rfl rfl ?_ | refine zT rfl rfl ?_ | refine zF rfl rfl ?_ | refine zT rfl (by assumption) ?_ | refine zF rfl (by assumption) ?_ | refine zIdx rfl rfl ha1 ?_ | refine zIdx rfl rfl ha2 ?_ | refine zLd (ty := 3) rfl hl1 ?_ | refine zLd (ty := 3) rfl hl2 ?_ | refine zLen rfl (hv1.len E_s_int) ?_ | refine zLen rfl (hv2.len E_s_int) ?_)
                  exact ⟨(j + 1, true), ⟨rfl, hj2, by rw [hs]; rfl⟩, by simp only; omega, rfl, rfl, rfl, rfl, rfl, rfl, rfl, rfl, trivial⟩
              · have g3 : decide ((j : Int) < (l.map (·.2)).length) = false := decide_eq_false (by omega)
                obtain rfl : j = l.length := by omega
                rw [List.take_of_length_le (by omega)] at hr
                have hfe : Phi.free l l[i] = !r := by rw [free_any, hr]
                cases r
                · (repeat first | refine zSeq ?_ | refine zReg ?_ | refine zBlk ?_ | refine zSkp ?_ | refine zExt ?_ | refine zNil rfl ?_ | refine zGet rfl ?_ | refine zOn rfl rfl ?_ | refine zOff rfl rfl ?_ | refine zU rfl ?_ | refine zOn rfl (by assumption) ?_ | refine zOff rfl (by assumption) ?_ | refine zMov rfl ?_ | refine zAsg rfl ?_ | refine zXtr rfl ?_ | refine zPT rfl rfl rfl ?_ | refine zPF rfl rfl rfl ?_ | refine zPT rfl (by assumption) rfl ?_ | refine zPF rfl (by assumption) rfl ?_ | refine zLss rfl rfl ?_ | refine zLeq rfl rfl ?_ | refine zGtr rfl rfl ?_ | refine zGeq rfl rfl ?_ | refine zEql rfl rfl ?_ | refine zNeq rfl rfl ?_ | refine zAdd rfl rfl (by omega) ?_ | refine zSub rfl rfl (by omega) ?_ | refine zLenS rfl E_string ?_ | refine zNot rfl ?_ | refine zEqS rfl rfl ?_ | refine zNeS rfl rfl ?_ | refine zT rfl rfl ?_ | refine zF rfl rfl ?_ | refine zT rfl (by assumption) ?_ | refine zF rfl (by assumption) ?_ | refine zIdx rfl rfl ha1 ?_ | refine zIdx rfl rfl ha2 ?_ | refine zLd (ty := 3) rfl hl1 ?_ | refine zLd (ty := 3) rfl hl2 ?_ | refine zLen rfl (hv1.len E_s_int) ?_ | refine zLen rfl (hv2.len E_s_int) ?_)
                  exact ⟨(i + 1, (i : Int)), ⟨rfl, .inr ⟨i, h, rfl, rfl, hfe, fun j hj => hn j (by omega) hj⟩⟩, by simp only; omega, rfl, rfl, rfl, rfl, rfl, rfl, trivial⟩
                · (repeat first | refine zSeq ?_ | refine zReg ?_ | refine zBlk ?_ | refine zSkp ?_ | refine zExt ?_ | refine zNil rfl ?_ | refine zGet rfl ?_ | refine zOn rfl rfl ?_ | refine zOff rfl rfl ?_ | refine zU rfl ?_ | refine zOn rfl (by assumption) ?_ | refine zOff rfl (by assumption) ?_ | refine zMov rfl ?_ | refine zAsg rfl ?_ | refine zXtr rfl ?_ | refine zPT rfl rfl rfl ?_ | refine zPF rfl rfl rfl ?_ | refine zPT rfl (by assumption) rfl ?_ | refine zPF rfl (by assumption) rfl ?_ | refine zLss rfl rfl ?_ | refine zLeq rfl rfl ?_ | refine zGtr rfl rfl ?_ | refine zGeq rfl rfl ?_ | refine zEql rfl rfl ?_ | refine zNeq rfl rfl ?_ | refine zAdd rfl rfl (by omega) ?_ | refine zSub rfl rfl (by omega) ?_ | refine zLenS rfl E_string ?_ | refine zNot rfl ?_ | refine zEqS rfl rfl ?_ | refine zNeS rfl rfl ?_ | refine zT rfl rfl ?_ | refine zF rfl rfl ?_ | refine zT rfl (by assumption) ?_ | refine zF rfl (by assumption) ?_ | refine zIdx rfl rfl ha1 ?_ | refine zIdx rfl rfl ha2 ?_ | refine zLd (ty := 3) rfl hl1 ?_ | refine zLd (ty := 3) rfl hl2 ?_ | refine zLen rfl (hv1.len E_s_int) ?_ | refine zLen rfl (hv2.len E_s_int) ?_)
                  refine ⟨(i + 1, -1), ⟨rfl, .inl ⟨rfl, h, fun j hj hji => ?_⟩⟩, by simp only; omega, rfl, rfl, rfl, rfl, rfl, rfl, trivial⟩
                  simp only at hji
                  rcases Nat.lt_or_ge j i with hlt | hge
                  · exact hn j hj hlt
                  · obtain rfl : j = i := by omega
                    exact hfe
            · have g2 : decide ((i : Int) < (l.map (·.1)).length) = false := decide_eq_false (by omega)
              (repeat first | refine zSeq ?_ | refine zReg ?_ | refine zBlk ?_ | refine zSkp ?_ | refine zExt ?_ | refine zNil rfl ?_ | refine zGet rfl ?_ | refine zOn rfl rfl ?_ | refine zOff rfl rfl ?_ | refine zU rfl ?_ | refine zOn rfl (by assumption) ?_ | refine zOff rfl (by assumption) ?_ | refine zMov rfl ?_ | refine zAsg rfl ?_ | refine zXtr rfl ?_ | refine zPT rfl rfl rfl ?_ | refine zPF rfl rfl rfl ?_ | refine zPT rfl (by assumption) rfl ?_ | refine zPF rfl (by assumption) rfl ?_ | refine zLss rfl rfl ?_ | refine zLeq rfl rfl ?_ | refine zGtr rfl rfl ?_ | refine zGeq rfl rfl ?_ | refine zEql rfl rfl ?_ | refine zNeq rfl rfl ?_ | refine zAdd rfl rfl (by omega) ?_ | refine zSub rfl rfl (by omega) ?_ | refine zLenS rfl E_string ?_ | refine zNot rfl ?_ | refine zEqS rfl rfl ?_ | refine zNeS rfl rfl ?_ | refine zT rfl rfl ?_ | refine zF rfl rfl ?_ | refine zT rfl (by assumption) ?_ | refine zF rfl (by assumption) ?_ | refine zIdx rfl rfl ha1 ?_ | refine zIdx rfl rfl ha2 ?_ | refine zLd (ty := 3) rfl hl1 ?_ | refine zLd (ty := 3) rfl hl2 ?_ | refine zLen rfl (hv1.len E_s_int) ?_ | refine zLen rfl (hv2.len E_s_int) ?_)
              refine ⟨-1, ⟨rfl, .inl ⟨rfl, fun m hm => ?_⟩⟩, rfl, rfl, rfl, rfl, rfl, trivial⟩
              obtain ⟨j, hj, rfl⟩ := List.mem_iff_getElem.1 hm
              exact hn j hj (by omega)
          · have g2 : decide ((k : Int) < 0) = false := decide_eq_false (by omega)
            have e : ∃ c, decide (((k + 1 : Nat) : Int) < (l.map (·.1)).length) = c := ⟨_, rfl⟩
            obtain ⟨c, g3⟩ := e
            cases c
            · (repeat first | refine zSeq ?_ | refine zReg ?_ | refine zBlk ?_ | refine zSkp ?_ | refine zExt ?_ | refine zNil rfl ?_ | refine zGet rfl ?_ | refine zOn rfl rfl ?_ | refine zOff rfl rfl ?_ | refine zU rfl ?_ | refine zOn rfl (by assumption) ?_ | refine zOff rfl (by assumption) ?_ | refine zMov rfl ?_ | refine zAsg rfl ?_ | refine zXtr rfl ?_ | refine zPT rfl rfl rfl ?_ | refine zPF rfl rfl rfl ?_ | refine zPT rfl (by assumption) rfl ?_ | refine zPF rfl (by assumption) rfl ?_ | refine zLss rfl rfl ?_ | refine zLeq rfl rfl ?_ | refine zGtr rfl rfl ?_ | refine zGeq rfl rfl ?_ | refine zEql rfl rfl ?_ | refine zNeq rfl rfl ?_ | refine zAdd rfl rfl (by omega) ?_ | refine zSub rfl rfl (by omega) ?_ | refine zLenS rfl E_string ?_ | refine zNot rfl ?_ | refine zEqS rfl rfl ?_ | refine zNeS rfl rfl ?_ | refine zT rfl rfl ?_ | refine zF rfl rfl ?_ | refine zT rfl (by assumption) ?_ | refine zF rfl (by assumption) ?_ | refine zIdx rfl rfl ha1 ?_ | refine zIdx rfl rfl ha2 ?_ | refine zLd (ty := 3) rfl hl1 ?_ | refine zLd (ty := 3) rfl hl2 ?_ | refine zLen rfl (hv1.len E_s_int) ?_ | refine zLen rfl (hv2.len E_s_int) ?_)
              exact ⟨(k : Int), ⟨rfl, .inr ⟨k, hk, rfl, hfk, hbk⟩⟩, rfl, rfl, rfl, rfl, rfl, trivial⟩
            · (repeat first | refine zSeq ?_ | refine zReg ?_ | refine zBlk ?_ | refine zSkp ?_ | refine zExt ?_ | refine zNil rfl ?_ | refine zGet rfl ?_ | refine zOn rfl rfl ?_ | refine zOff rfl rfl ?_ | refine zU rfl ?_ | refine zOn rfl (by assumption) ?_ | refine zOff rfl (by assumption) ?_ | refine zMov rfl ?_ | refine zAsg rfl ?_ | refine zXtr rfl ?_ | refine zPT rfl rfl rfl ?_ | refine zPF rfl rfl rfl ?_ | refine zPT rfl (by assumption) rfl ?_ | refine zPF rfl (by assumption) rfl ?_ | refine zLss rfl rfl ?_ | refine zLeq rfl rfl ?_ | refine zGtr rfl rfl ?_ | refine zGeq rfl rfl ?_ | refine zEql rfl rfl ?_ | refine zNeq rfl rfl ?_ | refine zAdd rfl rfl (by omega) ?_ | refine zSub rfl rfl (by omega) ?_ | refine zLenS rfl E_string ?_ | refine zNot rfl ?_ | refine zEqS rfl rfl ?_ | refine zNeS rfl rfl ?_ | refine zT rfl rfl ?_ | refine zF rfl rfl ?_ | refine zT rfl (by assumption) ?_ | refine zF rfl (by assumption) ?_ | refine zIdx rfl rfl ha1 ?_ | refine zIdx rfl rfl ha2 ?_ | refine zLd (ty := 3) rfl hl1 ?_ | refine zLd (ty := 3) rfl hl2 ?_ | refine zLen rfl (hv1.len E_s_int) ?_ | refine zLen rfl (hv2.len E_s_int) ?_)
              exact ⟨(k : Int), ⟨rfl, .inr ⟨k, hk, rfl, hfk, hbk⟩⟩, rfl, rfl, rfl, rfl, rfl, trivial⟩
        · rintro x _ ⟨rfl, ⟨rfl, hn⟩ | ⟨k, hk, rfl, hfk, hbk⟩⟩
          · cases l with
            | nil => exact absurd h0 (by simp)
            | cons m0 l =>
            have ht0 : m0.1 ≠ t := ht m0 List.mem_cons_self
            have hmt := mu_turn ht0 hn
            obtain ⟨b1, o1, ha1, hl1⟩ := sl_int hv1 (i := 0) (by rw [List.length_map]; exact h0)
            replace ha1 : aIndex V.E 22 vg (.int .i64 0) = some (.pointer (some ⟨b1, o1, none⟩)) := ha1
            replace hl1 : aLoad V.E _ 3 (.pointer (some ⟨b1, o1, none⟩)) = some (.int .i64 m0.1) := hl1
            obtain ⟨vo', Hd, oo', k1, k2, k3⟩ := htr.appO hfr (Nat.le_refl _) (t, m0.1) (by have := mu_le l1; omega)
            (repeat first | refine zSeq ?_ | refine zReg ?_ | refine zBlk ?_ | refine zSkp ?_ | refine zExt ?_ | refine zNil rfl ?_ | refine zGet rfl ?_ | refine zOn rfl rfl ?_ | refine zOff rfl rfl ?_ | refine zU rfl ?_ | refine zOn rfl (by assumption) ?_ | refine zOff rfl (by assumption) ?_ | refine zMov rfl ?_ | refine zAsg rfl ?_ | refine zXtr rfl ?_ | refine zPT rfl rfl rfl ?_ | refine zPF rfl rfl rfl ?_ | refine zPT rfl (by assumption) rfl ?_ | refine zPF rfl (by assumption) rfl ?_ | refine zLss rfl rfl ?_ | refine zLeq rfl rfl ?_ | refine zGtr rfl rfl ?_ | refine zGeq rfl rfl ?_ | refine zEql rfl rfl ?_ | refine zNeq rfl rfl ?_ | refine zAdd rfl rfl (by omega) ?_ | refine zSub rfl rfl (by omega) ?_ | refine zLenS rfl E_string ?_ | refine zNot rfl ?_ | refine zEqS rfl rfl ?_ | refine zNeS rfl rfl ?_ | refine zT rfl rfl ?_ | refine zF rfl rfl ?_ | refine zT rfl (by assumption) ?_ | refine zF rfl (by assumption) ?_ | refine zIdx rfl rfl ha1 ?_ | refine zIdx rfl rfl ha2 ?_ | refine zLd (ty := 3) rfl hl1 ?_ | refine zLd (ty := 3) rfl hl2 ?_ | refine zLen rfl (hv1.len E_s_int) ?_ | refine zLen rfl (hv2.len E_s_int) ?_)
            refine WL.op (op_build rfl build30) ?_
            refine WL.op (op_buildSlice rfl E_s_api_Ins E_api_Ins (by rw [te_api_Ins_size]; decide) fill30) ?_
            refine WL.op (k1 rfl rfl) ?_
            (repeat first | refine zSeq ?_ | refine zReg ?_ | refine zBlk ?_ | refine zSkp ?_ | refine zExt ?_ | refine zNil rfl ?_ | refine zGet rfl ?_ | refine zOn rfl rfl ?_ | refine zOff rfl rfl ?_ | refine zU rfl ?_ | refine zOn rfl (by assumption) ?_ | refine zOff rfl (by assumption) ?_ | refine zMov rfl ?_ | refine zAsg rfl ?_ | refine zXtr rfl ?_ | refine zPT rfl rfl rfl ?_ | refine zPF rfl rfl rfl ?_ | refine zPT rfl (by assumption) rfl ?_ | refine zPF rfl (by assumption) rfl ?_ | refine zLss rfl rfl ?_ | refine zLeq rfl rfl ?_ | refine zGtr rfl rfl ?_ | refine zGeq rfl rfl ?_ | refine zEql rfl rfl ?_ | refine zNeq rfl rfl ?_ | refine zAdd rfl rfl (by omega) ?_ | refine zSub rfl rfl (by omega) ?_ | refine zLenS rfl E_string ?_ | refine zNot rfl ?_ | refine zEqS rfl rfl ?_ | refine zNeS rfl rfl ?_ | refine zT rfl rfl ?_ | refine zF rfl rfl ?_ | refine zT rfl (by assumption) ?_ | refine zF rfl (by assumption) ?_ | refine zIdx rfl rfl ha1 ?_ | refine zIdx rfl rfl ha2 ?_ | refine zLd (ty := 3) rfl hl1 ?_ | refine zLd (ty := 3) rfl hl2 ?_ | refine zLen rfl (hv1.len E_s_int) ?_ | refine zLen rfl (hv2.len E_s_int) ?_)
            refine WP.loopH (σ := Nat) (fun i => [(2, .int .i64 t), (7, vg), (8, vs), (10, vo'), (15, .int .i64 i)])
              (fun i He => Fr H He ∧ Tr He H.next ((m0 :: l).map (·.1)) vg og ((tw m0.1 t (m0 :: l) i).map (·.2)) vs os vo' (out ++ [(t, m0.1)]) oo' ∧ i ≤ (m0 :: l).length) (fun i => (m0 :: l).length - i) 0 ⟨k3, k2, Nat.zero_le _⟩ ⟨rfl, rfl, rfl, rfl, rfl, trivial⟩ ?_
            clear hv1 hv2 ha1 hl1 htr hfr k1 k2 k3
            generalize hll : m0 :: l = ll at *
            have hg0 : ll[0]'h0 = m0 := by subst hll; rfl
            rintro i He ⟨hfr, htr, hi⟩
            have hv1 := htr.g.sl
            have hv2 := htr.s.sl
            have hln : ((tw m0.1 t ll i).map (·.2)).length = ll.length := by rw [List.length_map, tw_len]
            rcases Nat.lt_or_ge i ll.length with h | h
            · have g3 : decide ((i : Int) < ((tw m0.1 t ll i).map (·.2)).length) = true := decide_eq_true (by omega)
              have hti := tw_get (g := m0.1) (t := t) h
              obtain ⟨b1, o1, ha1, hl1⟩ := sl_int hv2 (i := i) (by omega)
              rw [List.getElem_map, hti] at hl1
              obtain ⟨b2, o2, ha2, hl2⟩ := sl_int hv1 (i := 0) (by rw [List.length_map]; exact h0)
              replace ha2 : aIndex V.E 22 vg (.int .i64 0) = some (.pointer (some ⟨b2, o2, none⟩)) := ha2
              rw [List.getElem_map, hg0] at hl2
              have hs := tw_succ (g := m0.1) (t := t) h
              by_cases he : ll[i].2 = m0.1
              · have g4 : (ll[i].2 == m0.1) = true := by rw [he]; exact beq_self_eq_true _
                rw [if_pos he] at hs
                obtain ⟨b', off', Hf, ha', _, hwr, hw5, hf5, hn5⟩ := (htr.s.ow (by omega)).set E_s_int E_int rfl (kd := .i64) (i := i) (by omega) (by omega) (vs := [.int .i64 t]) (by simp) (k := 0) (by simp)
                rw [show (i : Int).toNat = i from rfl, ints_set (by omega)] at hw5
                rw [ha1] at ha'
                cases ha'
                have hnew : ((tw m0.1 t ll i).map (·.2)).set i t = (tw m0.1 t ll (i + 1)).map (·.2) := by rw [hs, List.map_set]
                have hln2 : ((tw m0.1 t ll i).map (·.2)).length = ((tw m0.1 t ll (i + 1)).map (·.2)).length := by rw [← hnew, List.length_set]
                rw [hnew, hln2] at hw5
                (repeat first | refine zSeq ?_ | refine zReg ?_ | refine zBlk ?_ | refine zSkp ?_ | refine zExt ?_ | refine zNil rfl ?_ | refine zGet rfl ?_ | refine zOn rfl rfl ?_ | refine zOff rfl rfl ?_ | refine zU rfl ?_ | refine zOn rfl (by assumption) ?_ | refine zOff rfl (by assumption) ?_ | refine zMov rfl ?_ | refine zAsg rfl ?_ | refine zXtr rfl ?_ | refine zPT rfl rfl rfl ?_ | refine zPF rfl rfl rfl ?_ | refine zPT rfl (by assumption) rfl ?_ | refine zPF rfl (by assumption) rfl ?_ | refine zLss rfl rfl ?_ | refine zLeq rfl rfl ?_ | refine zGtr rfl rfl ?_ | refine zGeq rfl rfl ?_ | refine zEql rfl rfl ?_ | refine zNeq rfl rfl ?_ | refine zAdd rfl rfl (by omega) ?_ | refine zSub rfl rfl (by omega) ?_ | refine zLenS rfl E_string ?_ | refine zNot rfl ?_ | refine zEqS rfl rfl ?_ | refine zNeS rfl rfl ?_ | refine zT rfl rfl ?_ | refine zF rfl rfl ?_ | refine zT rfl (by assumption) ?_ | refine zF rfl (by assumption) ?_ | refine zIdx rfl rfl ha1 ?_ | refine zIdx rfl rfl ha2 ?_ | refine zLd (ty := 3) rfl hl1 ?_ | refine zLd (ty := 3) rfl hl2 ?_ | refine zLen rfl (hv1.len E_s_int) ?_ | refine zLen rfl (hv2.len E_s_int) ?_)
                refine WL.op (op_store rfl rfl E_int rfl rfl hwr) ?_
                (repeat first | refine zSeq ?_ | refine zReg ?_ | refine zBlk ?_ | refine zSkp ?_ | refine zExt ?_ | refine zNil rfl ?_ | refine zGet rfl ?_ | refine zOn rfl rfl ?_ | refine zOff rfl rfl ?_ | refine zU rfl ?_ | refine zOn rfl (by assumption) ?_ | refine zOff rfl (by assumption) ?_ | refine zMov rfl ?_ | refine zAsg rfl ?_ | refine zXtr rfl ?_ | refine zPT rfl rfl rfl ?_ | refine zPF rfl rfl rfl ?_ | refine zPT rfl (by assumption) rfl ?_ | refine zPF rfl (by assumption) rfl ?_ | refine zLss rfl rfl ?_ | refine zLeq rfl rfl ?_ | refine zGtr rfl rfl ?_ | refine zGeq rfl rfl ?_ | refine zEql rfl rfl ?_ | refine zNeq rfl rfl ?_ | refine zAdd rfl rfl (by omega) ?_ | refine zSub rfl rfl (by omega) ?_ | refine zLenS rfl E_string ?_ | refine zNot rfl ?_ | refine zEqS rfl rfl ?_ | refine zNeS rfl rfl ?_ | refine zT rfl rfl ?_ | refine zF rfl rfl ?_ | refine zT rfl (by assumption) ?_ | refine zF rfl (by assumption) ?_ | refine zIdx rfl rfl ha1 ?_ | refine zIdx rfl rfl ha2 ?_ | refine zLd (ty := 3) rfl hl1 ?_ | refine zLd (ty := 3) rfl hl2 ?_ | refine zLen rfl (hv1.len E_s_int) ?_ | refine zLen rfl (hv2.len E_s_int) ?_)
                exact ⟨i + 1, ⟨fr_of hfr (Nat.le_refl _) htr.s.young.1 htr.s.young.2.1 hf5, htr.setS hf5 (.inl hw5) ⟨fun b h => .inl h, fun b h => .inl h⟩, h⟩, by omega, rfl, rfl, rfl, rfl, rfl, trivial⟩
              · have g4 : (ll[i].2 == m0.1) = false := by rw [beq_eq_false_iff_ne]; exact he
                rw [if_neg he, ← hti, List.set_getElem_self] at hs
                (repeat first | refine zSeq ?_ | refine zReg ?_ | refine zBlk ?_ | refine zSkp ?_ | refine zExt ?_ | refine zNil rfl ?_ | refine zGet rfl ?_ | refine zOn rfl rfl ?_ | refine zOff rfl rfl ?_ | refine zU rfl ?_ | refine zOn rfl (by assumption) ?_ | refine zOff rfl (by assumption) ?_ | refine zMov rfl ?_ | refine zAsg rfl ?_ | refine zXtr rfl ?_ | refine zPT rfl rfl rfl ?_ | refine zPF rfl rfl rfl ?_ | refine zPT rfl (by assumption) rfl ?_ | refine zPF rfl (by assumption) rfl ?_ | refine zLss rfl rfl ?_ | refine zLeq rfl rfl ?_ | refine zGtr rfl rfl ?_ | refine zGeq rfl rfl ?_ | refine zEql rfl rfl ?_ | refine zNeq rfl rfl ?_ | refine zAdd rfl rfl (by omega) ?_ | refine zSub rfl rfl (by omega) ?_ | refine zLenS rfl E_string ?_ | refine zNot rfl ?_ | refine zEqS rfl rfl ?_ | refine zNeS rfl rfl ?_ | refine zT rfl rfl ?_ | refine zF rfl rfl ?_ | refine zT rfl (by assumption) ?_ | refine zF rfl (by assumption) ?_ | refine zIdx rfl rfl ha1 ?_ | refine zIdx rfl rfl ha2 ?_ | refine zLd (ty := 3) rfl hl1 ?_ | refine zLd (ty := 3) rfl hl2 ?_ | refine zLen rfl (hv1.len E_s_int) ?_ | refine zLen rfl (hv2.len E_s_int) ?_)
                exact ⟨i + 1, ⟨hfr, by rw [hs]; exact htr, h⟩, by omega, rfl, rfl, rfl, rfl, rfl, trivial⟩
            · have g3 : decide ((i : Int) < ((tw m0.1 t ll i).map (·.2)).length) = false := decide_eq_false (by omega)
              obtain rfl : i = ll.length := by omega
              rw [tw_end] at htr
              (repeat first | refine zSeq ?_ | refine zReg ?_ | refine zBlk ?_ | refine zSkp ?_ | refine zExt ?_ | refine zNil rfl ?_ | refine zGet rfl ?_ | refine zOn rfl rfl ?_ | refine zOff rfl rfl ?_ | refine zU rfl ?_ | refine zOn rfl (by assumption) ?_ | refine zOff rfl (by assumption) ?_ | refine zMov rfl ?_ | refine zAsg rfl ?_ | refine zXtr rfl ?_ | refine zPT rfl rfl rfl ?_ | refine zPF rfl rfl rfl ?_ | refine zPT rfl (by assumption) rfl ?_ | refine zPF rfl (by assumption) rfl ?_ | refine zLss rfl rfl ?_ | refine zLeq rfl rfl ?_ | refine zGtr rfl rfl ?_ | refine zGeq rfl rfl ?_ | refine zEql rfl rfl ?_ | refine zNeq rfl rfl ?_ | refine zAdd rfl rfl (by omega) ?_ | refine zSub rfl rfl (by omega) ?_ | refine zLenS rfl E_string ?_ | refine zNot rfl ?_ | refine zEqS rfl rfl ?_ | refine zNeS rfl rfl ?_ | refine zT rfl rfl ?_ | refine zF rfl rfl ?_ | refine zT rfl (by assumption) ?_ | refine zF rfl (by assumption) ?_ | refine zIdx rfl rfl ha1 ?_ | refine zIdx rfl rfl ha2 ?_ | refine zLd (ty := 3) rfl hl1 ?_ | refine zLd (ty := 3) rfl hl2 ?_ | refine zLen rfl (hv1.len E_s_int) ?_ | refine zLen rfl (hv2.len E_s_int) ?_)
              refine ⟨(Phi.turn m0.1 t ll, (vg, og), (vs, os), vo', out ++ [(t, m0.1)], oo'), ⟨hfr, by simp only; rw [Phi.turn_goals]; exact htr, fun m hm => ?_, fun r hr => ?_, by simp only [List.length_append, List.length_singleton]; subst hll; omega, by simp only; rw [Phi.turn_length]; exact hL⟩, by simp only; subst hll; omega, rfl, rfl, rfl, rfl, trivial⟩
              · obtain ⟨y, hy1, hy2⟩ := List.mem_map.1 hm
                rw [← hy2]
                have := ht y hy1
                split <;> exact this
              · subst hll
                have := hR _ (.turn hn hr)
                simpa using this
          · have g2 : decide ((k : Int) < 0) = false := decide_eq_false (by omega)
            have hk1 : k < (l.map (·.1)).length := by rw [List.length_map]; exact hk
            have hk2 : k < (l.map (·.2)).length := by rw [List.length_map]; exact hk
            obtain ⟨b1, o1, ha1, hl1⟩ := sl_int hv1 hk1
            obtain ⟨b2, o2, ha2, hl2⟩ := sl_int hv2 hk2
            rw [List.getElem_map] at hl1 hl2
            obtain ⟨vo', Hd, oo', k1, k2, k3⟩ := htr.appO hfr (Nat.le_refl _) (l[k].1, l[k].2) (by have := mu_le l1; omega)
            (repeat first | refine zSeq ?_ | refine zReg ?_ | refine zBlk ?_ | refine zSkp ?_ | refine zExt ?_ | refine zNil rfl ?_ | refine zGet rfl ?_ | refine zOn rfl rfl ?_ | refine zOff rfl rfl ?_ | refine zU rfl ?_ | refine zOn rfl (by assumption) ?_ | refine zOff rfl (by assumption) ?_ | refine zMov rfl ?_ | refine zAsg rfl ?_ | refine zXtr rfl ?_ | refine zPT rfl rfl rfl ?_ | refine zPF rfl rfl rfl ?_ | refine zPT rfl (by assumption) rfl ?_ | refine zPF rfl (by assumption) rfl ?_ | refine zLss rfl rfl ?_ | refine zLeq rfl rfl ?_ | refine zGtr rfl rfl ?_ | refine zGeq rfl rfl ?_ | refine zEql rfl rfl ?_ | refine zNeq rfl rfl ?_ | refine zAdd rfl rfl (by omega) ?_ | refine zSub rfl rfl (by omega) ?_ | refine zLenS rfl E_string ?_ | refine zNot rfl ?_ | refine zEqS rfl rfl ?_ | refine zNeS rfl rfl ?_ | refine zT rfl rfl ?_ | refine zF rfl rfl ?_ | refine zT rfl (by assumption) ?_ | refine zF rfl (by assumption) ?_ | refine zIdx rfl rfl ha1 ?_ | refine zIdx rfl rfl ha2 ?_ | refine zLd (ty := 3) rfl hl1 ?_ | refine zLd (ty := 3) rfl hl2 ?_ | refine zLen rfl (hv1.len E_s_int) ?_ | refine zLen rfl (hv2.len E_s_int) ?_)
            refine WL.op (op_build rfl build30) ?_
            refine WL.op (op_buildSlice rfl E_s_api_Ins E_api_Ins (by rw [te_api_Ins_size]; decide) fill30) ?_
            refine WL.op (k1 rfl rfl) ?_
            (repeat first | refine zSeq ?_ | refine zReg ?_ | refine zBlk ?_ | refine zSkp ?_ | refine zExt ?_ | refine zNil rfl ?_ | refine zGet rfl ?_ | refine zOn rfl rfl ?_ | refine zOff rfl rfl ?_ | refine zU rfl ?_ | refine zOn rfl (by assumption) ?_ | refine zOff rfl (by assumption) ?_ | refine zMov rfl ?_ | refine zAsg rfl ?_ | refine zXtr rfl ?_ | refine zPT rfl rfl rfl ?_ | refine zPF rfl rfl rfl ?_ | refine zPT rfl (by assumption) rfl ?_ | refine zPF rfl (by assumption) rfl ?_ | refine zLss rfl rfl ?_ | refine zLeq rfl rfl ?_ | refine zGtr rfl rfl ?_ | refine zGeq rfl rfl ?_ | refine zEql rfl rfl ?_ | refine zNeq rfl rfl ?_ | refine zAdd rfl rfl (by omega) ?_ | refine zSub rfl rfl (by omega) ?_ | refine zLenS rfl E_string ?_ | refine zNot rfl ?_ | refine zEqS rfl rfl ?_ | refine zNeS rfl rfl ?_ | refine zT rfl rfl ?_ | refine zF rfl rfl ?_ | refine zT rfl (by assumption) ?_ | refine zF rfl (by assumption) ?_ | refine zIdx rfl rfl ha1 ?_ | refine zIdx rfl rfl ha2 ?_ | refine zLd (ty := 3) rfl hl1 ?_ | refine zLd (ty := 3) rfl hl2 ?_ | refine zLen rfl (hv1.len E_s_int) ?_ | refine zLen rfl (hv2.len E_s_int) ?_)
            obtain ⟨w1, w2, v1, H1, vg', H2, og', q1, q2, q3, q4, q5, q6, q7, q8, q9, q10⟩ := cut_own k2.g hk1 k2.nx (by rw [List.length_map]; omega)
            have htr2 := k2.setG (q8.x _ _) q7 ⟨fun b h => .inr (q9 b h), fun b h => .inr (q10 b h)⟩
            refine WP.rega ?_
            refine WH.op (op_buildSlice rfl E_s_int E_int (by decide) rfl) ?_
            refine WH.get rfl ?_
            refine WH.get rfl ?_
            refine WH.op (op_slice rfl rfl rfl rfl q1) ?_
            refine WH.get rfl ?_
            refine WH.get rfl ?_
            refine WH.op (op_int rfl rfl (aInt_add _ _ (by omega) (by omega))) ?_
            refine WH.op (op_slice rfl rfl rfl rfl q2) ?_
            refine WH.op (q5 rfl rfl) ?_
            refine WH.op (q6 rfl rfl) ?_
            refine WH.nil ⟨?_, _, rfl, ?_⟩
            · intro x hx
              rw [List.mem_singleton] at hx
              subst hx
              exact .inr ⟨rfl, _, _, _, rfl, rfl, op_slice rfl rfl rfl rfl q3, q4⟩
            obtain ⟨w1, w2, v1, H3, vs', H4, os', r1, r2, r3, r4, r5, r6, r7, r8, r9, r10⟩ := cut_own htr2.s hk2 htr2.nx (by rw [List.length_map]; omega)
            have htr3 := htr2.setS (r8.x _ _) r7 ⟨fun b h => .inr (r9 b h), fun b h => .inr (r10 b h)⟩
            refine WP.rega ?_
            refine WH.op (op_buildSlice rfl E_s_int E_int (by decide) rfl) ?_
            refine WH.get rfl ?_
            refine WH.get rfl ?_
            refine WH.op (op_slice rfl rfl rfl rfl r1) ?_
            refine WH.get rfl ?_
            refine WH.get rfl ?_
            refine WH.op (op_int rfl rfl (aInt_add _ _ (by omega) (by omega))) ?_
            refine WH.op (op_slice rfl rfl rfl rfl r2) ?_
            refine WH.op (r5 rfl rfl) ?_
            refine WH.op (r6 rfl rfl) ?_
            refine WH.nil ⟨?_, _, rfl, ?_⟩
            · intro x hx
              rw [List.mem_singleton] at hx
              subst hx
              exact .inr ⟨rfl, _, _, _, rfl, rfl, op_slice rfl rfl rfl rfl r3, r4⟩
            have hmf := mu_free hk hfk
            rw [Phi.eraseIdx_map', Phi.eraseIdx_map'] at htr3
            refine ⟨(l.eraseIdx k, (vg', og'), (vs', os'), vo', out ++ [l[k]], oo'), ⟨(k3.trans q8).trans r8, htr3, fun m hm => ht m (List.mem_of_mem_eraseIdx hm), fun r hr => ?_, by simp only [List.length_append, List.length_singleton]; omega, by simp only; rw [List.length_eraseIdx_of_lt hk]; omega⟩, by simp only; omega, rfl, rfl, rfl, rfl, trivial⟩
            have := hR _ (.free hk hfk hbk hr)
            simpa using this
  obtain ⟨u, H', h, out, oo, n2, hk⟩ := key
  exact ⟨u, H', out, oo, n2, h, hk⟩
end Go.Proofs.Ytalhmpcllfhllaa.U

/-
  Contracts of phis: the reference's Row.
-/
namespace Go.Proofs.Ytalhmpcllfhllaa.U
open Go Go.Ev
attribute [local irreducible] WL WP WH W
variable {O : Orc} {H : AH}
set_option maxHeartbeats 2000000 in
theorem refRow_c (hO : ∀ f vs H, f ≠ 6 → O f vs H = none) {a b : List Int} {vt vf : Value} (hv1 : Sl H vt 1 a.length (ints a)) (hv2 : Sl H vf 1 b.length (ints b)) (hL : a.length ≤ 60) (t : Int) :
    ∃ v H', Lc V O F_ref28_Row [vt, vf, .int .i64 t] H v H' ∧ RowR H H' a b t v := by
  refine Lc.ref28_Row (R := fun u H' => RowR H H' a b t u) (hO _ _ _ (by decide)) (Nat.le_of_ble_eq_true rfl) (by kernel_rfl) ?_
  unfold P_ref28_Row
  cases c0 : ((a.length : Int) != b.length)
  case true =>
    (repeat first | refine zSeq ?_ | refine zReg ?_ | refine zBlk ?_ | refine zSkp ?_ | refine zExt ?_ | refine zNil rfl ?_ | refine zGet rfl ?_ | refine zOn rfl rfl ?_ | refine zOff rfl rfl ?_ | refine zU rfl ?_ | refine zOn rfl (by assumption) ?_ | refine zOff rfl (by assumption) ?_ | refine zMov rfl ?_ | refine zAsg rfl ?_ | refine zXtr rfl ?_ | refine zPT rfl rfl rfl ?_ | refine zPF rfl rfl rfl ?_ | refine zPT rfl (by assumption) rfl ?_ | refine zPF rfl (by assumption) rfl ?_ | refine zLss rfl rfl ?_ | refine zLeq rfl rfl ?_ | refine zGtr rfl rfl ?_ | refine zGeq rfl rfl ?_ | refine zEql rfl rfl ?_ | refine zNeq rfl rfl ?_ | refine zAdd rfl rfl (by omega) ?_ | refine zSub rfl rfl (by omega) ?_ | refine zLenS rfl E_string ?_ | refine zNot rfl ?_ | refine zEqS rfl rfl ?_ | refine zNeS rfl rfl ?_ | refine zT rfl rfl ?_ | refine zF rfl rfl ?_ | refine zT rfl (by assumption) ?_ | refine zF rfl (by assumption) ?_ | refine zIdx rfl rfl ha1 ?_ | refine zIdx rfl rfl ha2 ?_ | refine zIdx rfl rfl ha3 ?_ | refine zLd (ty := 3) rfl hl1 ?_ | refine zLd (ty := 3) rfl hl2 ?_ | refine zLd (ty := 3) rfl hl3 ?_ | refine zLen rfl (hv1.len E_s_int) ?_ | refine zLen rfl (hv2.len E_s_int) ?_)
    exact WP.ret ⟨.inr rfl, _, rfl, .refl _, .inr ⟨by unfold rowOk; rw [c0]; rfl, rfl⟩⟩
  cases c1 : decide (t < 0)
  case true =>
    (repeat first | refine zSeq ?_ | refine zReg ?_ | refine zBlk ?_ | refine zSkp ?_ | refine zExt ?_ | refine zNil rfl ?_ | refine zGet rfl ?_ | refine zOn rfl rfl ?_ | refine zOff rfl rfl ?_ | refine zU rfl ?_ | refine zOn rfl (by assumption) ?_ | refine zOff rfl (by assumption) ?_ | refine zMov rfl ?_ | refine zAsg rfl ?_ | refine zXtr rfl ?_ | refine zPT rfl rfl rfl ?_ | refine zPF rfl rfl rfl ?_ | refine zPT rfl (by assumption) rfl ?_ | refine zPF rfl (by assumption) rfl ?_ | refine zLss rfl rfl ?_ | refine zLeq rfl rfl ?_ | refine zGtr rfl rfl ?_ | refine zGeq rfl rfl ?_ | refine zEql rfl rfl ?_ | refine zNeq rfl rfl ?_ | refine zAdd rfl rfl (by omega) ?_ | refine zSub rfl rfl (by omega) ?_ | refine zLenS rfl E_string ?_ | refine zNot rfl ?_ | refine zEqS rfl rfl ?_ | refine zNeS rfl rfl ?_ | refine zT rfl rfl ?_ | refine zF rfl rfl ?_ | refine zT rfl (by assumption) ?_ | refine zF rfl (by assumption) ?_ | refine zIdx rfl rfl ha1 ?_ | refine zIdx rfl rfl ha2 ?_ | refine zIdx rfl rfl ha3 ?_ | refine zLd (ty := 3) rfl hl1 ?_ | refine zLd (ty := 3) rfl hl2 ?_ | refine zLd (ty := 3) rfl hl3 ?_ | refine zLen rfl (hv1.len E_s_int) ?_ | refine zLen rfl (hv2.len E_s_int) ?_)
    exact WP.ret ⟨.inr rfl, _, rfl, .refl _, .inr ⟨by unfold rowOk; rw [c1]; simp, rfl⟩⟩
  have hlen : a.length = b.length := by have := bne_eq_false_iff_eq.1 c0; omega
  (repeat first | refine zSeq ?_ | refine zReg ?_ | refine zBlk ?_ | refine zSkp ?_ | refine zExt ?_ | refine zNil rfl ?_ | refine zGet rfl ?_ | refine zOn rfl rfl ?_ | refine zOff rfl rfl ?_ | refine zU rfl ?_ | refine zOn rfl (by assumption) ?_ | refine zOff rfl (by assumption) ?_ | refine zMov rfl ?_ | refine zAsg rfl ?_ | refine zXtr rfl ?_ | refine zPT rfl rfl rfl ?_ | refine zPF rfl rfl rfl ?_ | refine zPT rfl (by assumption) rfl ?_ | refine zPF rfl (by assumption) rfl ?_ | refine zLss rfl rfl ?_ | refine zLeq rfl rfl ?_ | refine zGtr rfl rfl ?_ | refine zGeq rfl rfl ?_ | refine zEql rfl rfl ?_ | refine zNeq rfl rfl ?_ | refine zAdd rfl rfl (by omega) ?_ | refine zSub rfl rfl (by omega) ?_ | refine zLenS rfl E_string ?_ | refine zNot rfl ?_ | refine zEqS rfl rfl ?_ | refine zNeS rfl rfl ?_ | refine zT rfl rfl ?_ | refine zF rfl rfl ?_ | refine zT rfl (by assumption) ?_ | refine zF rfl (by assumption) ?_ | refine zIdx rfl rfl ha1 ?_ | refine zIdx rfl rfl ha2 ?_ | refine zIdx rfl rfl ha3 ?_ | refine zLd (ty := 3) rfl hl1 ?_ | refine zLd (ty := 3) rfl hl2 ?_ | refine zLd (ty := 3) rfl hl3 ?_ | refine zLen rfl (hv1.len E_s_int) ?_ | refine zLen rfl (hv2.len E_s_int) ?_)
  refine WP.loopH (σ := Nat) (fun i => [(0, vt), (1, vf), (2, .int .i64 t), (8, .int .i64 i)]) (fun i H' => H' = H ∧ i ≤ a.length ∧ (List.range i).all (okf a b t) = true) (fun i => a.length - i) 0 ⟨rfl, Nat.zero_le _, rfl⟩ ⟨rfl, rfl, rfl, rfl, trivial⟩ ?_
  rintro i Hy ⟨hy, hi, hok⟩
  replace hy := hy.symm
  subst hy
  rcases Nat.lt_or_ge i a.length with h | h
  · have g1 : decide ((i : Int) < a.length) = true := decide_eq_true (by omega)
    have hb : i < b.length := by omega
    obtain ⟨b1, o1, ha1, hl1⟩ := sl_int hv1 h
    obtain ⟨b2, o2, ha2, hl2⟩ := sl_int hv2 hb
    cases d1 : decide (a[i] < 0)
    case true =>
      (repeat first | refine zSeq ?_ | refine zReg ?_ | refine zBlk ?_ | refine zSkp ?_ | refine zExt ?_ | refine zNil rfl ?_ | refine zGet rfl ?_ | refine zOn rfl rfl ?_ | refine zOff rfl rfl ?_ | refine zU rfl ?_ | refine zOn rfl (by assumption) ?_ | refine zOff rfl (by assumption) ?_ | refine zMov rfl ?_ | refine zAsg rfl ?_ | refine zXtr rfl ?_ | refine zPT rfl rfl rfl ?_ | refine zPF rfl rfl rfl ?_ | refine zPT rfl (by assumption) rfl ?_ | refine zPF rfl (by assumption) rfl ?_ | refine zLss rfl rfl ?_ | refine zLeq rfl rfl ?_ | refine zGtr rfl rfl ?_ | refine zGeq rfl rfl ?_ | refine zEql rfl rfl ?_ | refine zNeq rfl rfl ?_ | refine zAdd rfl rfl (by omega) ?_ | refine zSub rfl rfl (by omega) ?_ | refine zLenS rfl E_string ?_ | refine zNot rfl ?_ | refine zEqS rfl rfl ?_ | refine zNeS rfl rfl ?_ | refine zT rfl rfl ?_ | refine zF rfl rfl ?_ | refine zT rfl (by assumption) ?_ | refine zF rfl (by assumption) ?_ | refine zIdx rfl rfl ha1 ?_ | refine zIdx rfl rfl ha2 ?_ | refine zIdx rfl rfl ha3 ?_ | refine zLd (ty := 3) rfl hl1 ?_ | refine zLd (ty := 3) rfl hl2 ?_ | refine zLd (ty := 3) rfl hl3 ?_ | refine zLen rfl (hv1.len E_s_int) ?_ | refine zLen rfl (hv2.len E_s_int) ?_)
      exact WP.ret ⟨.inr rfl, _, rfl, rowR_bad (.refl _) h hb (by simp [ok1, d1])⟩
    cases d2 : decide (b[i] < 0)
    case true =>
      (repeat first | refine zSeq ?_ | refine zReg ?_ | refine zBlk ?_ | refine zSkp ?_ | refine zExt ?_ | refine zNil rfl ?_ | refine zGet rfl ?_ | refine zOn rfl rfl ?_ | refine zOff rfl rfl ?_ | refine zU rfl ?_ | refine zOn rfl (by assumption) ?_ | refine zOff rfl (by assumption) ?_ | refine zMov rfl ?_ | refine zAsg rfl ?_ | refine zXtr rfl ?_ | refine zPT rfl rfl rfl ?_ | refine zPF rfl rfl rfl ?_ | refine zPT rfl (by assumption) rfl ?_ | refine zPF rfl (by assumption) rfl ?_ | refine zLss rfl rfl ?_ | refine zLeq rfl rfl ?_ | refine zGtr rfl rfl ?_ | refine zGeq rfl rfl ?_ | refine zEql rfl rfl ?_ | refine zNeq rfl rfl ?_ | refine zAdd rfl rfl (by omega) ?_ | refine zSub rfl rfl (by omega) ?_ | refine zLenS rfl E_string ?_ | refine zNot rfl ?_ | refine zEqS rfl rfl ?_ | refine zNeS rfl rfl ?_ | refine zT rfl rfl ?_ | refine zF rfl rfl ?_ | refine zT rfl (by assumption) ?_ | refine zF rfl (by assumption) ?_ | refine zIdx rfl rfl ha1 ?_ | refine zIdx rfl rfl ha2 ?_ | refine zIdx rfl rfl ha3 ?_ | refine zLd (ty := 3) rfl hl1 ?_ | refine zLd (ty := 3) rfl hl2 ?_ | refine zLd (ty := 3) rfl hl3 ?_ | refine zLen rfl (hv1.len E_s_int) ?_ | refine zLen rfl (hv2.len E_s_int) ?_)
      exact WP.ret ⟨.inr rfl, _, rfl, rowR_bad (.refl _) h hb (by simp [ok1, d2])⟩
    cases d3 : a[i] == t
    case true =>
      (repeat first | refine zSeq ?_ | refine zReg ?_ | refine zBlk ?_ | refine zSkp ?_ | refine zExt ?_ | refine zNil rfl ?_ | refine zGet rfl ?_ | refine zOn rfl rfl ?_ | refine zOff rfl rfl ?_ | refine zU rfl ?_ | refine zOn rfl (by assumption) ?_ | refine zOff rfl (by assumption) ?_ | refine zMov rfl ?_ | refine zAsg rfl ?_ | refine zXtr rfl ?_ | refine zPT rfl rfl rfl ?_ | refine zPF rfl rfl rfl ?_ | refine zPT rfl (by assumption) rfl ?_ | refine zPF rfl (by assumption) rfl ?_ | refine zLss rfl rfl ?_ | refine zLeq rfl rfl ?_ | refine zGtr rfl rfl ?_ | refine zGeq rfl rfl ?_ | refine zEql rfl rfl ?_ | refine zNeq rfl rfl ?_ | refine zAdd rfl rfl (by omega) ?_ | refine zSub rfl rfl (by omega) ?_ | refine zLenS rfl E_string ?_ | refine zNot rfl ?_ | refine zEqS rfl rfl ?_ | refine zNeS rfl rfl ?_ | refine zT rfl rfl ?_ | refine zF rfl rfl ?_ | refine zT rfl (by assumption) ?_ | refine zF rfl (by assumption) ?_ | refine zIdx rfl rfl ha1 ?_ | refine zIdx rfl rfl ha2 ?_ | refine zIdx rfl rfl ha3 ?_ | refine zLd (ty := 3) rfl hl1 ?_ | refine zLd (ty := 3) rfl hl2 ?_ | refine zLd (ty := 3) rfl hl3 ?_ | refine zLen rfl (hv1.len E_s_int) ?_ | refine zLen rfl (hv2.len E_s_int) ?_)
      exact WP.ret ⟨.inr rfl, _, rfl, rowR_bad (.refl _) h hb (by simp [ok1, d3])⟩
    cases d4 : b[i] == t
    case true =>
      (repeat first | refine zSeq ?_ | refine zReg ?_ | refine zBlk ?_ | refine zSkp ?_ | refine zExt ?_ | refine zNil rfl ?_ | refine zGet rfl ?_ | refine zOn rfl rfl ?_ | refine zOff rfl rfl ?_ | refine zU rfl ?_ | refine zOn rfl (by assumption) ?_ | refine zOff rfl (by assumption) ?_ | refine zMov rfl ?_ | refine zAsg rfl ?_ | refine zXtr rfl ?_ | refine zPT rfl rfl rfl ?_ | refine zPF rfl rfl rfl ?_ | refine zPT rfl (by assumption) rfl ?_ | refine zPF rfl (by assumption) rfl ?_ | refine zLss rfl rfl ?_ | refine zLeq rfl rfl ?_ | refine zGtr rfl rfl ?_ | refine zGeq rfl rfl ?_ | refine zEql rfl rfl ?_ | refine zNeq rfl rfl ?_ | refine zAdd rfl rfl (by omega) ?_ | refine zSub rfl rfl (by omega) ?_ | refine zLenS rfl E_string ?_ | refine zNot rfl ?_ | refine zEqS rfl rfl ?_ | refine zNeS rfl rfl ?_ | refine zT rfl rfl ?_ | refine zF rfl rfl ?_ | refine zT rfl (by assumption) ?_ | refine zF rfl (by assumption) ?_ | refine zIdx rfl rfl ha1 ?_ | refine zIdx rfl rfl ha2 ?_ | refine zIdx rfl rfl ha3 ?_ | refine zLd (ty := 3) rfl hl1 ?_ | refine zLd (ty := 3) rfl hl2 ?_ | refine zLd (ty := 3) rfl hl3 ?_ | refine zLen rfl (hv1.len E_s_int) ?_ | refine zLen rfl (hv2.len E_s_int) ?_)
      exact WP.ret ⟨.inr rfl, _, rfl, rowR_bad (.refl _) h hb (by simp [ok1, d4])⟩
    (repeat first | refine zSeq ?_ | refine zReg ?_ | refine zBlk ?_ | refine zSkp ?_ | refine zExt ?_ | refine zNil rfl ?_ | refine zGet rfl ?_ | refine zOn rfl rfl ?_ | refine zOff rfl rfl ?_ | refine zU rfl ?_ | refine zOn rfl (by assumption) ?_ | refine zOff rfl (by assumption) ?_ | refine zMov rfl ?_ | refine zAsg rfl ?_ | refine zXtr rfl ?_ | refine zPT rfl rfl rfl ?_ | refine zPF rfl rfl rfl ?_ | refine zPT rfl (by assumption) rfl ?_ | refine zPF rfl (by assumption) rfl ?_ | refine zLss rfl rfl ?_ | refine zLeq rfl rfl ?_ | refine zGtr rfl rfl ?_ | refine zGeq rfl rfl ?_ | refine zEql rfl rfl ?_ | refine zNeq rfl rfl ?_ | refine zAdd rfl rfl (by omega) ?_ | refine zSub rfl rfl (by omega) ?_ | refine zLenS rfl E_string ?_ | refine zNot rfl ?_ | refine zEqS rfl rfl ?_ | refine zNeS rfl rfl ?_ | refine zT rfl rfl ?_ | refine zF rfl rfl ?_ | refine zT rfl (by assumption) ?_ | refine zF rfl (by assumption) ?_ | refine zIdx rfl rfl ha1 ?_ | refine zIdx rfl rfl ha2 ?_ | refine zIdx rfl rfl ha3 ?_ | refine zLd (ty := 3) rfl hl1 ?_ | refine zLd (ty := 3) rfl hl2 ?_ | refine zLd (ty := 3) rfl hl3 ?_ | refine zLen rfl (hv1.len E_s_int) ?_ | refine zLen rfl (hv2.len E_s_int) ?_)
    refine WP.loopH (σ := Nat) (fun j => [(0, vt), (1, vf), (2, .int .i64 t), (8, .int .i64 i), (9, .int .i64 j)]) (fun j H' => H' = H ∧ j ≤ i ∧ ∀ j' (h' : j' < a.length), j' < j → a[j'] ≠ a[i]) (fun j => i - j) 0 ⟨rfl, Nat.zero_le _, fun j' _ h => absurd h (by omega)⟩ ⟨rfl, rfl, rfl, rfl, rfl, trivial⟩ ?_
    rintro j Hy ⟨hy, hj, hne⟩
    replace hy := hy.symm
    subst hy
    rcases Nat.lt_or_ge j i with hji | hji
    · have g2 : decide ((j : Int) < i) = true := decide_eq_true (by omega)
      obtain ⟨b3, o3, ha3, hl3⟩ := sl_int hv1 (i := j) (by omega)
      cases d5 : a[j]'(Nat.lt_trans hji h) == a[i]
      · (repeat first | refine zSeq ?_ | refine zReg ?_ | refine zBlk ?_ | refine zSkp ?_ | refine zExt ?_ | refine zNil rfl ?_ | refine zGet rfl ?_ | refine zOn rfl rfl ?_ | refine zOff rfl rfl ?_ | refine zU rfl ?_ | refine zOn rfl (by assumption) ?_ | refine zOff rfl (by assumption) ?_ | refine zMov rfl ?_ | refine zAsg rfl ?_ | refine zXtr rfl ?_ | refine zPT rfl rfl rfl ?_ | refine zPF rfl rfl rfl ?_ | refine zPT rfl (by assumption) rfl ?_ | refine zPF rfl (by assumption) rfl ?_ | refine zLss rfl rfl ?_ | refine zLeq rfl rfl ?_ | refine zGtr rfl rfl ?_ | refine zGeq rfl rfl ?_ | refine zEql rfl rfl ?_ | refine zNeq rfl rfl ?_ | refine zAdd rfl rfl (by omega) ?_ | refine zSub rfl rfl (by omega) ?_ | refine zLenS rfl E_string ?_ | refine zNot rfl ?_ | refine zEqS rfl rfl ?_ | refine zNeS rfl rfl ?_ | refine zT rfl rfl ?_ | refine zF rfl rfl ?_ | refine zT rfl (by assumption) ?_ | refine zF rfl (by assumption) ?_ | refine zIdx rfl rfl ha1 ?_ | refine zIdx rfl rfl ha2 ?_ | refine zIdx rfl rfl ha3 ?_ | refine zLd (ty := 3) rfl hl1 ?_ | refine zLd (ty := 3) rfl hl2 ?_ | refine zLd (ty := 3) rfl hl3 ?_ | refine zLen rfl (hv1.len E_s_int) ?_ | refine zLen rfl (hv2.len E_s_int) ?_)
        refine ⟨j + 1, ⟨rfl, hji, fun j' h' hj' => ?_⟩, by omega, rfl, rfl, rfl, rfl, rfl, trivial⟩
        rcases Nat.lt_or_ge j' j with hlt | hge
        · exact hne j' h' hlt
        · obtain rfl : j' = j := by omega
          exact beq_eq_false_iff_ne.1 d5
      · (repeat first | refine zSeq ?_ | refine zReg ?_ | refine zBlk ?_ | refine zSkp ?_ | refine zExt ?_ | refine zNil rfl ?_ | refine zGet rfl ?_ | refine zOn rfl rfl ?_ | refine zOff rfl rfl ?_ | refine zU rfl ?_ | refine zOn rfl (by assumption) ?_ | refine zOff rfl (by assumption) ?_ | refine zMov rfl ?_ | refine zAsg rfl ?_ | refine zXtr rfl ?_ | refine zPT rfl rfl rfl ?_ | refine zPF rfl rfl rfl ?_ | refine zPT rfl (by assumption) rfl ?_ | refine zPF rfl (by assumption) rfl ?_ | refine zLss rfl rfl ?_ | refine zLeq rfl rfl ?_ | refine zGtr rfl rfl ?_ | refine zGeq rfl rfl ?_ | refine zEql rfl rfl ?_ | refine zNeq rfl rfl ?_ | refine zAdd rfl rfl (by omega) ?_ | refine zSub rfl rfl (by omega) ?_ | refine zLenS rfl E_string ?_ | refine zNot rfl ?_ | refine zEqS rfl rfl ?_ | refine zNeS rfl rfl ?_ | refine zT rfl rfl ?_ | refine zF rfl rfl ?_ | refine zT rfl (by assumption) ?_ | refine zF rfl (by assumption) ?_ | refine zIdx rfl rfl ha1 ?_ | refine zIdx rfl rfl ha2 ?_ | refine zIdx rfl rfl ha3 ?_ | refine zLd (ty := 3) rfl hl1 ?_ | refine zLd (ty := 3) rfl hl2 ?_ | refine zLd (ty := 3) rfl hl3 ?_ | refine zLen rfl (hv1.len E_s_int) ?_ | refine zLen rfl (hv2.len E_s_int) ?_)
        refine WP.ret ⟨.inr rfl, _, rfl, rowR_bad (.refl _) h hb ?_⟩
        have hm : a[i] ∈ a.take i := by
          rw [← (beq_iff_eq.1 d5)]
          exact List.mem_iff_getElem.2 ⟨j, by rw [List.length_take]; omega, by rw [List.getElem_take]⟩
        have hp : 0 < (a.take i).count a[i] := List.count_pos_iff.2 hm
        have hd : decide (((a.take i).count a[i] : Int) > 0) = true := decide_eq_true (by omega)
        unfold ok1
        rw [hd]; simp
    · have g2 : decide ((j : Int) < i) = false := decide_eq_false (by omega)
      obtain rfl : j = i := by omega
      (repeat first | refine zSeq ?_ | refine zReg ?_ | refine zBlk ?_ | refine zSkp ?_ | refine zExt ?_ | refine zNil rfl ?_ | refine zGet rfl ?_ | refine zOn rfl rfl ?_ | refine zOff rfl rfl ?_ | refine zU rfl ?_ | refine zOn rfl (by assumption) ?_ | refine zOff rfl (by assumption) ?_ | refine zMov rfl ?_ | refine zAsg rfl ?_ | refine zXtr rfl ?_ | refine zPT rfl rfl rfl ?_ | refine zPF rfl rfl rfl ?_ | refine zPT rfl (by assumption) rfl ?_ | refine zPF rfl (by assumption) rfl ?_ | refine zLss rfl rfl ?_ | refine zLeq rfl rfl ?_ | refine zGtr rfl rfl ?_ | refine zGeq rfl rfl ?_ | refine zEql rfl rfl ?_ | refine zNeq rfl rfl ?_ | refine zAdd rfl rfl (by omega) ?_ | refine zSub rfl rfl (by omega) ?_ | refine zLenS rfl E_string ?_ | refine zNot rfl ?_ | refine zEqS rfl rfl ?_ | refine zNeS rfl rfl ?_ | refine zT rfl rfl ?_ | refine zF rfl rfl ?_ | refine zT rfl (by assumption) ?_ | refine zF rfl (by assumption) ?_ | refine zIdx rfl rfl ha1 ?_ | refine zIdx rfl rfl ha2 ?_ | refine zIdx rfl rfl ha3 ?_ | refine zLd (ty := 3) rfl hl1 ?_ | refine zLd (ty := 3) rfl hl2 ?_ | refine zLd (ty := 3) rfl hl3 ?_ | refine zLen rfl (hv1.len E_s_int) ?_ | refine zLen rfl (hv2.len E_s_int) ?_)
      refine ⟨j + 1, ⟨rfl, h, ?_⟩, by omega, rfl, rfl, rfl, rfl, trivial⟩
      rw [List.range_succ, List.all_append, hok, Bool.true_and]
      simp only [List.all_cons, List.all_nil, Bool.and_true]
      have hz : (a.take j).count a[j] = 0 := by
        rw [List.count_eq_zero]
        intro hm
        obtain ⟨k, hk, e⟩ := List.mem_iff_getElem.1 hm
        rw [List.getElem_take] at e
        rw [List.length_take] at hk
        exact hne k (by omega) (by omega) e
      have hd : decide (((a.take j).count a[j] : Int) > 0) = false := decide_eq_false (by omega)
      rw [okf_at h hb]
      unfold ok1
      rw [d1, d2, d3, d4, hd]; rfl
  · have g1 : decide ((i : Int) < a.length) = false := decide_eq_false (by omega)
    obtain rfl : i = a.length := by omega
    obtain ⟨v', H', out, oo, n2, hc, hR, hw', hn2, hfx, hol⟩ := refrow_c hO hv1 hv2 hlen hL t (rows_goals hok)
    (repeat first | refine zSeq ?_ | refine zReg ?_ | refine zBlk ?_ | refine zSkp ?_ | refine zExt ?_ | refine zNil rfl ?_ | refine zGet rfl ?_ | refine zOn rfl rfl ?_ | refine zOff rfl rfl ?_ | refine zU rfl ?_ | refine zOn rfl (by assumption) ?_ | refine zOff rfl (by assumption) ?_ | refine zMov rfl ?_ | refine zAsg rfl ?_ | refine zXtr rfl ?_ | refine zPT rfl rfl rfl ?_ | refine zPF rfl rfl rfl ?_ | refine zPT rfl (by assumption) rfl ?_ | refine zPF rfl (by assumption) rfl ?_ | refine zLss rfl rfl ?_ | refine zLeq rfl rfl ?_ | refine zGtr rfl rfl ?_ | refine zGeq rfl rfl ?_ | refine zEql rfl rfl ?_ | refine zNeq rfl rfl ?_ | refine zAdd rfl rfl (by omega) ?_ | refine zSub rfl rfl (by omega) ?_ | refine zLenS rfl E_string ?_ | refine zNot rfl ?_ | refine zEqS rfl rfl ?_ | refine zNeS rfl rfl ?_ | refine zT rfl rfl ?_ | refine zF rfl rfl ?_ | refine zT rfl (by assumption) ?_ | refine zF rfl (by assumption) ?_ | refine zIdx rfl rfl ha1 ?_ | refine zIdx rfl rfl ha2 ?_ | refine zIdx rfl rfl ha3 ?_ | refine zLd (ty := 3) rfl hl1 ?_ | refine zLd (ty := 3) rfl hl2 ?_ | refine zLd (ty := 3) rfl hl3 ?_ | refine zLen rfl (hv1.len E_s_int) ?_ | refine zLen rfl (hv2.len E_s_int) ?_)
    refine WL.call rfl rfl is_ref28_row hc ?_
    (repeat first | refine zSeq ?_ | refine zReg ?_ | refine zBlk ?_ | refine zSkp ?_ | refine zExt ?_ | refine zNil rfl ?_ | refine zGet rfl ?_ | refine zOn rfl rfl ?_ | refine zOff rfl rfl ?_ | refine zU rfl ?_ | refine zOn rfl (by assumption) ?_ | refine zOff rfl (by assumption) ?_ | refine zMov rfl ?_ | refine zAsg rfl ?_ | refine zXtr rfl ?_ | refine zPT rfl rfl rfl ?_ | refine zPF rfl rfl rfl ?_ | refine zPT rfl (by assumption) rfl ?_ | refine zPF rfl (by assumption) rfl ?_ | refine zLss rfl rfl ?_ | refine zLeq rfl rfl ?_ | refine zGtr rfl rfl ?_ | refine zGeq rfl rfl ?_ | refine zEql rfl rfl ?_ | refine zNeq rfl rfl ?_ | refine zAdd rfl rfl (by omega) ?_ | refine zSub rfl rfl (by omega) ?_ | refine zLenS rfl E_string ?_ | refine zNot rfl ?_ | refine zEqS rfl rfl ?_ | refine zNeS rfl rfl ?_ | refine zT rfl rfl ?_ | refine zF rfl rfl ?_ | refine zT rfl (by assumption) ?_ | refine zF rfl (by assumption) ?_ | refine zIdx rfl rfl ha1 ?_ | refine zIdx rfl rfl ha2 ?_ | refine zIdx rfl rfl ha3 ?_ | refine zLd (ty := 3) rfl hl1 ?_ | refine zLd (ty := 3) rfl hl2 ?_ | refine zLd (ty := 3) rfl hl3 ?_ | refine zLen rfl (hv1.len E_s_int) ?_ | refine zLen rfl (hv2.len E_s_int) ?_)
    exact WP.ret ⟨.inr rfl, _, rfl, hfx, .inl ⟨by unfold rowOk; rw [c0, c1, hok]; rfl, v', out, oo, n2, rfl, hR, hw', hn2, hol⟩⟩
end Go.Proofs.Ytalhmpcllfhllaa.U

/-
  Contracts of the references: SameIns of two rows of moves, Ints.
-/
namespace Go.Proofs.Ytalhmpcllfhllaa.U
open Go Go.Ev
attribute [local irreducible] WL WP WH W
variable {O : Orc} {H : AH}
theorem ints_c (hO : ∀ f vs H, f ≠ 6 → O f vs H = none) {a b : List Int} {va vb : Value} (hv1 : Sl H va 1 a.length (ints a)) (hv2 : Sl H vb 1 b.length (ints b)) (hL : a.length ≤ 65536) :
    Lc V O F_ref12_Ints [va, vb] H (.bool (a == b)) H := by
  refine Lc.of_eq (Lc.ref12_Ints (R := fun u H' => u = .bool (a == b) ∧ H' = H) (hO _ _ _ (by decide)) (Nat.le_of_ble_eq_true rfl) (by kernel_rfl) ?_)
  unfold P_ref12_Ints
  cases c0 : ((a.length : Int) != b.length)
  case true =>
    (repeat first | refine zSeq ?_ | refine zReg ?_ | refine zBlk ?_ | refine zSkp ?_ | refine zExt ?_ | refine zNil rfl ?_ | refine zGet rfl ?_ | refine zOn rfl rfl ?_ | refine zOff rfl rfl ?_ | refine zU rfl ?_ | refine zOn rfl (by assumption) ?_ | refine zOff rfl (by assumption) ?_ | refine zMov rfl ?_ | refine zAsg rfl ?_ | refine zXtr rfl ?_ | refine zPT rfl rfl rfl ?_ | refine zPF rfl rfl rfl ?_ | refine zPT rfl (by assumption) rfl ?_ | refine zPF rfl (by assumption) rfl ?_ | refine zLss rfl rfl ?_ | refine zLeq rfl rfl ?_ | refine zGtr rfl rfl ?_ | refine zGeq rfl rfl ?_ | refine zEql rfl rfl ?_ | refine zNeq rfl rfl ?_ | refine zAdd rfl rfl (by omega) ?_ | refine zSub rfl rfl (by omega) ?_ | refine zLenS rfl E_string ?_ | refine zNot rfl ?_ | refine zEqS rfl rfl ?_ | refine zNeS rfl rfl ?_ | refine zT rfl rfl ?_ | refine zF rfl rfl ?_ | refine zT rfl (by assumption) ?_ | refine zF rfl (by assumption) ?_ | refine zIdx rfl rfl ha1 ?_ | refine zIdx rfl rfl ha2 ?_ | refine zFld (f := 0) rfl O_api_Ins_Op ?_ | refine zFld (f := 1) rfl O_api_Ins_R ?_ | refine zFld (f := 2) rfl O_api_Ins_A ?_ | refine zFld (f := 3) rfl O_api_Ins_B ?_ | refine zFld (f := 4) rfl O_api_Ins_N ?_ | refine zFld (f := 5) rfl O_api_Ins_Args ?_ | refine zLd rfl hp0 ?_ | refine zLd rfl hp1 ?_ | refine zLd rfl hp2 ?_ | refine zLd rfl hp3 ?_ | refine zLd rfl hp4 ?_ | refine zLd rfl hp5 ?_ | refine zLd rfl hq0 ?_ | refine zLd rfl hq1 ?_ | refine zLd rfl hq2 ?_ | refine zLd rfl hq3 ?_ | refine zLd rfl hq4 ?_ | refine zLd rfl hq5 ?_ | refine zLd (ty := 3) rfl hl1 ?_ | refine zLd (ty := 3) rfl hl2 ?_ | refine zLen rfl (hv1.len E_s_int) ?_ | refine zLen rfl (hv2.len E_s_int) ?_ | refine zLen rfl (hw1.len E_s_api_Ins) ?_ | refine zLen rfl (hw2.len E_s_api_Ins) ?_ | refine zLen rfl (hnl.len E_s_int) ?_)
    refine WP.ret ⟨.inr rfl, _, rfl, ?_, rfl⟩
    have : (a == b) = false := by rw [beq_eq_false_iff_ne]; rintro rfl; simp at c0
    rw [this]; rfl
  have hlen : a.length = b.length := by have := bne_eq_false_iff_eq.1 c0; omega
  (repeat first | refine zSeq ?_ | refine zReg ?_ | refine zBlk ?_ | refine zSkp ?_ | refine zExt ?_ | refine zNil rfl ?_ | refine zGet rfl ?_ | refine zOn rfl rfl ?_ | refine zOff rfl rfl ?_ | refine zU rfl ?_ | refine zOn rfl (by assumption) ?_ | refine zOff rfl (by assumption) ?_ | refine zMov rfl ?_ | refine zAsg rfl ?_ | refine zXtr rfl ?_ | refine zPT rfl rfl rfl ?_ | refine zPF rfl rfl rfl ?_ | refine zPT rfl (by assumption) rfl ?_ | refine zPF rfl (by assumption) rfl ?_ | refine zLss rfl rfl ?_ | refine zLeq rfl rfl ?_ | refine zGtr rfl rfl ?_ | refine zGeq rfl rfl ?_ | refine zEql rfl rfl ?_ | refine zNeq rfl rfl ?_ | refine zAdd rfl rfl (by omega) ?_ | refine zSub rfl rfl (by omega) ?_ | refine zLenS rfl E_string ?_ | refine zNot rfl ?_ | refine zEqS rfl rfl ?_ | refine zNeS rfl rfl ?_ | refine zT rfl rfl ?_ | refine zF rfl rfl ?_ | refine zT rfl (by assumption) ?_ | refine zF rfl (by assumption) ?_ | refine zIdx rfl rfl ha1 ?_ | refine zIdx rfl rfl ha2 ?_ | refine zFld (f := 0) rfl O_api_Ins_Op ?_ | refine zFld (f := 1) rfl O_api_Ins_R ?_ | refine zFld (f := 2) rfl O_api_Ins_A ?_ | refine zFld (f := 3) rfl O_api_Ins_B ?_ | refine zFld (f := 4) rfl O_api_Ins_N ?_ | refine zFld (f := 5) rfl O_api_Ins_Args ?_ | refine zLd rfl hp0 ?_ | refine zLd rfl hp1 ?_ | refine zLd rfl hp2 ?_ | refine zLd rfl hp3 ?_ | refine zLd rfl hp4 ?_ | refine zLd rfl hp5 ?_ | refine zLd rfl hq0 ?_ | refine zLd rfl hq1 ?_ | refine zLd rfl hq2 ?_ | refine zLd rfl hq3 ?_ | refine zLd rfl hq4 ?_ | refine zLd rfl hq5 ?_ | refine zLd (ty := 3) rfl hl1 ?_ | refine zLd (ty := 3) rfl hl2 ?_ | refine zLen rfl (hv1.len E_s_int) ?_ | refine zLen rfl (hv2.len E_s_int) ?_ | refine zLen rfl (hw1.len E_s_api_Ins) ?_ | refine zLen rfl (hw2.len E_s_api_Ins) ?_ | refine zLen rfl (hnl.len E_s_int) ?_)
  refine WP.loopH (σ := Nat) (fun i => [(0, va), (1, vb), (5, .int .i64 i)]) (fun i H' => H' = H ∧ i ≤ a.length ∧ a.take i = b.take i) (fun i => a.length - i) 0 ⟨rfl, Nat.zero_le _, rfl⟩ ⟨rfl, rfl, rfl, trivial⟩ ?_
  rintro i Hy ⟨hy, hi, he⟩
  replace hy := hy.symm
  subst hy
  rcases Nat.lt_or_ge i a.length with h | h
  · have g1 : decide ((i : Int) < a.length) = true := decide_eq_true (by omega)
    obtain ⟨b1, o1, ha1, hl1⟩ := sl_int hv1 h
    obtain ⟨b2, o2, ha2, hl2⟩ := sl_int hv2 (i := i) (by omega)
    cases c1 : a[i] != b[i]'(by omega)
    · (repeat first | refine zSeq ?_ | refine zReg ?_ | refine zBlk ?_ | refine zSkp ?_ | refine zExt ?_ | refine zNil rfl ?_ | refine zGet rfl ?_ | refine zOn rfl rfl ?_ | refine zOff rfl rfl ?_ | refine zU rfl ?_ | refine zOn rfl (by assumption) ?_ | refine zOff rfl (by assumption) ?_ | refine zMov rfl ?_ | refine zAsg rfl ?_ | refine zXtr rfl ?_ | refine zPT rfl rfl rfl ?_ | refine zPF rfl rfl rfl ?_ | refine zPT rfl (by assumption) rfl ?_ | refine zPF rfl (by assumption) rfl ?_ | refine zLss rfl rfl ?_ | refine zLeq rfl rfl ?_ | refine zGtr rfl rfl ?_ | refine zGeq rfl rfl ?_ | refine zEql rfl rfl ?_ | refine zNeq rfl rfl ?_ | refine zAdd rfl rfl (by omega) ?_ | refine zSub rfl rfl (by omega) ?_ | refine zLenS rfl E_string ?_ | refine zNot rfl ?_ | refine zEqS rfl rfl ?_ | refine zNeS rfl rfl ?_ | refine zT rfl rfl ?_ | refine zF rfl rfl ?_ | refine zT rfl (by assumption) ?_ | refine zF rfl (by assumption) ?_ | refine zIdx rfl rfl ha1 ?_ | refine zIdx rfl rfl ha2 ?_ | refine zFld (f := 0) rfl O_api_Ins_Op ?_ | refine zFld (f := 1) rfl O_api_Ins_R ?_ | refine zFld (f := 2) rfl O_api_Ins_A ?_ | refine zFld (f := 3) rfl O_api_Ins_B ?_ | refine zFld (f := 4) rfl O_api_Ins_N ?_ | refine zFld (f := 5) rfl O_api_Ins_Args ?_ | refine zLd rfl hp0 ?_ | refine zLd rfl hp1 ?_ | refine zLd rfl hp2 ?_ | refine zLd rfl hp3 ?_ | refine zLd rfl hp4 ?_ | refine zLd rfl hp5 ?_ | refine zLd rfl hq0 ?_ | refine zLd rfl hq1 ?_ | refine zLd rfl hq2 ?_ | refine zLd rfl hq3 ?_ | refine zLd rfl hq4 ?_ | refine zLd rfl hq5 ?_ | refine zLd (ty := 3) rfl hl1 ?_ | refine zLd (ty := 3) rfl hl2 ?_ | refine zLen rfl (hv1.len E_s_int) ?_ | refine zLen rfl (hv2.len E_s_int) ?_ | refine zLen rfl (hw1.len E_s_api_Ins) ?_ | refine zLen rfl (hw2.len E_s_api_Ins) ?_ | refine zLen rfl (hnl.len E_s_int) ?_)
      refine ⟨i + 1, ⟨rfl, h, ?_⟩, by omega, rfl, rfl, rfl, trivial⟩
      rw [List.take_add_one, List.take_add_one, he, List.getElem?_eq_getElem h, List.getElem?_eq_getElem (by omega), bne_eq_false_iff_eq.1 c1]
    · (repeat first | refine zSeq ?_ | refine zReg ?_ | refine zBlk ?_ | refine zSkp ?_ | refine zExt ?_ | refine zNil rfl ?_ | refine zGet rfl ?_ | refine zOn rfl rfl ?_ | refine zOff rfl rfl ?_ | refine zU rfl ?_ | refine zOn rfl (by assumption) ?_ | refine zOff rfl (by assumption) ?_ | refine zMov rfl ?_ | refine zAsg rfl ?_ | refine zXtr rfl ?_ | refine zPT rfl rfl rfl ?_ | refine zPF rfl rfl rfl ?_ | refine zPT rfl (by assumption) rfl ?_ | refine zPF rfl (by assumption) rfl ?_ | refine zLss rfl rfl ?_ | refine zLeq rfl rfl ?_ | refine zGtr rfl rfl ?_ | refine zGeq rfl rfl ?_ | refine zEql rfl rfl ?_ | refine zNeq rfl rfl ?_ | refine zAdd rfl rfl (by omega) ?_ | refine zSub rfl rfl (by omega) ?_ | refine zLenS rfl E_string ?_ | refine zNot rfl ?_ | refine zEqS rfl rfl ?_ | refine zNeS rfl rfl ?_ | refine zT rfl rfl ?_ | refine zF rfl rfl ?_ | refine zT rfl (by assumption) ?_ | refine zF rfl (by assumption) ?_ | refine zIdx rfl rfl ha1 ?_ | refine zIdx rfl rfl ha2 ?_ | refine zFld (f := 0) rfl O_api_Ins_Op ?_ | refine zFld (f := 1) rfl O_api_Ins_R ?_ | refine zFld (f := 2) rfl O_api_Ins_A ?_ | refine zFld (f := 3) rfl O_api_Ins_B ?_ | refine zFld (f := 4) rfl O_api_Ins_N ?_ | refine zFld (f := 5) rfl O_api_Ins_Args ?_ | refine zLd rfl hp0 ?_ | refine zLd rfl hp1 ?_ | refine zLd rfl hp2 ?_ | refine zLd rfl hp3 ?_ | refine zLd rfl hp4 ?_ | refine zLd rfl hp5 ?_ | refine zLd rfl hq0 ?_ | refine zLd rfl hq1 ?_ | refine zLd rfl hq2 ?_ | refine zLd rfl hq3 ?_ | refine zLd rfl hq4 ?_ | refine zLd rfl hq5 ?_ | refine zLd (ty := 3) rfl hl1 ?_ | refine zLd (ty := 3) rfl hl2 ?_ | refine zLen rfl (hv1.len E_s_int) ?_ | refine zLen rfl (hv2.len E_s_int) ?_ | refine zLen rfl (hw1.len E_s_api_Ins) ?_ | refine zLen rfl (hw2.len E_s_api_Ins) ?_ | refine zLen rfl (hnl.len E_s_int) ?_)
      refine WP.ret ⟨.inr rfl, _, rfl, ?_, rfl⟩
      have : (a == b) = false := by
        rw [beq_eq_false_iff_ne]; rintro rfl; simp at c1
      rw [this]; rfl
  · have g1 : decide ((i : Int) < a.length) = false := decide_eq_false (by omega)
    (repeat first | refine zSeq ?_ | refine zReg ?_ | refine zBlk ?_ | refine zSkp ?_ | refine zExt ?_ | refine zNil rfl ?_ | refine zGet rfl ?_ | refine zOn rfl rfl ?_ | refine zOff rfl rfl ?_ | refine zU rfl ?_ | refine zOn rfl (by assumption) ?_ | refine zOff rfl (by assumption) ?_ | refine zMov rfl ?_ | refine zAsg rfl ?_ | refine zXtr rfl ?_ | refine zPT rfl rfl rfl ?_ | refine zPF rfl rfl rfl ?_ | refine zPT rfl (by assumption) rfl ?_ | refine zPF rfl (by assumption) rfl ?_ | refine zLss rfl rfl ?_ | refine zLeq rfl rfl ?_ | refine zGtr rfl rfl ?_ | refine zGeq rfl rfl ?_ | refine zEql rfl rfl ?_ | refine zNeq rfl rfl ?_ | refine zAdd rfl rfl (by omega) ?_ | refine zSub rfl rfl (by omega) ?_ | refine zLenS rfl E_string ?_ | refine zNot rfl ?_ | refine zEqS rfl rfl ?_ | refine zNeS rfl rfl ?_ | refine zT rfl rfl ?_ | refine zF rfl rfl ?_ | refine zT rfl (by assumption) ?_ | refine zF rfl (by assumption) ?_ | refine zIdx rfl rfl ha1 ?_ | refine zIdx rfl rfl ha2 ?_ | refine zFld (f := 0) rfl O_api_Ins_Op ?_ | refine zFld (f := 1) rfl O_api_Ins_R ?_ | refine zFld (f := 2) rfl O_api_Ins_A ?_ | refine zFld (f := 3) rfl O_api_Ins_B ?_ | refine zFld (f := 4) rfl O_api_Ins_N ?_ | refine zFld (f := 5) rfl O_api_Ins_Args ?_ | refine zLd rfl hp0 ?_ | refine zLd rfl hp1 ?_ | refine zLd rfl hp2 ?_ | refine zLd rfl hp3 ?_ | refine zLd rfl hp4 ?_ | refine zLd rfl hp5 ?_ | refine zLd rfl hq0 ?_ | refine zLd rfl hq1 ?_ | refine zLd rfl hq2 ?_ | refine zLd rfl hq3 ?_ | refine zLd rfl hq4 ?_ | refine zLd rfl hq5 ?_ | refine zLd (ty := 3) rfl hl1 ?_ | refine zLd (ty := 3) rfl hl2 ?_ | refine zLen rfl (hv1.len E_s_int) ?_ | refine zLen rfl (hv2.len E_s_int) ?_ | refine zLen rfl (hw1.len E_s_api_Ins) ?_ | refine zLen rfl (hw2.len E_s_api_Ins) ?_ | refine zLen rfl (hnl.len E_s_int) ?_)
    refine WP.ret ⟨.inr rfl, _, rfl, ?_, rfl⟩
    rw [List.take_of_length_le (by omega), List.take_of_length_le (by omega)] at he
    rw [he, beq_self_eq_true]; rfl
theorem sl_ins {v : Value} {l : List Mv} (h : Sl H v 6 l.length (inss l)) {i : Nat} (hi : i < l.length) :
    ∃ b off, aIndex V.E 24 v (.int .i64 i) = some (.pointer (some ⟨b, off, none⟩)) ∧ aLoad V.E H 5 (.pointer (some ⟨b, off + 0, none⟩)) = some (.int .u8 2) ∧ aLoad V.E H 3 (.pointer (some ⟨b, off + 1, none⟩)) = some (.int .i64 l[i].1) ∧ aLoad V.E H 3 (.pointer (some ⟨b, off + 2, none⟩)) = some (.int .i64 l[i].2) ∧ aLoad V.E H 3 (.pointer (some ⟨b, off + 3, none⟩)) = some (.int .i64 0) ∧ aLoad V.E H 2 (.pointer (some ⟨b, off + 4, none⟩)) = some (.int .i64 0) ∧ aLoad V.E H 22 (.pointer (some ⟨b, off + 5, none⟩)) = some (.slice none 0 0) := by
  obtain ⟨b, off, ha, hr⟩ := h.at E_s_api_Ins E_api_Ins te_api_Ins_size (kd := .i64) (i := i) (by omega) (by omega)
  have e : ∀ (l : List Mv) (i : Nat), (h : i < l.length) → ((inss l).drop (i * 6)).take 6 = insC l[i] := by
    intro l
    induction l with
    | nil => intro i h; simp at h
    | cons m l ih =>
      intro i h
      have e0 : inss (m :: l) = insC m ++ inss l := rfl
      cases i with
      | zero => rfl
      | succ i =>
        rw [e0, List.drop_append, List.drop_eq_nil_of_le (by simp [insC]; omega), List.nil_append]
        have : (i + 1) * 6 - (insC m).length = i * 6 := by simp [insC]; omega
        rw [this]; exact ih i (by simpa using h)
  rw [show (i : Int).toNat = i from rfl, e l i hi] at hr
  exact ⟨b, off, ha, (hr.at1 (i := 0) rfl).load1 E_uint8 rfl, (hr.at1 (i := 1) rfl).load1 E_int rfl, (hr.at1 (i := 2) rfl).load1 E_int rfl, (hr.at1 (i := 3) rfl).load1 E_int rfl, (hr.at1 (i := 4) rfl).load1 E_int64 rfl, (hr.at1 (i := 5) rfl).load1 E_s_int rfl⟩
set_option maxHeartbeats 1000000 in
theorem sameIns_c (hO : ∀ f vs H, f ≠ 6 → O f vs H = none) {l : List Mv} {va vb : Value} (hw1 : Sl H va 6 l.length (inss l)) (hw2 : Sl H vb 6 l.length (inss l)) (hL : l.length ≤ 65536) :
    Lc V O F_ref06_SameIns [va, vb] H (.bool true) H := by
  refine Lc.of_eq (Lc.ref06_SameIns (R := fun u H' => u = .bool true ∧ H' = H) (hO _ _ _ (by decide)) (Nat.le_of_ble_eq_true rfl) (by kernel_rfl) ?_)
  unfold P_ref06_SameIns
  have hnl : Sl H (.slice none 0 0) 1 0 [] := .nil
  have c0 : ((l.length : Int) != l.length) = false := by simp
  (repeat first | refine zSeq ?_ | refine zReg ?_ | refine zBlk ?_ | refine zSkp ?_ | refine zExt ?_ | refine zNil rfl ?_ | refine zGet rfl ?_ | refine zOn rfl rfl ?_ | refine zOff rfl rfl ?_ | refine zU rfl ?_ | refine zOn rfl (by assumption) ?_ | refine zOff rfl (by assumption) ?_ | refine zMov rfl ?_ | refine zAsg rfl ?_ | refine zXtr rfl ?_ | refine zPT rfl rfl rfl ?_ | refine zPF rfl rfl rfl ?_ | refine zPT rfl (by assumption) rfl ?_ | refine zPF rfl (by assumption) rfl ?_ | refine zLss rfl rfl ?_ | refine zLeq rfl rfl ?_ | refine zGtr rfl rfl ?_ | refine zGeq rfl rfl ?_ | refine zEql rfl rfl ?_ | refine zNeq rfl rfl ?_ | refine zAdd rfl rfl (by omega) ?_ | refine zSub rfl rfl (by omega) ?_ | refine zLenS rfl E_string ?_ | refine zNot rfl ?_ | refine zEqS rfl rfl ?_ | refine zNeS rfl rfl ?_ | refine zT rfl rfl ?_ | refine zF rfl rfl ?_ | refine zT rfl (by assumption) ?_ | refine zF rfl (by assumption) ?_ | refine zIdx rfl rfl ha1 ?_ | refine zIdx rfl rfl ha2 ?_ | refine zFld (f := 0) rfl O_api_Ins_Op ?_ | refine zFld (f := 1) rfl O_api_Ins_R ?_ | refine zFld (f := 2) rfl O_api_Ins_A ?_ | refine zFld (f := 3) rfl O_api_Ins_B ?_ | refine zFld (f := 4) rfl O_api_Ins_N ?_ | refine zFld (f := 5) rfl O_api_Ins_Args ?_ | refine zLd rfl hp0 ?_ | refine zLd rfl hp1 ?_ | refine zLd rfl hp2 ?_ | refine zLd rfl hp3 ?_ | refine zLd rfl hp4 ?_ | refine zLd rfl hp5 ?_ | refine zLd rfl hq0 ?_ | refine zLd rfl hq1 ?_ | refine zLd rfl hq2 ?_ | refine zLd rfl hq3 ?_ | refine zLd rfl hq4 ?_ | refine zLd rfl hq5 ?_ | refine zLd (ty := 3) rfl hl1 ?_ | refine zLd (ty := 3) rfl hl2 ?_ | refine zLen rfl (hv1.len E_s_int) ?_ | refine zLen rfl (hv2.len E_s_int) ?_ | refine zLen rfl (hw1.len E_s_api_Ins) ?_ | refine zLen rfl (hw2.len E_s_api_Ins) ?_ | refine zLen rfl (hnl.len E_s_int) ?_)
  refine WP.loopH (σ := Nat) (fun i => [(0, va), (1, vb), (5, .int .i64 i)]) (fun i H' => H' = H ∧ i ≤ l.length) (fun i => l.length - i) 0 ⟨rfl, Nat.zero_le _⟩ ⟨rfl, rfl, rfl, trivial⟩ ?_
  rintro i Hy ⟨hy, hi⟩
  replace hy := hy.symm
  subst hy
  rcases Nat.lt_or_ge i l.length with h | h
  · have g1 : decide ((i : Int) < l.length) = true := decide_eq_true (by omega)
    obtain ⟨b1, o1, ha1, hp0, hp1, hp2, hp3, hp4, hp5⟩ := sl_ins hw1 h
    obtain ⟨b2, o2, ha2, hq0, hq1, hq2, hq3, hq4, hq5⟩ := sl_ins hw2 h
    have c1 : (l[i].1 != l[i].1) = false := by simp
    have c2 : (l[i].2 != l[i].2) = false := by simp
    (repeat first | refine zSeq ?_ | refine zReg ?_ | refine zBlk ?_ | refine zSkp ?_ | refine zExt ?_ | refine zNil rfl ?_ | refine zGet rfl ?_ | refine zOn rfl rfl ?_ | refine zOff rfl rfl ?_ | refine zU rfl ?_ | refine zOn rfl (by assumption) ?_ | refine zOff rfl (by assumption) ?_ | refine zMov rfl ?_ | refine zAsg rfl ?_ | refine zXtr rfl ?_ | refine zPT rfl rfl rfl ?_ | refine zPF rfl rfl rfl ?_ | refine zPT rfl (by assumption) rfl ?_ | refine zPF rfl (by assumption) rfl ?_ | refine zLss rfl rfl ?_ | refine zLeq rfl rfl ?_ | refine zGtr rfl rfl ?_ | refine zGeq rfl rfl ?_ | refine zEql rfl rfl ?_ | refine zNeq rfl rfl ?_ | refine zAdd rfl rfl (by omega) ?_ | refine zSub rfl rfl (by omega) ?_ | refine zLenS rfl E_string ?_ | refine zNot rfl ?_ | refine zEqS rfl rfl ?_ | refine zNeS rfl rfl ?_ | refine zT rfl rfl ?_ | refine zF rfl rfl ?_ | refine zT rfl (by assumption) ?_ | refine zF rfl (by assumption) ?_ | refine zIdx rfl rfl ha1 ?_ | refine zIdx rfl rfl ha2 ?_ | refine zFld (f := 0) rfl O_api_Ins_Op ?_ | refine zFld (f := 1) rfl O_api_Ins_R ?_ | refine zFld (f := 2) rfl O_api_Ins_A ?_ | refine zFld (f := 3) rfl O_api_Ins_B ?_ | refine zFld (f := 4) rfl O_api_Ins_N ?_ | refine zFld (f := 5) rfl O_api_Ins_Args ?_ | refine zLd rfl hp0 ?_ | refine zLd rfl hp1 ?_ | refine zLd rfl hp2 ?_ | refine zLd rfl hp3 ?_ | refine zLd rfl hp4 ?_ | refine zLd rfl hp5 ?_ | refine zLd rfl hq0 ?_ | refine zLd rfl hq1 ?_ | refine zLd rfl hq2 ?_ | refine zLd rfl hq3 ?_ | refine zLd rfl hq4 ?_ | refine zLd rfl hq5 ?_ | refine zLd (ty := 3) rfl hl1 ?_ | refine zLd (ty := 3) rfl hl2 ?_ | refine zLen rfl (hv1.len E_s_int) ?_ | refine zLen rfl (hv2.len E_s_int) ?_ | refine zLen rfl (hw1.len E_s_api_Ins) ?_ | refine zLen rfl (hw2.len E_s_api_Ins) ?_ | refine zLen rfl (hnl.len E_s_int) ?_)
    refine WP.loopH (σ := Unit) (fun _ => [(0, va), (1, vb), (5, .int .i64 i), (6, .int .i64 0)]) (fun _ H' => H' = H) (fun _ => 0) () rfl ⟨rfl, rfl, rfl, rfl, trivial⟩ ?_
    rintro _ Hy hy
    replace hy := hy.symm
    subst hy
    have g2 : decide ((0 : Int) < ((0 : Nat) : Int)) = false := by decide
    (repeat first | refine zSeq ?_ | refine zReg ?_ | refine zBlk ?_ | refine zSkp ?_ | refine zExt ?_ | refine zNil rfl ?_ | refine zGet rfl ?_ | refine zOn rfl rfl ?_ | refine zOff rfl rfl ?_ | refine zU rfl ?_ | refine zOn rfl (by assumption) ?_ | refine zOff rfl (by assumption) ?_ | refine zMov rfl ?_ | refine zAsg rfl ?_ | refine zXtr rfl ?_ | refine zPT rfl rfl rfl ?_ | refine zPF rfl rfl rfl ?_ | refine zPT rfl (by assumption) rfl ?_ | refine zPF rfl (by assumption) rfl ?_ | refine zLss rfl rfl ?_ | refine zLeq rfl rfl ?_ | refine zGtr rfl rfl ?_ | refine zGeq rfl rfl ?_ | refine zEql rfl rfl ?_ | refine zNeq rfl rfl ?_ | refine zAdd rfl rfl (by omega) ?_ | refine zSub rfl rfl (by omega) ?_ | refine zLenS rfl E_string ?_ | refine zNot rfl ?_ | refine zEqS rfl rfl ?_ | refine zNeS rfl rfl ?_ | refine zT rfl rfl ?_ | refine zF rfl rfl ?_ | refine zT rfl (by assumption) ?_ | refine zF rfl (by assumption) ?_ | refine zIdx rfl rfl ha1 ?_ | refine zIdx rfl rfl ha2 ?_ | refine zFld (f := 0) rfl O_api_Ins_Op ?_ | refine zFld (f := 1) rfl O_api_Ins_R ?_ | refine zFld (f := 2) rfl O_api_Ins_A ?_ | refine zFld (f := 3) rfl O_api_Ins_B ?_ | refine zFld (f := 4) rfl O_api_Ins_N ?_ | refine zFld (f := 5) rfl O_api_Ins_Args ?_ | refine zLd rfl hp0 ?_ | refine zLd rfl hp1 ?_ | refine zLd rfl hp2 ?_ | refine zLd rfl hp3 ?_ | refine zLd rfl hp4 ?_ | refine zLd rfl hp5 ?_ | refine zLd rfl hq0 ?_ | refine zLd rfl hq1 ?_ | refine zLd rfl hq2 ?_ | refine zLd rfl hq3 ?_ | refine zLd rfl hq4 ?_ | refine zLd rfl hq5 ?_ | refine zLd (ty := 3) rfl hl1 ?_ | refine zLd (ty := 3) rfl hl2 ?_ | refine zLen rfl (hv1.len E_s_int) ?_ | refine zLen rfl (hv2.len E_s_int) ?_ | refine zLen rfl (hw1.len E_s_api_Ins) ?_ | refine zLen rfl (hw2.len E_s_api_Ins) ?_ | refine zLen rfl (hnl.len E_s_int) ?_)
    exact ⟨i + 1, ⟨rfl, h⟩, by omega, rfl, rfl, rfl, trivial⟩
  · have g1 : decide ((i : Int) < l.length) = false := decide_eq_false (by omega)
    (repeat first | refine zSeq ?_ | refine zReg ?_ | refine zBlk ?_ | refine zSkp ?_ | refine zExt ?_ | refine zNil rfl ?_ | refine zGet rfl ?_ | refine zOn rfl rfl ?_ | refine zOff rfl rfl ?_ | refine zU rfl ?_ | refine zOn rfl (by assumption) ?_ | refine zOff rfl (by assumption) ?_ | refine zMov rfl ?_ | refine zAsg rfl ?_ | refine zXtr rfl ?_ | refine zPT rfl rfl rfl ?_ | refine zPF rfl rfl rfl ?_ | refine zPT rfl (by assumption) rfl ?_ | refine zPF rfl (by assumption) rfl ?_ | refine zLss rfl rfl ?_ | refine zLeq rfl rfl ?_ | refine zGtr rfl rfl ?_ | refine zGeq rfl rfl ?_ | refine zEql rfl rfl ?_ | refine zNeq rfl rfl ?_ | refine zAdd rfl rfl (by omega) ?_ | refine zSub rfl rfl (by omega) ?_ | refine zLenS rfl E_string ?_ | refine zNot rfl ?_ | refine zEqS rfl rfl ?_ | refine zNeS rfl rfl ?_ | refine zT rfl rfl ?_ | refine zF rfl rfl ?_ | refine zT rfl (by assumption) ?_ | refine zF rfl (by assumption) ?_ | refine zIdx rfl rfl ha1 ?_ | refine zIdx rfl rfl ha2 ?_ | refine zFld (f := 0) rfl O_api_Ins_Op ?_ | refine zFld (f := 1) rfl O_api_Ins_R ?_ | refine zFld (f := 2) rfl O_api_Ins_A ?_ | refine zFld (f := 3) rfl O_api_Ins_B ?_ | refine zFld (f := 4) rfl O_api_Ins_N ?_ | refine zFld (f := 5) rfl O_api_Ins_Args ?_ | refine zLd rfl hp0 ?_ | refine zLd rfl hp1 ?_ | refine zLd rfl hp2 ?_ | refine zLd rfl hp3 ?_ | refine zLd rfl hp4 ?_ | refine zLd rfl hp5 ?_ | refine zLd rfl hq0 ?_ | refine zLd rfl hq1 ?_ | refine zLd rfl hq2 ?_ | refine zLd rfl hq3 ?_ | refine zLd rfl hq4 ?_ | refine zLd rfl hq5 ?_ | refine zLd (ty := 3) rfl hl1 ?_ | refine zLd (ty := 3) rfl hl2 ?_ | refine zLen rfl (hv1.len E_s_int) ?_ | refine zLen rfl (hv2.len E_s_int) ?_ | refine zLen rfl (hw1.len E_s_api_Ins) ?_ | refine zLen rfl (hw2.len E_s_api_Ins) ?_ | refine zLen rfl (hnl.len E_s_int) ?_)
    exact WP.ret ⟨.inr rfl, _, rfl, rfl, rfl⟩
end Go.Proofs.Ytalhmpcllfhllaa.U

