/-
  Contracts of the document's lex.
-/
import Derived.Test.YtdkfcpadbahohaaDoorLaw1
set_option linter.all false
namespace Go.Proofs.YtdkfcpadbahohaaDoor.U
open Go Go.Ev
attribute [local irreducible] WL WP WH W
variable {O : Orc} {H : AH}
theorem rletter_c (hO : ∀ f vs H, f ≠ 8 → O f vs H = none) {c : Int} : Lc V O F_ref01_letter [.int .u8 c] H (.bool (let_ c)) H := Lc.of_eq <| by
  refine Lc.ref01_letter (hO _ _ _ (by decide)) (Nat.le_of_ble_eq_true rfl) (by kernel_rfl) ?_
  unfold P_ref01_letter
  (repeat' first | refine zSeq ?_ | refine zReg ?_ | refine zBlk ?_ | refine zSkp ?_ | refine zExt ?_ | refine zNil rfl ?_ | refine zGet rfl ?_ | refine zOn rfl rfl ?_ | refine zOff rfl rfl ?_ | refine zU rfl ?_ | refine zOn rfl (by assumption) ?_ | refine zOff rfl (by assumption) ?_ | refine zMov rfl ?_ | refine zAsg rfl ?_ | refine zXtr rfl ?_ | refine zPT rfl rfl rfl ?_ | refine zPF rfl rfl rfl ?_ | refine zPT rfl (by assumption) rfl ?_ | refine zPF rfl (by assumption) rfl ?_ | refine zLss rfl rfl ?_ | refine zLeq rfl rfl ?_ | refine zGtr rfl rfl ?_ | refine zGeq rfl rfl ?_ | refine zEql rfl rfl ?_ | refine zNeq rfl rfl ?_ | refine zAdd rfl rfl (by omega) ?_ | refine zSub rfl rfl (by omega) ?_ | refine zLenS rfl E_string ?_ | refine zNot rfl ?_ | refine zEqS rfl rfl ?_ | refine zNeS rfl rfl ?_ | refine zT rfl rfl ?_ | refine zF rfl rfl ?_ | refine zT rfl (by assumption) ?_ | refine zF rfl (by assumption) ?_ | refine zLen rfl (hv.len E_s_string) ?_ | refine zGd rfl (fun _ => ?_) (fun _ => ?_) | refine zC rfl (fun _ => ?_) (fun _ => ?_)) <;> exact WP.ret ⟨.inr rfl, _, rfl, by simp_all [let_, resOf] <;> omega, rfl⟩
theorem rdigit_c (hO : ∀ f vs H, f ≠ 8 → O f vs H = none) {c : Int} : Lc V O F_ref01_digit [.int .u8 c] H (.bool (dig c)) H := Lc.of_eq <| by
  refine Lc.ref01_digit (hO _ _ _ (by decide)) (Nat.le_of_ble_eq_true rfl) (by kernel_rfl) ?_
  unfold P_ref01_digit
  (repeat' first | refine zSeq ?_ | refine zReg ?_ | refine zBlk ?_ | refine zSkp ?_ | refine zExt ?_ | refine zNil rfl ?_ | refine zGet rfl ?_ | refine zOn rfl rfl ?_ | refine zOff rfl rfl ?_ | refine zU rfl ?_ | refine zOn rfl (by assumption) ?_ | refine zOff rfl (by assumption) ?_ | refine zMov rfl ?_ | refine zAsg rfl ?_ | refine zXtr rfl ?_ | refine zPT rfl rfl rfl ?_ | refine zPF rfl rfl rfl ?_ | refine zPT rfl (by assumption) rfl ?_ | refine zPF rfl (by assumption) rfl ?_ | refine zLss rfl rfl ?_ | refine zLeq rfl rfl ?_ | refine zGtr rfl rfl ?_ | refine zGeq rfl rfl ?_ | refine zEql rfl rfl ?_ | refine zNeq rfl rfl ?_ | refine zAdd rfl rfl (by omega) ?_ | refine zSub rfl rfl (by omega) ?_ | refine zLenS rfl E_string ?_ | refine zNot rfl ?_ | refine zEqS rfl rfl ?_ | refine zNeS rfl rfl ?_ | refine zT rfl rfl ?_ | refine zF rfl rfl ?_ | refine zT rfl (by assumption) ?_ | refine zF rfl (by assumption) ?_ | refine zLen rfl (hv.len E_s_string) ?_ | refine zGd rfl (fun _ => ?_) (fun _ => ?_) | refine zC rfl (fun _ => ?_) (fun _ => ?_)) <;> exact WP.ret ⟨.inr rfl, _, rfl, by simp_all [dig, resOf] <;> omega, rfl⟩
def among (s : ByteArray) (strs : List ByteArray) : Bool := strs.any fun b => b.data.toList == s.data.toList
theorem among_c (hO : ∀ f vs H, f ≠ 8 → O f vs H = none) {v : Value} {strs : List ByteArray} (hv : Sl H v 1 strs.length (strs.map .string)) {s : ByteArray} : Lc V O F_ref01_among [.string s, v] H (.bool (among s strs)) H := Lc.of_eq <| by
  have hlen := hv.2.1
  refine Lc.ref01_among (hO _ _ _ (by decide)) (Nat.le_of_ble_eq_true rfl) (by kernel_rfl) ?_
  unfold P_ref01_among
  (repeat first | refine zSeq ?_ | refine zReg ?_ | refine zBlk ?_ | refine zSkp ?_ | refine zExt ?_ | refine zNil rfl ?_ | refine zGet rfl ?_ | refine zOn rfl rfl ?_ | refine zOff rfl rfl ?_ | refine zU rfl ?_ | refine zOn rfl (by assumption) ?_ | refine zOff rfl (by assumption) ?_ | refine zMov rfl ?_ | refine zAsg rfl ?_ | refine zXtr rfl ?_ | refine zPT rfl rfl rfl ?_ | refine zPF rfl rfl rfl ?_ | refine zPT rfl (by assumption) rfl ?_ | refine zPF rfl (by assumption) rfl ?_ | refine zLss rfl rfl ?_ | refine zLeq rfl rfl ?_ | refine zGtr rfl rfl ?_ | refine zGeq rfl rfl ?_ | refine zEql rfl rfl ?_ | refine zNeq rfl rfl ?_ | refine zAdd rfl rfl (by omega) ?_ | refine zSub rfl rfl (by omega) ?_ | refine zLenS rfl E_string ?_ | refine zNot rfl ?_ | refine zEqS rfl rfl ?_ | refine zNeS rfl rfl ?_ | refine zT rfl rfl ?_ | refine zF rfl rfl ?_ | refine zT rfl (by assumption) ?_ | refine zF rfl (by assumption) ?_ | refine zLen rfl (hv.len E_s_string) ?_)
  refine WP.loopH (σ := Nat) (fun i => [(0, .string s), (1, v), (5, .int .i64 i)]) (fun i H' => H = H' ∧ i ≤ strs.length ∧ among s strs = among s (strs.drop i)) (fun i => strs.length - i) 0 ⟨rfl, by simp, by simp⟩ ⟨rfl, rfl, rfl, trivial⟩ ?_
  rintro i _ ⟨rfl, hi, hp⟩
  (repeat first | refine zSeq ?_ | refine zReg ?_ | refine zBlk ?_ | refine zSkp ?_ | refine zExt ?_ | refine zNil rfl ?_ | refine zGet rfl ?_ | refine zOn rfl rfl ?_ | refine zOff rfl rfl ?_ | refine zU rfl ?_ | refine zOn rfl (by assumption) ?_ | refine zOff rfl (by assumption) ?_ | refine zMov rfl ?_ | refine zAsg rfl ?_ | refine zXtr rfl ?_ | refine zPT rfl rfl rfl ?_ | refine zPF rfl rfl rfl ?_ | refine zPT rfl (by assumption) rfl ?_ | refine zPF rfl (by assumption) rfl ?_ | refine zLss rfl rfl ?_ | refine zLeq rfl rfl ?_ | refine zGtr rfl rfl ?_ | refine zGeq rfl rfl ?_ | refine zEql rfl rfl ?_ | refine zNeq rfl rfl ?_ | refine zAdd rfl rfl (by omega) ?_ | refine zSub rfl rfl (by omega) ?_ | refine zLenS rfl E_string ?_ | refine zNot rfl ?_ | refine zEqS rfl rfl ?_ | refine zNeS rfl rfl ?_ | refine zT rfl rfl ?_ | refine zF rfl rfl ?_ | refine zT rfl (by assumption) ?_ | refine zF rfl (by assumption) ?_ | refine zLen rfl (hv.len E_s_string) ?_)
  rcases Decidable.em ((i : Int) < strs.length) with h | h
  · simp only [decide_eq_true h]
    have hlt : i < strs.length := by omega
    obtain ⟨b, off, ha, hr⟩ := hv.at1 E_s_string E_string rfl (kd := .i64) (i := i) (by omega) (c := .string strs[i]) (by simp [hlt])
    have hd : strs.drop i = strs[i] :: strs.drop (i + 1) := List.drop_eq_getElem_cons hlt
    (repeat first | refine zSeq ?_ | refine zReg ?_ | refine zBlk ?_ | refine zSkp ?_ | refine zExt ?_ | refine zNil rfl ?_ | refine zGet rfl ?_ | refine zOn rfl rfl ?_ | refine zOff rfl rfl ?_ | refine zU rfl ?_ | refine zOn rfl (by assumption) ?_ | refine zOff rfl (by assumption) ?_ | refine zMov rfl ?_ | refine zAsg rfl ?_ | refine zXtr rfl ?_ | refine zPT rfl rfl rfl ?_ | refine zPF rfl rfl rfl ?_ | refine zPT rfl (by assumption) rfl ?_ | refine zPF rfl (by assumption) rfl ?_ | refine zLss rfl rfl ?_ | refine zLeq rfl rfl ?_ | refine zGtr rfl rfl ?_ | refine zGeq rfl rfl ?_ | refine zEql rfl rfl ?_ | refine zNeq rfl rfl ?_ | refine zAdd rfl rfl (by omega) ?_ | refine zSub rfl rfl (by omega) ?_ | refine zLenS rfl E_string ?_ | refine zNot rfl ?_ | refine zEqS rfl rfl ?_ | refine zNeS rfl rfl ?_ | refine zT rfl rfl ?_ | refine zF rfl rfl ?_ | refine zT rfl (by assumption) ?_ | refine zF rfl (by assumption) ?_ | refine zLen rfl (hv.len E_s_string) ?_)
    refine WL.op (op_indexAddr rfl rfl ha) ?_
    refine WL.op (op_load rfl (hr.load1 E_string rfl)) ?_
    (repeat first | refine zSeq ?_ | refine zReg ?_ | refine zBlk ?_ | refine zSkp ?_ | refine zExt ?_ | refine zNil rfl ?_ | refine zGet rfl ?_ | refine zOn rfl rfl ?_ | refine zOff rfl rfl ?_ | refine zU rfl ?_ | refine zOn rfl (by assumption) ?_ | refine zOff rfl (by assumption) ?_ | refine zMov rfl ?_ | refine zAsg rfl ?_ | refine zXtr rfl ?_ | refine zPT rfl rfl rfl ?_ | refine zPF rfl rfl rfl ?_ | refine zPT rfl (by assumption) rfl ?_ | refine zPF rfl (by assumption) rfl ?_ | refine zLss rfl rfl ?_ | refine zLeq rfl rfl ?_ | refine zGtr rfl rfl ?_ | refine zGeq rfl rfl ?_ | refine zEql rfl rfl ?_ | refine zNeq rfl rfl ?_ | refine zAdd rfl rfl (by omega) ?_ | refine zSub rfl rfl (by omega) ?_ | refine zLenS rfl E_string ?_ | refine zNot rfl ?_ | refine zEqS rfl rfl ?_ | refine zNeS rfl rfl ?_ | refine zT rfl rfl ?_ | refine zF rfl rfl ?_ | refine zT rfl (by assumption) ?_ | refine zF rfl (by assumption) ?_ | refine zLen rfl (hv.len E_s_string) ?_)
    cases he : strs[i].data.toList == s.data.toList
    · (repeat first | refine zSeq ?_ | refine zReg ?_ | refine zBlk ?_ | refine zSkp ?_ | refine zExt ?_ | refine zNil rfl ?_ | refine zGet rfl ?_ | refine zOn rfl rfl ?_ | refine zOff rfl rfl ?_ | refine zU rfl ?_ | refine zOn rfl (by assumption) ?_ | refine zOff rfl (by assumption) ?_ | refine zMov rfl ?_ | refine zAsg rfl ?_ | refine zXtr rfl ?_ | refine zPT rfl rfl rfl ?_ | refine zPF rfl rfl rfl ?_ | refine zPT rfl (by assumption) rfl ?_ | refine zPF rfl (by assumption) rfl ?_ | refine zLss rfl rfl ?_ | refine zLeq rfl rfl ?_ | refine zGtr rfl rfl ?_ | refine zGeq rfl rfl ?_ | refine zEql rfl rfl ?_ | refine zNeq rfl rfl ?_ | refine zAdd rfl rfl (by omega) ?_ | refine zSub rfl rfl (by omega) ?_ | refine zLenS rfl E_string ?_ | refine zNot rfl ?_ | refine zEqS rfl rfl ?_ | refine zNeS rfl rfl ?_ | refine zT rfl rfl ?_ | refine zF rfl rfl ?_ | refine zT rfl (by assumption) ?_ | refine zF rfl (by assumption) ?_ | refine zLen rfl (hv.len E_s_string) ?_)
      refine ⟨i + 1, ⟨rfl, by omega, ?_⟩, by omega, ⟨rfl, rfl, rfl, trivial⟩⟩
      rw [hp, hd]; simp only [among, List.any_cons, he, Bool.false_or]
    · (repeat first | refine zSeq ?_ | refine zReg ?_ | refine zBlk ?_ | refine zSkp ?_ | refine zExt ?_ | refine zNil rfl ?_ | refine zGet rfl ?_ | refine zOn rfl rfl ?_ | refine zOff rfl rfl ?_ | refine zU rfl ?_ | refine zOn rfl (by assumption) ?_ | refine zOff rfl (by assumption) ?_ | refine zMov rfl ?_ | refine zAsg rfl ?_ | refine zXtr rfl ?_ | refine zPT rfl rfl rfl ?_ | refine zPF rfl rfl rfl ?_ | refine zPT rfl (by assumption) rfl ?_ | refine zPF rfl (by assumption) rfl ?_ | refine zLss rfl rfl ?_ | refine zLeq rfl rfl ?_ | refine zGtr rfl rfl ?_ | refine zGeq rfl rfl ?_ | refine zEql rfl rfl ?_ | refine zNeq rfl rfl ?_ | refine zAdd rfl rfl (by omega) ?_ | refine zSub rfl rfl (by omega) ?_ | refine zLenS rfl E_string ?_ | refine zNot rfl ?_ | refine zEqS rfl rfl ?_ | refine zNeS rfl rfl ?_ | refine zT rfl rfl ?_ | refine zF rfl rfl ?_ | refine zT rfl (by assumption) ?_ | refine zF rfl (by assumption) ?_ | refine zLen rfl (hv.len E_s_string) ?_)
      refine WP.ret ⟨.inr rfl, _, rfl, ?_, rfl⟩
      rw [hp, hd]; simp only [among, List.any_cons, he, Bool.true_or]; rfl
  · simp only [decide_eq_false h]
    (repeat first | refine zSeq ?_ | refine zReg ?_ | refine zBlk ?_ | refine zSkp ?_ | refine zExt ?_ | refine zNil rfl ?_ | refine zGet rfl ?_ | refine zOn rfl rfl ?_ | refine zOff rfl rfl ?_ | refine zU rfl ?_ | refine zOn rfl (by assumption) ?_ | refine zOff rfl (by assumption) ?_ | refine zMov rfl ?_ | refine zAsg rfl ?_ | refine zXtr rfl ?_ | refine zPT rfl rfl rfl ?_ | refine zPF rfl rfl rfl ?_ | refine zPT rfl (by assumption) rfl ?_ | refine zPF rfl (by assumption) rfl ?_ | refine zLss rfl rfl ?_ | refine zLeq rfl rfl ?_ | refine zGtr rfl rfl ?_ | refine zGeq rfl rfl ?_ | refine zEql rfl rfl ?_ | refine zNeq rfl rfl ?_ | refine zAdd rfl rfl (by omega) ?_ | refine zSub rfl rfl (by omega) ?_ | refine zLenS rfl E_string ?_ | refine zNot rfl ?_ | refine zEqS rfl rfl ?_ | refine zNeS rfl rfl ?_ | refine zT rfl rfl ?_ | refine zF rfl rfl ?_ | refine zT rfl (by assumption) ?_ | refine zF rfl (by assumption) ?_ | refine zLen rfl (hv.len E_s_string) ?_)
    refine WP.ret ⟨.inr rfl, _, rfl, ?_, rfl⟩
    rw [hp, List.drop_eq_nil_iff.2 (by omega)]; rfl
theorem rreserved_c (hO : ∀ f vs H, f ≠ 8 → O f vs H = none) {s : ByteArray} : ∃ H', Lc V O F_ref01_Reserved [.string s] H (.bool (resv s)) H' ∧ Fr H H' := by
  have key : ∃ u H', Lc V O F_ref01_Reserved [.string s] H u H' ∧ (u = .bool (resv s) ∧ Fr H H') := by
    refine Lc.ref01_Reserved (hO _ _ _ (by decide)) (Nat.le_of_ble_eq_true rfl) (by kernel_rfl) ?_
    unfold P_ref01_Reserved
    (repeat first | refine zSeq ?_ | refine zReg ?_ | refine zBlk ?_ | refine zSkp ?_ | refine zExt ?_ | refine zNil rfl ?_ | refine zGet rfl ?_ | refine zOn rfl rfl ?_ | refine zOff rfl rfl ?_ | refine zU rfl ?_ | refine zOn rfl (by assumption) ?_ | refine zOff rfl (by assumption) ?_ | refine zMov rfl ?_ | refine zAsg rfl ?_ | refine zXtr rfl ?_ | refine zPT rfl rfl rfl ?_ | refine zPF rfl rfl rfl ?_ | refine zPT rfl (by assumption) rfl ?_ | refine zPF rfl (by assumption) rfl ?_ | refine zLss rfl rfl ?_ | refine zLeq rfl rfl ?_ | refine zGtr rfl rfl ?_ | refine zGeq rfl rfl ?_ | refine zEql rfl rfl ?_ | refine zNeq rfl rfl ?_ | refine zAdd rfl rfl (by omega) ?_ | refine zSub rfl rfl (by omega) ?_ | refine zLenS rfl E_string ?_ | refine zNot rfl ?_ | refine zEqS rfl rfl ?_ | refine zNeS rfl rfl ?_ | refine zT rfl rfl ?_ | refine zF rfl rfl ?_ | refine zT rfl (by assumption) ?_ | refine zF rfl (by assumption) ?_ | refine zLen rfl (hv.len E_s_string) ?_)
    refine WL.op (op_buildSlice rfl E_s_string E_string (by decide) rfl) ?_
    refine WL.call rfl rfl is_ref01_among (among_c hO (strs := words) (OneAt.toSl (by decide))) ?_
    (repeat first | refine zSeq ?_ | refine zReg ?_ | refine zBlk ?_ | refine zSkp ?_ | refine zExt ?_ | refine zNil rfl ?_ | refine zGet rfl ?_ | refine zOn rfl rfl ?_ | refine zOff rfl rfl ?_ | refine zU rfl ?_ | refine zOn rfl (by assumption) ?_ | refine zOff rfl (by assumption) ?_ | refine zMov rfl ?_ | refine zAsg rfl ?_ | refine zXtr rfl ?_ | refine zPT rfl rfl rfl ?_ | refine zPF rfl rfl rfl ?_ | refine zPT rfl (by assumption) rfl ?_ | refine zPF rfl (by assumption) rfl ?_ | refine zLss rfl rfl ?_ | refine zLeq rfl rfl ?_ | refine zGtr rfl rfl ?_ | refine zGeq rfl rfl ?_ | refine zEql rfl rfl ?_ | refine zNeq rfl rfl ?_ | refine zAdd rfl rfl (by omega) ?_ | refine zSub rfl rfl (by omega) ?_ | refine zLenS rfl E_string ?_ | refine zNot rfl ?_ | refine zEqS rfl rfl ?_ | refine zNeS rfl rfl ?_ | refine zT rfl rfl ?_ | refine zF rfl rfl ?_ | refine zT rfl (by assumption) ?_ | refine zF rfl (by assumption) ?_ | refine zLen rfl (hv.len E_s_string) ?_)
    refine WP.ret ⟨.inr rfl, _, rfl, ?_, .alloc _ _⟩
    have e : (fun b : ByteArray => b.data.toList == s.data.toList) = fun b => s.data.toList == b.data.toList := funext fun b => BEq.comm
    have : among s words = resv s := by unfold among resv; rw [e]
    rw [this]; rfl
  obtain ⟨u, H', h, rfl, hk⟩ := key
  exact ⟨H', h, hk⟩
def rname (s : ByteArray) : Bool := decide (0 < s.size) && decide (s.size ≤ 32) && !(dig ((s.data.toList.headD 0).toNat)) && s.data.toList.all (fun c => wd c.toNat) && !resv s
theorem rname_c (hO : ∀ f vs H, f ≠ 8 → O f vs H = none) {s : ByteArray} : ∃ H', Lc V O F_ref01_Name [.string s] H (.bool (rname s)) H' ∧ Fr H H' := by
  have hsz : s.size = s.data.toList.length := rfl
  obtain ⟨H1, hr, hk1⟩ := rreserved_c (H := H) hO (s := s)
  generalize hl : s.data.toList = l at hsz
  have key : ∃ u H', Lc V O F_ref01_Name [.string s] H u H' ∧ (u = .bool (rname s) ∧ Fr H H') := by
    refine Lc.ref01_Name (hO _ _ _ (by decide)) (Nat.le_of_ble_eq_true rfl) (by kernel_rfl) ?_
    unfold P_ref01_Name
    refine WP.seq ?_
    (repeat first | refine zReg ?_ | refine zSkp ?_ | refine zExt ?_ | refine zNil rfl ?_ | refine zGet rfl ?_ | refine zOn rfl rfl ?_ | refine zOff rfl rfl ?_ | refine zU rfl ?_ | refine zOn rfl (by assumption) ?_ | refine zOff rfl (by assumption) ?_ | refine zMov rfl ?_ | refine zAsg rfl ?_ | refine zXtr rfl ?_ | refine zPT rfl rfl rfl ?_ | refine zPF rfl rfl rfl ?_ | refine zPT rfl (by assumption) rfl ?_ | refine zPF rfl (by assumption) rfl ?_ | refine zLss rfl rfl ?_ | refine zLeq rfl rfl ?_ | refine zGtr rfl rfl ?_ | refine zGeq rfl rfl ?_ | refine zEql rfl rfl ?_ | refine zNeq rfl rfl ?_ | refine zAdd rfl rfl (by omega) ?_ | refine zSub rfl rfl (by omega) ?_ | refine zLenS rfl E_string ?_ | refine zNot rfl ?_ | refine zEqS rfl rfl ?_ | refine zNeS rfl rfl ?_ | refine zT rfl rfl ?_ | refine zF rfl rfl ?_ | refine zT rfl (by assumption) ?_ | refine zF rfl (by assumption) ?_ | refine zLen rfl (hv.len E_s_string) ?_)
    have hidx : 0 < l.length → s.data.toList[(0 : Int).toNat]? = some (l.headD 0) := fun h => by
      rw [hl]; cases l with
      | nil => simp at h
      | cons a b => rfl
    refine WP.seqS (σ := Unit) (fun _ => [(0, .string s)]) (fun _ H' => H = H' ∧ 0 < l.length ∧ l.length ≤ 32 ∧ dig ((l.headD 0).toNat) = false) ?_ ?_
    · refine WP.seq ?_
      rcases Nat.lt_or_ge 0 l.length with h0 | h0
      · have := hidx h0
        have hd0 : decide ((s.size : Int) < 1) = false := decide_eq_false (by omega)
        rcases Nat.lt_or_ge 32 l.length with h32 | h32
        · have hd : decide ((s.size : Int) > 32) = true := decide_eq_true (by omega)
          (repeat first | refine zSeq ?_ | refine zReg ?_ | refine zBlk ?_ | refine zSkp ?_ | refine zExt ?_ | refine zNil rfl ?_ | refine zGet rfl ?_ | refine zOn rfl rfl ?_ | refine zOff rfl rfl ?_ | refine zU rfl ?_ | refine zOn rfl (by assumption) ?_ | refine zOff rfl (by assumption) ?_ | refine zMov rfl ?_ | refine zAsg rfl ?_ | refine zXtr rfl ?_ | refine zPT rfl rfl rfl ?_ | refine zPF rfl rfl rfl ?_ | refine zPT rfl (by assumption) rfl ?_ | refine zPF rfl (by assumption) rfl ?_ | refine zLss rfl rfl ?_ | refine zLeq rfl rfl ?_ | refine zGtr rfl rfl ?_ | refine zGeq rfl rfl ?_ | refine zEql rfl rfl ?_ | refine zNeq rfl rfl ?_ | refine zAdd rfl rfl (by omega) ?_ | refine zSub rfl rfl (by omega) ?_ | refine zLenS rfl E_string ?_ | refine zNot rfl ?_ | refine zEqS rfl rfl ?_ | refine zNeS rfl rfl ?_ | refine zT rfl rfl ?_ | refine zF rfl rfl ?_ | refine zT rfl (by assumption) ?_ | refine zF rfl (by assumption) ?_ | refine zLen rfl (hv.len E_s_string) ?_)
          refine WP.ret ⟨.inr rfl, _, rfl, ?_, .refl _⟩
          have : decide (s.size ≤ 32) = false := decide_eq_false (by omega)
          simp only [rname, this, resOf, Bool.and_false, Bool.false_and]
        · have hd : decide ((s.size : Int) > 32) = false := decide_eq_false (by omega)
          (repeat first | refine zSeq ?_ | refine zReg ?_ | refine zBlk ?_ | refine zSkp ?_ | refine zExt ?_ | refine zNil rfl ?_ | refine zGet rfl ?_ | refine zOn rfl rfl ?_ | refine zOff rfl rfl ?_ | refine zU rfl ?_ | refine zOn rfl (by assumption) ?_ | refine zOff rfl (by assumption) ?_ | refine zMov rfl ?_ | refine zAsg rfl ?_ | refine zXtr rfl ?_ | refine zPT rfl rfl rfl ?_ | refine zPF rfl rfl rfl ?_ | refine zPT rfl (by assumption) rfl ?_ | refine zPF rfl (by assumption) rfl ?_ | refine zLss rfl rfl ?_ | refine zLeq rfl rfl ?_ | refine zGtr rfl rfl ?_ | refine zGeq rfl rfl ?_ | refine zEql rfl rfl ?_ | refine zNeq rfl rfl ?_ | refine zAdd rfl rfl (by omega) ?_ | refine zSub rfl rfl (by omega) ?_ | refine zLenS rfl E_string ?_ | refine zNot rfl ?_ | refine zEqS rfl rfl ?_ | refine zNeS rfl rfl ?_ | refine zT rfl rfl ?_ | refine zF rfl rfl ?_ | refine zT rfl (by assumption) ?_ | refine zF rfl (by assumption) ?_ | refine zLen rfl (hv.len E_s_string) ?_)
          refine WL.op (op_indexS rfl rfl E_string (by decide) this) ?_
          (repeat first | refine zSeq ?_ | refine zReg ?_ | refine zBlk ?_ | refine zSkp ?_ | refine zExt ?_ | refine zNil rfl ?_ | refine zGet rfl ?_ | refine zOn rfl rfl ?_ | refine zOff rfl rfl ?_ | refine zU rfl ?_ | refine zOn rfl (by assumption) ?_ | refine zOff rfl (by assumption) ?_ | refine zMov rfl ?_ | refine zAsg rfl ?_ | refine zXtr rfl ?_ | refine zPT rfl rfl rfl ?_ | refine zPF rfl rfl rfl ?_ | refine zPT rfl (by assumption) rfl ?_ | refine zPF rfl (by assumption) rfl ?_ | refine zLss rfl rfl ?_ | refine zLeq rfl rfl ?_ | refine zGtr rfl rfl ?_ | refine zGeq rfl rfl ?_ | refine zEql rfl rfl ?_ | refine zNeq rfl rfl ?_ | refine zAdd rfl rfl (by omega) ?_ | refine zSub rfl rfl (by omega) ?_ | refine zLenS rfl E_string ?_ | refine zNot rfl ?_ | refine zEqS rfl rfl ?_ | refine zNeS rfl rfl ?_ | refine zT rfl rfl ?_ | refine zF rfl rfl ?_ | refine zT rfl (by assumption) ?_ | refine zF rfl (by assumption) ?_ | refine zLen rfl (hv.len E_s_string) ?_)
          refine WL.call rfl rfl is_ref01_digit (rdigit_c hO) ?_
          cases hg : dig ((l.headD 0).toNat)
          · (repeat first | refine zSeq ?_ | refine zReg ?_ | refine zBlk ?_ | refine zSkp ?_ | refine zExt ?_ | refine zNil rfl ?_ | refine zGet rfl ?_ | refine zOn rfl rfl ?_ | refine zOff rfl rfl ?_ | refine zU rfl ?_ | refine zOn rfl (by assumption) ?_ | refine zOff rfl (by assumption) ?_ | refine zMov rfl ?_ | refine zAsg rfl ?_ | refine zXtr rfl ?_ | refine zPT rfl rfl rfl ?_ | refine zPF rfl rfl rfl ?_ | refine zPT rfl (by assumption) rfl ?_ | refine zPF rfl (by assumption) rfl ?_ | refine zLss rfl rfl ?_ | refine zLeq rfl rfl ?_ | refine zGtr rfl rfl ?_ | refine zGeq rfl rfl ?_ | refine zEql rfl rfl ?_ | refine zNeq rfl rfl ?_ | refine zAdd rfl rfl (by omega) ?_ | refine zSub rfl rfl (by omega) ?_ | refine zLenS rfl E_string ?_ | refine zNot rfl ?_ | refine zEqS rfl rfl ?_ | refine zNeS rfl rfl ?_ | refine zT rfl rfl ?_ | refine zF rfl rfl ?_ | refine zT rfl (by assumption) ?_ | refine zF rfl (by assumption) ?_ | refine zLen rfl (hv.len E_s_string) ?_)
            exact ⟨(), ⟨rfl, h0, h32, rfl⟩, ⟨rfl, trivial⟩⟩
          · (repeat first | refine zSeq ?_ | refine zReg ?_ | refine zBlk ?_ | refine zSkp ?_ | refine zExt ?_ | refine zNil rfl ?_ | refine zGet rfl ?_ | refine zOn rfl rfl ?_ | refine zOff rfl rfl ?_ | refine zU rfl ?_ | refine zOn rfl (by assumption) ?_ | refine zOff rfl (by assumption) ?_ | refine zMov rfl ?_ | refine zAsg rfl ?_ | refine zXtr rfl ?_ | refine zPT rfl rfl rfl ?_ | refine zPF rfl rfl rfl ?_ | refine zPT rfl (by assumption) rfl ?_ | refine zPF rfl (by assumption) rfl ?_ | refine zLss rfl rfl ?_ | refine zLeq rfl rfl ?_ | refine zGtr rfl rfl ?_ | refine zGeq rfl rfl ?_ | refine zEql rfl rfl ?_ | refine zNeq rfl rfl ?_ | refine zAdd rfl rfl (by omega) ?_ | refine zSub rfl rfl (by omega) ?_ | refine zLenS rfl E_string ?_ | refine zNot rfl ?_ | refine zEqS rfl rfl ?_ | refine zNeS rfl rfl ?_ | refine zT rfl rfl ?_ | refine zF rfl rfl ?_ | refine zT rfl (by assumption) ?_ | refine zF rfl (by assumption) ?_ | refine zLen rfl (hv.len E_s_string) ?_)
            refine WP.ret ⟨.inr rfl, _, rfl, ?_, .refl _⟩
            simp only [rname, hl, hg, resOf, Bool.not_true, Bool.and_false, Bool.false_and]
      · have hd0 : decide ((s.size : Int) < 1) = true := decide_eq_true (by omega)
        (repeat first | refine zSeq ?_ | refine zReg ?_ | refine zBlk ?_ | refine zSkp ?_ | refine zExt ?_ | refine zNil rfl ?_ | refine zGet rfl ?_ | refine zOn rfl rfl ?_ | refine zOff rfl rfl ?_ | refine zU rfl ?_ | refine zOn rfl (by assumption) ?_ | refine zOff rfl (by assumption) ?_ | refine zMov rfl ?_ | refine zAsg rfl ?_ | refine zXtr rfl ?_ | refine zPT rfl rfl rfl ?_ | refine zPF rfl rfl rfl ?_ | refine zPT rfl (by assumption) rfl ?_ | refine zPF rfl (by assumption) rfl ?_ | refine zLss rfl rfl ?_ | refine zLeq rfl rfl ?_ | refine zGtr rfl rfl ?_ | refine zGeq rfl rfl ?_ | refine zEql rfl rfl ?_ | refine zNeq rfl rfl ?_ | refine zAdd rfl rfl (by omega) ?_ | refine zSub rfl rfl (by omega) ?_ | refine zLenS rfl E_string ?_ | refine zNot rfl ?_ | refine zEqS rfl rfl ?_ | refine zNeS rfl rfl ?_ | refine zT rfl rfl ?_ | refine zF rfl rfl ?_ | refine zT rfl (by assumption) ?_ | refine zF rfl (by assumption) ?_ | refine zLen rfl (hv.len E_s_string) ?_)
        refine WP.ret ⟨.inr rfl, _, rfl, ?_, .refl _⟩
        have : decide (0 < s.size) = false := decide_eq_false (by omega)
        simp only [rname, this, resOf, Bool.and_false, Bool.false_and]
    · rintro _ _ ⟨rfl, h0, h32, hg⟩
      have hb : s.size ≤ maxLen := by have : maxLen = 9223372036854775807 := rfl; omega
      have e0 : decide (0 < s.size) = true := decide_eq_true (by omega)
      have e1 : decide (s.size ≤ 32) = true := decide_eq_true (by omega)
      refine WP.seqS (σ := Unit) (fun _ => [(0, .string s)]) (fun _ H' => H = H' ∧ l.all (fun c => wd c.toNat) = true) ?_ ?_
      · (repeat first | refine zSeq ?_ | refine zReg ?_ | refine zBlk ?_ | refine zSkp ?_ | refine zExt ?_ | refine zNil rfl ?_ | refine zGet rfl ?_ | refine zOn rfl rfl ?_ | refine zOff rfl rfl ?_ | refine zU rfl ?_ | refine zOn rfl (by assumption) ?_ | refine zOff rfl (by assumption) ?_ | refine zMov rfl ?_ | refine zAsg rfl ?_ | refine zXtr rfl ?_ | refine zPT rfl rfl rfl ?_ | refine zPF rfl rfl rfl ?_ | refine zPT rfl (by assumption) rfl ?_ | refine zPF rfl (by assumption) rfl ?_ | refine zLss rfl rfl ?_ | refine zLeq rfl rfl ?_ | refine zGtr rfl rfl ?_ | refine zGeq rfl rfl ?_ | refine zEql rfl rfl ?_ | refine zNeq rfl rfl ?_ | refine zAdd rfl rfl (by omega) ?_ | refine zSub rfl rfl (by omega) ?_ | refine zLenS rfl E_string ?_ | refine zNot rfl ?_ | refine zEqS rfl rfl ?_ | refine zNeS rfl rfl ?_ | refine zT rfl rfl ?_ | refine zF rfl rfl ?_ | refine zT rfl (by assumption) ?_ | refine zF rfl (by assumption) ?_ | refine zLen rfl (hv.len E_s_string) ?_)
        refine WP.loopH (σ := Nat) (fun i => [(0, .string s), (3, .int .i64 i)]) (fun i H' => H = H' ∧ i ≤ l.length ∧ l.all (fun c => wd c.toNat) = (l.drop i).all (fun c => wd c.toNat)) (fun i => l.length - i) 0 ⟨rfl, by simp, by simp⟩ ⟨rfl, rfl, trivial⟩ ?_
        rintro i _ ⟨rfl, hi, hp⟩
        rcases Nat.lt_or_ge i l.length with h | h
        · have hd : decide ((i : Int) < s.size) = true := decide_eq_true (by omega)
          have hdr : l.drop i = l[i] :: l.drop (i + 1) := List.drop_eq_getElem_cons h
          have hx : s.data.toList[(i : Int).toNat]? = some l[i] := by rw [hl]; simp [h]
          (repeat first | refine zSeq ?_ | refine zReg ?_ | refine zBlk ?_ | refine zSkp ?_ | refine zExt ?_ | refine zNil rfl ?_ | refine zGet rfl ?_ | refine zOn rfl rfl ?_ | refine zOff rfl rfl ?_ | refine zU rfl ?_ | refine zOn rfl (by assumption) ?_ | refine zOff rfl (by assumption) ?_ | refine zMov rfl ?_ | refine zAsg rfl ?_ | refine zXtr rfl ?_ | refine zPT rfl rfl rfl ?_ | refine zPF rfl rfl rfl ?_ | refine zPT rfl (by assumption) rfl ?_ | refine zPF rfl (by assumption) rfl ?_ | refine zLss rfl rfl ?_ | refine zLeq rfl rfl ?_ | refine zGtr rfl rfl ?_ | refine zGeq rfl rfl ?_ | refine zEql rfl rfl ?_ | refine zNeq rfl rfl ?_ | refine zAdd rfl rfl (by omega) ?_ | refine zSub rfl rfl (by omega) ?_ | refine zLenS rfl E_string ?_ | refine zNot rfl ?_ | refine zEqS rfl rfl ?_ | refine zNeS rfl rfl ?_ | refine zT rfl rfl ?_ | refine zF rfl rfl ?_ | refine zT rfl (by assumption) ?_ | refine zF rfl (by assumption) ?_ | refine zLen rfl (hv.len E_s_string) ?_)
          refine WL.op (op_indexS rfl rfl E_string (by omega) hx) ?_
          refine WL.call rfl rfl is_ref01_letter (rletter_c hO) ?_
          have fin : let_ l[i].toNat = false → dig l[i].toNat = false → rname s = false := fun h1 h2 => by
            have : l.all (fun c => wd c.toNat) = false := by rw [hp, hdr, List.all_cons]; simp only [wd, h1, h2]; rfl
            simp only [rname, hl, this, Bool.and_false, Bool.false_and]
          have step : wd l[i].toNat = true → ∃ s' : Nat, (H = H ∧ s' ≤ l.length ∧ l.all (fun c => wd c.toNat) = (l.drop s').all (fun c => wd c.toNat)) ∧ l.length - s' < l.length - i ∧ s' = i + 1 := fun h1 => by
            refine ⟨i + 1, ⟨rfl, by omega, ?_⟩, by omega, rfl⟩
            rw [hp, hdr, List.all_cons, h1, Bool.true_and]
          cases h1 : let_ l[i].toNat
          · refine WL.op (op_not rfl) ?_
            (repeat first | refine zSeq ?_ | refine zReg ?_ | refine zBlk ?_ | refine zSkp ?_ | refine zExt ?_ | refine zNil rfl ?_ | refine zGet rfl ?_ | refine zOn rfl rfl ?_ | refine zOff rfl rfl ?_ | refine zU rfl ?_ | refine zOn rfl (by assumption) ?_ | refine zOff rfl (by assumption) ?_ | refine zMov rfl ?_ | refine zAsg rfl ?_ | refine zXtr rfl ?_ | refine zPT rfl rfl rfl ?_ | refine zPF rfl rfl rfl ?_ | refine zPT rfl (by assumption) rfl ?_ | refine zPF rfl (by assumption) rfl ?_ | refine zLss rfl rfl ?_ | refine zLeq rfl rfl ?_ | refine zGtr rfl rfl ?_ | refine zGeq rfl rfl ?_ | refine zEql rfl rfl ?_ | refine zNeq rfl rfl ?_ | refine zAdd rfl rfl (by omega) ?_ | refine zSub rfl rfl (by omega) ?_ | refine zLenS rfl E_string ?_ | refine zNot rfl ?_ | refine zEqS rfl rfl ?_ | refine zNeS rfl rfl ?_ | refine zT rfl rfl ?_ | refine zF rfl rfl ?_ | refine zT rfl (by assumption) ?_ | refine zF rfl (by assumption) ?_ | refine zLen rfl (hv.len E_s_string) ?_)
            refine WL.op (op_indexS rfl rfl E_string (by omega) hx) ?_
            (repeat first | refine zSeq ?_ | refine zReg ?_ | refine zBlk ?_ | refine zSkp ?_ | refine zExt ?_ | refine zNil rfl ?_ | refine zGet rfl ?_ | refine zOn rfl rfl ?_ | refine zOff rfl rfl ?_ | refine zU rfl ?_ | refine zOn rfl (by assumption) ?_ | refine zOff rfl (by assumption) ?_ | refine zMov rfl ?_ | refine zAsg rfl ?_ | refine zXtr rfl ?_ | refine zPT rfl rfl rfl ?_ | refine zPF rfl rfl rfl ?_ | refine zPT rfl (by assumption) rfl ?_ | refine zPF rfl (by assumption) rfl ?_ | refine zLss rfl rfl ?_ | refine zLeq rfl rfl ?_ | refine zGtr rfl rfl ?_ | refine zGeq rfl rfl ?_ | refine zEql rfl rfl ?_ | refine zNeq rfl rfl ?_ | refine zAdd rfl rfl (by omega) ?_ | refine zSub rfl rfl (by omega) ?_ | refine zLenS rfl E_string ?_ | refine zNot rfl ?_ | refine zEqS rfl rfl ?_ | refine zNeS rfl rfl ?_ | refine zT rfl rfl ?_ | refine zF rfl rfl ?_ | refine zT rfl (by assumption) ?_ | refine zF rfl (by assumption) ?_ | refine zLen rfl (hv.len E_s_string) ?_)
            refine WL.call rfl rfl is_ref01_digit (rdigit_c hO) ?_
            cases h2 : dig l[i].toNat
            · (repeat first | refine zSeq ?_ | refine zReg ?_ | refine zBlk ?_ | refine zSkp ?_ | refine zExt ?_ | refine zNil rfl ?_ | refine zGet rfl ?_ | refine zOn rfl rfl ?_ | refine zOff rfl rfl ?_ | refine zU rfl ?_ | refine zOn rfl (by assumption) ?_ | refine zOff rfl (by assumption) ?_ | refine zMov rfl ?_ | refine zAsg rfl ?_ | refine zXtr rfl ?_ | refine zPT rfl rfl rfl ?_ | refine zPF rfl rfl rfl ?_ | refine zPT rfl (by assumption) rfl ?_ | refine zPF rfl (by assumption) rfl ?_ | refine zLss rfl rfl ?_ | refine zLeq rfl rfl ?_ | refine zGtr rfl rfl ?_ | refine zGeq rfl rfl ?_ | refine zEql rfl rfl ?_ | refine zNeq rfl rfl ?_ | refine zAdd rfl rfl (by omega) ?_ | refine zSub rfl rfl (by omega) ?_ | refine zLenS rfl E_string ?_ | refine zNot rfl ?_ | refine zEqS rfl rfl ?_ | refine zNeS rfl rfl ?_ | refine zT rfl rfl ?_ | refine zF rfl rfl ?_ | refine zT rfl (by assumption) ?_ | refine zF rfl (by assumption) ?_ | refine zLen rfl (hv.len E_s_string) ?_)
              exact WP.ret ⟨.inr rfl, _, rfl, by rw [fin h1 h2]; rfl, .refl _⟩
            · (repeat first | refine zSeq ?_ | refine zReg ?_ | refine zBlk ?_ | refine zSkp ?_ | refine zExt ?_ | refine zNil rfl ?_ | refine zGet rfl ?_ | refine zOn rfl rfl ?_ | refine zOff rfl rfl ?_ | refine zU rfl ?_ | refine zOn rfl (by assumption) ?_ | refine zOff rfl (by assumption) ?_ | refine zMov rfl ?_ | refine zAsg rfl ?_ | refine zXtr rfl ?_ | refine zPT rfl rfl rfl ?_ | refine zPF rfl rfl rfl ?_ | refine zPT rfl (by assumption) rfl ?_ | refine zPF rfl (by assumption) rfl ?_ | refine zLss rfl rfl ?_ | refine zLeq rfl rfl ?_ | refine zGtr rfl rfl ?_ | refine zGeq rfl rfl ?_ | refine zEql rfl rfl ?_ | refine zNeq rfl rfl ?_ | refine zAdd rfl rfl (by omega) ?_ | refine zSub rfl rfl (by omega) ?_ | refine zLenS rfl E_string ?_ | refine zNot rfl ?_ | refine zEqS rfl rfl ?_ | refine zNeS rfl rfl ?_ | refine zT rfl rfl ?_ | refine zF rfl rfl ?_ | refine zT rfl (by assumption) ?_ | refine zF rfl (by assumption) ?_ | refine zLen rfl (hv.len E_s_string) ?_)
              obtain ⟨s', q1, q2, rfl⟩ := step (by simp [wd, h2])
              exact ⟨i + 1, q1, q2, rfl, rfl, trivial⟩
          · (repeat first | refine zSeq ?_ | refine zReg ?_ | refine zBlk ?_ | refine zSkp ?_ | refine zExt ?_ | refine zNil rfl ?_ | refine zGet rfl ?_ | refine zOn rfl rfl ?_ | refine zOff rfl rfl ?_ | refine zU rfl ?_ | refine zOn rfl (by assumption) ?_ | refine zOff rfl (by assumption) ?_ | refine zMov rfl ?_ | refine zAsg rfl ?_ | refine zXtr rfl ?_ | refine zPT rfl rfl rfl ?_ | refine zPF rfl rfl rfl ?_ | refine zPT rfl (by assumption) rfl ?_ | refine zPF rfl (by assumption) rfl ?_ | refine zLss rfl rfl ?_ | refine zLeq rfl rfl ?_ | refine zGtr rfl rfl ?_ | refine zGeq rfl rfl ?_ | refine zEql rfl rfl ?_ | refine zNeq rfl rfl ?_ | refine zAdd rfl rfl (by omega) ?_ | refine zSub rfl rfl (by omega) ?_ | refine zLenS rfl E_string ?_ | refine zNot rfl ?_ | refine zEqS rfl rfl ?_ | refine zNeS rfl rfl ?_ | refine zT rfl rfl ?_ | refine zF rfl rfl ?_ | refine zT rfl (by assumption) ?_ | refine zF rfl (by assumption) ?_ | refine zLen rfl (hv.len E_s_string) ?_)
            obtain ⟨s', q1, q2, rfl⟩ := step (by simp [wd, h1])
            exact ⟨i + 1, q1, q2, rfl, rfl, trivial⟩
        · have hd : decide ((i : Int) < s.size) = false := decide_eq_false (by omega)
          (repeat first | refine zSeq ?_ | refine zReg ?_ | refine zBlk ?_ | refine zSkp ?_ | refine zExt ?_ | refine zNil rfl ?_ | refine zGet rfl ?_ | refine zOn rfl rfl ?_ | refine zOff rfl rfl ?_ | refine zU rfl ?_ | refine zOn rfl (by assumption) ?_ | refine zOff rfl (by assumption) ?_ | refine zMov rfl ?_ | refine zAsg rfl ?_ | refine zXtr rfl ?_ | refine zPT rfl rfl rfl ?_ | refine zPF rfl rfl rfl ?_ | refine zPT rfl (by assumption) rfl ?_ | refine zPF rfl (by assumption) rfl ?_ | refine zLss rfl rfl ?_ | refine zLeq rfl rfl ?_ | refine zGtr rfl rfl ?_ | refine zGeq rfl rfl ?_ | refine zEql rfl rfl ?_ | refine zNeq rfl rfl ?_ | refine zAdd rfl rfl (by omega) ?_ | refine zSub rfl rfl (by omega) ?_ | refine zLenS rfl E_string ?_ | refine zNot rfl ?_ | refine zEqS rfl rfl ?_ | refine zNeS rfl rfl ?_ | refine zT rfl rfl ?_ | refine zF rfl rfl ?_ | refine zT rfl (by assumption) ?_ | refine zF rfl (by assumption) ?_ | refine zLen rfl (hv.len E_s_string) ?_)
          refine ⟨(), ⟨rfl, ?_⟩, rfl, trivial⟩
          rw [hp, List.drop_eq_nil_iff.2 h]; rfl
      · rintro _ _ ⟨rfl, ha⟩
        (repeat first | refine zSeq ?_ | refine zReg ?_ | refine zBlk ?_ | refine zSkp ?_ | refine zExt ?_ | refine zNil rfl ?_ | refine zGet rfl ?_ | refine zOn rfl rfl ?_ | refine zOff rfl rfl ?_ | refine zU rfl ?_ | refine zOn rfl (by assumption) ?_ | refine zOff rfl (by assumption) ?_ | refine zMov rfl ?_ | refine zAsg rfl ?_ | refine zXtr rfl ?_ | refine zPT rfl rfl rfl ?_ | refine zPF rfl rfl rfl ?_ | refine zPT rfl (by assumption) rfl ?_ | refine zPF rfl (by assumption) rfl ?_ | refine zLss rfl rfl ?_ | refine zLeq rfl rfl ?_ | refine zGtr rfl rfl ?_ | refine zGeq rfl rfl ?_ | refine zEql rfl rfl ?_ | refine zNeq rfl rfl ?_ | refine zAdd rfl rfl (by omega) ?_ | refine zSub rfl rfl (by omega) ?_ | refine zLenS rfl E_string ?_ | refine zNot rfl ?_ | refine zEqS rfl rfl ?_ | refine zNeS rfl rfl ?_ | refine zT rfl rfl ?_ | refine zF rfl rfl ?_ | refine zT rfl (by assumption) ?_ | refine zF rfl (by assumption) ?_ | refine zLen rfl (hv.len E_s_string) ?_)
        refine WL.call rfl rfl is_ref01_Reserved hr ?_
        (repeat first | refine zSeq ?_ | refine zReg ?_ | refine zBlk ?_ | refine zSkp ?_ | refine zExt ?_ | refine zNil rfl ?_ | refine zGet rfl ?_ | refine zOn rfl rfl ?_ | refine zOff rfl rfl ?_ | refine zU rfl ?_ | refine zOn rfl (by assumption) ?_ | refine zOff rfl (by assumption) ?_ | refine zMov rfl ?_ | refine zAsg rfl ?_ | refine zXtr rfl ?_ | refine zPT rfl rfl rfl ?_ | refine zPF rfl rfl rfl ?_ | refine zPT rfl (by assumption) rfl ?_ | refine zPF rfl (by assumption) rfl ?_ | refine zLss rfl rfl ?_ | refine zLeq rfl rfl ?_ | refine zGtr rfl rfl ?_ | refine zGeq rfl rfl ?_ | refine zEql rfl rfl ?_ | refine zNeq rfl rfl ?_ | refine zAdd rfl rfl (by omega) ?_ | refine zSub rfl rfl (by omega) ?_ | refine zLenS rfl E_string ?_ | refine zNot rfl ?_ | refine zEqS rfl rfl ?_ | refine zNeS rfl rfl ?_ | refine zT rfl rfl ?_ | refine zF rfl rfl ?_ | refine zT rfl (by assumption) ?_ | refine zF rfl (by assumption) ?_ | refine zLen rfl (hv.len E_s_string) ?_)
        refine WP.ret ⟨.inr rfl, _, rfl, ?_, hk1⟩
        simp only [rname, hl, e0, e1, hg, ha, resOf, Bool.not_false, Bool.and_true, Bool.true_and]
  obtain ⟨u, H', h, rfl, hk⟩ := key
  exact ⟨H', h, hk⟩
end Go.Proofs.YtdkfcpadbahohaaDoor.U

/-
  Contracts of lex: tokens at a beginning.
-/
namespace Go.Proofs.YtdkfcpadbahohaaDoor.U
open Go Go.Ev
attribute [local irreducible] WL WP WH W
variable {O : Orc} {H : AH}
def lessB (a b : ByteArray) : Bool := Op.bytesLess a.toList b.toList || a.toList == b.toList
theorem aBin_leqS {P : Program} {E : TypeId → Option TI} {t : TypeId} {ox oy : Operand} {a b : ByteArray} : aBin P E .leq t ox oy (.string a) (.string b) = some (.bool (lessB a b)) := aBin_str rfl rfl
theorem op_leqS {g : Ft} {x y : Operand} {t u : TypeId} {a b : ByteArray} (hx : g x = some (.string a)) (hy : g y = some (.string b)) : aopG V g H (.binOp .leq t x y u) = some (.bool (lessB a b), H) := by
  simp only [aopG, hx, hy, aBin_leqS, Option.map_some]
def most : ByteArray := ⟨⟨[57, 50, 50, 51, 51, 55, 50, 48, 51, 54, 56, 53, 52, 55, 55, 53, 56, 48, 56]⟩⟩
def numB (s : ByteArray) : Bool := (s.data.toList == [48] || ((s.data.toList.headD 0).toNat : Int) != 48) && (decide ((s.size : Int) < 19) || ((s.size : Int) == 19 && lessB s most))
theorem number_c (hO : ∀ f vs H, f ≠ 8 → O f vs H = none) {s : ByteArray} (hne : 0 < s.size) : Lc V O F_lex_number [.string s] H (.bool (numB s)) H := Lc.of_eq <| by
  have hsz : s.size = s.data.toList.length := rfl
  have hidx : s.data.toList[(0 : Int).toNat]? = some (s.data.toList.headD 0) := by
    cases hl : s.data.toList with
    | nil => rw [hl] at hsz; simp only [List.length_nil] at hsz; omega
    | cons a b => rfl
  refine Lc.lex_number (hO _ _ _ (by decide)) (Nat.le_of_ble_eq_true rfl) (by kernel_rfl) ?_
  unfold P_lex_number
  have fin : ∀ b : Bool, numB s = b → (resOf [Value.bool b] = .bool (numB s) ∧ H = H) := fun b h => by rw [h]; exact ⟨rfl, rfl⟩
  (repeat' first | refine zSeq ?_ | refine zReg ?_ | refine zBlk ?_ | refine zSkp ?_ | refine zExt ?_ | refine zNil rfl ?_ | refine zGet rfl ?_ | refine zOn rfl rfl ?_ | refine zOff rfl rfl ?_ | refine zU rfl ?_ | refine zOn rfl (by assumption) ?_ | refine zOff rfl (by assumption) ?_ | refine zMov rfl ?_ | refine zAsg rfl ?_ | refine zXtr rfl ?_ | refine zPT rfl rfl rfl ?_ | refine zPF rfl rfl rfl ?_ | refine zPT rfl (by assumption) rfl ?_ | refine zPF rfl (by assumption) rfl ?_ | refine zLss rfl rfl ?_ | refine zLeq rfl rfl ?_ | refine zGtr rfl rfl ?_ | refine zGeq rfl rfl ?_ | refine zEql rfl rfl ?_ | refine zNeq rfl rfl ?_ | refine zAdd rfl rfl (by omega) ?_ | refine zSub rfl rfl (by omega) ?_ | refine zLenS rfl E_string ?_ | refine zNot rfl ?_ | refine zEqS rfl rfl ?_ | refine zNeS rfl rfl ?_ | refine zT rfl rfl ?_ | refine zF rfl rfl ?_ | refine zT rfl (by assumption) ?_ | refine zF rfl (by assumption) ?_ | refine zLen rfl (hv.len E_s_string) ?_ | refine WL.op (o := .index _ _ _) (op_indexS rfl rfl E_string (by decide) hidx) ?_ | refine WL.op (o := .binOp .leq _ _ _ _) (op_leqS rfl rfl) ?_ | refine zGd rfl (fun _ => ?_) (fun _ => ?_) | refine zC rfl (fun _ => ?_) (fun _ => ?_))
  all_goals refine WP.ret ⟨.inr rfl, _, rfl, fin _ ?_⟩
  all_goals clear hsz hidx fin
  all_goals first | (simp only [numB, *, Bool.not_true, Bool.not_false, Bool.true_or, Bool.or_true, Bool.false_or, Bool.or_false, Bool.true_and, Bool.and_true, Bool.false_and, Bool.and_false]; done) | (simp only [numB, *, Bool.not_true, Bool.not_false, Bool.true_or, Bool.or_true, Bool.false_or, Bool.or_false, Bool.true_and, Bool.and_true, Bool.false_and, Bool.and_false]; rfl)
def pre (s x : ByteArray) : Bool := decide (x.size ≤ s.size) && ((s.extract 0 x.size).data.toList == x.data.toList)
theorem prefix0_c (hO : ∀ f vs H, f ≠ 8 → O f vs H = none) {s x : ByteArray} : Lc V O F_internal_stringslite_HasPrefix [.string s, .string x] H (.bool (pre s x)) H := Lc.of_eq <| by
  refine Lc.internal_stringslite_HasPrefix (hO _ _ _ (by decide)) (Nat.le_of_ble_eq_true rfl) (by kernel_rfl) ?_
  unfold P_internal_stringslite_HasPrefix
  rcases Nat.lt_or_ge s.size x.size with h | h
  · have hd : decide ((s.size : Int) ≥ x.size) = false := decide_eq_false (by omega)
    (repeat first | refine zSeq ?_ | refine zReg ?_ | refine zBlk ?_ | refine zSkp ?_ | refine zExt ?_ | refine zNil rfl ?_ | refine zGet rfl ?_ | refine zOn rfl rfl ?_ | refine zOff rfl rfl ?_ | refine zU rfl ?_ | refine zOn rfl (by assumption) ?_ | refine zOff rfl (by assumption) ?_ | refine zMov rfl ?_ | refine zAsg rfl ?_ | refine zXtr rfl ?_ | refine zPT rfl rfl rfl ?_ | refine zPF rfl rfl rfl ?_ | refine zPT rfl (by assumption) rfl ?_ | refine zPF rfl (by assumption) rfl ?_ | refine zLss rfl rfl ?_ | refine zLeq rfl rfl ?_ | refine zGtr rfl rfl ?_ | refine zGeq rfl rfl ?_ | refine zEql rfl rfl ?_ | refine zNeq rfl rfl ?_ | refine zAdd rfl rfl (by omega) ?_ | refine zSub rfl rfl (by omega) ?_ | refine zLenS rfl E_string ?_ | refine zNot rfl ?_ | refine zEqS rfl rfl ?_ | refine zNeS rfl rfl ?_ | refine zT rfl rfl ?_ | refine zF rfl rfl ?_ | refine zT rfl (by assumption) ?_ | refine zF rfl (by assumption) ?_ | refine zLen rfl (hv.len E_s_string) ?_ | refine WL.op (o := .index _ _ _) (op_indexS rfl rfl E_string (by decide) hidx) ?_ | refine WL.op (o := .binOp .leq _ _ _ _) (op_leqS rfl rfl) ?_)
    refine WP.ret ⟨.inr rfl, _, rfl, ?_, rfl⟩
    rw [pre, decide_eq_false (by omega)]; rfl
  · have hd : decide ((s.size : Int) ≥ x.size) = true := decide_eq_true (by omega)
    (repeat first | refine zSeq ?_ | refine zReg ?_ | refine zBlk ?_ | refine zSkp ?_ | refine zExt ?_ | refine zNil rfl ?_ | refine zGet rfl ?_ | refine zOn rfl rfl ?_ | refine zOff rfl rfl ?_ | refine zU rfl ?_ | refine zOn rfl (by assumption) ?_ | refine zOff rfl (by assumption) ?_ | refine zMov rfl ?_ | refine zAsg rfl ?_ | refine zXtr rfl ?_ | refine zPT rfl rfl rfl ?_ | refine zPF rfl rfl rfl ?_ | refine zPT rfl (by assumption) rfl ?_ | refine zPF rfl (by assumption) rfl ?_ | refine zLss rfl rfl ?_ | refine zLeq rfl rfl ?_ | refine zGtr rfl rfl ?_ | refine zGeq rfl rfl ?_ | refine zEql rfl rfl ?_ | refine zNeq rfl rfl ?_ | refine zAdd rfl rfl (by omega) ?_ | refine zSub rfl rfl (by omega) ?_ | refine zLenS rfl E_string ?_ | refine zNot rfl ?_ | refine zEqS rfl rfl ?_ | refine zNeS rfl rfl ?_ | refine zT rfl rfl ?_ | refine zF rfl rfl ?_ | refine zT rfl (by assumption) ?_ | refine zF rfl (by assumption) ?_ | refine zLen rfl (hv.len E_s_string) ?_ | refine WL.op (o := .index _ _ _) (op_indexS rfl rfl E_string (by decide) hidx) ?_ | refine WL.op (o := .binOp .leq _ _ _ _) (op_leqS rfl rfl) ?_)
    refine WL.op (op_sliceH rfl rfl E_string (by omega) (by omega)) ?_
    (repeat first | refine zSeq ?_ | refine zReg ?_ | refine zBlk ?_ | refine zSkp ?_ | refine zExt ?_ | refine zNil rfl ?_ | refine zGet rfl ?_ | refine zOn rfl rfl ?_ | refine zOff rfl rfl ?_ | refine zU rfl ?_ | refine zOn rfl (by assumption) ?_ | refine zOff rfl (by assumption) ?_ | refine zMov rfl ?_ | refine zAsg rfl ?_ | refine zXtr rfl ?_ | refine zPT rfl rfl rfl ?_ | refine zPF rfl rfl rfl ?_ | refine zPT rfl (by assumption) rfl ?_ | refine zPF rfl (by assumption) rfl ?_ | refine zLss rfl rfl ?_ | refine zLeq rfl rfl ?_ | refine zGtr rfl rfl ?_ | refine zGeq rfl rfl ?_ | refine zEql rfl rfl ?_ | refine zNeq rfl rfl ?_ | refine zAdd rfl rfl (by omega) ?_ | refine zSub rfl rfl (by omega) ?_ | refine zLenS rfl E_string ?_ | refine zNot rfl ?_ | refine zEqS rfl rfl ?_ | refine zNeS rfl rfl ?_ | refine zT rfl rfl ?_ | refine zF rfl rfl ?_ | refine zT rfl (by assumption) ?_ | refine zF rfl (by assumption) ?_ | refine zLen rfl (hv.len E_s_string) ?_ | refine WL.op (o := .index _ _ _) (op_indexS rfl rfl E_string (by decide) hidx) ?_ | refine WL.op (o := .binOp .leq _ _ _ _) (op_leqS rfl rfl) ?_)
    refine WP.ret ⟨.inr rfl, _, rfl, ?_, rfl⟩
    rw [pre, decide_eq_true h]; rfl
theorem prefix_c (hO : ∀ f vs H, f ≠ 8 → O f vs H = none) {s x : ByteArray} : Lc V O F_strings_HasPrefix [.string s, .string x] H (.bool (pre s x)) H := Lc.of_eq <| by
  refine Lc.strings_HasPrefix (hO _ _ _ (by decide)) (Nat.le_of_ble_eq_true rfl) (by kernel_rfl) ?_
  unfold P_strings_HasPrefix
  (repeat first | refine zSeq ?_ | refine zReg ?_ | refine zBlk ?_ | refine zSkp ?_ | refine zExt ?_ | refine zNil rfl ?_ | refine zGet rfl ?_ | refine zOn rfl rfl ?_ | refine zOff rfl rfl ?_ | refine zU rfl ?_ | refine zOn rfl (by assumption) ?_ | refine zOff rfl (by assumption) ?_ | refine zMov rfl ?_ | refine zAsg rfl ?_ | refine zXtr rfl ?_ | refine zPT rfl rfl rfl ?_ | refine zPF rfl rfl rfl ?_ | refine zPT rfl (by assumption) rfl ?_ | refine zPF rfl (by assumption) rfl ?_ | refine zLss rfl rfl ?_ | refine zLeq rfl rfl ?_ | refine zGtr rfl rfl ?_ | refine zGeq rfl rfl ?_ | refine zEql rfl rfl ?_ | refine zNeq rfl rfl ?_ | refine zAdd rfl rfl (by omega) ?_ | refine zSub rfl rfl (by omega) ?_ | refine zLenS rfl E_string ?_ | refine zNot rfl ?_ | refine zEqS rfl rfl ?_ | refine zNeS rfl rfl ?_ | refine zT rfl rfl ?_ | refine zF rfl rfl ?_ | refine zT rfl (by assumption) ?_ | refine zF rfl (by assumption) ?_ | refine zLen rfl (hv.len E_s_string) ?_ | refine WL.op (o := .index _ _ _) (op_indexS rfl rfl E_string (by decide) hidx) ?_ | refine WL.op (o := .binOp .leq _ _ _ _) (op_leqS rfl rfl) ?_)
  refine WL.call rfl rfl is_internal_stringslite_HasPrefix (prefix0_c hO) ?_
  (repeat first | refine zSeq ?_ | refine zReg ?_ | refine zBlk ?_ | refine zSkp ?_ | refine zExt ?_ | refine zNil rfl ?_ | refine zGet rfl ?_ | refine zOn rfl rfl ?_ | refine zOff rfl rfl ?_ | refine zU rfl ?_ | refine zOn rfl (by assumption) ?_ | refine zOff rfl (by assumption) ?_ | refine zMov rfl ?_ | refine zAsg rfl ?_ | refine zXtr rfl ?_ | refine zPT rfl rfl rfl ?_ | refine zPF rfl rfl rfl ?_ | refine zPT rfl (by assumption) rfl ?_ | refine zPF rfl (by assumption) rfl ?_ | refine zLss rfl rfl ?_ | refine zLeq rfl rfl ?_ | refine zGtr rfl rfl ?_ | refine zGeq rfl rfl ?_ | refine zEql rfl rfl ?_ | refine zNeq rfl rfl ?_ | refine zAdd rfl rfl (by omega) ?_ | refine zSub rfl rfl (by omega) ?_ | refine zLenS rfl E_string ?_ | refine zNot rfl ?_ | refine zEqS rfl rfl ?_ | refine zNeS rfl rfl ?_ | refine zT rfl rfl ?_ | refine zF rfl rfl ?_ | refine zT rfl (by assumption) ?_ | refine zF rfl (by assumption) ?_ | refine zLen rfl (hv.len E_s_string) ?_ | refine WL.op (o := .index _ _ _) (op_indexS rfl rfl E_string (by decide) hidx) ?_ | refine WL.op (o := .binOp .leq _ _ _ _) (op_leqS rfl rfl) ?_)
  exact WP.ret ⟨.inr rfl, _, rfl, rfl, rfl⟩
theorem token1_c (hO : ∀ f vs H, f ≠ 8 → O f vs H = none) {s x : ByteArray} {b off : Nat} (hb : Rd H b off 1 [.string s]) : Lc V O F_lex_token_q1 [.string x, .pointer (some ⟨b, off, none⟩)] H (.bool (pre s x)) H := Lc.of_eq <| by
  refine Lc.lex_token_q1 (hO _ _ _ (by decide)) (Nat.le_of_ble_eq_true rfl) (by kernel_rfl) ?_
  unfold P_lex_token_q1
  (repeat first | refine zSeq ?_ | refine zReg ?_ | refine zBlk ?_ | refine zSkp ?_ | refine zExt ?_ | refine zNil rfl ?_ | refine zGet rfl ?_ | refine zOn rfl rfl ?_ | refine zOff rfl rfl ?_ | refine zU rfl ?_ | refine zOn rfl (by assumption) ?_ | refine zOff rfl (by assumption) ?_ | refine zMov rfl ?_ | refine zAsg rfl ?_ | refine zXtr rfl ?_ | refine zPT rfl rfl rfl ?_ | refine zPF rfl rfl rfl ?_ | refine zPT rfl (by assumption) rfl ?_ | refine zPF rfl (by assumption) rfl ?_ | refine zLss rfl rfl ?_ | refine zLeq rfl rfl ?_ | refine zGtr rfl rfl ?_ | refine zGeq rfl rfl ?_ | refine zEql rfl rfl ?_ | refine zNeq rfl rfl ?_ | refine zAdd rfl rfl (by omega) ?_ | refine zSub rfl rfl (by omega) ?_ | refine zLenS rfl E_string ?_ | refine zNot rfl ?_ | refine zEqS rfl rfl ?_ | refine zNeS rfl rfl ?_ | refine zT rfl rfl ?_ | refine zF rfl rfl ?_ | refine zT rfl (by assumption) ?_ | refine zF rfl (by assumption) ?_ | refine zLen rfl (hv.len E_s_string) ?_ | refine WL.op (o := .index _ _ _) (op_indexS rfl rfl E_string (by decide) hidx) ?_ | refine WL.op (o := .binOp .leq _ _ _ _) (op_leqS rfl rfl) ?_)
  refine WL.op (op_load rfl (hb.load1 E_string rfl)) ?_
  (repeat first | refine zSeq ?_ | refine zReg ?_ | refine zBlk ?_ | refine zSkp ?_ | refine zExt ?_ | refine zNil rfl ?_ | refine zGet rfl ?_ | refine zOn rfl rfl ?_ | refine zOff rfl rfl ?_ | refine zU rfl ?_ | refine zOn rfl (by assumption) ?_ | refine zOff rfl (by assumption) ?_ | refine zMov rfl ?_ | refine zAsg rfl ?_ | refine zXtr rfl ?_ | refine zPT rfl rfl rfl ?_ | refine zPF rfl rfl rfl ?_ | refine zPT rfl (by assumption) rfl ?_ | refine zPF rfl (by assumption) rfl ?_ | refine zLss rfl rfl ?_ | refine zLeq rfl rfl ?_ | refine zGtr rfl rfl ?_ | refine zGeq rfl rfl ?_ | refine zEql rfl rfl ?_ | refine zNeq rfl rfl ?_ | refine zAdd rfl rfl (by omega) ?_ | refine zSub rfl rfl (by omega) ?_ | refine zLenS rfl E_string ?_ | refine zNot rfl ?_ | refine zEqS rfl rfl ?_ | refine zNeS rfl rfl ?_ | refine zT rfl rfl ?_ | refine zF rfl rfl ?_ | refine zT rfl (by assumption) ?_ | refine zF rfl (by assumption) ?_ | refine zLen rfl (hv.len E_s_string) ?_ | refine WL.op (o := .index _ _ _) (op_indexS rfl rfl E_string (by decide) hidx) ?_ | refine WL.op (o := .binOp .leq _ _ _ _) (op_leqS rfl rfl) ?_)
  refine WL.call rfl rfl is_strings_HasPrefix (prefix_c hO) ?_
  (repeat first | refine zSeq ?_ | refine zReg ?_ | refine zBlk ?_ | refine zSkp ?_ | refine zExt ?_ | refine zNil rfl ?_ | refine zGet rfl ?_ | refine zOn rfl rfl ?_ | refine zOff rfl rfl ?_ | refine zU rfl ?_ | refine zOn rfl (by assumption) ?_ | refine zOff rfl (by assumption) ?_ | refine zMov rfl ?_ | refine zAsg rfl ?_ | refine zXtr rfl ?_ | refine zPT rfl rfl rfl ?_ | refine zPF rfl rfl rfl ?_ | refine zPT rfl (by assumption) rfl ?_ | refine zPF rfl (by assumption) rfl ?_ | refine zLss rfl rfl ?_ | refine zLeq rfl rfl ?_ | refine zGtr rfl rfl ?_ | refine zGeq rfl rfl ?_ | refine zEql rfl rfl ?_ | refine zNeq rfl rfl ?_ | refine zAdd rfl rfl (by omega) ?_ | refine zSub rfl rfl (by omega) ?_ | refine zLenS rfl E_string ?_ | refine zNot rfl ?_ | refine zEqS rfl rfl ?_ | refine zNeS rfl rfl ?_ | refine zT rfl rfl ?_ | refine zF rfl rfl ?_ | refine zT rfl (by assumption) ?_ | refine zF rfl (by assumption) ?_ | refine zLen rfl (hv.len E_s_string) ?_ | refine WL.op (o := .index _ _ _) (op_indexS rfl rfl E_string (by decide) hidx) ?_ | refine WL.op (o := .binOp .leq _ _ _ _) (op_leqS rfl rfl) ?_)
  exact WP.ret ⟨.inr rfl, _, rfl, rfl, rfl⟩
def idxI (p : ByteArray → Bool) (strs : List ByteArray) : Int := match strs.findIdx? p with
  | some i => i
  | none => -1
theorem indexFunc_c (hO : ∀ f vs H, f ≠ 8 → O f vs H = none) {v : Value} {strs : List ByteArray} (hv : Sl H v 1 strs.length (strs.map .string)) {f : FuncId} {cap : Array Value} {p : ByteArray → Bool} (hf : (V.F f).isSome = true) (hp : ∀ x, Lc V O f ([.string x] ++ cap.toList) H (.bool (p x)) H) :
    Lc V O F_slices_IndexFunc_s_string_string [v, .func (.func f) #[] cap] H (.int .i64 (idxI p strs)) H := Lc.of_eq <| by
  have hlen := hv.2.1
  refine Lc.slices_IndexFunc_s_string_string (hO _ _ _ (by decide)) (Nat.le_of_ble_eq_true rfl) (by kernel_rfl) ?_
  unfold P_slices_IndexFunc_s_string_string
  (repeat first | refine zSeq ?_ | refine zReg ?_ | refine zBlk ?_ | refine zSkp ?_ | refine zExt ?_ | refine zNil rfl ?_ | refine zGet rfl ?_ | refine zOn rfl rfl ?_ | refine zOff rfl rfl ?_ | refine zU rfl ?_ | refine zOn rfl (by assumption) ?_ | refine zOff rfl (by assumption) ?_ | refine zMov rfl ?_ | refine zAsg rfl ?_ | refine zXtr rfl ?_ | refine zPT rfl rfl rfl ?_ | refine zPF rfl rfl rfl ?_ | refine zPT rfl (by assumption) rfl ?_ | refine zPF rfl (by assumption) rfl ?_ | refine zLss rfl rfl ?_ | refine zLeq rfl rfl ?_ | refine zGtr rfl rfl ?_ | refine zGeq rfl rfl ?_ | refine zEql rfl rfl ?_ | refine zNeq rfl rfl ?_ | refine zAdd rfl rfl (by omega) ?_ | refine zSub rfl rfl (by omega) ?_ | refine zLenS rfl E_string ?_ | refine zNot rfl ?_ | refine zEqS rfl rfl ?_ | refine zNeS rfl rfl ?_ | refine zT rfl rfl ?_ | refine zF rfl rfl ?_ | refine zT rfl (by assumption) ?_ | refine zF rfl (by assumption) ?_ | refine zLen rfl (hv.len E_s_string) ?_ | refine WL.op (o := .index _ _ _) (op_indexS rfl rfl E_string (by decide) hidx) ?_ | refine WL.op (o := .binOp .leq _ _ _ _) (op_leqS rfl rfl) ?_)
  refine WP.loopH (σ := Nat) (fun i => [(0, v), (1, .func (.func f) #[] cap), (7, .int .i64 strs.length), (8, .int .i64 i)]) (fun i H' => H = H' ∧ i ≤ strs.length ∧ ∀ j (h : j < strs.length), j < i → p strs[j] = false) (fun i => strs.length - i) 0 ⟨rfl, by simp, fun j _ h => absurd h (by omega)⟩ ⟨rfl, rfl, rfl, rfl, trivial⟩ ?_
  rintro i _ ⟨rfl, hi, hn⟩
  rcases Nat.lt_or_ge i strs.length with h | h
  · have hd : decide ((i : Int) < strs.length) = true := decide_eq_true (by omega)
    obtain ⟨b, off, ha, hr⟩ := hv.at1 E_s_string E_string rfl (kd := .i64) (i := i) (by omega) (c := .string strs[i]) (by simp [h])
    (repeat first | refine zSeq ?_ | refine zReg ?_ | refine zBlk ?_ | refine zSkp ?_ | refine zExt ?_ | refine zNil rfl ?_ | refine zGet rfl ?_ | refine zOn rfl rfl ?_ | refine zOff rfl rfl ?_ | refine zU rfl ?_ | refine zOn rfl (by assumption) ?_ | refine zOff rfl (by assumption) ?_ | refine zMov rfl ?_ | refine zAsg rfl ?_ | refine zXtr rfl ?_ | refine zPT rfl rfl rfl ?_ | refine zPF rfl rfl rfl ?_ | refine zPT rfl (by assumption) rfl ?_ | refine zPF rfl (by assumption) rfl ?_ | refine zLss rfl rfl ?_ | refine zLeq rfl rfl ?_ | refine zGtr rfl rfl ?_ | refine zGeq rfl rfl ?_ | refine zEql rfl rfl ?_ | refine zNeq rfl rfl ?_ | refine zAdd rfl rfl (by omega) ?_ | refine zSub rfl rfl (by omega) ?_ | refine zLenS rfl E_string ?_ | refine zNot rfl ?_ | refine zEqS rfl rfl ?_ | refine zNeS rfl rfl ?_ | refine zT rfl rfl ?_ | refine zF rfl rfl ?_ | refine zT rfl (by assumption) ?_ | refine zF rfl (by assumption) ?_ | refine zLen rfl (hv.len E_s_string) ?_ | refine WL.op (o := .index _ _ _) (op_indexS rfl rfl E_string (by decide) hidx) ?_ | refine WL.op (o := .binOp .leq _ _ _ _) (op_leqS rfl rfl) ?_)
    refine WL.op (op_indexAddr rfl rfl ha) ?_
    refine WL.op (op_load rfl (hr.load1 E_string rfl)) ?_
    refine WL.call rfl rfl hf (hp _) ?_
    cases he : p strs[i]
    · (repeat first | refine zSeq ?_ | refine zReg ?_ | refine zBlk ?_ | refine zSkp ?_ | refine zExt ?_ | refine zNil rfl ?_ | refine zGet rfl ?_ | refine zOn rfl rfl ?_ | refine zOff rfl rfl ?_ | refine zU rfl ?_ | refine zOn rfl (by assumption) ?_ | refine zOff rfl (by assumption) ?_ | refine zMov rfl ?_ | refine zAsg rfl ?_ | refine zXtr rfl ?_ | refine zPT rfl rfl rfl ?_ | refine zPF rfl rfl rfl ?_ | refine zPT rfl (by assumption) rfl ?_ | refine zPF rfl (by assumption) rfl ?_ | refine zLss rfl rfl ?_ | refine zLeq rfl rfl ?_ | refine zGtr rfl rfl ?_ | refine zGeq rfl rfl ?_ | refine zEql rfl rfl ?_ | refine zNeq rfl rfl ?_ | refine zAdd rfl rfl (by omega) ?_ | refine zSub rfl rfl (by omega) ?_ | refine zLenS rfl E_string ?_ | refine zNot rfl ?_ | refine zEqS rfl rfl ?_ | refine zNeS rfl rfl ?_ | refine zT rfl rfl ?_ | refine zF rfl rfl ?_ | refine zT rfl (by assumption) ?_ | refine zF rfl (by assumption) ?_ | refine zLen rfl (hv.len E_s_string) ?_ | refine WL.op (o := .index _ _ _) (op_indexS rfl rfl E_string (by decide) hidx) ?_ | refine WL.op (o := .binOp .leq _ _ _ _) (op_leqS rfl rfl) ?_)
      refine ⟨i + 1, ⟨rfl, by omega, fun j hj hji => ?_⟩, by omega, rfl, rfl, rfl, rfl, trivial⟩
      by_cases e : j = i
      · subst e; exact he
      · exact hn j hj (by omega)
    · (repeat first | refine zSeq ?_ | refine zReg ?_ | refine zBlk ?_ | refine zSkp ?_ | refine zExt ?_ | refine zNil rfl ?_ | refine zGet rfl ?_ | refine zOn rfl rfl ?_ | refine zOff rfl rfl ?_ | refine zU rfl ?_ | refine zOn rfl (by assumption) ?_ | refine zOff rfl (by assumption) ?_ | refine zMov rfl ?_ | refine zAsg rfl ?_ | refine zXtr rfl ?_ | refine zPT rfl rfl rfl ?_ | refine zPF rfl rfl rfl ?_ | refine zPT rfl (by assumption) rfl ?_ | refine zPF rfl (by assumption) rfl ?_ | refine zLss rfl rfl ?_ | refine zLeq rfl rfl ?_ | refine zGtr rfl rfl ?_ | refine zGeq rfl rfl ?_ | refine zEql rfl rfl ?_ | refine zNeq rfl rfl ?_ | refine zAdd rfl rfl (by omega) ?_ | refine zSub rfl rfl (by omega) ?_ | refine zLenS rfl E_string ?_ | refine zNot rfl ?_ | refine zEqS rfl rfl ?_ | refine zNeS rfl rfl ?_ | refine zT rfl rfl ?_ | refine zF rfl rfl ?_ | refine zT rfl (by assumption) ?_ | refine zF rfl (by assumption) ?_ | refine zLen rfl (hv.len E_s_string) ?_ | refine WL.op (o := .index _ _ _) (op_indexS rfl rfl E_string (by decide) hidx) ?_ | refine WL.op (o := .binOp .leq _ _ _ _) (op_leqS rfl rfl) ?_)
      refine WP.ret ⟨.inr rfl, _, rfl, ?_, rfl⟩
      have : strs.findIdx? p = some i := by
        rw [List.findIdx?_eq_some_iff_getElem]
        exact ⟨h, he, fun j hj => by simp [hn j (by omega) hj]⟩
      rw [idxI, this]; rfl
  · have hd : decide ((i : Int) < strs.length) = false := decide_eq_false (by omega)
    (repeat first | refine zSeq ?_ | refine zReg ?_ | refine zBlk ?_ | refine zSkp ?_ | refine zExt ?_ | refine zNil rfl ?_ | refine zGet rfl ?_ | refine zOn rfl rfl ?_ | refine zOff rfl rfl ?_ | refine zU rfl ?_ | refine zOn rfl (by assumption) ?_ | refine zOff rfl (by assumption) ?_ | refine zMov rfl ?_ | refine zAsg rfl ?_ | refine zXtr rfl ?_ | refine zPT rfl rfl rfl ?_ | refine zPF rfl rfl rfl ?_ | refine zPT rfl (by assumption) rfl ?_ | refine zPF rfl (by assumption) rfl ?_ | refine zLss rfl rfl ?_ | refine zLeq rfl rfl ?_ | refine zGtr rfl rfl ?_ | refine zGeq rfl rfl ?_ | refine zEql rfl rfl ?_ | refine zNeq rfl rfl ?_ | refine zAdd rfl rfl (by omega) ?_ | refine zSub rfl rfl (by omega) ?_ | refine zLenS rfl E_string ?_ | refine zNot rfl ?_ | refine zEqS rfl rfl ?_ | refine zNeS rfl rfl ?_ | refine zT rfl rfl ?_ | refine zF rfl rfl ?_ | refine zT rfl (by assumption) ?_ | refine zF rfl (by assumption) ?_ | refine zLen rfl (hv.len E_s_string) ?_ | refine WL.op (o := .index _ _ _) (op_indexS rfl rfl E_string (by decide) hidx) ?_ | refine WL.op (o := .binOp .leq _ _ _ _) (op_leqS rfl rfl) ?_)
    refine WP.ret ⟨.inr rfl, _, rfl, ?_, rfl⟩
    have : strs.findIdx? p = none := by
      rw [List.findIdx?_eq_none_iff_findIdx_eq, List.findIdx_eq_length]
      intro x hx
      obtain ⟨j, hj, rfl⟩ := List.mem_iff_getElem.1 hx
      simp [hn j hj (by omega)]
    rw [idxI, this]; rfl
def signs : List ByteArray := [⟨⟨[124, 124]⟩⟩, ⟨⟨[38, 38]⟩⟩, ⟨⟨[60, 61]⟩⟩, ⟨⟨[62, 61]⟩⟩, ⟨⟨[61, 61]⟩⟩, ⟨⟨[33, 61]⟩⟩, ⟨⟨[60]⟩⟩, ⟨⟨[62]⟩⟩, ⟨⟨[61]⟩⟩, ⟨⟨[43]⟩⟩, ⟨⟨[45]⟩⟩, ⟨⟨[42]⟩⟩, ⟨⟨[47]⟩⟩, ⟨⟨[37]⟩⟩, ⟨⟨[33]⟩⟩, ⟨⟨[40]⟩⟩, ⟨⟨[41]⟩⟩, ⟨⟨[123]⟩⟩, ⟨⟨[125]⟩⟩, ⟨⟨[91]⟩⟩, ⟨⟨[93]⟩⟩, ⟨⟨[59]⟩⟩, ⟨⟨[44]⟩⟩]
def HasSigns (H : AH) : Prop := 0 < H.next ∧ ∃ et g v, H.obj 0 = .row et (signs.map .string) .ro g v
theorem HasSigns.fr {H' : AH} (h : HasSigns H) (k : Fr H H') : HasSigns H' := by
  obtain ⟨h0, et, g, v, h1⟩ := h
  exact ⟨Nat.lt_of_lt_of_le h0 k.1, et, g, v, by rw [k.2.1 0 h0]; exact h1⟩
theorem HasSigns.sl (h : HasSigns H) : Sl H (.slice (some ⟨0, 0, none⟩) 23 23) 1 signs.length (signs.map .string) := by
  obtain ⟨h0, et, g, v, h1⟩ := h
  exact ⟨rfl, by decide, .inr ⟨0, 0, 23, rfl, fun _ => Rd.ro h0 h1⟩⟩
def digL (l : List UInt8) : Nat := (l.takeWhile fun b => dig b.toNat).length
def tokB (s : ByteArray) : Nat × Nat × Bool :=
  if 0 < wordL s.data.toList then (1, wordL s.data.toList, decide (wordL s.data.toList ≤ 32))
  else if 0 < digL s.data.toList then (2, digL s.data.toList, numB (s.extract 0 (digL s.data.toList)) && (decide (digL s.data.toList = s.size) || !let_ ((s.data.toList.getD (digL s.data.toList) 0).toNat)))
  else match signs.find? (pre s) with
    | some x => (3, x.size, true)
    | none => (0, 0, false)
theorem slice_signs {l : SL} {E : List Value} : aopG V (gS V.nG E l) H (.slice 51 (.global 0) none none none) = some (.slice (some ⟨0, 0, none⟩) 23 23, H) := by kernel_rfl
theorem at_signs {i : Nat} (h : i < 23) : aIndex V.E 51 (.pointer (some ⟨0, 0, none⟩)) (.int .i64 i) = some (.pointer (some ⟨0, i, none⟩)) := by
  simp only [aIndex, E_23_string, E_string]
  rw [if_pos ⟨by omega, by omega⟩]; simp
theorem token_c (hO : ∀ f vs H, f ≠ 8 → O f vs H = none) (hS : HasSigns H) {s : ByteArray} (hs : s.size ≤ maxLen) :
    ∃ H', Lc V O F_lex_token [.string s] H (.tuple #[.int .u8 (tokB s).1, .int .i64 (tokB s).2.1, .bool (tokB s).2.2]) H' ∧ Fr H H' := by
  have hsz : s.size = s.data.toList.length := rfl
  have hmx : maxLen = 9223372036854775807 := rfl
  have key : ∃ u H', Lc V O F_lex_token [.string s] H u H' ∧ (u = .tuple #[.int .u8 (tokB s).1, .int .i64 (tokB s).2.1, .bool (tokB s).2.2] ∧ Fr H H') := by
    have fin : ∀ (a b : Nat) (c : Bool), tokB s = (a, b, c) → (resOf [.int .u8 a, .int .i64 b, .bool c] = .tuple #[.int .u8 (tokB s).1, .int .i64 (tokB s).2.1, .bool (tokB s).2.2] ∧ Fr H (H.alloc (.row 9 [.string s] .exact 0 0))) := fun a b c h => by rw [h]; exact ⟨rfl, .alloc _ _⟩
    have hb : Rd (H.alloc (.row 9 [.string s] .exact 0 0)) H.next 0 1 [.string s] := Rd.new rfl
    have hS' : HasSigns (H.alloc (.row 9 [.string s] .exact 0 0)) := hS.fr (.alloc _ _)
    have hw := fun H => word_c (H := H) hO hs
    have hd := fun H => run_c (H := H) (fun vs H => hO 31 vs H (by decide)) (f := 33) (by kernel_rfl) (p := fun b => dig b.toNat) (fun c => digit_c (fun vs H => hO 33 vs H (by decide))) hs
    refine Lc.lex_token (hO _ _ _ (by decide)) (Nat.le_of_ble_eq_true rfl) (by kernel_rfl) ?_
    unfold P_lex_token
    refine WP.seq ?_
    refine WP.reg ?_
    refine WL.op (o := .box _ _) rfl ?_
    (repeat first | refine zSeq ?_ | refine zReg ?_ | refine zBlk ?_ | refine zSkp ?_ | refine zExt ?_ | refine zNil rfl ?_ | refine zGet rfl ?_ | refine zOn rfl rfl ?_ | refine zOff rfl rfl ?_ | refine zU rfl ?_ | refine zOn rfl (by assumption) ?_ | refine zOff rfl (by assumption) ?_ | refine zMov rfl ?_ | refine zAsg rfl ?_ | refine zXtr rfl ?_ | refine zPT rfl rfl rfl ?_ | refine zPF rfl rfl rfl ?_ | refine zPT rfl (by assumption) rfl ?_ | refine zPF rfl (by assumption) rfl ?_ | refine zLss rfl rfl ?_ | refine zLeq rfl rfl ?_ | refine zGtr rfl rfl ?_ | refine zGeq rfl rfl ?_ | refine zEql rfl rfl ?_ | refine zNeq rfl rfl ?_ | refine zAdd rfl rfl (by omega) ?_ | refine zSub rfl rfl (by omega) ?_ | refine zLenS rfl E_string ?_ | refine zNot rfl ?_ | refine zEqS rfl rfl ?_ | refine zNeS rfl rfl ?_ | refine zT rfl rfl ?_ | refine zF rfl rfl ?_ | refine zT rfl (by assumption) ?_ | refine zF rfl (by assumption) ?_ | refine zLen rfl (hv.len E_s_string) ?_ | refine WL.op (o := .index _ _ _) (op_indexS rfl rfl E_string (by decide) hidx) ?_ | refine WL.op (o := .binOp .leq _ _ _ _) (op_leqS rfl rfl) ?_)
    refine WL.op (op_load rfl (hb.load1 E_string rfl)) ?_
    refine WL.call rfl rfl is_lex_word (hw _) ?_
    rcases Nat.lt_or_ge 0 (wordL s.data.toList) with h1 | h1
    · have g1 : decide ((wordL s.data.toList : Int) > 0) = true := decide_eq_true (by omega)
      (repeat first | refine zSeq ?_ | refine zReg ?_ | refine zBlk ?_ | refine zSkp ?_ | refine zExt ?_ | refine zNil rfl ?_ | refine zGet rfl ?_ | refine zOn rfl rfl ?_ | refine zOff rfl rfl ?_ | refine zU rfl ?_ | refine zOn rfl (by assumption) ?_ | refine zOff rfl (by assumption) ?_ | refine zMov rfl ?_ | refine zAsg rfl ?_ | refine zXtr rfl ?_ | refine zPT rfl rfl rfl ?_ | refine zPF rfl rfl rfl ?_ | refine zPT rfl (by assumption) rfl ?_ | refine zPF rfl (by assumption) rfl ?_ | refine zLss rfl rfl ?_ | refine zLeq rfl rfl ?_ | refine zGtr rfl rfl ?_ | refine zGeq rfl rfl ?_ | refine zEql rfl rfl ?_ | refine zNeq rfl rfl ?_ | refine zAdd rfl rfl (by omega) ?_ | refine zSub rfl rfl (by omega) ?_ | refine zLenS rfl E_string ?_ | refine zNot rfl ?_ | refine zEqS rfl rfl ?_ | refine zNeS rfl rfl ?_ | refine zT rfl rfl ?_ | refine zF rfl rfl ?_ | refine zT rfl (by assumption) ?_ | refine zF rfl (by assumption) ?_ | refine zLen rfl (hv.len E_s_string) ?_ | refine WL.op (o := .index _ _ _) (op_indexS rfl rfl E_string (by decide) hidx) ?_ | refine WL.op (o := .binOp .leq _ _ _ _) (op_leqS rfl rfl) ?_)
      refine WP.ret ⟨.inr rfl, _, rfl, fin _ _ _ ?_⟩
      rw [tokB, if_pos h1]
      have e : decide ((wordL s.data.toList : Int) ≤ 32) = decide (wordL s.data.toList ≤ 32) := by rw [decide_eq_decide]; omega
      rw [e]
    have g1 : decide ((wordL s.data.toList : Int) > 0) = false := decide_eq_false (by omega)
    (repeat first | refine zSeq ?_ | refine zReg ?_ | refine zBlk ?_ | refine zSkp ?_ | refine zExt ?_ | refine zNil rfl ?_ | refine zGet rfl ?_ | refine zOn rfl rfl ?_ | refine zOff rfl rfl ?_ | refine zU rfl ?_ | refine zOn rfl (by assumption) ?_ | refine zOff rfl (by assumption) ?_ | refine zMov rfl ?_ | refine zAsg rfl ?_ | refine zXtr rfl ?_ | refine zPT rfl rfl rfl ?_ | refine zPF rfl rfl rfl ?_ | refine zPT rfl (by assumption) rfl ?_ | refine zPF rfl (by assumption) rfl ?_ | refine zLss rfl rfl ?_ | refine zLeq rfl rfl ?_ | refine zGtr rfl rfl ?_ | refine zGeq rfl rfl ?_ | refine zEql rfl rfl ?_ | refine zNeq rfl rfl ?_ | refine zAdd rfl rfl (by omega) ?_ | refine zSub rfl rfl (by omega) ?_ | refine zLenS rfl E_string ?_ | refine zNot rfl ?_ | refine zEqS rfl rfl ?_ | refine zNeS rfl rfl ?_ | refine zT rfl rfl ?_ | refine zF rfl rfl ?_ | refine zT rfl (by assumption) ?_ | refine zF rfl (by assumption) ?_ | refine zLen rfl (hv.len E_s_string) ?_ | refine WL.op (o := .index _ _ _) (op_indexS rfl rfl E_string (by decide) hidx) ?_ | refine WL.op (o := .binOp .leq _ _ _ _) (op_leqS rfl rfl) ?_)
    refine WL.op (op_load rfl (hb.load1 E_string rfl)) ?_
    refine WL.call rfl rfl is_lex_run (hd _) ?_
    rcases Nat.lt_or_ge 0 (digL s.data.toList) with h2 | h2
    · have g2 : decide (((s.data.toList.takeWhile fun b => dig b.toNat).length : Int) > 0) = true := decide_eq_true (by unfold digL at h2; omega)
      have hle : digL s.data.toList ≤ s.size := (List.takeWhile_sublist _).length_le
      (repeat first | refine zSeq ?_ | refine zReg ?_ | refine zBlk ?_ | refine zSkp ?_ | refine zExt ?_ | refine zNil rfl ?_ | refine zGet rfl ?_ | refine zOn rfl rfl ?_ | refine zOff rfl rfl ?_ | refine zU rfl ?_ | refine zOn rfl (by assumption) ?_ | refine zOff rfl (by assumption) ?_ | refine zMov rfl ?_ | refine zAsg rfl ?_ | refine zXtr rfl ?_ | refine zPT rfl rfl rfl ?_ | refine zPF rfl rfl rfl ?_ | refine zPT rfl (by assumption) rfl ?_ | refine zPF rfl (by assumption) rfl ?_ | refine zLss rfl rfl ?_ | refine zLeq rfl rfl ?_ | refine zGtr rfl rfl ?_ | refine zGeq rfl rfl ?_ | refine zEql rfl rfl ?_ | refine zNeq rfl rfl ?_ | refine zAdd rfl rfl (by omega) ?_ | refine zSub rfl rfl (by omega) ?_ | refine zLenS rfl E_string ?_ | refine zNot rfl ?_ | refine zEqS rfl rfl ?_ | refine zNeS rfl rfl ?_ | refine zT rfl rfl ?_ | refine zF rfl rfl ?_ | refine zT rfl (by assumption) ?_ | refine zF rfl (by assumption) ?_ | refine zLen rfl (hv.len E_s_string) ?_ | refine WL.op (o := .index _ _ _) (op_indexS rfl rfl E_string (by decide) hidx) ?_ | refine WL.op (o := .binOp .leq _ _ _ _) (op_leqS rfl rfl) ?_)
      refine WL.op (op_load rfl (hb.load1 E_string rfl)) ?_
      (repeat first | refine zSeq ?_ | refine zReg ?_ | refine zBlk ?_ | refine zSkp ?_ | refine zExt ?_ | refine zNil rfl ?_ | refine zGet rfl ?_ | refine zOn rfl rfl ?_ | refine zOff rfl rfl ?_ | refine zU rfl ?_ | refine zOn rfl (by assumption) ?_ | refine zOff rfl (by assumption) ?_ | refine zMov rfl ?_ | refine zAsg rfl ?_ | refine zXtr rfl ?_ | refine zPT rfl rfl rfl ?_ | refine zPF rfl rfl rfl ?_ | refine zPT rfl (by assumption) rfl ?_ | refine zPF rfl (by assumption) rfl ?_ | refine zLss rfl rfl ?_ | refine zLeq rfl rfl ?_ | refine zGtr rfl rfl ?_ | refine zGeq rfl rfl ?_ | refine zEql rfl rfl ?_ | refine zNeq rfl rfl ?_ | refine zAdd rfl rfl (by omega) ?_ | refine zSub rfl rfl (by omega) ?_ | refine zLenS rfl E_string ?_ | refine zNot rfl ?_ | refine zEqS rfl rfl ?_ | refine zNeS rfl rfl ?_ | refine zT rfl rfl ?_ | refine zF rfl rfl ?_ | refine zT rfl (by assumption) ?_ | refine zF rfl (by assumption) ?_ | refine zLen rfl (hv.len E_s_string) ?_ | refine WL.op (o := .index _ _ _) (op_indexS rfl rfl E_string (by decide) hidx) ?_ | refine WL.op (o := .binOp .leq _ _ _ _) (op_leqS rfl rfl) ?_)
      refine WL.op (op_sliceH rfl rfl E_string (by omega) (by unfold digL at hle; omega)) ?_
      refine WL.call rfl rfl is_lex_number (number_c hO (s := s.extract 0 (digL s.data.toList)) (by simp; omega)) ?_
      have tk : tokB s = (2, digL s.data.toList, numB (s.extract 0 (digL s.data.toList)) && (decide (digL s.data.toList = s.size) || !let_ ((s.data.toList.getD (digL s.data.toList) 0).toNat))) := by rw [tokB, if_neg (by omega), if_pos h2]
      cases hN : numB (s.extract 0 (digL s.data.toList))
      · (repeat first | refine zSeq ?_ | refine zReg ?_ | refine zBlk ?_ | refine zSkp ?_ | refine zExt ?_ | refine zNil rfl ?_ | refine zGet rfl ?_ | refine zOn rfl rfl ?_ | refine zOff rfl rfl ?_ | refine zU rfl ?_ | refine zOn rfl (by assumption) ?_ | refine zOff rfl (by assumption) ?_ | refine zMov rfl ?_ | refine zAsg rfl ?_ | refine zXtr rfl ?_ | refine zPT rfl rfl rfl ?_ | refine zPF rfl rfl rfl ?_ | refine zPT rfl (by assumption) rfl ?_ | refine zPF rfl (by assumption) rfl ?_ | refine zLss rfl rfl ?_ | refine zLeq rfl rfl ?_ | refine zGtr rfl rfl ?_ | refine zGeq rfl rfl ?_ | refine zEql rfl rfl ?_ | refine zNeq rfl rfl ?_ | refine zAdd rfl rfl (by omega) ?_ | refine zSub rfl rfl (by omega) ?_ | refine zLenS rfl E_string ?_ | refine zNot rfl ?_ | refine zEqS rfl rfl ?_ | refine zNeS rfl rfl ?_ | refine zT rfl rfl ?_ | refine zF rfl rfl ?_ | refine zT rfl (by assumption) ?_ | refine zF rfl (by assumption) ?_ | refine zLen rfl (hv.len E_s_string) ?_ | refine WL.op (o := .index _ _ _) (op_indexS rfl rfl E_string (by decide) hidx) ?_ | refine WL.op (o := .binOp .leq _ _ _ _) (op_leqS rfl rfl) ?_)
        exact WP.ret ⟨.inr rfl, _, rfl, fin 2 (digL s.data.toList) false (by rw [tk, hN]; rfl)⟩
      · (repeat first | refine zSeq ?_ | refine zReg ?_ | refine zBlk ?_ | refine zSkp ?_ | refine zExt ?_ | refine zNil rfl ?_ | refine zGet rfl ?_ | refine zOn rfl rfl ?_ | refine zOff rfl rfl ?_ | refine zU rfl ?_ | refine zOn rfl (by assumption) ?_ | refine zOff rfl (by assumption) ?_ | refine zMov rfl ?_ | refine zAsg rfl ?_ | refine zXtr rfl ?_ | refine zPT rfl rfl rfl ?_ | refine zPF rfl rfl rfl ?_ | refine zPT rfl (by assumption) rfl ?_ | refine zPF rfl (by assumption) rfl ?_ | refine zLss rfl rfl ?_ | refine zLeq rfl rfl ?_ | refine zGtr rfl rfl ?_ | refine zGeq rfl rfl ?_ | refine zEql rfl rfl ?_ | refine zNeq rfl rfl ?_ | refine zAdd rfl rfl (by omega) ?_ | refine zSub rfl rfl (by omega) ?_ | refine zLenS rfl E_string ?_ | refine zNot rfl ?_ | refine zEqS rfl rfl ?_ | refine zNeS rfl rfl ?_ | refine zT rfl rfl ?_ | refine zF rfl rfl ?_ | refine zT rfl (by assumption) ?_ | refine zF rfl (by assumption) ?_ | refine zLen rfl (hv.len E_s_string) ?_ | refine WL.op (o := .index _ _ _) (op_indexS rfl rfl E_string (by decide) hidx) ?_ | refine WL.op (o := .binOp .leq _ _ _ _) (op_leqS rfl rfl) ?_)
        refine WL.op (op_load rfl (hb.load1 E_string rfl)) ?_
        rcases Nat.lt_or_ge (digL s.data.toList) s.size with h3 | h3
        · have g4 : (((s.data.toList.takeWhile fun b => dig b.toNat).length : Int) == s.size) = false := by simp only [beq_eq_false_iff_ne]; unfold digL at h3; omega
          have hx : s.data.toList[((s.data.toList.takeWhile fun b => dig b.toNat).length : Int).toNat]? = some (s.data.toList.getD (digL s.data.toList) 0) := by
            have : ((s.data.toList.takeWhile fun b => dig b.toNat).length : Int).toNat = digL s.data.toList := rfl
            rw [this, List.getD_eq_getElem?_getD, List.getElem?_eq_getElem (by omega)]; rfl
          (repeat first | refine zSeq ?_ | refine zReg ?_ | refine zBlk ?_ | refine zSkp ?_ | refine zExt ?_ | refine zNil rfl ?_ | refine zGet rfl ?_ | refine zOn rfl rfl ?_ | refine zOff rfl rfl ?_ | refine zU rfl ?_ | refine zOn rfl (by assumption) ?_ | refine zOff rfl (by assumption) ?_ | refine zMov rfl ?_ | refine zAsg rfl ?_ | refine zXtr rfl ?_ | refine zPT rfl rfl rfl ?_ | refine zPF rfl rfl rfl ?_ | refine zPT rfl (by assumption) rfl ?_ | refine zPF rfl (by assumption) rfl ?_ | refine zLss rfl rfl ?_ | refine zLeq rfl rfl ?_ | refine zGtr rfl rfl ?_ | refine zGeq rfl rfl ?_ | refine zEql rfl rfl ?_ | refine zNeq rfl rfl ?_ | refine zAdd rfl rfl (by omega) ?_ | refine zSub rfl rfl (by omega) ?_ | refine zLenS rfl E_string ?_ | refine zNot rfl ?_ | refine zEqS rfl rfl ?_ | refine zNeS rfl rfl ?_ | refine zT rfl rfl ?_ | refine zF rfl rfl ?_ | refine zT rfl (by assumption) ?_ | refine zF rfl (by assumption) ?_ | refine zLen rfl (hv.len E_s_string) ?_ | refine WL.op (o := .index _ _ _) (op_indexS rfl rfl E_string (by decide) hidx) ?_ | refine WL.op (o := .binOp .leq _ _ _ _) (op_leqS rfl rfl) ?_)
          refine WL.op (op_load rfl (hb.load1 E_string rfl)) ?_
          (repeat first | refine zSeq ?_ | refine zReg ?_ | refine zBlk ?_ | refine zSkp ?_ | refine zExt ?_ | refine zNil rfl ?_ | refine zGet rfl ?_ | refine zOn rfl rfl ?_ | refine zOff rfl rfl ?_ | refine zU rfl ?_ | refine zOn rfl (by assumption) ?_ | refine zOff rfl (by assumption) ?_ | refine zMov rfl ?_ | refine zAsg rfl ?_ | refine zXtr rfl ?_ | refine zPT rfl rfl rfl ?_ | refine zPF rfl rfl rfl ?_ | refine zPT rfl (by assumption) rfl ?_ | refine zPF rfl (by assumption) rfl ?_ | refine zLss rfl rfl ?_ | refine zLeq rfl rfl ?_ | refine zGtr rfl rfl ?_ | refine zGeq rfl rfl ?_ | refine zEql rfl rfl ?_ | refine zNeq rfl rfl ?_ | refine zAdd rfl rfl (by omega) ?_ | refine zSub rfl rfl (by omega) ?_ | refine zLenS rfl E_string ?_ | refine zNot rfl ?_ | refine zEqS rfl rfl ?_ | refine zNeS rfl rfl ?_ | refine zT rfl rfl ?_ | refine zF rfl rfl ?_ | refine zT rfl (by assumption) ?_ | refine zF rfl (by assumption) ?_ | refine zLen rfl (hv.len E_s_string) ?_ | refine WL.op (o := .index _ _ _) (op_indexS rfl rfl E_string (by decide) hidx) ?_ | refine WL.op (o := .binOp .leq _ _ _ _) (op_leqS rfl rfl) ?_)
          refine WL.op (op_indexS rfl rfl E_string (by omega) hx) ?_
          (repeat first | refine zSeq ?_ | refine zReg ?_ | refine zBlk ?_ | refine zSkp ?_ | refine zExt ?_ | refine zNil rfl ?_ | refine zGet rfl ?_ | refine zOn rfl rfl ?_ | refine zOff rfl rfl ?_ | refine zU rfl ?_ | refine zOn rfl (by assumption) ?_ | refine zOff rfl (by assumption) ?_ | refine zMov rfl ?_ | refine zAsg rfl ?_ | refine zXtr rfl ?_ | refine zPT rfl rfl rfl ?_ | refine zPF rfl rfl rfl ?_ | refine zPT rfl (by assumption) rfl ?_ | refine zPF rfl (by assumption) rfl ?_ | refine zLss rfl rfl ?_ | refine zLeq rfl rfl ?_ | refine zGtr rfl rfl ?_ | refine zGeq rfl rfl ?_ | refine zEql rfl rfl ?_ | refine zNeq rfl rfl ?_ | refine zAdd rfl rfl (by omega) ?_ | refine zSub rfl rfl (by omega) ?_ | refine zLenS rfl E_string ?_ | refine zNot rfl ?_ | refine zEqS rfl rfl ?_ | refine zNeS rfl rfl ?_ | refine zT rfl rfl ?_ | refine zF rfl rfl ?_ | refine zT rfl (by assumption) ?_ | refine zF rfl (by assumption) ?_ | refine zLen rfl (hv.len E_s_string) ?_ | refine WL.op (o := .index _ _ _) (op_indexS rfl rfl E_string (by decide) hidx) ?_ | refine WL.op (o := .binOp .leq _ _ _ _) (op_leqS rfl rfl) ?_)
          refine WL.call rfl rfl is_lex_letter (letter_c (fun vs H => hO 30 vs H (by decide))) ?_
          (repeat first | refine zSeq ?_ | refine zReg ?_ | refine zBlk ?_ | refine zSkp ?_ | refine zExt ?_ | refine zNil rfl ?_ | refine zGet rfl ?_ | refine zOn rfl rfl ?_ | refine zOff rfl rfl ?_ | refine zU rfl ?_ | refine zOn rfl (by assumption) ?_ | refine zOff rfl (by assumption) ?_ | refine zMov rfl ?_ | refine zAsg rfl ?_ | refine zXtr rfl ?_ | refine zPT rfl rfl rfl ?_ | refine zPF rfl rfl rfl ?_ | refine zPT rfl (by assumption) rfl ?_ | refine zPF rfl (by assumption) rfl ?_ | refine zLss rfl rfl ?_ | refine zLeq rfl rfl ?_ | refine zGtr rfl rfl ?_ | refine zGeq rfl rfl ?_ | refine zEql rfl rfl ?_ | refine zNeq rfl rfl ?_ | refine zAdd rfl rfl (by omega) ?_ | refine zSub rfl rfl (by omega) ?_ | refine zLenS rfl E_string ?_ | refine zNot rfl ?_ | refine zEqS rfl rfl ?_ | refine zNeS rfl rfl ?_ | refine zT rfl rfl ?_ | refine zF rfl rfl ?_ | refine zT rfl (by assumption) ?_ | refine zF rfl (by assumption) ?_ | refine zLen rfl (hv.len E_s_string) ?_ | refine WL.op (o := .index _ _ _) (op_indexS rfl rfl E_string (by decide) hidx) ?_ | refine WL.op (o := .binOp .leq _ _ _ _) (op_leqS rfl rfl) ?_)
          refine WP.ret ⟨.inr rfl, _, rfl, fin 2 (digL s.data.toList) _ ?_⟩
          rw [tk, hN, decide_eq_false (by omega), Bool.true_and, Bool.false_or]
        · have g4 : (((s.data.toList.takeWhile fun b => dig b.toNat).length : Int) == s.size) = true := by simp only [beq_iff_eq]; unfold digL at h3 hle; omega
          (repeat first | refine zSeq ?_ | refine zReg ?_ | refine zBlk ?_ | refine zSkp ?_ | refine zExt ?_ | refine zNil rfl ?_ | refine zGet rfl ?_ | refine zOn rfl rfl ?_ | refine zOff rfl rfl ?_ | refine zU rfl ?_ | refine zOn rfl (by assumption) ?_ | refine zOff rfl (by assumption) ?_ | refine zMov rfl ?_ | refine zAsg rfl ?_ | refine zXtr rfl ?_ | refine zPT rfl rfl rfl ?_ | refine zPF rfl rfl rfl ?_ | refine zPT rfl (by assumption) rfl ?_ | refine zPF rfl (by assumption) rfl ?_ | refine zLss rfl rfl ?_ | refine zLeq rfl rfl ?_ | refine zGtr rfl rfl ?_ | refine zGeq rfl rfl ?_ | refine zEql rfl rfl ?_ | refine zNeq rfl rfl ?_ | refine zAdd rfl rfl (by omega) ?_ | refine zSub rfl rfl (by omega) ?_ | refine zLenS rfl E_string ?_ | refine zNot rfl ?_ | refine zEqS rfl rfl ?_ | refine zNeS rfl rfl ?_ | refine zT rfl rfl ?_ | refine zF rfl rfl ?_ | refine zT rfl (by assumption) ?_ | refine zF rfl (by assumption) ?_ | refine zLen rfl (hv.len E_s_string) ?_ | refine WL.op (o := .index _ _ _) (op_indexS rfl rfl E_string (by decide) hidx) ?_ | refine WL.op (o := .binOp .leq _ _ _ _) (op_leqS rfl rfl) ?_)
          refine WP.ret ⟨.inr rfl, _, rfl, fin 2 (digL s.data.toList) true ?_⟩
          rw [tk, hN, decide_eq_true (by omega)]; rfl
    have g2 : decide (((s.data.toList.takeWhile fun b => dig b.toNat).length : Int) > 0) = false := decide_eq_false (by unfold digL at h2; omega)
    (repeat first | refine zSeq ?_ | refine zReg ?_ | refine zBlk ?_ | refine zSkp ?_ | refine zExt ?_ | refine zNil rfl ?_ | refine zGet rfl ?_ | refine zOn rfl rfl ?_ | refine zOff rfl rfl ?_ | refine zU rfl ?_ | refine zOn rfl (by assumption) ?_ | refine zOff rfl (by assumption) ?_ | refine zMov rfl ?_ | refine zAsg rfl ?_ | refine zXtr rfl ?_ | refine zPT rfl rfl rfl ?_ | refine zPF rfl rfl rfl ?_ | refine zPT rfl (by assumption) rfl ?_ | refine zPF rfl (by assumption) rfl ?_ | refine zLss rfl rfl ?_ | refine zLeq rfl rfl ?_ | refine zGtr rfl rfl ?_ | refine zGeq rfl rfl ?_ | refine zEql rfl rfl ?_ | refine zNeq rfl rfl ?_ | refine zAdd rfl rfl (by omega) ?_ | refine zSub rfl rfl (by omega) ?_ | refine zLenS rfl E_string ?_ | refine zNot rfl ?_ | refine zEqS rfl rfl ?_ | refine zNeS rfl rfl ?_ | refine zT rfl rfl ?_ | refine zF rfl rfl ?_ | refine zT rfl (by assumption) ?_ | refine zF rfl (by assumption) ?_ | refine zLen rfl (hv.len E_s_string) ?_ | refine WL.op (o := .index _ _ _) (op_indexS rfl rfl E_string (by decide) hidx) ?_ | refine WL.op (o := .binOp .leq _ _ _ _) (op_leqS rfl rfl) ?_)
    refine WL.op slice_signs ?_
    refine WL.op (o := .makeFunc _ _ _) rfl ?_
    refine WL.call rfl rfl is_slices_IndexFunc_s_string_string (indexFunc_c hO hS'.sl is_lex_token_q1 (fun x => token1_c hO hb)) ?_
    cases hi : signs.findIdx? (pre s) with
    | none =>
      have g3 : decide (idxI (fun x => pre s x) signs < 0) = true := by rw [idxI, hi]; rfl
      (repeat first | refine zSeq ?_ | refine zReg ?_ | refine zBlk ?_ | refine zSkp ?_ | refine zExt ?_ | refine zNil rfl ?_ | refine zGet rfl ?_ | refine zOn rfl rfl ?_ | refine zOff rfl rfl ?_ | refine zU rfl ?_ | refine zOn rfl (by assumption) ?_ | refine zOff rfl (by assumption) ?_ | refine zMov rfl ?_ | refine zAsg rfl ?_ | refine zXtr rfl ?_ | refine zPT rfl rfl rfl ?_ | refine zPF rfl rfl rfl ?_ | refine zPT rfl (by assumption) rfl ?_ | refine zPF rfl (by assumption) rfl ?_ | refine zLss rfl rfl ?_ | refine zLeq rfl rfl ?_ | refine zGtr rfl rfl ?_ | refine zGeq rfl rfl ?_ | refine zEql rfl rfl ?_ | refine zNeq rfl rfl ?_ | refine zAdd rfl rfl (by omega) ?_ | refine zSub rfl rfl (by omega) ?_ | refine zLenS rfl E_string ?_ | refine zNot rfl ?_ | refine zEqS rfl rfl ?_ | refine zNeS rfl rfl ?_ | refine zT rfl rfl ?_ | refine zF rfl rfl ?_ | refine zT rfl (by assumption) ?_ | refine zF rfl (by assumption) ?_ | refine zLen rfl (hv.len E_s_string) ?_ | refine WL.op (o := .index _ _ _) (op_indexS rfl rfl E_string (by decide) hidx) ?_ | refine WL.op (o := .binOp .leq _ _ _ _) (op_leqS rfl rfl) ?_)
      refine WP.ret ⟨.inr rfl, _, rfl, fin 0 0 false ?_⟩
      have : signs.find? (pre s) = none := by
        rw [List.findIdx?_eq_none_iff] at hi
        exact List.find?_eq_none.2 fun x hx => by simp [hi x hx]
      rw [tokB, if_neg (by omega), if_neg (by omega), this]
    | some i =>
      have g3 : decide (idxI (fun x => pre s x) signs < 0) = false := by rw [idxI, hi]; exact decide_eq_false (by simp)
      (repeat first | refine zSeq ?_ | refine zReg ?_ | refine zBlk ?_ | refine zSkp ?_ | refine zExt ?_ | refine zNil rfl ?_ | refine zGet rfl ?_ | refine zOn rfl rfl ?_ | refine zOff rfl rfl ?_ | refine zU rfl ?_ | refine zOn rfl (by assumption) ?_ | refine zOff rfl (by assumption) ?_ | refine zMov rfl ?_ | refine zAsg rfl ?_ | refine zXtr rfl ?_ | refine zPT rfl rfl rfl ?_ | refine zPF rfl rfl rfl ?_ | refine zPT rfl (by assumption) rfl ?_ | refine zPF rfl (by assumption) rfl ?_ | refine zLss rfl rfl ?_ | refine zLeq rfl rfl ?_ | refine zGtr rfl rfl ?_ | refine zGeq rfl rfl ?_ | refine zEql rfl rfl ?_ | refine zNeq rfl rfl ?_ | refine zAdd rfl rfl (by omega) ?_ | refine zSub rfl rfl (by omega) ?_ | refine zLenS rfl E_string ?_ | refine zNot rfl ?_ | refine zEqS rfl rfl ?_ | refine zNeS rfl rfl ?_ | refine zT rfl rfl ?_ | refine zF rfl rfl ?_ | refine zT rfl (by assumption) ?_ | refine zF rfl (by assumption) ?_ | refine zLen rfl (hv.len E_s_string) ?_ | refine WL.op (o := .index _ _ _) (op_indexS rfl rfl E_string (by decide) hidx) ?_ | refine WL.op (o := .binOp .leq _ _ _ _) (op_leqS rfl rfl) ?_)
      rw [List.findIdx?_eq_some_iff_getElem] at hi
      obtain ⟨hlt, hpi, hpj⟩ := hi
      have hlt' : i < 23 := hlt
      have hf : signs.find? (pre s) = some signs[i] := List.find?_eq_some_iff_getElem.2 ⟨hpi, i, hlt, rfl, fun j hj => by simpa using hpj j hj⟩
      have e1 : idxI (fun x => pre s x) signs = i := by
        have : signs.findIdx? (pre s) = some i := by rw [List.findIdx?_eq_some_iff_getElem]; exact ⟨hlt, hpi, hpj⟩
        rw [idxI, this]
      have hr : Rd (H.alloc (.row 9 [.string s] .exact 0 0)) 0 i 1 [.string signs[i]] := by
        obtain ⟨h0, et, g, v, h1⟩ := hS'
        have := (Rd.ro h0 h1).at1 (i := i) (c := .string signs[i]) (by rw [List.getElem?_map, List.getElem?_eq_getElem hlt]; rfl)
        simpa using this
      rw [e1]
      refine WL.op (op_indexAddr rfl rfl (at_signs hlt')) ?_
      refine WL.op (op_load rfl (hr.load1 E_string rfl)) ?_
      (repeat first | refine zSeq ?_ | refine zReg ?_ | refine zBlk ?_ | refine zSkp ?_ | refine zExt ?_ | refine zNil rfl ?_ | refine zGet rfl ?_ | refine zOn rfl rfl ?_ | refine zOff rfl rfl ?_ | refine zU rfl ?_ | refine zOn rfl (by assumption) ?_ | refine zOff rfl (by assumption) ?_ | refine zMov rfl ?_ | refine zAsg rfl ?_ | refine zXtr rfl ?_ | refine zPT rfl rfl rfl ?_ | refine zPF rfl rfl rfl ?_ | refine zPT rfl (by assumption) rfl ?_ | refine zPF rfl (by assumption) rfl ?_ | refine zLss rfl rfl ?_ | refine zLeq rfl rfl ?_ | refine zGtr rfl rfl ?_ | refine zGeq rfl rfl ?_ | refine zEql rfl rfl ?_ | refine zNeq rfl rfl ?_ | refine zAdd rfl rfl (by omega) ?_ | refine zSub rfl rfl (by omega) ?_ | refine zLenS rfl E_string ?_ | refine zNot rfl ?_ | refine zEqS rfl rfl ?_ | refine zNeS rfl rfl ?_ | refine zT rfl rfl ?_ | refine zF rfl rfl ?_ | refine zT rfl (by assumption) ?_ | refine zF rfl (by assumption) ?_ | refine zLen rfl (hv.len E_s_string) ?_ | refine WL.op (o := .index _ _ _) (op_indexS rfl rfl E_string (by decide) hidx) ?_ | refine WL.op (o := .binOp .leq _ _ _ _) (op_leqS rfl rfl) ?_)
      refine WP.ret ⟨.inr rfl, _, rfl, fin 3 signs[i].size true ?_⟩
      rw [tokB, if_neg (by omega), if_neg (by omega), hf]
  obtain ⟨u, H', h, rfl, hk⟩ := key
  exact ⟨H', h, hk⟩
end Go.Proofs.YtdkfcpadbahohaaDoor.U

/-
  The tokens of a text, in plain words.
-/
namespace Go.Proofs.YtdkfcpadbahohaaDoor.U
open Go Go.Ev
attribute [local irreducible] WL WP WH W
variable {O : Orc} {H : AH}
structure Tok where
  kind : Nat
  text : List UInt8
  at_ : Nat
def str (l : List UInt8) : ByteArray := ⟨⟨l⟩⟩
def Tok.cells (t : Tok) : List Value := [.int .u8 t.kind, .string (str t.text), .int .i64 t.at_]
def tokCells (l : List Tok) : List Value := l.flatMap Tok.cells
theorem tokCells_len (l : List Tok) : (tokCells l).length = l.length * 3 := by
  induction l with
  | nil => rfl
  | cons a l ih => rw [tokCells, List.flatMap_cons, List.length_append, ← tokCells, ih]; simp [Tok.cells]; omega
def tokL (l : List UInt8) : Nat × Nat × Bool := tokB (str l)
def idleB (rem : Bool) (c : UInt8) : Bool := rem || (c.toNat : Int) == 35 || sp_ c.toNat
def scan : Nat → Bool → Nat → List UInt8 → Except Nat (List Tok)
  | 0, _, _, _ => .ok []
  | _ + 1, _, _, [] => .ok []
  | f + 1, rem, p, c :: r =>
    if idleB rem c then scan f ((rem || (c.toNat : Int) == 35) && (c.toNat : Int) != 10) (p + 1) r
    else if (tokL (c :: r)).2.2 then (scan f false (p + (tokL (c :: r)).2.1) ((c :: r).drop (tokL (c :: r)).2.1)).map (⟨(tokL (c :: r)).1, (c :: r).take (tokL (c :: r)).2.1, p⟩ :: ·)
    else .error p
theorem signs_pos : ∀ x ∈ signs, 0 < x.size := by decide
theorem tok_pos {l : List UInt8} (h : (tokL l).2.2 = true) : 0 < (tokL l).2.1 ∧ (tokL l).2.1 ≤ l.length := by
  have hl : (str l).data.toList = l := rfl
  unfold tokL tokB at h ⊢
  rw [hl] at h ⊢
  split at h
  · rename_i h1
    rw [if_pos h1]
    refine ⟨h1, ?_⟩
    show wordL l ≤ l.length
    unfold wordL
    split
    · exact Nat.zero_le _
    · split
      · exact (List.takeWhile_sublist _).length_le
      · exact Nat.zero_le _
  · rename_i h1
    rw [if_neg h1]
    split at h
    · rename_i h2
      rw [if_pos h2]
      exact ⟨h2, (List.takeWhile_sublist _).length_le⟩
    · rename_i h2
      rw [if_neg h2]
      split at h
      · rename_i x hx
        refine ⟨signs_pos x (List.mem_of_find?_eq_some hx), ?_⟩
        have := List.find?_some hx
        rw [pre, Bool.and_eq_true, decide_eq_true_eq] at this
        exact this.1
      · cases h
theorem scan_fuel : ∀ (f g : Nat) (rem : Bool) (p : Nat) (l : List UInt8), l.length ≤ f → l.length ≤ g → scan f rem p l = scan g rem p l
  | 0, 0, _, _, _, _, _ => rfl
  | 0, g + 1, _, _, l, h, _ => by
    obtain rfl := List.length_eq_zero_iff.1 (Nat.le_zero.1 h)
    rfl
  | f + 1, 0, _, _, l, _, h => by
    obtain rfl := List.length_eq_zero_iff.1 (Nat.le_zero.1 h)
    rfl
  | f + 1, g + 1, _, _, [], _, _ => rfl
  | f + 1, g + 1, rem, p, c :: r, h1, h2 => by
    simp only [List.length_cons] at h1 h2
    unfold scan
    split
    · exact scan_fuel f g _ _ r (by omega) (by omega)
    · split
      · rename_i h
        have := tok_pos h
        rw [scan_fuel f g _ _ _ (by simp; omega) (by simp; omega)]
      · rfl
theorem scan_cons {f : Nat} {rem : Bool} {p : Nat} {c : UInt8} {r : List UInt8} : scan (f + 1) rem p (c :: r) =
    if idleB rem c then scan f ((rem || (c.toNat : Int) == 35) && (c.toNat : Int) != 10) (p + 1) r
    else if (tokL (c :: r)).2.2 then (scan f false (p + (tokL (c :: r)).2.1) ((c :: r).drop (tokL (c :: r)).2.1)).map (⟨(tokL (c :: r)).1, (c :: r).take (tokL (c :: r)).2.1, p⟩ :: ·)
    else .error p := rfl
def toks (rem : Bool) (p : Nat) (l : List UInt8) : Except Nat (List Tok) := scan l.length rem p l
theorem toks_nil (rem : Bool) (p : Nat) : toks rem p [] = .ok [] := rfl
theorem toks_idle {rem : Bool} {p : Nat} {c : UInt8} {r : List UInt8} (h : idleB rem c = true) : toks rem p (c :: r) = toks ((rem || (c.toNat : Int) == 35) && (c.toNat : Int) != 10) (p + 1) r := by
  unfold toks; rw [List.length_cons, scan_cons]; rw [if_pos h]
theorem toks_bad {rem : Bool} {p : Nat} {c : UInt8} {r : List UInt8} (h : idleB rem c = false) (ht : (tokL (c :: r)).2.2 = false) : toks rem p (c :: r) = .error p := by
  unfold toks; rw [List.length_cons, scan_cons]; rw [if_neg (by simp [h]), if_neg (by simp [ht])]
theorem toks_tok {rem : Bool} {p : Nat} {c : UInt8} {r : List UInt8} (h : idleB rem c = false) (ht : (tokL (c :: r)).2.2 = true) :
    toks rem p (c :: r) = (toks false (p + (tokL (c :: r)).2.1) ((c :: r).drop (tokL (c :: r)).2.1)).map (⟨(tokL (c :: r)).1, (c :: r).take (tokL (c :: r)).2.1, p⟩ :: ·) := by
  unfold toks; rw [List.length_cons, scan_cons]; rw [if_neg (by simp [h]), if_pos ht]
  rw [scan_fuel r.length ((c :: r).drop (tokL (c :: r)).2.1).length _ _ _ (by have := tok_pos ht; simp; omega) (Nat.le_refl _)]
theorem toks_rem : ∀ (p : Nat) (l : List UInt8), toks true p l = toks false (p + (l.takeWhile fun b => (b.toNat : Int) != 10).length) (l.drop (l.takeWhile fun b => (b.toNat : Int) != 10).length)
  | p, [] => rfl
  | p, c :: r => by
    rw [toks_idle (by rfl)]
    cases h : (c.toNat : Int) != 10
    · rw [List.takeWhile_cons, h]
      have : idleB false c = true := by
        have : (c.toNat : Int) = 10 := by simpa using h
        simp [idleB, sp_, this]
      show _ = toks false (p + 0) (c :: r)
      rw [Nat.add_zero, toks_idle this, h]; simp
    · rw [List.takeWhile_cons, h]
      show toks true (p + 1) r = _
      rw [toks_rem (p + 1) r]
      simp only [if_true, List.length_cons, List.drop_succ_cons]
      rw [Nat.add_assoc, Nat.add_comm 1]
theorem toks_sp : ∀ (p : Nat) (l : List UInt8), toks false p l = toks false (p + (l.takeWhile fun b => sp_ b.toNat).length) (l.drop (l.takeWhile fun b => sp_ b.toNat).length)
  | p, [] => rfl
  | p, c :: r => by
    cases h : sp_ c.toNat
    · rw [List.takeWhile_cons, h]; rfl
    · rw [List.takeWhile_cons, h, toks_idle (by simp [idleB, h])]
      have : ((c.toNat : Int) == 35) = false := by
        cases e : (c.toNat : Int) == 35
        · rfl
        · have e' : (c.toNat : Int) = 35 := by simpa using e
          rw [e'] at h; exact absurd h (by decide)
      rw [this]
      show toks false (p + 1) r = _
      rw [toks_sp (p + 1) r]
      simp only [if_true, List.length_cons, List.drop_succ_cons]
      rw [Nat.add_assoc, Nat.add_comm 1]
theorem toks_blank (p : Nat) (l : List UInt8) : toks false p l = toks false (p + blankL l) (l.drop (blankL l)) := by
  cases l with
  | nil => rfl
  | cons c r =>
    unfold blankL
    simp only
    split
    · rename_i h
      have hc : (c.toNat : Int) = 35 := by simpa using h
      rw [toks_idle (by simp [idleB, hc]), hc]
      show toks true (p + 1) r = _
      have : ((c :: r).takeWhile fun b => (b.toNat : Int) != 10) = c :: r.takeWhile fun b => (b.toNat : Int) != 10 := by
        rw [List.takeWhile_cons, hc]; rfl
      rw [toks_rem, this, List.length_cons, List.drop_succ_cons, Nat.add_assoc, Nat.add_comm 1]
    · exact toks_sp p _
theorem blank_zero {c : UInt8} {r : List UInt8} (h : blankL (c :: r) = 0) : idleB false c = false := by
  unfold blankL at h
  simp only at h
  split at h
  · rename_i h1
    have hc : (c.toNat : Int) = 35 := by simpa using h1
    rw [List.takeWhile_cons, hc] at h
    cases h
  · rename_i h1
    rw [List.takeWhile_cons] at h
    cases h2 : sp_ c.toNat
    · simp only [idleB, h2, Bool.false_or, Bool.or_false]; simpa using h1
    · rw [h2] at h; cases h
end Go.Proofs.YtdkfcpadbahohaaDoor.U

/-
  Contract of lex.Tokens.
-/
namespace Go.Proofs.YtdkfcpadbahohaaDoor.U
open Go Go.Ev
attribute [local irreducible] WL WP WH W
variable {O : Orc} {H : AH}
theorem ext_list (s : ByteArray) (a b : Nat) : (s.extract a b).data.toList = (s.data.toList.drop a).take (b - a) := by
  rw [ByteArray.data_extract, Array.toList_extract]
theorem ext_str (s : ByteArray) (a n : Nat) : s.extract a (a + n) = str ((s.data.toList.drop a).take n) := by
  apply ByteArray.ext; apply Array.ext'
  have := ext_list s a (a + n)
  rwa [Nat.add_sub_cancel_left] at this
theorem ext_end (s : ByteArray) (a : Nat) : s.extract a s.size = str (s.data.toList.drop a) := by
  apply ByteArray.ext; apply Array.ext'
  have := ext_list s a s.size
  rw [this]
  have h : s.size = s.data.toList.length := rfl
  rw [List.take_of_length_le (by rw [List.length_drop, h]; omega)]; rfl
def lexR (l : List UInt8) : List Tok × Nat × Nat := if 65536 < l.length then ([], 0, 40) else match toks false 0 l with
  | .ok ts => (ts, 0, 0)
  | .error p => ([], p, 63)
theorem lexR_ok {l : List UInt8} {ts : List Tok} (h : l.length ≤ 65536) (k : toks false 0 l = .ok ts) : lexR l = (ts, 0, 0) := by rw [lexR, if_neg (by omega), k]
theorem lexR_bad {l : List UInt8} {p : Nat} (h : l.length ≤ 65536) (k : toks false 0 l = .error p) : lexR l = ([], p, 63) := by rw [lexR, if_neg (by omega), k]
theorem tokCells_app (a b : List Tok) : tokCells (a ++ b) = tokCells a ++ tokCells b := List.flatMap_append
def LexC (f : FuncId) (O : Orc) (H : AH) (s : ByteArray) : Prop := ∃ v H' o, Lc V O f [.string s] H (.tuple #[v, .int .i64 (lexR s.data.toList).2.1, .int .i64 (lexR s.data.toList).2.2]) H' ∧ Fr H H' ∧ Ow H' H.next 36 3 v (lexR s.data.toList).1.length (tokCells (lexR s.data.toList).1) o
set_option maxHeartbeats 2000000 in
theorem tokens_c (hO : ∀ f vs H, f ≠ 8 → O f vs H = none) (hS : HasSigns H) {s : ByteArray} (hs : s.size ≤ maxLen) : LexC F_lex_Tokens O H s := by
  have hsz : s.size = s.data.toList.length := rfl
  have hmx : maxLen = 9223372036854775807 := rfl
  generalize hl : s.data.toList = l at hsz
  have key : ∃ u H', Lc V O F_lex_Tokens [.string s] H u H' ∧ ∃ v o, (u = .tuple #[v, .int .i64 (lexR l).2.1, .int .i64 (lexR l).2.2] ∧ Fr H H' ∧ Ow H' H.next 36 3 v (lexR l).1.length (tokCells (lexR l).1) o) := by
    refine Lc.lex_Tokens (R := fun u H' => ∃ v o, (u = .tuple #[v, .int .i64 (lexR l).2.1, .int .i64 (lexR l).2.2] ∧ Fr H H' ∧ Ow H' H.next 36 3 v (lexR l).1.length (tokCells (lexR l).1) o)) (hO _ _ _ (by decide)) (Nat.le_of_ble_eq_true rfl) (by kernel_rfl) ?_
    have none_ : ∀ (a b : Nat) H', Fr H H' → lexR l = ([], a, b) → ∃ v o, (resOf [.slice none 0 0, .int .i64 a, .int .i64 b] = .tuple #[v, .int .i64 (lexR l).2.1, .int .i64 (lexR l).2.2] ∧ Fr H H' ∧ Ow H' H.next 36 3 v (lexR l).1.length (tokCells (lexR l).1) o) := fun a b H' hf e => by
      rw [e]; exact ⟨_, none, rfl, hf, .nil⟩
    unfold P_lex_Tokens
    rcases Nat.lt_or_ge 65536 l.length with h1 | h1
    · have g1 : decide ((s.size : Int) > 65536) = true := decide_eq_true (by omega)
      (repeat first | refine zSeq ?_ | refine zReg ?_ | refine zBlk ?_ | refine zSkp ?_ | refine zExt ?_ | refine zNil rfl ?_ | refine zGet rfl ?_ | refine zOn rfl rfl ?_ | refine zOff rfl rfl ?_ | refine zU rfl ?_ | refine zOn rfl (by assumption) ?_ | refine zOff rfl (by assumption) ?_ | refine zMov rfl ?_ | refine zAsg rfl ?_ | refine zXtr rfl ?_ | refine zPT rfl rfl rfl ?_ | refine zPF rfl rfl rfl ?_ | refine zPT rfl (by assumption) rfl ?_ | refine zPF rfl (by assumption) rfl ?_ | refine zLss rfl rfl ?_ | refine zLeq rfl rfl ?_ | refine zGtr rfl rfl ?_ | refine zGeq rfl rfl ?_ | refine zEql rfl rfl ?_ | refine zNeq rfl rfl ?_ | refine zAdd rfl rfl (by omega) ?_ | refine zSub rfl rfl (by omega) ?_ | refine zLenS rfl E_string ?_ | refine zNot rfl ?_ | refine zEqS rfl rfl ?_ | refine zNeS rfl rfl ?_ | refine zT rfl rfl ?_ | refine zF rfl rfl ?_ | refine zT rfl (by assumption) ?_ | refine zF rfl (by assumption) ?_ | refine zLen rfl (hv.len E_s_string) ?_)
      exact WP.ret ⟨.inr rfl, _, rfl, none_ 0 40 H (.refl _) (by rw [lexR, if_pos h1])⟩
    have g1 : decide ((s.size : Int) > 65536) = false := decide_eq_false (by omega)
    (repeat first | refine zSeq ?_ | refine zReg ?_ | refine zBlk ?_ | refine zSkp ?_ | refine zExt ?_ | refine zNil rfl ?_ | refine zGet rfl ?_ | refine zOn rfl rfl ?_ | refine zOff rfl rfl ?_ | refine zU rfl ?_ | refine zOn rfl (by assumption) ?_ | refine zOff rfl (by assumption) ?_ | refine zMov rfl ?_ | refine zAsg rfl ?_ | refine zXtr rfl ?_ | refine zPT rfl rfl rfl ?_ | refine zPF rfl rfl rfl ?_ | refine zPT rfl (by assumption) rfl ?_ | refine zPF rfl (by assumption) rfl ?_ | refine zLss rfl rfl ?_ | refine zLeq rfl rfl ?_ | refine zGtr rfl rfl ?_ | refine zGeq rfl rfl ?_ | refine zEql rfl rfl ?_ | refine zNeq rfl rfl ?_ | refine zAdd rfl rfl (by omega) ?_ | refine zSub rfl rfl (by omega) ?_ | refine zLenS rfl E_string ?_ | refine zNot rfl ?_ | refine zEqS rfl rfl ?_ | refine zNeS rfl rfl ?_ | refine zT rfl rfl ?_ | refine zF rfl rfl ?_ | refine zT rfl (by assumption) ?_ | refine zF rfl (by assumption) ?_ | refine zLen rfl (hv.len E_s_string) ?_)
    refine WP.loopH (σ := Nat × List Tok × Value × Option (Nat × Nat)) (fun x => [(0, .string s), (5, x.2.2.1), (6, .int .i64 x.1)])
      (fun x H' => Fr H H' ∧ Ow H' H.next 36 3 x.2.2.1 x.2.1.length (tokCells x.2.1) x.2.2.2 ∧ x.1 ≤ l.length ∧ x.2.1.length ≤ x.1 ∧ toks false 0 l = (toks false x.1 (l.drop x.1)).map (x.2.1 ++ ·)) (fun x => l.length - x.1) (0, [], .slice none 0 0, none)
      ⟨.refl _, .nil, by simp, by simp, by simp only [List.nil_append, List.drop_zero]; cases toks false 0 l <;> rfl⟩ ⟨rfl, rfl, rfl, trivial⟩ ?_
    rintro ⟨p, acc, v, o⟩ H1 ⟨hf, hw, hp, hap, hsc⟩
    simp only at hf hw hp hap hsc ⊢
    rcases Nat.lt_or_ge p l.length with h2 | h2
    · have g2 : decide ((p : Int) < s.size) = true := decide_eq_true (by omega)
      have hd : l.drop p = l[p] :: l.drop (p + 1) := List.drop_eq_getElem_cons h2
      have he : s.extract (p : Int).toNat s.size = str (l.drop p) := by rw [← hl]; exact ext_end s p
      have hsz' : (str (l.drop p)).size = l.length - p := by show (l.drop p).length = _; simp
      (repeat first | refine zSeq ?_ | refine zReg ?_ | refine zBlk ?_ | refine zSkp ?_ | refine zExt ?_ | refine zNil rfl ?_ | refine zGet rfl ?_ | refine zOn rfl rfl ?_ | refine zOff rfl rfl ?_ | refine zU rfl ?_ | refine zOn rfl (by assumption) ?_ | refine zOff rfl (by assumption) ?_ | refine zMov rfl ?_ | refine zAsg rfl ?_ | refine zXtr rfl ?_ | refine zPT rfl rfl rfl ?_ | refine zPF rfl rfl rfl ?_ | refine zPT rfl (by assumption) rfl ?_ | refine zPF rfl (by assumption) rfl ?_ | refine zLss rfl rfl ?_ | refine zLeq rfl rfl ?_ | refine zGtr rfl rfl ?_ | refine zGeq rfl rfl ?_ | refine zEql rfl rfl ?_ | refine zNeq rfl rfl ?_ | refine zAdd rfl rfl (by omega) ?_ | refine zSub rfl rfl (by omega) ?_ | refine zLenS rfl E_string ?_ | refine zNot rfl ?_ | refine zEqS rfl rfl ?_ | refine zNeS rfl rfl ?_ | refine zT rfl rfl ?_ | refine zF rfl rfl ?_ | refine zT rfl (by assumption) ?_ | refine zF rfl (by assumption) ?_ | refine zLen rfl (hv.len E_s_string) ?_)
      refine WL.op (op_sliceS rfl rfl E_string (by omega) (by omega)) ?_
      rw [he]
      refine WL.call rfl rfl is_lex_blank (blank_c hO (s := str (l.drop p)) (by omega) (by show l.drop p ≠ []; rw [hd]; exact List.cons_ne_nil _ _)) ?_
      show WL _ _ _ [.int .i64 (blankL (l.drop p)), _, _, _] _ _ _
      rcases Nat.lt_or_ge 0 (blankL (l.drop p)) with h3 | h3
      · have g3 : decide ((blankL (l.drop p) : Int) > 0) = true := decide_eq_true (by omega)
        have hb : blankL (l.drop p) ≤ l.length - p := by
          rw [hd]; unfold blankL; simp only
          have hlen : (l[p] :: l.drop (p + 1)).length = l.length - p := by rw [← hd]; simp
          rw [← hlen]
          split <;> exact (List.takeWhile_sublist _).length_le
        (repeat first | refine zSeq ?_ | refine zReg ?_ | refine zBlk ?_ | refine zSkp ?_ | refine zExt ?_ | refine zNil rfl ?_ | refine zGet rfl ?_ | refine zOn rfl rfl ?_ | refine zOff rfl rfl ?_ | refine zU rfl ?_ | refine zOn rfl (by assumption) ?_ | refine zOff rfl (by assumption) ?_ | refine zMov rfl ?_ | refine zAsg rfl ?_ | refine zXtr rfl ?_ | refine zPT rfl rfl rfl ?_ | refine zPF rfl rfl rfl ?_ | refine zPT rfl (by assumption) rfl ?_ | refine zPF rfl (by assumption) rfl ?_ | refine zLss rfl rfl ?_ | refine zLeq rfl rfl ?_ | refine zGtr rfl rfl ?_ | refine zGeq rfl rfl ?_ | refine zEql rfl rfl ?_ | refine zNeq rfl rfl ?_ | refine zAdd rfl rfl (by omega) ?_ | refine zSub rfl rfl (by omega) ?_ | refine zLenS rfl E_string ?_ | refine zNot rfl ?_ | refine zEqS rfl rfl ?_ | refine zNeS rfl rfl ?_ | refine zT rfl rfl ?_ | refine zF rfl rfl ?_ | refine zT rfl (by assumption) ?_ | refine zF rfl (by assumption) ?_ | refine zLen rfl (hv.len E_s_string) ?_)
        refine ⟨(p + blankL (l.drop p), acc, v, o), ⟨hf, hw, by simp only; omega, by simp only; omega, ?_⟩, by simp only; omega, rfl, rfl, rfl, trivial⟩
        rw [hsc, toks_blank p, List.drop_drop]
      · have g3 : decide ((blankL (l.drop p) : Int) > 0) = false := decide_eq_false (by omega)
        (repeat first | refine zSeq ?_ | refine zReg ?_ | refine zBlk ?_ | refine zSkp ?_ | refine zExt ?_ | refine zNil rfl ?_ | refine zGet rfl ?_ | refine zOn rfl rfl ?_ | refine zOff rfl rfl ?_ | refine zU rfl ?_ | refine zOn rfl (by assumption) ?_ | refine zOff rfl (by assumption) ?_ | refine zMov rfl ?_ | refine zAsg rfl ?_ | refine zXtr rfl ?_ | refine zPT rfl rfl rfl ?_ | refine zPF rfl rfl rfl ?_ | refine zPT rfl (by assumption) rfl ?_ | refine zPF rfl (by assumption) rfl ?_ | refine zLss rfl rfl ?_ | refine zLeq rfl rfl ?_ | refine zGtr rfl rfl ?_ | refine zGeq rfl rfl ?_ | refine zEql rfl rfl ?_ | refine zNeq rfl rfl ?_ | refine zAdd rfl rfl (by omega) ?_ | refine zSub rfl rfl (by omega) ?_ | refine zLenS rfl E_string ?_ | refine zNot rfl ?_ | refine zEqS rfl rfl ?_ | refine zNeS rfl rfl ?_ | refine zT rfl rfl ?_ | refine zF rfl rfl ?_ | refine zT rfl (by assumption) ?_ | refine zF rfl (by assumption) ?_ | refine zLen rfl (hv.len E_s_string) ?_)
        refine WL.op (op_sliceS rfl rfl E_string (by omega) (by omega)) ?_
        rw [he]
        obtain ⟨H2, ht, hf2⟩ := token_c (H := H1) hO (hS.fr hf) (s := str (l.drop p)) (by omega)
        refine WL.call rfl rfl is_lex_token ht ?_
        have hid : idleB false l[p] = false := blank_zero (r := l.drop (p + 1)) (by rw [← hd]; omega)
        cases hk : (tokB (str (l.drop p))).2.2
        · (repeat first | refine zSeq ?_ | refine zReg ?_ | refine zBlk ?_ | refine zSkp ?_ | refine zExt ?_ | refine zNil rfl ?_ | refine zGet rfl ?_ | refine zOn rfl rfl ?_ | refine zOff rfl rfl ?_ | refine zU rfl ?_ | refine zOn rfl (by assumption) ?_ | refine zOff rfl (by assumption) ?_ | refine zMov rfl ?_ | refine zAsg rfl ?_ | refine zXtr rfl ?_ | refine zPT rfl rfl rfl ?_ | refine zPF rfl rfl rfl ?_ | refine zPT rfl (by assumption) rfl ?_ | refine zPF rfl (by assumption) rfl ?_ | refine zLss rfl rfl ?_ | refine zLeq rfl rfl ?_ | refine zGtr rfl rfl ?_ | refine zGeq rfl rfl ?_ | refine zEql rfl rfl ?_ | refine zNeq rfl rfl ?_ | refine zAdd rfl rfl (by omega) ?_ | refine zSub rfl rfl (by omega) ?_ | refine zLenS rfl E_string ?_ | refine zNot rfl ?_ | refine zEqS rfl rfl ?_ | refine zNeS rfl rfl ?_ | refine zT rfl rfl ?_ | refine zF rfl rfl ?_ | refine zT rfl (by assumption) ?_ | refine zF rfl (by assumption) ?_ | refine zLen rfl (hv.len E_s_string) ?_)
          refine WP.ret ⟨.inr rfl, _, rfl, none_ p 63 H2 (hf.trans hf2) (lexR_bad h1 ?_)⟩
          rw [hsc, hd, toks_bad hid (by rw [← hd]; exact hk)]; rfl
        · have hpos := tok_pos (l := l.drop p) hk
          simp only [List.length_drop] at hpos
          unfold tokL at hpos
          generalize hkk : (tokB (str (l.drop p))).1 = kk
          generalize hnn : (tokB (str (l.drop p))).2.1 = nn at hpos
          have hx : s.extract (p : Int).toNat ((p : Int) + nn).toNat = str ((l.drop p).take nn) := by rw [← hl]; exact ext_str s p nn
          (repeat first | refine zSeq ?_ | refine zReg ?_ | refine zBlk ?_ | refine zSkp ?_ | refine zExt ?_ | refine zNil rfl ?_ | refine zGet rfl ?_ | refine zOn rfl rfl ?_ | refine zOff rfl rfl ?_ | refine zU rfl ?_ | refine zOn rfl (by assumption) ?_ | refine zOff rfl (by assumption) ?_ | refine zMov rfl ?_ | refine zAsg rfl ?_ | refine zXtr rfl ?_ | refine zPT rfl rfl rfl ?_ | refine zPF rfl rfl rfl ?_ | refine zPT rfl (by assumption) rfl ?_ | refine zPF rfl (by assumption) rfl ?_ | refine zLss rfl rfl ?_ | refine zLeq rfl rfl ?_ | refine zGtr rfl rfl ?_ | refine zGeq rfl rfl ?_ | refine zEql rfl rfl ?_ | refine zNeq rfl rfl ?_ | refine zAdd rfl rfl (by omega) ?_ | refine zSub rfl rfl (by omega) ?_ | refine zLenS rfl E_string ?_ | refine zNot rfl ?_ | refine zEqS rfl rfl ?_ | refine zNeS rfl rfl ?_ | refine zT rfl rfl ?_ | refine zF rfl rfl ?_ | refine zT rfl (by assumption) ?_ | refine zF rfl (by assumption) ?_ | refine zLen rfl (hv.len E_s_string) ?_)
          refine WL.op (op_sliceS2 rfl rfl rfl E_string (by omega) (by omega) (by omega)) ?_
          rw [hx]
          (repeat first | refine zSeq ?_ | refine zReg ?_ | refine zBlk ?_ | refine zSkp ?_ | refine zExt ?_ | refine zNil rfl ?_ | refine zGet rfl ?_ | refine zOn rfl rfl ?_ | refine zOff rfl rfl ?_ | refine zU rfl ?_ | refine zOn rfl (by assumption) ?_ | refine zOff rfl (by assumption) ?_ | refine zMov rfl ?_ | refine zAsg rfl ?_ | refine zXtr rfl ?_ | refine zPT rfl rfl rfl ?_ | refine zPF rfl rfl rfl ?_ | refine zPT rfl (by assumption) rfl ?_ | refine zPF rfl (by assumption) rfl ?_ | refine zLss rfl rfl ?_ | refine zLeq rfl rfl ?_ | refine zGtr rfl rfl ?_ | refine zGeq rfl rfl ?_ | refine zEql rfl rfl ?_ | refine zNeq rfl rfl ?_ | refine zAdd rfl rfl (by omega) ?_ | refine zSub rfl rfl (by omega) ?_ | refine zLenS rfl E_string ?_ | refine zNot rfl ?_ | refine zEqS rfl rfl ?_ | refine zNeS rfl rfl ?_ | refine zT rfl rfl ?_ | refine zF rfl rfl ?_ | refine zT rfl (by assumption) ?_ | refine zF rfl (by assumption) ?_ | refine zLen rfl (hv.len E_s_string) ?_)
          refine WL.op (op_build rfl build36) ?_
          refine WL.op (op_buildSlice rfl E30 E36 (by rw [te36_size]; decide) fill36) ?_
          obtain ⟨v', H3, o', ha, hw', hfx, ho1, ho2⟩ := ((hw.fr hf2).fr (.alloc H2 (.row 36 [.int .u8 kk, .string (str ((l.drop p).take nn)), .int .i64 p] .exact 0 0))).app (m := 1) (bytes := 32) (new := [.int .u8 kk, .string (str ((l.drop p).take nn)), .int .i64 p])
            (by decide) (by decide) rfl (by omega) (by omega) (by have := hf.1; have := hf2.1; simp; omega)
          refine WL.op (op_append rfl rfl E30 E30 E36 (by decide) (by rw [te36_size]; exact rd_alloc rfl) rfl (by rw [te36_size, te36_bytes]; exact ha)) ?_
          (repeat first | refine zSeq ?_ | refine zReg ?_ | refine zBlk ?_ | refine zSkp ?_ | refine zExt ?_ | refine zNil rfl ?_ | refine zGet rfl ?_ | refine zOn rfl rfl ?_ | refine zOff rfl rfl ?_ | refine zU rfl ?_ | refine zOn rfl (by assumption) ?_ | refine zOff rfl (by assumption) ?_ | refine zMov rfl ?_ | refine zAsg rfl ?_ | refine zXtr rfl ?_ | refine zPT rfl rfl rfl ?_ | refine zPF rfl rfl rfl ?_ | refine zPT rfl (by assumption) rfl ?_ | refine zPF rfl (by assumption) rfl ?_ | refine zLss rfl rfl ?_ | refine zLeq rfl rfl ?_ | refine zGtr rfl rfl ?_ | refine zGeq rfl rfl ?_ | refine zEql rfl rfl ?_ | refine zNeq rfl rfl ?_ | refine zAdd rfl rfl (by omega) ?_ | refine zSub rfl rfl (by omega) ?_ | refine zLenS rfl E_string ?_ | refine zNot rfl ?_ | refine zEqS rfl rfl ?_ | refine zNeS rfl rfl ?_ | refine zT rfl rfl ?_ | refine zF rfl rfl ?_ | refine zT rfl (by assumption) ?_ | refine zF rfl (by assumption) ?_ | refine zLen rfl (hv.len E_s_string) ?_)
          have hf3 : Fr H H3 := ((hf.trans hf2).trans (.alloc _ _)).young hfx (fun b hb => hw.young.1 b hb) (fun b hb => hw.young.2.1 b hb)
          refine ⟨(p + nn, acc ++ [⟨kk, (l.drop p).take nn, p⟩], v', o'), ⟨hf3, ?_, by simp only; omega, by simp; omega, ?_⟩, by simp only; omega, rfl, rfl, rfl, trivial⟩
          · simp only [List.length_append, tokCells_app]; exact hw'
          · simp only
            have e1 : (tokL (l[p] :: l.drop (p + 1))).1 = kk := by rw [← hd]; exact hkk
            have e2 : (tokL (l[p] :: l.drop (p + 1))).2.1 = nn := by rw [← hd]; exact hnn
            rw [hsc, hd, toks_tok hid (by rw [← hd]; exact hk), e1, e2, ← hd, List.drop_drop]
            cases toks false (p + nn) (l.drop (p + nn)) <;> simp [Except.map]
    · have g2 : decide ((p : Int) < s.size) = false := decide_eq_false (by omega)
      (repeat first | refine zSeq ?_ | refine zReg ?_ | refine zBlk ?_ | refine zSkp ?_ | refine zExt ?_ | refine zNil rfl ?_ | refine zGet rfl ?_ | refine zOn rfl rfl ?_ | refine zOff rfl rfl ?_ | refine zU rfl ?_ | refine zOn rfl (by assumption) ?_ | refine zOff rfl (by assumption) ?_ | refine zMov rfl ?_ | refine zAsg rfl ?_ | refine zXtr rfl ?_ | refine zPT rfl rfl rfl ?_ | refine zPF rfl rfl rfl ?_ | refine zPT rfl (by assumption) rfl ?_ | refine zPF rfl (by assumption) rfl ?_ | refine zLss rfl rfl ?_ | refine zLeq rfl rfl ?_ | refine zGtr rfl rfl ?_ | refine zGeq rfl rfl ?_ | refine zEql rfl rfl ?_ | refine zNeq rfl rfl ?_ | refine zAdd rfl rfl (by omega) ?_ | refine zSub rfl rfl (by omega) ?_ | refine zLenS rfl E_string ?_ | refine zNot rfl ?_ | refine zEqS rfl rfl ?_ | refine zNeS rfl rfl ?_ | refine zT rfl rfl ?_ | refine zF rfl rfl ?_ | refine zT rfl (by assumption) ?_ | refine zF rfl (by assumption) ?_ | refine zLen rfl (hv.len E_s_string) ?_)
      refine WP.ret ⟨.inr rfl, _, rfl, v, o, ?_, hf, ?_⟩
      all_goals rw [lexR_ok h1 (ts := acc) (by rw [hsc, List.drop_eq_nil_iff.2 h2, toks_nil]; simp [Except.map])]
      · rfl
      · exact hw
  obtain ⟨u, H', h, v, o, rfl, h1, h2⟩ := key
  unfold LexC
  rw [hl]
  exact ⟨v, H', o, h, h1, h2⟩
end Go.Proofs.YtdkfcpadbahohaaDoor.U

/-
  Contract of the document's Tokens: its number and its sign.
-/
namespace Go.Proofs.YtdkfcpadbahohaaDoor.U
open Go Go.Ev
attribute [local irreducible] WL WP WH W
variable {O : Orc} {H : AH}
def two : List ByteArray := [⟨⟨[124, 124]⟩⟩, ⟨⟨[38, 38]⟩⟩, ⟨⟨[60, 61]⟩⟩, ⟨⟨[62, 61]⟩⟩, ⟨⟨[61, 61]⟩⟩, ⟨⟨[33, 61]⟩⟩]
def one : List ByteArray := [⟨⟨[60]⟩⟩, ⟨⟨[62]⟩⟩, ⟨⟨[61]⟩⟩, ⟨⟨[43]⟩⟩, ⟨⟨[45]⟩⟩, ⟨⟨[42]⟩⟩, ⟨⟨[47]⟩⟩, ⟨⟨[37]⟩⟩, ⟨⟨[33]⟩⟩, ⟨⟨[40]⟩⟩, ⟨⟨[41]⟩⟩, ⟨⟨[123]⟩⟩, ⟨⟨[125]⟩⟩, ⟨⟨[91]⟩⟩, ⟨⟨[93]⟩⟩, ⟨⟨[59]⟩⟩, ⟨⟨[44]⟩⟩]
def rsign (s : ByteArray) : Nat := if decide (1 < s.size) && among (s.extract 0 2) two then 2 else if among (s.extract 0 1) one then 1 else 0
theorem rsign_c (hO : ∀ f vs H, f ≠ 8 → O f vs H = none) {s : ByteArray} (hne : 0 < s.size) : ∃ H', Lc V O F_ref01_sign [.string s] H (.int .i64 (rsign s)) H' ∧ Fr H H' := by
  have key : ∃ u H', Lc V O F_ref01_sign [.string s] H u H' ∧ (u = .int .i64 (rsign s) ∧ Fr H H') := by
    refine Lc.ref01_sign (R := fun u H' => u = .int .i64 (rsign s) ∧ Fr H H') (hO _ _ _ (by decide)) (Nat.le_of_ble_eq_true rfl) (by kernel_rfl) ?_
    unfold P_ref01_sign
    have rest : ∀ H1, Fr H H1 → (decide (1 < s.size) && among (s.extract 0 2) two) = false → ∀ l, Ev.look l 0 = some (.string s) → WP V O (some (liveOf Tryd.f27 c_ref01_sign)) Tryd.f27.ntmps (match P_ref01_sign with | .seq _ (.seq _ p) => p | p => p) l H1 fun e l H' => (e = .normal ∨ e = .ret) ∧ ∃ rs, resL V l H' Tryd.f27.results.toList = some rs ∧ (resOf rs = .int .i64 (rsign s) ∧ Fr H H') := fun H1 hf h2 l hl => by
      unfold P_ref01_sign
      simp only
      refine .sub (l' := [(0, .string s)]) ?_ (fun t v h => by
        simp only [Ev.look] at h
        split at h
        · rename_i e; subst e; cases h; exact hl
        · cases h)
      refine WP.seq ?_
      (repeat first | refine zSeq ?_ | refine zReg ?_ | refine zBlk ?_ | refine zSkp ?_ | refine zExt ?_ | refine zNil rfl ?_ | refine zGet rfl ?_ | refine zOn rfl rfl ?_ | refine zOff rfl rfl ?_ | refine zU rfl ?_ | refine zOn rfl (by assumption) ?_ | refine zOff rfl (by assumption) ?_ | refine zMov rfl ?_ | refine zAsg rfl ?_ | refine zXtr rfl ?_ | refine zPT rfl rfl rfl ?_ | refine zPF rfl rfl rfl ?_ | refine zPT rfl (by assumption) rfl ?_ | refine zPF rfl (by assumption) rfl ?_ | refine zLss rfl rfl ?_ | refine zLeq rfl rfl ?_ | refine zGtr rfl rfl ?_ | refine zGeq rfl rfl ?_ | refine zEql rfl rfl ?_ | refine zNeq rfl rfl ?_ | refine zAdd rfl rfl (by omega) ?_ | refine zSub rfl rfl (by omega) ?_ | refine zLenS rfl E_string ?_ | refine zNot rfl ?_ | refine zEqS rfl rfl ?_ | refine zNeS rfl rfl ?_ | refine zT rfl rfl ?_ | refine zF rfl rfl ?_ | refine zT rfl (by assumption) ?_ | refine zF rfl (by assumption) ?_ | refine zLen rfl (hv.len E_s_string) ?_)
      refine WL.op (op_sliceH rfl rfl E_string (by decide) (by omega)) ?_
      refine WL.op (op_buildSlice rfl E_s_string E_string (by decide) rfl) ?_
      refine WL.call rfl rfl is_ref01_among (among_c hO (strs := one) (OneAt.toSl (by decide))) ?_
      have hx : s.extract 0 (1 : Int).toNat = s.extract 0 1 := rfl
      rw [hx]
      cases h1 : among (s.extract 0 1) one
      · (repeat first | refine zSeq ?_ | refine zReg ?_ | refine zBlk ?_ | refine zSkp ?_ | refine zExt ?_ | refine zNil rfl ?_ | refine zGet rfl ?_ | refine zOn rfl rfl ?_ | refine zOff rfl rfl ?_ | refine zU rfl ?_ | refine zOn rfl (by assumption) ?_ | refine zOff rfl (by assumption) ?_ | refine zMov rfl ?_ | refine zAsg rfl ?_ | refine zXtr rfl ?_ | refine zPT rfl rfl rfl ?_ | refine zPF rfl rfl rfl ?_ | refine zPT rfl (by assumption) rfl ?_ | refine zPF rfl (by assumption) rfl ?_ | refine zLss rfl rfl ?_ | refine zLeq rfl rfl ?_ | refine zGtr rfl rfl ?_ | refine zGeq rfl rfl ?_ | refine zEql rfl rfl ?_ | refine zNeq rfl rfl ?_ | refine zAdd rfl rfl (by omega) ?_ | refine zSub rfl rfl (by omega) ?_ | refine zLenS rfl E_string ?_ | refine zNot rfl ?_ | refine zEqS rfl rfl ?_ | refine zNeS rfl rfl ?_ | refine zT rfl rfl ?_ | refine zF rfl rfl ?_ | refine zT rfl (by assumption) ?_ | refine zF rfl (by assumption) ?_ | refine zLen rfl (hv.len E_s_string) ?_)
        exact WP.ret ⟨.inr rfl, _, rfl, by rw [rsign, h2, if_neg (by decide), h1]; rfl, hf.step _⟩
      · (repeat first | refine zSeq ?_ | refine zReg ?_ | refine zBlk ?_ | refine zSkp ?_ | refine zExt ?_ | refine zNil rfl ?_ | refine zGet rfl ?_ | refine zOn rfl rfl ?_ | refine zOff rfl rfl ?_ | refine zU rfl ?_ | refine zOn rfl (by assumption) ?_ | refine zOff rfl (by assumption) ?_ | refine zMov rfl ?_ | refine zAsg rfl ?_ | refine zXtr rfl ?_ | refine zPT rfl rfl rfl ?_ | refine zPF rfl rfl rfl ?_ | refine zPT rfl (by assumption) rfl ?_ | refine zPF rfl (by assumption) rfl ?_ | refine zLss rfl rfl ?_ | refine zLeq rfl rfl ?_ | refine zGtr rfl rfl ?_ | refine zGeq rfl rfl ?_ | refine zEql rfl rfl ?_ | refine zNeq rfl rfl ?_ | refine zAdd rfl rfl (by omega) ?_ | refine zSub rfl rfl (by omega) ?_ | refine zLenS rfl E_string ?_ | refine zNot rfl ?_ | refine zEqS rfl rfl ?_ | refine zNeS rfl rfl ?_ | refine zT rfl rfl ?_ | refine zF rfl rfl ?_ | refine zT rfl (by assumption) ?_ | refine zF rfl (by assumption) ?_ | refine zLen rfl (hv.len E_s_string) ?_)
        exact WP.ret ⟨.inr rfl, _, rfl, by rw [rsign, h2, if_neg (by decide), h1]; rfl, hf.step _⟩
    refine WP.seq ?_
    refine WP.reg ?_
    refine WL.op (o := .assign _) rfl ?_
    refine WL.nil ⟨_, rfl, ?_⟩
    refine WP.seq ?_
    refine WP.seq ?_
    rcases Nat.lt_or_ge 1 s.size with h | h
    · have g1 : decide ((s.size : Int) > 1) = true := decide_eq_true (by omega)
      (repeat first | refine zSeq ?_ | refine zReg ?_ | refine zBlk ?_ | refine zSkp ?_ | refine zExt ?_ | refine zNil rfl ?_ | refine zGet rfl ?_ | refine zOn rfl rfl ?_ | refine zOff rfl rfl ?_ | refine zU rfl ?_ | refine zOn rfl (by assumption) ?_ | refine zOff rfl (by assumption) ?_ | refine zMov rfl ?_ | refine zAsg rfl ?_ | refine zXtr rfl ?_ | refine zPT rfl rfl rfl ?_ | refine zPF rfl rfl rfl ?_ | refine zPT rfl (by assumption) rfl ?_ | refine zPF rfl (by assumption) rfl ?_ | refine zLss rfl rfl ?_ | refine zLeq rfl rfl ?_ | refine zGtr rfl rfl ?_ | refine zGeq rfl rfl ?_ | refine zEql rfl rfl ?_ | refine zNeq rfl rfl ?_ | refine zAdd rfl rfl (by omega) ?_ | refine zSub rfl rfl (by omega) ?_ | refine zLenS rfl E_string ?_ | refine zNot rfl ?_ | refine zEqS rfl rfl ?_ | refine zNeS rfl rfl ?_ | refine zT rfl rfl ?_ | refine zF rfl rfl ?_ | refine zT rfl (by assumption) ?_ | refine zF rfl (by assumption) ?_ | refine zLen rfl (hv.len E_s_string) ?_)
      refine WL.op (op_sliceH rfl rfl E_string (by decide) (by omega)) ?_
      (repeat first | refine zSeq ?_ | refine zReg ?_ | refine zBlk ?_ | refine zSkp ?_ | refine zExt ?_ | refine zNil rfl ?_ | refine zGet rfl ?_ | refine zOn rfl rfl ?_ | refine zOff rfl rfl ?_ | refine zU rfl ?_ | refine zOn rfl (by assumption) ?_ | refine zOff rfl (by assumption) ?_ | refine zMov rfl ?_ | refine zAsg rfl ?_ | refine zXtr rfl ?_ | refine zPT rfl rfl rfl ?_ | refine zPF rfl rfl rfl ?_ | refine zPT rfl (by assumption) rfl ?_ | refine zPF rfl (by assumption) rfl ?_ | refine zLss rfl rfl ?_ | refine zLeq rfl rfl ?_ | refine zGtr rfl rfl ?_ | refine zGeq rfl rfl ?_ | refine zEql rfl rfl ?_ | refine zNeq rfl rfl ?_ | refine zAdd rfl rfl (by omega) ?_ | refine zSub rfl rfl (by omega) ?_ | refine zLenS rfl E_string ?_ | refine zNot rfl ?_ | refine zEqS rfl rfl ?_ | refine zNeS rfl rfl ?_ | refine zT rfl rfl ?_ | refine zF rfl rfl ?_ | refine zT rfl (by assumption) ?_ | refine zF rfl (by assumption) ?_ | refine zLen rfl (hv.len E_s_string) ?_)
      refine WL.op (op_buildSlice rfl E_s_string E_string (by decide) rfl) ?_
      (repeat first | refine zSeq ?_ | refine zReg ?_ | refine zBlk ?_ | refine zSkp ?_ | refine zExt ?_ | refine zNil rfl ?_ | refine zGet rfl ?_ | refine zOn rfl rfl ?_ | refine zOff rfl rfl ?_ | refine zU rfl ?_ | refine zOn rfl (by assumption) ?_ | refine zOff rfl (by assumption) ?_ | refine zMov rfl ?_ | refine zAsg rfl ?_ | refine zXtr rfl ?_ | refine zPT rfl rfl rfl ?_ | refine zPF rfl rfl rfl ?_ | refine zPT rfl (by assumption) rfl ?_ | refine zPF rfl (by assumption) rfl ?_ | refine zLss rfl rfl ?_ | refine zLeq rfl rfl ?_ | refine zGtr rfl rfl ?_ | refine zGeq rfl rfl ?_ | refine zEql rfl rfl ?_ | refine zNeq rfl rfl ?_ | refine zAdd rfl rfl (by omega) ?_ | refine zSub rfl rfl (by omega) ?_ | refine zLenS rfl E_string ?_ | refine zNot rfl ?_ | refine zEqS rfl rfl ?_ | refine zNeS rfl rfl ?_ | refine zT rfl rfl ?_ | refine zF rfl rfl ?_ | refine zT rfl (by assumption) ?_ | refine zF rfl (by assumption) ?_ | refine zLen rfl (hv.len E_s_string) ?_)
      refine WL.call rfl rfl is_ref01_among (among_c hO (strs := two) (OneAt.toSl (by decide))) ?_
      have hx : s.extract 0 (2 : Int).toNat = s.extract 0 2 := rfl
      rw [hx]
      cases h1 : among (s.extract 0 2) two
      · (repeat first | refine zReg ?_ | refine zSkp ?_ | refine zExt ?_ | refine zNil rfl ?_ | refine zGet rfl ?_ | refine zOn rfl rfl ?_ | refine zOff rfl rfl ?_ | refine zU rfl ?_ | refine zOn rfl (by assumption) ?_ | refine zOff rfl (by assumption) ?_ | refine zMov rfl ?_ | refine zAsg rfl ?_ | refine zXtr rfl ?_ | refine zPT rfl rfl rfl ?_ | refine zPF rfl rfl rfl ?_ | refine zPT rfl (by assumption) rfl ?_ | refine zPF rfl (by assumption) rfl ?_ | refine zLss rfl rfl ?_ | refine zLeq rfl rfl ?_ | refine zGtr rfl rfl ?_ | refine zGeq rfl rfl ?_ | refine zEql rfl rfl ?_ | refine zNeq rfl rfl ?_ | refine zAdd rfl rfl (by omega) ?_ | refine zSub rfl rfl (by omega) ?_ | refine zLenS rfl E_string ?_ | refine zNot rfl ?_ | refine zEqS rfl rfl ?_ | refine zNeS rfl rfl ?_ | refine zT rfl rfl ?_ | refine zF rfl rfl ?_ | refine zT rfl (by assumption) ?_ | refine zF rfl (by assumption) ?_ | refine zLen rfl (hv.len E_s_string) ?_)
        exact rest _ (.alloc _ _) (by rw [h1, Bool.and_false]) _ rfl
      · (repeat first | refine zSeq ?_ | refine zReg ?_ | refine zBlk ?_ | refine zSkp ?_ | refine zExt ?_ | refine zNil rfl ?_ | refine zGet rfl ?_ | refine zOn rfl rfl ?_ | refine zOff rfl rfl ?_ | refine zU rfl ?_ | refine zOn rfl (by assumption) ?_ | refine zOff rfl (by assumption) ?_ | refine zMov rfl ?_ | refine zAsg rfl ?_ | refine zXtr rfl ?_ | refine zPT rfl rfl rfl ?_ | refine zPF rfl rfl rfl ?_ | refine zPT rfl (by assumption) rfl ?_ | refine zPF rfl (by assumption) rfl ?_ | refine zLss rfl rfl ?_ | refine zLeq rfl rfl ?_ | refine zGtr rfl rfl ?_ | refine zGeq rfl rfl ?_ | refine zEql rfl rfl ?_ | refine zNeq rfl rfl ?_ | refine zAdd rfl rfl (by omega) ?_ | refine zSub rfl rfl (by omega) ?_ | refine zLenS rfl E_string ?_ | refine zNot rfl ?_ | refine zEqS rfl rfl ?_ | refine zNeS rfl rfl ?_ | refine zT rfl rfl ?_ | refine zF rfl rfl ?_ | refine zT rfl (by assumption) ?_ | refine zF rfl (by assumption) ?_ | refine zLen rfl (hv.len E_s_string) ?_)
        exact WP.ret ⟨.inr rfl, _, rfl, by rw [rsign, decide_eq_true h, h1]; rfl, .alloc _ _⟩
    · have g1 : decide ((s.size : Int) > 1) = false := decide_eq_false (by omega)
      (repeat first | refine zReg ?_ | refine zSkp ?_ | refine zExt ?_ | refine zNil rfl ?_ | refine zGet rfl ?_ | refine zOn rfl rfl ?_ | refine zOff rfl rfl ?_ | refine zU rfl ?_ | refine zOn rfl (by assumption) ?_ | refine zOff rfl (by assumption) ?_ | refine zMov rfl ?_ | refine zAsg rfl ?_ | refine zXtr rfl ?_ | refine zPT rfl rfl rfl ?_ | refine zPF rfl rfl rfl ?_ | refine zPT rfl (by assumption) rfl ?_ | refine zPF rfl (by assumption) rfl ?_ | refine zLss rfl rfl ?_ | refine zLeq rfl rfl ?_ | refine zGtr rfl rfl ?_ | refine zGeq rfl rfl ?_ | refine zEql rfl rfl ?_ | refine zNeq rfl rfl ?_ | refine zAdd rfl rfl (by omega) ?_ | refine zSub rfl rfl (by omega) ?_ | refine zLenS rfl E_string ?_ | refine zNot rfl ?_ | refine zEqS rfl rfl ?_ | refine zNeS rfl rfl ?_ | refine zT rfl rfl ?_ | refine zF rfl rfl ?_ | refine zT rfl (by assumption) ?_ | refine zF rfl (by assumption) ?_ | refine zLen rfl (hv.len E_s_string) ?_)
      exact rest _ (.refl _) (by rw [decide_eq_false (by omega), Bool.false_and]) _ rfl
  obtain ⟨u, H', h, rfl, hk⟩ := key
  exact ⟨H', h, hk⟩
def val (l : List UInt8) : Nat := l.foldl (fun n c => n * 10 + (c.toNat - 48)) 0
def rnumB (s : ByteArray) : Bool := decide (s.size ≤ 19) && !(decide (1 < s.size) && ((s.data.toList.headD 0).toNat : Int) == 48) && decide (val s.data.toList ≤ 9223372036854775808)
theorem val_take {l : List UInt8} {i : Nat} (h : i < l.length) : val (l.take (i + 1)) = val (l.take i) * 10 + (l[i].toNat - 48) := by
  have : l.take (i + 1) = l.take i ++ [l[i]] := by rw [List.take_add_one]; simp [h]
  rw [val, this, List.foldl_append]; rfl
theorem val_lt {l : List UInt8} (hd : ∀ c ∈ l, dig c.toNat = true) : ∀ i, i ≤ l.length → val (l.take i) < 10 ^ i
  | 0, _ => by simp [val]
  | i + 1, h => by
    have := val_lt hd i (by omega)
    have hc := hd l[i] (List.getElem_mem _)
    simp only [dig, Bool.and_eq_true, decide_eq_true_eq] at hc
    rw [val_take (by omega), Nat.pow_succ]
    omega
theorem u5 : V.P.underlying 5 = some (.int .u8) := by kernel_rfl
theorem u52 : V.P.underlying 52 = some (.int .u64) := by kernel_rfl
theorem rnumber_c (hO : ∀ f vs H, f ≠ 8 → O f vs H = none) {s : ByteArray} (hne : 0 < s.size) (hdg : ∀ c ∈ s.data.toList, dig c.toNat = true) : Lc V O F_ref01_number [.string s] H (.bool (rnumB s)) H := Lc.of_eq <| by
  have hsz : s.size = s.data.toList.length := rfl
  have hidx : s.data.toList[(0 : Int).toNat]? = some (s.data.toList.headD 0) := by
    cases hl : s.data.toList with
    | nil => rw [hl] at hsz; simp only [List.length_nil] at hsz; omega
    | cons a b => rfl
  have fin : ∀ b : Bool, rnumB s = b → (resOf [Value.bool b] = .bool (rnumB s) ∧ H = H) := fun b h => by rw [h]; exact ⟨rfl, rfl⟩
  generalize hl : s.data.toList = l at hsz hdg
  refine Lc.ref01_number (hO _ _ _ (by decide)) (Nat.le_of_ble_eq_true rfl) (by kernel_rfl) ?_
  unfold P_ref01_number
  refine WP.seq ?_
  (repeat first | refine zReg ?_ | refine zSkp ?_ | refine zExt ?_ | refine zNil rfl ?_ | refine zGet rfl ?_ | refine zOn rfl rfl ?_ | refine zOff rfl rfl ?_ | refine zU rfl ?_ | refine zOn rfl (by assumption) ?_ | refine zOff rfl (by assumption) ?_ | refine zMov rfl ?_ | refine zAsg rfl ?_ | refine zXtr rfl ?_ | refine zPT rfl rfl rfl ?_ | refine zPF rfl rfl rfl ?_ | refine zPT rfl (by assumption) rfl ?_ | refine zPF rfl (by assumption) rfl ?_ | refine zLss rfl rfl ?_ | refine zLeq rfl rfl ?_ | refine zGtr rfl rfl ?_ | refine zGeq rfl rfl ?_ | refine zEql rfl rfl ?_ | refine zNeq rfl rfl ?_ | refine zAdd rfl rfl (by omega) ?_ | refine zSub rfl rfl (by omega) ?_ | refine zLenS rfl E_string ?_ | refine zNot rfl ?_ | refine zEqS rfl rfl ?_ | refine zNeS rfl rfl ?_ | refine zT rfl rfl ?_ | refine zF rfl rfl ?_ | refine zT rfl (by assumption) ?_ | refine zF rfl (by assumption) ?_ | refine zLen rfl (hv.len E_s_string) ?_)
  refine WP.seqS (σ := Unit) (fun _ => [(0, .string s)]) (fun _ H' => H = H' ∧ l.length ≤ 19 ∧ (decide (1 < s.size) && ((l.headD 0).toNat : Int) == 48) = false) ?_ ?_
  · rcases Nat.lt_or_ge 19 l.length with h | h
    · have g1 : decide ((s.size : Int) > 19) = true := decide_eq_true (by omega)
      (repeat first | refine zSeq ?_ | refine zReg ?_ | refine zBlk ?_ | refine zSkp ?_ | refine zExt ?_ | refine zNil rfl ?_ | refine zGet rfl ?_ | refine zOn rfl rfl ?_ | refine zOff rfl rfl ?_ | refine zU rfl ?_ | refine zOn rfl (by assumption) ?_ | refine zOff rfl (by assumption) ?_ | refine zMov rfl ?_ | refine zAsg rfl ?_ | refine zXtr rfl ?_ | refine zPT rfl rfl rfl ?_ | refine zPF rfl rfl rfl ?_ | refine zPT rfl (by assumption) rfl ?_ | refine zPF rfl (by assumption) rfl ?_ | refine zLss rfl rfl ?_ | refine zLeq rfl rfl ?_ | refine zGtr rfl rfl ?_ | refine zGeq rfl rfl ?_ | refine zEql rfl rfl ?_ | refine zNeq rfl rfl ?_ | refine zAdd rfl rfl (by omega) ?_ | refine zSub rfl rfl (by omega) ?_ | refine zLenS rfl E_string ?_ | refine zNot rfl ?_ | refine zEqS rfl rfl ?_ | refine zNeS rfl rfl ?_ | refine zT rfl rfl ?_ | refine zF rfl rfl ?_ | refine zT rfl (by assumption) ?_ | refine zF rfl (by assumption) ?_ | refine zLen rfl (hv.len E_s_string) ?_)
      exact WP.ret ⟨.inr rfl, _, rfl, fin false (by rw [rnumB, decide_eq_false (by omega)]; rfl)⟩
    have g1 : decide ((s.size : Int) > 19) = false := decide_eq_false (by omega)
    rcases Nat.lt_or_ge 1 l.length with h2 | h2
    · have g2 : decide ((s.size : Int) > 1) = true := decide_eq_true (by omega)
      (repeat first | refine zSeq ?_ | refine zReg ?_ | refine zBlk ?_ | refine zSkp ?_ | refine zExt ?_ | refine zNil rfl ?_ | refine zGet rfl ?_ | refine zOn rfl rfl ?_ | refine zOff rfl rfl ?_ | refine zU rfl ?_ | refine zOn rfl (by assumption) ?_ | refine zOff rfl (by assumption) ?_ | refine zMov rfl ?_ | refine zAsg rfl ?_ | refine zXtr rfl ?_ | refine zPT rfl rfl rfl ?_ | refine zPF rfl rfl rfl ?_ | refine zPT rfl (by assumption) rfl ?_ | refine zPF rfl (by assumption) rfl ?_ | refine zLss rfl rfl ?_ | refine zLeq rfl rfl ?_ | refine zGtr rfl rfl ?_ | refine zGeq rfl rfl ?_ | refine zEql rfl rfl ?_ | refine zNeq rfl rfl ?_ | refine zAdd rfl rfl (by omega) ?_ | refine zSub rfl rfl (by omega) ?_ | refine zLenS rfl E_string ?_ | refine zNot rfl ?_ | refine zEqS rfl rfl ?_ | refine zNeS rfl rfl ?_ | refine zT rfl rfl ?_ | refine zF rfl rfl ?_ | refine zT rfl (by assumption) ?_ | refine zF rfl (by assumption) ?_ | refine zLen rfl (hv.len E_s_string) ?_)
      refine WL.op (op_indexS rfl rfl E_string (by decide) hidx) ?_
      rw [hl]
      cases h3 : ((l.headD 0).toNat : Int) == 48
      · (repeat first | refine zSeq ?_ | refine zReg ?_ | refine zBlk ?_ | refine zSkp ?_ | refine zExt ?_ | refine zNil rfl ?_ | refine zGet rfl ?_ | refine zOn rfl rfl ?_ | refine zOff rfl rfl ?_ | refine zU rfl ?_ | refine zOn rfl (by assumption) ?_ | refine zOff rfl (by assumption) ?_ | refine zMov rfl ?_ | refine zAsg rfl ?_ | refine zXtr rfl ?_ | refine zPT rfl rfl rfl ?_ | refine zPF rfl rfl rfl ?_ | refine zPT rfl (by assumption) rfl ?_ | refine zPF rfl (by assumption) rfl ?_ | refine zLss rfl rfl ?_ | refine zLeq rfl rfl ?_ | refine zGtr rfl rfl ?_ | refine zGeq rfl rfl ?_ | refine zEql rfl rfl ?_ | refine zNeq rfl rfl ?_ | refine zAdd rfl rfl (by omega) ?_ | refine zSub rfl rfl (by omega) ?_ | refine zLenS rfl E_string ?_ | refine zNot rfl ?_ | refine zEqS rfl rfl ?_ | refine zNeS rfl rfl ?_ | refine zT rfl rfl ?_ | refine zF rfl rfl ?_ | refine zT rfl (by assumption) ?_ | refine zF rfl (by assumption) ?_ | refine zLen rfl (hv.len E_s_string) ?_)
        exact ⟨(), ⟨rfl, h, by rw [Bool.and_false]⟩, rfl, trivial⟩
      · (repeat first | refine zSeq ?_ | refine zReg ?_ | refine zBlk ?_ | refine zSkp ?_ | refine zExt ?_ | refine zNil rfl ?_ | refine zGet rfl ?_ | refine zOn rfl rfl ?_ | refine zOff rfl rfl ?_ | refine zU rfl ?_ | refine zOn rfl (by assumption) ?_ | refine zOff rfl (by assumption) ?_ | refine zMov rfl ?_ | refine zAsg rfl ?_ | refine zXtr rfl ?_ | refine zPT rfl rfl rfl ?_ | refine zPF rfl rfl rfl ?_ | refine zPT rfl (by assumption) rfl ?_ | refine zPF rfl (by assumption) rfl ?_ | refine zLss rfl rfl ?_ | refine zLeq rfl rfl ?_ | refine zGtr rfl rfl ?_ | refine zGeq rfl rfl ?_ | refine zEql rfl rfl ?_ | refine zNeq rfl rfl ?_ | refine zAdd rfl rfl (by omega) ?_ | refine zSub rfl rfl (by omega) ?_ | refine zLenS rfl E_string ?_ | refine zNot rfl ?_ | refine zEqS rfl rfl ?_ | refine zNeS rfl rfl ?_ | refine zT rfl rfl ?_ | refine zF rfl rfl ?_ | refine zT rfl (by assumption) ?_ | refine zF rfl (by assumption) ?_ | refine zLen rfl (hv.len E_s_string) ?_)
        exact WP.ret ⟨.inr rfl, _, rfl, fin false (by rw [rnumB, hl, h3, decide_eq_true (by omega : 1 < s.size)]; simp)⟩
    · have g2 : decide ((s.size : Int) > 1) = false := decide_eq_false (by omega)
      (repeat first | refine zSeq ?_ | refine zReg ?_ | refine zBlk ?_ | refine zSkp ?_ | refine zExt ?_ | refine zNil rfl ?_ | refine zGet rfl ?_ | refine zOn rfl rfl ?_ | refine zOff rfl rfl ?_ | refine zU rfl ?_ | refine zOn rfl (by assumption) ?_ | refine zOff rfl (by assumption) ?_ | refine zMov rfl ?_ | refine zAsg rfl ?_ | refine zXtr rfl ?_ | refine zPT rfl rfl rfl ?_ | refine zPF rfl rfl rfl ?_ | refine zPT rfl (by assumption) rfl ?_ | refine zPF rfl (by assumption) rfl ?_ | refine zLss rfl rfl ?_ | refine zLeq rfl rfl ?_ | refine zGtr rfl rfl ?_ | refine zGeq rfl rfl ?_ | refine zEql rfl rfl ?_ | refine zNeq rfl rfl ?_ | refine zAdd rfl rfl (by omega) ?_ | refine zSub rfl rfl (by omega) ?_ | refine zLenS rfl E_string ?_ | refine zNot rfl ?_ | refine zEqS rfl rfl ?_ | refine zNeS rfl rfl ?_ | refine zT rfl rfl ?_ | refine zF rfl rfl ?_ | refine zT rfl (by assumption) ?_ | refine zF rfl (by assumption) ?_ | refine zLen rfl (hv.len E_s_string) ?_)
      exact ⟨(), ⟨rfl, h, by rw [decide_eq_false (by omega)]; rfl⟩, rfl, trivial⟩
  · rintro _ _ ⟨rfl, h19, hz⟩
    (repeat first | refine zSeq ?_ | refine zReg ?_ | refine zBlk ?_ | refine zSkp ?_ | refine zExt ?_ | refine zNil rfl ?_ | refine zGet rfl ?_ | refine zOn rfl rfl ?_ | refine zOff rfl rfl ?_ | refine zU rfl ?_ | refine zOn rfl (by assumption) ?_ | refine zOff rfl (by assumption) ?_ | refine zMov rfl ?_ | refine zAsg rfl ?_ | refine zXtr rfl ?_ | refine zPT rfl rfl rfl ?_ | refine zPF rfl rfl rfl ?_ | refine zPT rfl (by assumption) rfl ?_ | refine zPF rfl (by assumption) rfl ?_ | refine zLss rfl rfl ?_ | refine zLeq rfl rfl ?_ | refine zGtr rfl rfl ?_ | refine zGeq rfl rfl ?_ | refine zEql rfl rfl ?_ | refine zNeq rfl rfl ?_ | refine zAdd rfl rfl (by omega) ?_ | refine zSub rfl rfl (by omega) ?_ | refine zLenS rfl E_string ?_ | refine zNot rfl ?_ | refine zEqS rfl rfl ?_ | refine zNeS rfl rfl ?_ | refine zT rfl rfl ?_ | refine zF rfl rfl ?_ | refine zT rfl (by assumption) ?_ | refine zF rfl (by assumption) ?_ | refine zLen rfl (hv.len E_s_string) ?_)
    refine WP.loopH (σ := Nat) (fun i => [(0, .string s), (3, .int .u64 (val (l.take i))), (4, .int .i64 i)]) (fun i H' => H = H' ∧ i ≤ l.length) (fun i => l.length - i) 0 ⟨rfl, by omega⟩ ⟨rfl, rfl, rfl, trivial⟩ ?_
    rintro i _ ⟨rfl, hi⟩
    have hv := val_lt hdg i hi
    have hv2 : val (l.take i) < 10000000000000000000 := Nat.lt_of_lt_of_le hv (Nat.pow_le_pow_right (by omega) (by omega) : 10 ^ i ≤ 10 ^ 19)
    rcases Nat.lt_or_ge i l.length with h | h
    · have g1 : decide ((i : Int) < s.size) = true := decide_eq_true (by omega)
      have hx : s.data.toList[(i : Int).toNat]? = some l[i] := by rw [hl]; simp [h]
      have hc := hdg l[i] (List.getElem_mem _)
      have hv3 := val_lt hdg (i + 1) h
      have hv4 : val (l.take (i + 1)) < 10000000000000000000 := Nat.lt_of_lt_of_le hv3 (Nat.pow_le_pow_right (by omega) (by omega) : 10 ^ (i + 1) ≤ 10 ^ 19)
      have hvt := val_take h
      simp only [dig, Bool.and_eq_true, decide_eq_true_eq] at hc
      (repeat first | refine zSeq ?_ | refine zReg ?_ | refine zBlk ?_ | refine zSkp ?_ | refine zExt ?_ | refine zNil rfl ?_ | refine zGet rfl ?_ | refine zOn rfl rfl ?_ | refine zOff rfl rfl ?_ | refine zU rfl ?_ | refine zOn rfl (by assumption) ?_ | refine zOff rfl (by assumption) ?_ | refine zMov rfl ?_ | refine zAsg rfl ?_ | refine zXtr rfl ?_ | refine zPT rfl rfl rfl ?_ | refine zPF rfl rfl rfl ?_ | refine zPT rfl (by assumption) rfl ?_ | refine zPF rfl (by assumption) rfl ?_ | refine zLss rfl rfl ?_ | refine zLeq rfl rfl ?_ | refine zGtr rfl rfl ?_ | refine zGeq rfl rfl ?_ | refine zEql rfl rfl ?_ | refine zNeq rfl rfl ?_ | refine zAdd rfl rfl (by omega) ?_ | refine zSub rfl rfl (by omega) ?_ | refine zLenS rfl E_string ?_ | refine zNot rfl ?_ | refine zEqS rfl rfl ?_ | refine zNeS rfl rfl ?_ | refine zT rfl rfl ?_ | refine zF rfl rfl ?_ | refine zT rfl (by assumption) ?_ | refine zF rfl (by assumption) ?_ | refine zLen rfl (hv.len E_s_string) ?_)
      refine WL.op (op_int rfl rfl (aInt_mulW _ _ (c := (val (l.take i) : Int) * 10 % 18446744073709551616) (by rw [IntKind.wrap_u64]))) ?_
      (repeat first | refine zSeq ?_ | refine zReg ?_ | refine zBlk ?_ | refine zSkp ?_ | refine zExt ?_ | refine zNil rfl ?_ | refine zGet rfl ?_ | refine zOn rfl rfl ?_ | refine zOff rfl rfl ?_ | refine zU rfl ?_ | refine zOn rfl (by assumption) ?_ | refine zOff rfl (by assumption) ?_ | refine zMov rfl ?_ | refine zAsg rfl ?_ | refine zXtr rfl ?_ | refine zPT rfl rfl rfl ?_ | refine zPF rfl rfl rfl ?_ | refine zPT rfl (by assumption) rfl ?_ | refine zPF rfl (by assumption) rfl ?_ | refine zLss rfl rfl ?_ | refine zLeq rfl rfl ?_ | refine zGtr rfl rfl ?_ | refine zGeq rfl rfl ?_ | refine zEql rfl rfl ?_ | refine zNeq rfl rfl ?_ | refine zAdd rfl rfl (by omega) ?_ | refine zSub rfl rfl (by omega) ?_ | refine zLenS rfl E_string ?_ | refine zNot rfl ?_ | refine zEqS rfl rfl ?_ | refine zNeS rfl rfl ?_ | refine zT rfl rfl ?_ | refine zF rfl rfl ?_ | refine zT rfl (by assumption) ?_ | refine zF rfl (by assumption) ?_ | refine zLen rfl (hv.len E_s_string) ?_)
      refine WL.op (op_indexS rfl rfl E_string (by omega) hx) ?_
      refine WL.op (op_int rfl rfl (aInt_subW _ _ (c := (l[i].toNat : Int) - 48) (by rw [IntKind.wrap_u8]; omega))) ?_
      refine WL.op (op_conv u5 u52 rfl (m := (l[i].toNat : Int) - 48) (by rw [IntKind.wrap_u64]; omega)) ?_
      refine WL.op (op_int rfl rfl (aInt_addW _ _ (c := (val (l.take (i + 1)) : Nat)) (by rw [IntKind.wrap_u64, hvt]; omega))) ?_
      (repeat first | refine zSeq ?_ | refine zReg ?_ | refine zBlk ?_ | refine zSkp ?_ | refine zExt ?_ | refine zNil rfl ?_ | refine zGet rfl ?_ | refine zOn rfl rfl ?_ | refine zOff rfl rfl ?_ | refine zU rfl ?_ | refine zOn rfl (by assumption) ?_ | refine zOff rfl (by assumption) ?_ | refine zMov rfl ?_ | refine zAsg rfl ?_ | refine zXtr rfl ?_ | refine zPT rfl rfl rfl ?_ | refine zPF rfl rfl rfl ?_ | refine zPT rfl (by assumption) rfl ?_ | refine zPF rfl (by assumption) rfl ?_ | refine zLss rfl rfl ?_ | refine zLeq rfl rfl ?_ | refine zGtr rfl rfl ?_ | refine zGeq rfl rfl ?_ | refine zEql rfl rfl ?_ | refine zNeq rfl rfl ?_ | refine zAdd rfl rfl (by omega) ?_ | refine zSub rfl rfl (by omega) ?_ | refine zLenS rfl E_string ?_ | refine zNot rfl ?_ | refine zEqS rfl rfl ?_ | refine zNeS rfl rfl ?_ | refine zT rfl rfl ?_ | refine zF rfl rfl ?_ | refine zT rfl (by assumption) ?_ | refine zF rfl (by assumption) ?_ | refine zLen rfl (hv.len E_s_string) ?_)
      exact ⟨i + 1, ⟨rfl, by omega⟩, by omega, rfl, rfl, rfl, trivial⟩
    · have g1 : decide ((i : Int) < s.size) = false := decide_eq_false (by omega)
      (repeat first | refine zSeq ?_ | refine zReg ?_ | refine zBlk ?_ | refine zSkp ?_ | refine zExt ?_ | refine zNil rfl ?_ | refine zGet rfl ?_ | refine zOn rfl rfl ?_ | refine zOff rfl rfl ?_ | refine zU rfl ?_ | refine zOn rfl (by assumption) ?_ | refine zOff rfl (by assumption) ?_ | refine zMov rfl ?_ | refine zAsg rfl ?_ | refine zXtr rfl ?_ | refine zPT rfl rfl rfl ?_ | refine zPF rfl rfl rfl ?_ | refine zPT rfl (by assumption) rfl ?_ | refine zPF rfl (by assumption) rfl ?_ | refine zLss rfl rfl ?_ | refine zLeq rfl rfl ?_ | refine zGtr rfl rfl ?_ | refine zGeq rfl rfl ?_ | refine zEql rfl rfl ?_ | refine zNeq rfl rfl ?_ | refine zAdd rfl rfl (by omega) ?_ | refine zSub rfl rfl (by omega) ?_ | refine zLenS rfl E_string ?_ | refine zNot rfl ?_ | refine zEqS rfl rfl ?_ | refine zNeS rfl rfl ?_ | refine zT rfl rfl ?_ | refine zF rfl rfl ?_ | refine zT rfl (by assumption) ?_ | refine zF rfl (by assumption) ?_ | refine zLen rfl (hv.len E_s_string) ?_)
      refine WP.ret ⟨.inr rfl, _, rfl, fin _ ?_⟩
      rw [rnumB, hl, hz, decide_eq_true (by omega : s.size ≤ 19), Bool.not_false, Bool.true_and, Bool.true_and, List.take_of_length_le h, decide_eq_decide]
      omega
end Go.Proofs.YtdkfcpadbahohaaDoor.U

/-
  The two ways to find a token at the beginning are one.
-/
namespace Go.Proofs.YtdkfcpadbahohaaDoor.U
open Go Go.Ev
attribute [local irreducible] WL WP WH W
variable {O : Orc} {H : AH}
def valF (n : Nat) (l : List UInt8) : Nat := l.foldl (fun n c => n * 10 + (c.toNat - 48)) n
theorem valF_eq : ∀ (l : List UInt8) (n : Nat), valF n l = n * 10 ^ l.length + val l
  | [], n => by simp [valF, val]
  | c :: r, n => by
    have e1 : valF n (c :: r) = valF (n * 10 + (c.toNat - 48)) r := rfl
    have e2 : val (c :: r) = valF (0 * 10 + (c.toNat - 48)) r := rfl
    rw [e1, e2, valF_eq r, valF_eq r, List.length_cons, Nat.pow_succ, Nat.zero_mul, Nat.zero_add, Nat.add_mul, Nat.mul_assoc, Nat.mul_comm 10, Nat.add_assoc]
theorem val_cons (c : UInt8) (r : List UInt8) : val (c :: r) = (c.toNat - 48) * 10 ^ r.length + val r := by
  have e2 : val (c :: r) = valF (0 * 10 + (c.toNat - 48)) r := rfl
  rw [e2, valF_eq, Nat.zero_mul, Nat.zero_add]
theorem val_lt' {l : List UInt8} (hd : ∀ c ∈ l, dig c.toNat = true) : val l < 10 ^ l.length := by
  have := val_lt hd l.length (Nat.le_refl _)
  rwa [List.take_length] at this
theorem dig_iff {c : UInt8} : dig c.toNat = true ↔ 48 ≤ c.toNat ∧ c.toNat ≤ 57 := by
  simp only [dig, Bool.and_eq_true, decide_eq_true_eq]; omega
theorem less_val : ∀ {a b : List UInt8}, a.length = b.length → (∀ c ∈ a, dig c.toNat = true) → (∀ c ∈ b, dig c.toNat = true) → (Op.bytesLess a b || a == b) = decide (val a ≤ val b)
  | [], [], _, _, _ => by decide
  | [], _ :: _, h, _, _ => by simp at h
  | _ :: _, [], h, _, _ => by simp at h
  | x :: a, y :: b, h, ha, hb => by
    have hl : a.length = b.length := by simpa using h
    have ih := less_val hl (fun c hc => ha c (by simp [hc])) (fun c hc => hb c (by simp [hc]))
    have hx := dig_iff.1 (ha x (by simp))
    have hy := dig_iff.1 (hb y (by simp))
    have la := val_lt' (l := a) (fun c hc => ha c (by simp [hc]))
    have lb := val_lt' (l := b) (fun c hc => hb c (by simp [hc]))
    rw [val_cons, val_cons, hl]
    rw [hl] at la
    rcases Nat.lt_trichotomy x.toNat y.toNat with h1 | h1 | h1
    · have e : Op.bytesLess (x :: a) (y :: b) = true := by
        unfold Op.bytesLess
        have : x < y := UInt8.lt_iff_toNat_lt.2 h1
        simp [this]
      rw [e, Bool.true_or, eq_comm, decide_eq_true_eq]
      have : (x.toNat - 48 + 1) * 10 ^ b.length ≤ (y.toNat - 48) * 10 ^ b.length := Nat.mul_le_mul_right _ (by omega)
      rw [Nat.add_mul, Nat.one_mul] at this
      omega
    · obtain rfl : x = y := UInt8.toNat_inj.1 h1
      have e : (Op.bytesLess (x :: a) (x :: b) || (x :: a) == (x :: b)) = (Op.bytesLess a b || a == b) := by
        conv => lhs; unfold Op.bytesLess
        have : ¬ x < x := fun h => by have := UInt8.lt_iff_toNat_lt.1 h; omega
        simp [this]
      rw [e, ih, decide_eq_decide]
      omega
    · have e : Op.bytesLess (x :: a) (y :: b) = false := by
        unfold Op.bytesLess
        have h2 : ¬ x < y := fun h => by have := UInt8.lt_iff_toNat_lt.1 h; omega
        have h3 : ¬ x = y := fun h => by subst h; omega
        simp [h2, h3]
      have e2 : ((x :: a) == (y :: b)) = false := by
        have h3 : ¬ x = y := fun h => by subst h; omega
        simp [h3]
      rw [e, e2, Bool.false_or, eq_comm, decide_eq_false_iff_not]
      have : (y.toNat - 48 + 1) * 10 ^ b.length ≤ (x.toNat - 48) * 10 ^ b.length := Nat.mul_le_mul_right _ (by omega)
      rw [Nat.add_mul, Nat.one_mul] at this
      omega
theorem num_eq {l : List UInt8} (h0 : l ≠ []) (hd : ∀ c ∈ l, dig c.toNat = true) : numB (str l) = rnumB (str l) := by
  have e1 : (str l).data.toList = l := rfl
  have e2 : (str l).size = l.length := rfl
  have hlt := val_lt' hd
  unfold numB rnumB
  rw [e1, e2]
  obtain ⟨c, r, rfl⟩ : ∃ c r, l = c :: r := by cases l with | nil => exact absurd rfl h0 | cons c r => exact ⟨c, r, rfl⟩
  have hc := dig_iff.1 (hd c (by simp))
  simp only [List.headD_cons]
  have first : ((c :: r) == [48] || ((c.toNat : Int) != 48)) = !(decide (1 < (c :: r).length) && (c.toNat : Int) == 48) := by
    cases h : (c.toNat : Int) == 48
    · have : ((c.toNat : Int) != 48) = true := by rw [bne, h]; rfl
      rw [this, Bool.or_true, Bool.and_false]; rfl
    · have h' : (c.toNat : Int) = 48 := by simpa using h
      have : ((c.toNat : Int) != 48) = false := by rw [bne, h]; rfl
      have hc48 : c = 48 := UInt8.toNat_inj.1 (by show c.toNat = 48; omega)
      rw [this, Bool.or_false, Bool.and_true, hc48]
      cases r with
      | nil => decide
      | cons d r => simp
  rw [first]
  cases hb : !(decide (1 < (c :: r).length) && (c.toNat : Int) == 48)
  · rw [Bool.false_and, Bool.and_false, Bool.false_and]
  rw [Bool.true_and, Bool.and_true]
  rcases Nat.lt_trichotomy (c :: r).length 19 with h | h | h
  · rw [decide_eq_true (by omega : ((c :: r).length : Int) < 19), Bool.true_or, decide_eq_true (by omega : (c :: r).length ≤ 19), Bool.true_and, eq_comm, decide_eq_true_eq]
    have : 10 ^ (c :: r).length ≤ 10 ^ 18 := Nat.pow_le_pow_right (by omega) (by omega)
    have h18 : 10 ^ 18 = 1000000000000000000 := by decide
    omega
  · rw [decide_eq_false (by omega : ¬ ((c :: r).length : Int) < 19), Bool.false_or, decide_eq_true (by omega : (c :: r).length ≤ 19), Bool.true_and]
    have e3 : (((c :: r).length : Int) == 19) = true := by rw [beq_iff_eq]; omega
    rw [e3, Bool.true_and]
    have e4 : lessB (str (c :: r)) most = (Op.bytesLess (c :: r) most.data.toList || (c :: r) == most.data.toList) := by
      unfold lessB
      rw [ByteArray.toList_eq, ByteArray.toList_eq]; rfl
    rw [e4, less_val (by rw [h]; rfl) hd (by decide)]
    rfl
  · rw [decide_eq_false (by omega : ¬ ((c :: r).length : Int) < 19), Bool.false_or, decide_eq_false (by omega : ¬ (c :: r).length ≤ 19), Bool.false_and]
    have e3 : (((c :: r).length : Int) == 19) = false := by rw [beq_eq_false_iff_ne]; omega
    rw [e3, Bool.false_and]
theorem signs_eq : signs = two ++ one := rfl
theorem pre_list (s x : ByteArray) : pre s x = (decide (x.size ≤ s.size) && (s.data.toList.take x.size == x.data.toList)) := by
  rw [pre, ext_list, List.drop_zero, Nat.sub_zero]
theorem two_size : ∀ x ∈ two, x.size = 2 := by decide
theorem one_size : ∀ x ∈ one, x.size = 1 := by decide
theorem among_ext (s : ByteArray) (n : Nat) (strs : List ByteArray) (hn : n ≤ s.size) (hs : ∀ x ∈ strs, x.size = n) : among (s.extract 0 n) strs = strs.any (pre s) := by
  unfold among
  rw [Bool.eq_iff_iff, List.any_eq_true, List.any_eq_true]
  constructor
  · rintro ⟨x, hx, h⟩
    refine ⟨x, hx, ?_⟩
    rw [pre_list, hs x hx, decide_eq_true hn, Bool.true_and]
    rw [ext_list, List.drop_zero, Nat.sub_zero, beq_iff_eq] at h
    rw [h, beq_self_eq_true]
  · rintro ⟨x, hx, h⟩
    refine ⟨x, hx, ?_⟩
    rw [pre_list, hs x hx, decide_eq_true hn, Bool.true_and, beq_iff_eq] at h
    rw [ext_list, List.drop_zero, Nat.sub_zero, h, beq_self_eq_true]
theorem any_short (s : ByteArray) (n : Nat) (strs : List ByteArray) (hn : s.size < n) (hs : ∀ x ∈ strs, x.size = n) : strs.any (pre s) = false := by
  rw [Bool.eq_false_iff, Ne, List.any_eq_true]
  rintro ⟨x, hx, h⟩
  rw [pre_list, hs x hx, decide_eq_false (by omega)] at h
  cases h
theorem sign_eq {s : ByteArray} (h0 : 0 < s.size) : (match signs.find? (pre s) with | some x => (3, x.size, true) | none => (0, 0, false) : Nat × Nat × Bool) = if rsign s = 0 then (0, 0, false) else (3, rsign s, true) := by
  have e2 : (decide (1 < s.size) && among (s.extract 0 2) two) = two.any (pre s) := by
    rcases Nat.lt_or_ge 1 s.size with h | h
    · rw [decide_eq_true h, Bool.true_and, among_ext s 2 two h two_size]
    · rw [decide_eq_false (by omega), Bool.false_and, any_short s 2 two (by omega) two_size]
  have e1 : among (s.extract 0 1) one = one.any (pre s) := among_ext s 1 one h0 one_size
  unfold rsign
  rw [e2, e1, signs_eq, List.find?_append]
  cases h : two.find? (pre s) with
  | some x =>
    have hx := List.mem_of_find?_eq_some h
    have : two.any (pre s) = true := List.any_eq_true.2 ⟨x, hx, List.find?_some h⟩
    rw [this, if_pos rfl]
    show (3, x.size, true) = _
    rw [two_size x hx]; rfl
  | none =>
    have h2 : two.any (pre s) = false := by
      rw [Bool.eq_false_iff, Ne, List.any_eq_true]
      rintro ⟨x, hx, h'⟩
      exact (List.find?_eq_none.1 h x hx) h'
    simp only [h2, Bool.false_eq_true, if_false]
    show (match one.find? (pre s) with | some x => (3, x.size, true) | none => (0, 0, false) : Nat × Nat × Bool) = _
    cases h : one.find? (pre s) with
    | some x =>
      have hx := List.mem_of_find?_eq_some h
      have : one.any (pre s) = true := List.any_eq_true.2 ⟨x, hx, List.find?_some h⟩
      simp only [this, if_true]
      show (3, x.size, true) = _
      rw [one_size x hx]; rfl
    | none =>
      have h2 : one.any (pre s) = false := by
        rw [Bool.eq_false_iff, Ne, List.any_eq_true]
        rintro ⟨x, hx, h'⟩
        exact (List.find?_eq_none.1 h x hx) h'
      simp only [h2, Bool.false_eq_true, if_false]; rfl
variable {c : UInt8} {r : List UInt8}
theorem wordL_eq : wordL (c :: r) = if let_ c.toNat then ((c :: r).takeWhile fun b => wd b.toNat).length else 0 := rfl
theorem let_wd {c : UInt8} (h : let_ c.toNat = true) : wd c.toNat = true := by rw [wd, h]; rfl
theorem tokL_word (h : let_ c.toNat = true) : tokL (c :: r) = (1, ((c :: r).takeWhile fun b => wd b.toNat).length, decide (((c :: r).takeWhile fun b => wd b.toNat).length ≤ 32)) := by
  have e : wordL (c :: r) = ((c :: r).takeWhile fun b => wd b.toNat).length := by rw [wordL_eq, h]; rfl
  have h0 : 0 < wordL (c :: r) := by rw [e, List.takeWhile_cons, let_wd h]; simp
  unfold tokL tokB
  show (if 0 < wordL (c :: r) then (1, wordL (c :: r), decide (wordL (c :: r) ≤ 32)) else _) = _
  rw [if_pos h0, e]
theorem take_digits (l : List UInt8) : l.take (digL l) = l.takeWhile fun b => dig b.toNat := by
  unfold digL
  conv => lhs; rw [← List.takeWhile_append_dropWhile (p := fun b : UInt8 => dig b.toNat) (l := l)]
  rw [show ((l.takeWhile fun b => dig b.toNat) ++ l.dropWhile fun b => dig b.toNat).takeWhile (fun b => dig b.toNat) = l.takeWhile fun b => dig b.toNat by rw [List.takeWhile_append_dropWhile]]
  rw [List.take_left]
theorem digits_dig (l : List UInt8) : ∀ c ∈ l.take (digL l), dig c.toNat = true := fun c hc => by
  rw [take_digits] at hc
  exact List.all_eq_true.1 (List.all_takeWhile (p := fun b : UInt8 => dig b.toNat)) c hc
theorem digL_pos (h : dig c.toNat = true) : 0 < digL (c :: r) := by
  unfold digL; rw [List.takeWhile_cons, h]; simp
theorem tokL_num (h1 : let_ c.toNat = false) (h2 : dig c.toNat = true) : tokL (c :: r) = (2, digL (c :: r), rnumB (str ((c :: r).take (digL (c :: r)))) && (decide (digL (c :: r) = (c :: r).length) || !let_ (((c :: r).getD (digL (c :: r)) 0).toNat))) := by
  have e : wordL (c :: r) = 0 := by rw [wordL_eq, h1]; rfl
  have hd := digL_pos (r := r) h2
  unfold tokL tokB
  show (if 0 < wordL (c :: r) then _ else if 0 < digL (c :: r) then (2, digL (c :: r), numB ((str (c :: r)).extract 0 (digL (c :: r))) && (decide (digL (c :: r) = (c :: r).length) || !let_ (((c :: r).getD (digL (c :: r)) 0).toNat))) else _) = _
  rw [if_neg (by omega), if_pos hd]
  have : (str (c :: r)).extract 0 (digL (c :: r)) = str ((c :: r).take (digL (c :: r))) := by
    have := ext_str (str (c :: r)) 0 (digL (c :: r))
    rwa [Nat.zero_add, show (str (c :: r)).data.toList = c :: r from rfl, List.drop_zero] at this
  rw [this, num_eq (by rw [take_digits, List.takeWhile_cons, h2]; simp) (digits_dig _)]
theorem tokL_sign (h1 : let_ c.toNat = false) (h2 : dig c.toNat = false) : tokL (c :: r) = if rsign (str (c :: r)) = 0 then (0, 0, false) else (3, rsign (str (c :: r)), true) := by
  have e : wordL (c :: r) = 0 := by rw [wordL_eq, h1]; rfl
  have e2 : digL (c :: r) = 0 := by unfold digL; rw [List.takeWhile_cons, h2]; rfl
  unfold tokL tokB
  show (if 0 < wordL (c :: r) then _ else if 0 < digL (c :: r) then _ else _) = _
  rw [if_neg (by omega), if_neg (by omega)]
  exact sign_eq (s := str (c :: r)) (by show 0 < (c :: r).length; simp)
theorem takeWhile_self {α : Type} {p : α → Bool} : ∀ {l : List α}, (∀ b ∈ l, p b = true) → l.takeWhile p = l
  | [], _ => rfl
  | a :: l, h => by rw [List.takeWhile_cons, h a (by simp), if_pos rfl, takeWhile_self fun b hb => h b (by simp [hb])]
theorem names_eq (s : ByteArray) : nameB s = rname s := by
  have hsz : s.size = s.data.toList.length := rfl
  unfold nameB rname
  congr 1
  rcases Nat.eq_zero_or_pos s.size with h0 | h0
  · rw [decide_eq_false (by omega : ¬ 0 < s.size)]; simp
  cases hl : s.data.toList with
  | nil => rw [hl] at hsz; simp only [List.length_nil] at hsz; omega
  | cons c r =>
    rw [hl] at hsz
    rw [Bool.and_assoc (decide (0 < s.size) && _)]
    congr 1
    rw [wordL_eq, List.headD_cons]
    cases h : let_ c.toNat
    · rw [if_neg (by decide), List.all_cons, wd, h, Bool.false_or]
      have e : ((0 : Nat) == s.size) = false := by rw [beq_eq_false_iff_ne]; omega
      rw [e]
      cases dig c.toNat <;> rfl
    · have hd : dig c.toNat = false := by
        cases e : dig c.toNat
        · rfl
        · have h2 := dig_iff.1 e
          simp only [let_, Bool.or_eq_true, Bool.and_eq_true, decide_eq_true_eq, beq_iff_eq] at h
          omega
      rw [hd, if_pos rfl, Bool.not_false, Bool.true_and, hsz]
      rw [Bool.eq_iff_iff, beq_iff_eq, List.all_eq_true]
      constructor
      · intro he b hb
        have := (List.takeWhile_sublist (l := c :: r) (fun b : UInt8 => wd b.toNat)).eq_of_length he
        rw [← this] at hb
        exact List.all_eq_true.1 (List.all_takeWhile (p := fun b : UInt8 => wd b.toNat)) b hb
      · intro ha
        rw [takeWhile_self ha]
end Go.Proofs.YtdkfcpadbahohaaDoor.U

