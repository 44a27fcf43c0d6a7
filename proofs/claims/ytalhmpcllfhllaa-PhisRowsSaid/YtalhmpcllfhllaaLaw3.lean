/-
  The law PhisRows, the walk.
-/
import Derived.Test.YtalhmpcllfhllaaLaw2
import Derived.Test.YtalhmpcllfhllaaEv6
import Derived.Test.YtalhmpcllfhllaaEv5
import Derived.Test.YtalhmpcllfhllaaRows
import Derived.WalkKit
import Derived.ProofKit
import Derived.OpenShut
import Derived.Deep.DeepHandedRow
set_option linter.all false
namespace Go.Proofs.Ytalhmpcllfhllaa.U
open Go Go.Ev
attribute [local irreducible] WL WP WH W
variable {O : Orc} {H : AH}
theorem rowR_same {H1 H2 H3 : AH} {a b : List Int} {t : Int} {v w : Value} (h : RowR H1 H2 a b t v) (k : RowR H2 H3 a b t w) (hL : a.length ≤ 60) :
    ∃ out w1 w2 e oo n2, v = .tuple #[w1, .int .i64 e] ∧ w = .tuple #[w2, .int .i64 e] ∧ Ow H2 n2 30 6 w1 out.length (inss out) oo ∧ H1.next ≤ n2 ∧ Sl H3 w2 6 out.length (inss out) ∧ out.length ≤ 200 := by
  obtain ⟨hf, ⟨h1, w1, out, oo, n2, rfl, hR, hw, hn, hl⟩ | ⟨h1, rfl⟩⟩ := h
  · obtain ⟨kf, ⟨k1, w2, out2, oo2, n3, rfl, kR, kw, kn, kl⟩ | ⟨k1, rfl⟩⟩ := k
    · have := Phi.Rows.det hR rfl kR
      subst this
      exact ⟨out, w1, w2, 0, oo, n2, rfl, rfl, hw, hn, kw.sl, by omega⟩
    · rw [h1] at k1; cases k1
  · obtain ⟨kf, ⟨k1, w2, out2, oo2, n3, rfl, kR, kw, kn, kl⟩ | ⟨k1, rfl⟩⟩ := k
    · rw [h1] at k1; cases k1
    · exact ⟨[], _, _, 4, none, H1.next, rfl, rfl, .nil, Nat.le_refl _, .nil, by simp⟩
set_option maxHeartbeats 2000000 in
theorem phisRows_c (hO : ∀ f vs H, f ≠ 6 → O f vs H = none) (hW : ∀ H', Kro H H' → O 6 [] H' = some (.bool true, H')) {a b : List Int} {va vb : Value} (la : aLen V.E H 22 va = some (.int .i64 a.length)) (lb : aLen V.E H 22 vb = some (.int .i64 b.length)) (sa : a.length < 4611686018427387904 → Sl H va 1 a.length (ints a)) (sb : b.length < 4611686018427387904 → Sl H vb 1 b.length (ints b)) (t : Int) :
    ∃ H', Lc V O F_law28_PhisRows [va, vb, .int .i64 t] H (.bool true) H' := by
  have key : ∃ u H', Lc V O F_law28_PhisRows [va, vb, .int .i64 t] H u H' ∧ u = .bool true := by
    refine Lc.law28_PhisRows (R := fun u _ => u = .bool true) (hO _ _ _ (by decide)) (Nat.le_of_ble_eq_true rfl) (by kernel_rfl) ?_
    unfold P_law28_PhisRows
    have works := fun {H'} (h : Kro H H') => Lc.orc (V := V) (hW H' h)
    cases d1 : decide ((a.length : Int) > 60)
    case true =>
      (repeat first | refine zSeq ?_ | refine zReg ?_ | refine zBlk ?_ | refine zSkp ?_ | refine zExt ?_ | refine zNil rfl ?_ | refine zGet rfl ?_ | refine zOn rfl rfl ?_ | refine zOff rfl rfl ?_ | refine zU rfl ?_ | refine zOn rfl (by assumption) ?_ | refine zOff rfl (by assumption) ?_ | refine zMov rfl ?_ | refine zAsg rfl ?_ | refine zXtr rfl ?_ | refine zPT rfl rfl rfl ?_ | refine zPF rfl rfl rfl ?_ | refine zPT rfl (by assumption) rfl ?_ | refine zPF rfl (by assumption) rfl ?_ | refine zLss rfl rfl ?_ | refine zLeq rfl rfl ?_ | refine zGtr rfl rfl ?_ | refine zGeq rfl rfl ?_ | refine zEql rfl rfl ?_ | refine zNeq rfl rfl ?_ | refine zAdd rfl rfl (by omega) ?_ | refine zSub rfl rfl (by omega) ?_ | refine zLenS rfl E_string ?_ | refine zNot rfl ?_ | refine zEqS rfl rfl ?_ | refine zNeS rfl rfl ?_ | refine zT rfl rfl ?_ | refine zF rfl rfl ?_ | refine zT rfl (by assumption) ?_ | refine zF rfl (by assumption) ?_ | refine zLen rfl la ?_ | refine zLen rfl lb ?_ | refine zFld (f := 1) rfl O_api_Ins_R ?_ | refine zIdx rfl rfl ha1 ?_ | refine zLen rfl (hw1.len E_s_api_Ins) ?_)
      refine WL.call rfl rfl is_law28_awake (works (Fr.refl _).kro) ?_
      (repeat first | refine zSeq ?_ | refine zReg ?_ | refine zBlk ?_ | refine zSkp ?_ | refine zExt ?_ | refine zNil rfl ?_ | refine zGet rfl ?_ | refine zOn rfl rfl ?_ | refine zOff rfl rfl ?_ | refine zU rfl ?_ | refine zOn rfl (by assumption) ?_ | refine zOff rfl (by assumption) ?_ | refine zMov rfl ?_ | refine zAsg rfl ?_ | refine zXtr rfl ?_ | refine zPT rfl rfl rfl ?_ | refine zPF rfl rfl rfl ?_ | refine zPT rfl (by assumption) rfl ?_ | refine zPF rfl (by assumption) rfl ?_ | refine zLss rfl rfl ?_ | refine zLeq rfl rfl ?_ | refine zGtr rfl rfl ?_ | refine zGeq rfl rfl ?_ | refine zEql rfl rfl ?_ | refine zNeq rfl rfl ?_ | refine zAdd rfl rfl (by omega) ?_ | refine zSub rfl rfl (by omega) ?_ | refine zLenS rfl E_string ?_ | refine zNot rfl ?_ | refine zEqS rfl rfl ?_ | refine zNeS rfl rfl ?_ | refine zT rfl rfl ?_ | refine zF rfl rfl ?_ | refine zT rfl (by assumption) ?_ | refine zF rfl (by assumption) ?_ | refine zLen rfl la ?_ | refine zLen rfl lb ?_ | refine zFld (f := 1) rfl O_api_Ins_R ?_ | refine zIdx rfl rfl ha1 ?_ | refine zLen rfl (hw1.len E_s_api_Ins) ?_)
      exact WP.ret ⟨.inr rfl, _, rfl, rfl⟩
    cases d2 : decide ((b.length : Int) > 60)
    case true =>
      (repeat first | refine zSeq ?_ | refine zReg ?_ | refine zBlk ?_ | refine zSkp ?_ | refine zExt ?_ | refine zNil rfl ?_ | refine zGet rfl ?_ | refine zOn rfl rfl ?_ | refine zOff rfl rfl ?_ | refine zU rfl ?_ | refine zOn rfl (by assumption) ?_ | refine zOff rfl (by assumption) ?_ | refine zMov rfl ?_ | refine zAsg rfl ?_ | refine zXtr rfl ?_ | refine zPT rfl rfl rfl ?_ | refine zPF rfl rfl rfl ?_ | refine zPT rfl (by assumption) rfl ?_ | refine zPF rfl (by assumption) rfl ?_ | refine zLss rfl rfl ?_ | refine zLeq rfl rfl ?_ | refine zGtr rfl rfl ?_ | refine zGeq rfl rfl ?_ | refine zEql rfl rfl ?_ | refine zNeq rfl rfl ?_ | refine zAdd rfl rfl (by omega) ?_ | refine zSub rfl rfl (by omega) ?_ | refine zLenS rfl E_string ?_ | refine zNot rfl ?_ | refine zEqS rfl rfl ?_ | refine zNeS rfl rfl ?_ | refine zT rfl rfl ?_ | refine zF rfl rfl ?_ | refine zT rfl (by assumption) ?_ | refine zF rfl (by assumption) ?_ | refine zLen rfl la ?_ | refine zLen rfl lb ?_ | refine zFld (f := 1) rfl O_api_Ins_R ?_ | refine zIdx rfl rfl ha1 ?_ | refine zLen rfl (hw1.len E_s_api_Ins) ?_)
      refine WL.call rfl rfl is_law28_awake (works (Fr.refl _).kro) ?_
      (repeat first | refine zSeq ?_ | refine zReg ?_ | refine zBlk ?_ | refine zSkp ?_ | refine zExt ?_ | refine zNil rfl ?_ | refine zGet rfl ?_ | refine zOn rfl rfl ?_ | refine zOff rfl rfl ?_ | refine zU rfl ?_ | refine zOn rfl (by assumption) ?_ | refine zOff rfl (by assumption) ?_ | refine zMov rfl ?_ | refine zAsg rfl ?_ | refine zXtr rfl ?_ | refine zPT rfl rfl rfl ?_ | refine zPF rfl rfl rfl ?_ | refine zPT rfl (by assumption) rfl ?_ | refine zPF rfl (by assumption) rfl ?_ | refine zLss rfl rfl ?_ | refine zLeq rfl rfl ?_ | refine zGtr rfl rfl ?_ | refine zGeq rfl rfl ?_ | refine zEql rfl rfl ?_ | refine zNeq rfl rfl ?_ | refine zAdd rfl rfl (by omega) ?_ | refine zSub rfl rfl (by omega) ?_ | refine zLenS rfl E_string ?_ | refine zNot rfl ?_ | refine zEqS rfl rfl ?_ | refine zNeS rfl rfl ?_ | refine zT rfl rfl ?_ | refine zF rfl rfl ?_ | refine zT rfl (by assumption) ?_ | refine zF rfl (by assumption) ?_ | refine zLen rfl la ?_ | refine zLen rfl lb ?_ | refine zFld (f := 1) rfl O_api_Ins_R ?_ | refine zIdx rfl rfl ha1 ?_ | refine zLen rfl (hw1.len E_s_api_Ins) ?_)
      exact WP.ret ⟨.inr rfl, _, rfl, rfl⟩
    have hLa : a.length ≤ 60 := by have := of_decide_eq_false d1; omega
    have hLb : b.length ≤ 60 := by have := of_decide_eq_false d2; omega
    have sa := sa (by omega)
    have sb := sb (by omega)
    have hfa := Fr.alloc H (.row 3 [] .exact 0 0)
    obtain ⟨v1, H1, o1, k1, k2, k3, k4, k5⟩ := (OwE.new (H := H) (n0 := H.next) (e := 3) (sz := 1) (Nat.le_refl _)).appSl (V := V) (bytes := 8) (sa.fr hfa) (by decide) (by omega) (by omega) hfa.1 (ints_one _) E_s_int E_s_int E_int rfl rfl
    have hf1 : Fr H H1 := hfa.young k3 (by simp [obs]) (by simp [ogs])
    have hfb := Fr.alloc H1 (.row 3 [] .exact 0 0)
    obtain ⟨v2, H2, o2, m1, m2, m3, m4, m5⟩ := (OwE.new (H := H1) (n0 := H1.next) (e := 3) (sz := 1) (Nat.le_refl _)).appSl (V := V) (bytes := 8) ((sb.fr hf1).fr hfb) (by decide) (by omega) (by omega) hfb.1 (ints_one _) E_s_int E_s_int E_int rfl rfl
    have hf12 : Fr H1 H2 := hfb.young m3 (by simp [obs]) (by simp [ogs])
    have s1 : Sl H2 v1 1 a.length (ints a) := by simpa using (k2.fr hf12).sl
    have s2 : Sl H2 v2 1 b.length (ints b) := by simpa using m2.sl
    have hf2 := hf1.trans hf12
    (repeat first | refine zSeq ?_ | refine zReg ?_ | refine zBlk ?_ | refine zSkp ?_ | refine zExt ?_ | refine zNil rfl ?_ | refine zGet rfl ?_ | refine zOn rfl rfl ?_ | refine zOff rfl rfl ?_ | refine zU rfl ?_ | refine zOn rfl (by assumption) ?_ | refine zOff rfl (by assumption) ?_ | refine zMov rfl ?_ | refine zAsg rfl ?_ | refine zXtr rfl ?_ | refine zPT rfl rfl rfl ?_ | refine zPF rfl rfl rfl ?_ | refine zPT rfl (by assumption) rfl ?_ | refine zPF rfl (by assumption) rfl ?_ | refine zLss rfl rfl ?_ | refine zLeq rfl rfl ?_ | refine zGtr rfl rfl ?_ | refine zGeq rfl rfl ?_ | refine zEql rfl rfl ?_ | refine zNeq rfl rfl ?_ | refine zAdd rfl rfl (by omega) ?_ | refine zSub rfl rfl (by omega) ?_ | refine zLenS rfl E_string ?_ | refine zNot rfl ?_ | refine zEqS rfl rfl ?_ | refine zNeS rfl rfl ?_ | refine zT rfl rfl ?_ | refine zF rfl rfl ?_ | refine zT rfl (by assumption) ?_ | refine zF rfl (by assumption) ?_ | refine zLen rfl la ?_ | refine zLen rfl lb ?_ | refine zFld (f := 1) rfl O_api_Ins_R ?_ | refine zIdx rfl rfl ha1 ?_ | refine zLen rfl (hw1.len E_s_api_Ins) ?_)
    refine WL.op (op_buildSlice rfl E_s_int E_int (by decide) rfl) ?_
    (repeat first | refine zSeq ?_ | refine zReg ?_ | refine zBlk ?_ | refine zSkp ?_ | refine zExt ?_ | refine zNil rfl ?_ | refine zGet rfl ?_ | refine zOn rfl rfl ?_ | refine zOff rfl rfl ?_ | refine zU rfl ?_ | refine zOn rfl (by assumption) ?_ | refine zOff rfl (by assumption) ?_ | refine zMov rfl ?_ | refine zAsg rfl ?_ | refine zXtr rfl ?_ | refine zPT rfl rfl rfl ?_ | refine zPF rfl rfl rfl ?_ | refine zPT rfl (by assumption) rfl ?_ | refine zPF rfl (by assumption) rfl ?_ | refine zLss rfl rfl ?_ | refine zLeq rfl rfl ?_ | refine zGtr rfl rfl ?_ | refine zGeq rfl rfl ?_ | refine zEql rfl rfl ?_ | refine zNeq rfl rfl ?_ | refine zAdd rfl rfl (by omega) ?_ | refine zSub rfl rfl (by omega) ?_ | refine zLenS rfl E_string ?_ | refine zNot rfl ?_ | refine zEqS rfl rfl ?_ | refine zNeS rfl rfl ?_ | refine zT rfl rfl ?_ | refine zF rfl rfl ?_ | refine zT rfl (by assumption) ?_ | refine zF rfl (by assumption) ?_ | refine zLen rfl la ?_ | refine zLen rfl lb ?_ | refine zFld (f := 1) rfl O_api_Ins_R ?_ | refine zIdx rfl rfl ha1 ?_ | refine zLen rfl (hw1.len E_s_api_Ins) ?_)
    refine WL.op (k1 rfl rfl) ?_
    refine WL.op (op_buildSlice rfl E_s_int E_int (by decide) rfl) ?_
    (repeat first | refine zSeq ?_ | refine zReg ?_ | refine zBlk ?_ | refine zSkp ?_ | refine zExt ?_ | refine zNil rfl ?_ | refine zGet rfl ?_ | refine zOn rfl rfl ?_ | refine zOff rfl rfl ?_ | refine zU rfl ?_ | refine zOn rfl (by assumption) ?_ | refine zOff rfl (by assumption) ?_ | refine zMov rfl ?_ | refine zAsg rfl ?_ | refine zXtr rfl ?_ | refine zPT rfl rfl rfl ?_ | refine zPF rfl rfl rfl ?_ | refine zPT rfl (by assumption) rfl ?_ | refine zPF rfl (by assumption) rfl ?_ | refine zLss rfl rfl ?_ | refine zLeq rfl rfl ?_ | refine zGtr rfl rfl ?_ | refine zGeq rfl rfl ?_ | refine zEql rfl rfl ?_ | refine zNeq rfl rfl ?_ | refine zAdd rfl rfl (by omega) ?_ | refine zSub rfl rfl (by omega) ?_ | refine zLenS rfl E_string ?_ | refine zNot rfl ?_ | refine zEqS rfl rfl ?_ | refine zNeS rfl rfl ?_ | refine zT rfl rfl ?_ | refine zF rfl rfl ?_ | refine zT rfl (by assumption) ?_ | refine zF rfl (by assumption) ?_ | refine zLen rfl la ?_ | refine zLen rfl lb ?_ | refine zFld (f := 1) rfl O_api_Ins_R ?_ | refine zIdx rfl rfl ha1 ?_ | refine zLen rfl (hw1.len E_s_api_Ins) ?_)
    refine WL.op (m1 rfl rfl) ?_
    (repeat first | refine zSeq ?_ | refine zReg ?_ | refine zBlk ?_ | refine zSkp ?_ | refine zExt ?_ | refine zNil rfl ?_ | refine zGet rfl ?_ | refine zOn rfl rfl ?_ | refine zOff rfl rfl ?_ | refine zU rfl ?_ | refine zOn rfl (by assumption) ?_ | refine zOff rfl (by assumption) ?_ | refine zMov rfl ?_ | refine zAsg rfl ?_ | refine zXtr rfl ?_ | refine zPT rfl rfl rfl ?_ | refine zPF rfl rfl rfl ?_ | refine zPT rfl (by assumption) rfl ?_ | refine zPF rfl (by assumption) rfl ?_ | refine zLss rfl rfl ?_ | refine zLeq rfl rfl ?_ | refine zGtr rfl rfl ?_ | refine zGeq rfl rfl ?_ | refine zEql rfl rfl ?_ | refine zNeq rfl rfl ?_ | refine zAdd rfl rfl (by omega) ?_ | refine zSub rfl rfl (by omega) ?_ | refine zLenS rfl E_string ?_ | refine zNot rfl ?_ | refine zEqS rfl rfl ?_ | refine zNeS rfl rfl ?_ | refine zT rfl rfl ?_ | refine zF rfl rfl ?_ | refine zT rfl (by assumption) ?_ | refine zF rfl (by assumption) ?_ | refine zLen rfl la ?_ | refine zLen rfl lb ?_ | refine zFld (f := 1) rfl O_api_Ins_R ?_ | refine zIdx rfl rfl ha1 ?_ | refine zLen rfl (hw1.len E_s_api_Ins) ?_)
    refine WP.loopH (σ := Nat) (fun i => [(0, va), (1, vb), (2, .int .i64 t), (7, v1), (8, v2), (9, .int .i64 i)]) (fun i Hc => Fr H2 Hc ∧ i ≤ 2) (fun i => 2 - i) 0 ⟨.refl _, by omega⟩ ⟨rfl, rfl, rfl, rfl, rfl, rfl, trivial⟩ ?_
    rintro i Hc ⟨hfr, hi⟩
    rcases Nat.lt_or_ge i 2 with h | h
    · have g1 : decide ((i : Int) < 2) = true := decide_eq_true (by omega)
      obtain ⟨x, H3, hc3, hr3⟩ := row_c (H := Hc) hO (s1.fr hfr) (s2.fr hfr) hLa t
      obtain ⟨y, H4, hc4, hr4⟩ := refRow_c (H := H3) hO ((sa.fr (hf2.trans hfr)).fr hr3.1) ((sb.fr (hf2.trans hfr)).fr hr3.1) hLa t
      obtain ⟨out, w1, w2, e, oo, n2, rfl, rfl, hw, hn2, hs2, hol⟩ := rowR_same hr3 hr4 hLa
      (repeat first | refine zSeq ?_ | refine zReg ?_ | refine zBlk ?_ | refine zSkp ?_ | refine zExt ?_ | refine zNil rfl ?_ | refine zGet rfl ?_ | refine zOn rfl rfl ?_ | refine zOff rfl rfl ?_ | refine zU rfl ?_ | refine zOn rfl (by assumption) ?_ | refine zOff rfl (by assumption) ?_ | refine zMov rfl ?_ | refine zAsg rfl ?_ | refine zXtr rfl ?_ | refine zPT rfl rfl rfl ?_ | refine zPF rfl rfl rfl ?_ | refine zPT rfl (by assumption) rfl ?_ | refine zPF rfl (by assumption) rfl ?_ | refine zLss rfl rfl ?_ | refine zLeq rfl rfl ?_ | refine zGtr rfl rfl ?_ | refine zGeq rfl rfl ?_ | refine zEql rfl rfl ?_ | refine zNeq rfl rfl ?_ | refine zAdd rfl rfl (by omega) ?_ | refine zSub rfl rfl (by omega) ?_ | refine zLenS rfl E_string ?_ | refine zNot rfl ?_ | refine zEqS rfl rfl ?_ | refine zNeS rfl rfl ?_ | refine zT rfl rfl ?_ | refine zF rfl rfl ?_ | refine zT rfl (by assumption) ?_ | refine zF rfl (by assumption) ?_ | refine zLen rfl la ?_ | refine zLen rfl lb ?_ | refine zFld (f := 1) rfl O_api_Ins_R ?_ | refine zIdx rfl rfl ha1 ?_ | refine zLen rfl (hw1.len E_s_api_Ins) ?_)
      refine WL.call rfl rfl is_phis_Row hc3 ?_
      (repeat first | refine zSeq ?_ | refine zReg ?_ | refine zBlk ?_ | refine zSkp ?_ | refine zExt ?_ | refine zNil rfl ?_ | refine zGet rfl ?_ | refine zOn rfl rfl ?_ | refine zOff rfl rfl ?_ | refine zU rfl ?_ | refine zOn rfl (by assumption) ?_ | refine zOff rfl (by assumption) ?_ | refine zMov rfl ?_ | refine zAsg rfl ?_ | refine zXtr rfl ?_ | refine zPT rfl rfl rfl ?_ | refine zPF rfl rfl rfl ?_ | refine zPT rfl (by assumption) rfl ?_ | refine zPF rfl (by assumption) rfl ?_ | refine zLss rfl rfl ?_ | refine zLeq rfl rfl ?_ | refine zGtr rfl rfl ?_ | refine zGeq rfl rfl ?_ | refine zEql rfl rfl ?_ | refine zNeq rfl rfl ?_ | refine zAdd rfl rfl (by omega) ?_ | refine zSub rfl rfl (by omega) ?_ | refine zLenS rfl E_string ?_ | refine zNot rfl ?_ | refine zEqS rfl rfl ?_ | refine zNeS rfl rfl ?_ | refine zT rfl rfl ?_ | refine zF rfl rfl ?_ | refine zT rfl (by assumption) ?_ | refine zF rfl (by assumption) ?_ | refine zLen rfl la ?_ | refine zLen rfl lb ?_ | refine zFld (f := 1) rfl O_api_Ins_R ?_ | refine zIdx rfl rfl ha1 ?_ | refine zLen rfl (hw1.len E_s_api_Ins) ?_)
      refine WL.call rfl rfl is_ref28_Row hc4 ?_
      have c1 : (e != e) = false := by simp
      have hw4 := hw.fr hr4.1
      (repeat first | refine zSeq ?_ | refine zReg ?_ | refine zBlk ?_ | refine zSkp ?_ | refine zExt ?_ | refine zNil rfl ?_ | refine zGet rfl ?_ | refine zOn rfl rfl ?_ | refine zOff rfl rfl ?_ | refine zU rfl ?_ | refine zOn rfl (by assumption) ?_ | refine zOff rfl (by assumption) ?_ | refine zMov rfl ?_ | refine zAsg rfl ?_ | refine zXtr rfl ?_ | refine zPT rfl rfl rfl ?_ | refine zPF rfl rfl rfl ?_ | refine zPT rfl (by assumption) rfl ?_ | refine zPF rfl (by assumption) rfl ?_ | refine zLss rfl rfl ?_ | refine zLeq rfl rfl ?_ | refine zGtr rfl rfl ?_ | refine zGeq rfl rfl ?_ | refine zEql rfl rfl ?_ | refine zNeq rfl rfl ?_ | refine zAdd rfl rfl (by omega) ?_ | refine zSub rfl rfl (by omega) ?_ | refine zLenS rfl E_string ?_ | refine zNot rfl ?_ | refine zEqS rfl rfl ?_ | refine zNeS rfl rfl ?_ | refine zT rfl rfl ?_ | refine zF rfl rfl ?_ | refine zT rfl (by assumption) ?_ | refine zF rfl (by assumption) ?_ | refine zLen rfl la ?_ | refine zLen rfl lb ?_ | refine zFld (f := 1) rfl O_api_Ins_R ?_ | refine zIdx rfl rfl ha1 ?_ | refine zLen rfl (hw1.len E_s_api_Ins) ?_)
      refine WL.call rfl rfl is_ref06_SameIns (sameIns_c hO hw4.sl hs2 (by omega)) ?_
      (repeat first | refine zSeq ?_ | refine zReg ?_ | refine zBlk ?_ | refine zSkp ?_ | refine zExt ?_ | refine zNil rfl ?_ | refine zGet rfl ?_ | refine zOn rfl rfl ?_ | refine zOff rfl rfl ?_ | refine zU rfl ?_ | refine zOn rfl (by assumption) ?_ | refine zOff rfl (by assumption) ?_ | refine zMov rfl ?_ | refine zAsg rfl ?_ | refine zXtr rfl ?_ | refine zPT rfl rfl rfl ?_ | refine zPF rfl rfl rfl ?_ | refine zPT rfl (by assumption) rfl ?_ | refine zPF rfl (by assumption) rfl ?_ | refine zLss rfl rfl ?_ | refine zLeq rfl rfl ?_ | refine zGtr rfl rfl ?_ | refine zGeq rfl rfl ?_ | refine zEql rfl rfl ?_ | refine zNeq rfl rfl ?_ | refine zAdd rfl rfl (by omega) ?_ | refine zSub rfl rfl (by omega) ?_ | refine zLenS rfl E_string ?_ | refine zNot rfl ?_ | refine zEqS rfl rfl ?_ | refine zNeS rfl rfl ?_ | refine zT rfl rfl ?_ | refine zF rfl rfl ?_ | refine zT rfl (by assumption) ?_ | refine zF rfl (by assumption) ?_ | refine zLen rfl la ?_ | refine zLen rfl lb ?_ | refine zFld (f := 1) rfl O_api_Ins_R ?_ | refine zIdx rfl rfl ha1 ?_ | refine zLen rfl (hw1.len E_s_api_Ins) ?_)
      refine WP.loopH (σ := Nat) (fun j => [(0, va), (1, vb), (2, .int .i64 t), (7, v1), (8, v2), (9, .int .i64 i), (10, w1), (14, .int .i64 j)]) (fun j Hd => Fr H2 Hd ∧ (∃ cs, Ow Hd n2 30 6 w1 out.length cs oo) ∧ j ≤ out.length) (fun j => out.length - j) 0 ⟨(hfr.trans hr3.1).trans hr4.1, ⟨_, hw4⟩, Nat.zero_le _⟩ ⟨rfl, rfl, rfl, rfl, rfl, rfl, rfl, rfl, trivial⟩ ?_
      have hy := hw4.young
      have hcn : H2.next ≤ Hc.next := hfr.1
      clear hc3 hc4 hw hw4 hs2 hr3 hr4
      rintro j Hd ⟨hfd, ⟨cs, hwd⟩, hj⟩
      have hw1 := hwd.sl
      rcases Nat.lt_or_ge j out.length with hjl | hjl
      · have g3 : decide ((j : Int) < out.length) = true := decide_eq_true (by omega)
        obtain ⟨b', off', He, ha1, _, hwr, hw5, hf5, hn5⟩ := hwd.set E_s_api_Ins E_api_Ins te_api_Ins_size (kd := .i64) (i := j) (by omega) (by omega) (vs := [.int .i64 (-7)]) (by simp) (k := 1) (by simp)
        (repeat first | refine zSeq ?_ | refine zReg ?_ | refine zBlk ?_ | refine zSkp ?_ | refine zExt ?_ | refine zNil rfl ?_ | refine zGet rfl ?_ | refine zOn rfl rfl ?_ | refine zOff rfl rfl ?_ | refine zU rfl ?_ | refine zOn rfl (by assumption) ?_ | refine zOff rfl (by assumption) ?_ | refine zMov rfl ?_ | refine zAsg rfl ?_ | refine zXtr rfl ?_ | refine zPT rfl rfl rfl ?_ | refine zPF rfl rfl rfl ?_ | refine zPT rfl (by assumption) rfl ?_ | refine zPF rfl (by assumption) rfl ?_ | refine zLss rfl rfl ?_ | refine zLeq rfl rfl ?_ | refine zGtr rfl rfl ?_ | refine zGeq rfl rfl ?_ | refine zEql rfl rfl ?_ | refine zNeq rfl rfl ?_ | refine zAdd rfl rfl (by omega) ?_ | refine zSub rfl rfl (by omega) ?_ | refine zLenS rfl E_string ?_ | refine zNot rfl ?_ | refine zEqS rfl rfl ?_ | refine zNeS rfl rfl ?_ | refine zT rfl rfl ?_ | refine zF rfl rfl ?_ | refine zT rfl (by assumption) ?_ | refine zF rfl (by assumption) ?_ | refine zLen rfl la ?_ | refine zLen rfl lb ?_ | refine zFld (f := 1) rfl O_api_Ins_R ?_ | refine zIdx rfl rfl ha1 ?_ | refine zLen rfl (hw1.len E_s_api_Ins) ?_)
        refine WL.op (op_store rfl rfl E_int rfl rfl hwr) ?_
        (repeat first | refine zSeq ?_ | refine zReg ?_ | refine zBlk ?_ | refine zSkp ?_ | refine zExt ?_ | refine zNil rfl ?_ | refine zGet rfl ?_ | refine zOn rfl rfl ?_ | refine zOff rfl rfl ?_ | refine zU rfl ?_ | refine zOn rfl (by assumption) ?_ | refine zOff rfl (by assumption) ?_ | refine zMov rfl ?_ | refine zAsg rfl ?_ | refine zXtr rfl ?_ | refine zPT rfl rfl rfl ?_ | refine zPF rfl rfl rfl ?_ | refine zPT rfl (by assumption) rfl ?_ | refine zPF rfl (by assumption) rfl ?_ | refine zLss rfl rfl ?_ | refine zLeq rfl rfl ?_ | refine zGtr rfl rfl ?_ | refine zGeq rfl rfl ?_ | refine zEql rfl rfl ?_ | refine zNeq rfl rfl ?_ | refine zAdd rfl rfl (by omega) ?_ | refine zSub rfl rfl (by omega) ?_ | refine zLenS rfl E_string ?_ | refine zNot rfl ?_ | refine zEqS rfl rfl ?_ | refine zNeS rfl rfl ?_ | refine zT rfl rfl ?_ | refine zF rfl rfl ?_ | refine zT rfl (by assumption) ?_ | refine zF rfl (by assumption) ?_ | refine zLen rfl la ?_ | refine zLen rfl lb ?_ | refine zFld (f := 1) rfl O_api_Ins_R ?_ | refine zIdx rfl rfl ha1 ?_ | refine zLen rfl (hw1.len E_s_api_Ins) ?_)
        exact ⟨j + 1, ⟨hfd.young hf5 (fun b hb => by have := hy.1 b hb; omega) (fun b hb => by have := hy.2.1 b hb; omega), ⟨_, hw5⟩, hjl⟩, by omega, rfl, rfl, rfl, rfl, rfl, rfl, rfl, rfl, trivial⟩
      · have g3 : decide ((j : Int) < out.length) = false := decide_eq_false (by omega)
        (repeat first | refine zSeq ?_ | refine zReg ?_ | refine zBlk ?_ | refine zSkp ?_ | refine zExt ?_ | refine zNil rfl ?_ | refine zGet rfl ?_ | refine zOn rfl rfl ?_ | refine zOff rfl rfl ?_ | refine zU rfl ?_ | refine zOn rfl (by assumption) ?_ | refine zOff rfl (by assumption) ?_ | refine zMov rfl ?_ | refine zAsg rfl ?_ | refine zXtr rfl ?_ | refine zPT rfl rfl rfl ?_ | refine zPF rfl rfl rfl ?_ | refine zPT rfl (by assumption) rfl ?_ | refine zPF rfl (by assumption) rfl ?_ | refine zLss rfl rfl ?_ | refine zLeq rfl rfl ?_ | refine zGtr rfl rfl ?_ | refine zGeq rfl rfl ?_ | refine zEql rfl rfl ?_ | refine zNeq rfl rfl ?_ | refine zAdd rfl rfl (by omega) ?_ | refine zSub rfl rfl (by omega) ?_ | refine zLenS rfl E_string ?_ | refine zNot rfl ?_ | refine zEqS rfl rfl ?_ | refine zNeS rfl rfl ?_ | refine zT rfl rfl ?_ | refine zF rfl rfl ?_ | refine zT rfl (by assumption) ?_ | refine zF rfl (by assumption) ?_ | refine zLen rfl la ?_ | refine zLen rfl lb ?_ | refine zFld (f := 1) rfl O_api_Ins_R ?_ | refine zIdx rfl rfl ha1 ?_ | refine zLen rfl (hw1.len E_s_api_Ins) ?_)
        exact ⟨i + 1, ⟨hfd, by omega⟩, by omega, rfl, rfl, rfl, rfl, rfl, rfl, trivial⟩
    · have g1 : decide ((i : Int) < 2) = false := decide_eq_false (by omega)
      (repeat first | refine zSeq ?_ | refine zReg ?_ | refine zBlk ?_ | refine zSkp ?_ | refine zExt ?_ | refine zNil rfl ?_ | refine zGet rfl ?_ | refine zOn rfl rfl ?_ | refine zOff rfl rfl ?_ | refine zU rfl ?_ | refine zOn rfl (by assumption) ?_ | refine zOff rfl (by assumption) ?_ | refine zMov rfl ?_ | refine zAsg rfl ?_ | refine zXtr rfl ?_ | refine zPT rfl rfl rfl ?_ | refine zPF rfl rfl rfl ?_ | refine zPT rfl (by assumption) rfl ?_ | refine zPF rfl (by assumption) rfl ?_ | refine zLss rfl rfl ?_ | refine zLeq rfl rfl ?_ | refine zGtr rfl rfl ?_ | refine zGeq rfl rfl ?_ | refine zEql rfl rfl ?_ | refine zNeq rfl rfl ?_ | refine zAdd rfl rfl (by omega) ?_ | refine zSub rfl rfl (by omega) ?_ | refine zLenS rfl E_string ?_ | refine zNot rfl ?_ | refine zEqS rfl rfl ?_ | refine zNeS rfl rfl ?_ | refine zT rfl rfl ?_ | refine zF rfl rfl ?_ | refine zT rfl (by assumption) ?_ | refine zF rfl (by assumption) ?_ | refine zLen rfl la ?_ | refine zLen rfl lb ?_ | refine zFld (f := 1) rfl O_api_Ins_R ?_ | refine zIdx rfl rfl ha1 ?_ | refine zLen rfl (hw1.len E_s_api_Ins) ?_)
      have e1 := ints_c (H := Hc) hO (s1.fr hfr) (sa.fr (hf2.trans hfr)) (by omega)
      have e2 := ints_c (H := Hc) hO (s2.fr hfr) (sb.fr (hf2.trans hfr)) (by omega)
      rw [beq_self_eq_true] at e1 e2
      refine WL.call rfl rfl is_ref12_Ints e1 ?_
      (repeat first | refine zSeq ?_ | refine zReg ?_ | refine zBlk ?_ | refine zSkp ?_ | refine zExt ?_ | refine zNil rfl ?_ | refine zGet rfl ?_ | refine zOn rfl rfl ?_ | refine zOff rfl rfl ?_ | refine zU rfl ?_ | refine zOn rfl (by assumption) ?_ | refine zOff rfl (by assumption) ?_ | refine zMov rfl ?_ | refine zAsg rfl ?_ | refine zXtr rfl ?_ | refine zPT rfl rfl rfl ?_ | refine zPF rfl rfl rfl ?_ | refine zPT rfl (by assumption) rfl ?_ | refine zPF rfl (by assumption) rfl ?_ | refine zLss rfl rfl ?_ | refine zLeq rfl rfl ?_ | refine zGtr rfl rfl ?_ | refine zGeq rfl rfl ?_ | refine zEql rfl rfl ?_ | refine zNeq rfl rfl ?_ | refine zAdd rfl rfl (by omega) ?_ | refine zSub rfl rfl (by omega) ?_ | refine zLenS rfl E_string ?_ | refine zNot rfl ?_ | refine zEqS rfl rfl ?_ | refine zNeS rfl rfl ?_ | refine zT rfl rfl ?_ | refine zF rfl rfl ?_ | refine zT rfl (by assumption) ?_ | refine zF rfl (by assumption) ?_ | refine zLen rfl la ?_ | refine zLen rfl lb ?_ | refine zFld (f := 1) rfl O_api_Ins_R ?_ | refine zIdx rfl rfl ha1 ?_ | refine zLen rfl (hw1.len E_s_api_Ins) ?_)
      refine WL.call rfl rfl is_ref12_Ints e2 ?_
      (repeat first | refine zSeq ?_ | refine zReg ?_ | refine zBlk ?_ | refine zSkp ?_ | refine zExt ?_ | refine zNil rfl ?_ | refine zGet rfl ?_ | refine zOn rfl rfl ?_ | refine zOff rfl rfl ?_ | refine zU rfl ?_ | refine zOn rfl (by assumption) ?_ | refine zOff rfl (by assumption) ?_ | refine zMov rfl ?_ | refine zAsg rfl ?_ | refine zXtr rfl ?_ | refine zPT rfl rfl rfl ?_ | refine zPF rfl rfl rfl ?_ | refine zPT rfl (by assumption) rfl ?_ | refine zPF rfl (by assumption) rfl ?_ | refine zLss rfl rfl ?_ | refine zLeq rfl rfl ?_ | refine zGtr rfl rfl ?_ | refine zGeq rfl rfl ?_ | refine zEql rfl rfl ?_ | refine zNeq rfl rfl ?_ | refine zAdd rfl rfl (by omega) ?_ | refine zSub rfl rfl (by omega) ?_ | refine zLenS rfl E_string ?_ | refine zNot rfl ?_ | refine zEqS rfl rfl ?_ | refine zNeS rfl rfl ?_ | refine zT rfl rfl ?_ | refine zF rfl rfl ?_ | refine zT rfl (by assumption) ?_ | refine zF rfl (by assumption) ?_ | refine zLen rfl la ?_ | refine zLen rfl lb ?_ | refine zFld (f := 1) rfl O_api_Ins_R ?_ | refine zIdx rfl rfl ha1 ?_ | refine zLen rfl (hw1.len E_s_api_Ins) ?_)
      refine WL.call rfl rfl is_law28_awake (works (hf2.trans hfr).kro) ?_
      (repeat first | refine zSeq ?_ | refine zReg ?_ | refine zBlk ?_ | refine zSkp ?_ | refine zExt ?_ | refine zNil rfl ?_ | refine zGet rfl ?_ | refine zOn rfl rfl ?_ | refine zOff rfl rfl ?_ | refine zU rfl ?_ | refine zOn rfl (by assumption) ?_ | refine zOff rfl (by assumption) ?_ | refine zMov rfl ?_ | refine zAsg rfl ?_ | refine zXtr rfl ?_ | refine zPT rfl rfl rfl ?_ | refine zPF rfl rfl rfl ?_ | refine zPT rfl (by assumption) rfl ?_ | refine zPF rfl (by assumption) rfl ?_ | refine zLss rfl rfl ?_ | refine zLeq rfl rfl ?_ | refine zGtr rfl rfl ?_ | refine zGeq rfl rfl ?_ | refine zEql rfl rfl ?_ | refine zNeq rfl rfl ?_ | refine zAdd rfl rfl (by omega) ?_ | refine zSub rfl rfl (by omega) ?_ | refine zLenS rfl E_string ?_ | refine zNot rfl ?_ | refine zEqS rfl rfl ?_ | refine zNeS rfl rfl ?_ | refine zT rfl rfl ?_ | refine zF rfl rfl ?_ | refine zT rfl (by assumption) ?_ | refine zF rfl (by assumption) ?_ | refine zLen rfl la ?_ | refine zLen rfl lb ?_ | refine zFld (f := 1) rfl O_api_Ins_R ?_ | refine zIdx rfl rfl ha1 ?_ | refine zLen rfl (hw1.len E_s_api_Ins) ?_)
      exact WP.ret ⟨.inr rfl, _, rfl, rfl⟩
  obtain ⟨u, H', h, rfl⟩ := key
  exact ⟨H', h⟩
end Go.Proofs.Ytalhmpcllfhllaa.U

/-
  PhisRows: what its row asks, and its card.
-/
namespace Go.Proofs.Ytalhmpcllfhllaa.U.PhisRows
open Go Go.Ev Go.Proofs.Ytalhmpcllfhllaa.U
noncomputable def rows : List AObj := []
theorem rowsOk : rows.all Go.Ev.rowOk = true := by kernel_rfl
theorem names : (Try.prog.funcs.toList.all fun fn => !(fn.name == "runtime.NumGoroutine")) = true := by kernel_rfl
theorem mixed : Try.prog.follows .mixedOrders = true := by kernel_rfl
theorem laidOut : laidOutB Try.prog = true := by kernel_rfl
theorem run : runK (envOf Try.prog rows.length) rows 1000 50 6 = some (.bool true) := by kernel_rfl
noncomputable def orc : Orc := orcOne rows 6 (.bool true)
theorem orc_ok : OrcOk (envOf Try.prog rows.length) orc := orcOne_ok fun _ hk => closed_sound names mixed rowsOk rfl run hk
theorem ua22 : Try.prog.underlying 22 = some (.slice 3) := by kernel_rfl
theorem ua3 : Try.prog.underlying 3 = some (.int .i64) := by kernel_rfl
abbrev S := AOne (RSlice 1 (RInt .i64)) (AOne (RSlice 1 (RInt .i64)) (AOne (RInt .i64) AEnd))
theorem entS : EntA Try.prog S [22, 22, 3] := EntA.one ua22 rfl (Ent.slice ua22 (by kernel_rfl) (by decide) (Ent.int ua3) RInt.mono) (RSlice.mono (n := 1) (R := RInt .i64) RInt.mono) (EntA.one ua22 rfl (Ent.slice ua22 (by kernel_rfl) (by decide) (Ent.int ua3) RInt.mono) (RSlice.mono (n := 1) (R := RInt .i64) RInt.mono) (EntA.one ua3 rfl (Ent.int ua3) RInt.mono EntA.nil))
theorem law (H : AH) (avs : List Value) b (hk : Kro (startH rows) H) (hs : S H avs b) : ∃ H', Lc (envOf Try.prog rows.length) orc 3 avs H (.bool true) H' := by
  obtain ⟨va, r1, rfl, h1, vb, r2, rfl, h2, vt, r3, rfl, ⟨h3, _⟩, rfl⟩ := hs
  cases h3
  obtain ⟨_, e1, _, la, sa⟩ := sl_of (c := fun x : Int => .int .i64 x) (fun _ _ _ h => h.1) h1
  cases e1
  obtain ⟨_, e2, _, lb, sb⟩ := sl_of (c := fun x : Int => .int .i64 x) (fun _ _ _ h => h.1) h2
  cases e2
  refine phisRows_c (O := orc) (H := H) (fun f vs H' hf => ?_) (fun H' hk' => ?_) (la E_s_int) (lb E_s_int) sa sb _
  · unfold orc orcOne; rw [if_neg (fun h => hf h.1)]
  · unfold orc orcOne; rw [if_pos ⟨rfl, rfl, hk.trans hk'⟩]
open Go.RowKit in
theorem rows_in {W : World} (h : laidMetH Try.prog Rows.phisRowsRow.laid W) : ∀ g o, rows[g]? = some o → RowIn W g o := by
  intro g o hg
  simp [rows] at hg
open Go.RowKit Go.ChangeShapes in
theorem contract (H : Type) (enc : TypeId × Value → H) (W : World) (base : Nat) (args : Array Value) (ds gs : List (DataW H)) (before : List MemPlace)
    (hval : ∀ (j : Nat) t v, Try.f3.params[j]? = some t → args[j]? = some v → Value.okWide Try.prog W .any base t v)
    (hW : DataW.Whole enc Try.prog Try.f3.params.toList Rows.phisRowsSpec.vars false W args.toList ds gs before) (hL : laidMetH Try.prog Rows.phisRowsRow.laid W) :
    Calls Try.prog 3 args W fun e W' => ∃ v, e = .returned v ∧ Rows.phisRowsSpec.post enc Try.prog Try.f3 false true false false W args v W' :=
  law_contract (S := S) (ts := [22, 22, 3]) (tb := 4) names mixed laidOut (rows_in hL) (by kernel_rfl) entS (by kernel_rfl) (by kernel_rfl) (by kernel_rfl) rfl
    (fun hg hd => by
      subst hg
      match ds, hd with
      | [d0, d1, d2], _ => rfl) hval hW orc_ok law
open Go.ChangeShapes Go.WideShapes Go.ChangeAt Go.RowKit
theorem own : ownKnob Try.prog.godebug = none := by kernel_rfl
noncomputable def laidWorld (os : Os) : World := World.holding Try.prog os ⟨#[], #[.slice none 0 0, .slice none 0 0, .int .i64 0], []⟩
theorem laid_met (os : Os) : laidMet Try.prog Rows.phisRowsRow.laid ((laidWorld os).forCall (fun _ _ => 0) ⟨#[], #[.slice none 0 0, .slice none 0 0, .int .i64 0], []⟩).memory :=
  by first | exact laidMet_of_run' 8 (by kernel_rfl) (by kernel_rfl) | (intro x h; cases h) | (unfold laidMet; simp)
theorem reads (os : Os) {H : Type} (enc : TypeId × Value → H) : ∃ places, DataW.whole enc Try.prog ((laidWorld os).forCall (fun _ _ => 0) ⟨#[], #[.slice none 0 0, .slice none 0 0, .int .i64 0], []⟩).memory Try.f3.params.toList Rows.phisRowsSpec.vars false (#[.slice none 0 0, .slice none 0 0, .int .i64 0] : Array Value).toList 8 = some ([.nil, .nil, .lit (.int .i64 0)], [], places) :=
  ⟨[], by kernel_rfl⟩
set_option maxRecDepth 100000 in
theorem lifted (os : Os) (started : os.Started) (H : Type) (enc : TypeId × Value → H) (F : Stop.Interp) :
    ReturnsInHanded {} Try.checked os 3 .any ((OpenSpec.ofChange Rows.phisRowsSpec).preRow enc Try.prog Try.f3 Rows.phisRowsRow.domain false Rows.phisRowsRow.laid) (((OpenSpec.ofChange Rows.phisRowsSpec).at F).post enc Try.prog Try.f3 false true false false) := by
  obtain ⟨places, hx⟩ := reads os enc
  refine returnsInHanded_of_row (C := Try.checked) (s := OpenSpec.ofChange Rows.phisRowsSpec) own started (by kernel_rfl) Try.func3
    (witness_row_at (enc := enc) (C := Try.checked) false (laidWorld os) #[.slice none 0 0, .slice none 0 0, .int .i64 0] rfl (by kernel_rfl) (by kernel_rfl) (by kernel_rfl)
      (OpenSpec.preRow_of_cond 8 hx (by kernel_rfl) (fun k hk => by cases hk) (by kernel_rfl) (laid_met os))) ?_
  intro W base args ds gs before hval hW _ _ _ hL _ _
  exact contract H enc W base args ds gs before hval hW hL
theorem said : Rows.PhisRowsSaid :=
  OpenClaim.holds_of_cond 3 Try.f3 rfl rfl rfl rfl rfl rfl rfl ⟨rfl, rfl, rfl, rfl, rfl⟩ rfl rfl rfl rfl rfl (by kernel_rfl) Try.func3 (by kernel_rfl)
    (of_decide_eq_true (by kernel_rfl)) (by unfold Func.isWrapper; first | (rw [if_pos (by decide +kernel)]; kernel_rfl) | (rw [if_neg (by decide +kernel)]; exact ⟨rfl, rfl⟩))
    (fun os started H enc _ F => by rw [OpenClaim.pre_eq_preRow]; exact lifted os started H enc F)
end Go.Proofs.Ytalhmpcllfhllaa.U.PhisRows

