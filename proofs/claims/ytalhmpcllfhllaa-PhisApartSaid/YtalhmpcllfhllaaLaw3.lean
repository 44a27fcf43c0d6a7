/-
  The law PhisRows, the walk.
-/
import Derived.Test.YtalhmpcllfhllaaLaw2
import Derived.Test.YtalhmpcllfhllaaEv6
import Derived.Test.YtalhmpcllfhllaaLaw1
import Derived.Test.YtalhmpcllfhllaaEv5
import Derived.Test.YtalhmpcllfhllaaRows
import Derived.WalkKit
import Derived.ProofKit
import Derived.OpenShut
import Derived.Deep.DeepHandedRow
set_option linter.all false
namespace Go.Proofs.Ytalhmpcllfhllaa.U
open Go Go.Ev
attribute [local irreducible] WL WP WH W
variable {O : Orc} {H : AH}
theorem rowR_same {H1 H2 H3 : AH} {a b : List Int} {t : Int} {v w : Value} (h : RowR H1 H2 a b t v) (k : RowR H2 H3 a b t w) (hL : a.length ≤ 60) :
    ∃ out w1 w2 e oo n2, v = .tuple #[w1, .int .i64 e] ∧ w = .tuple #[w2, .int .i64 e] ∧ Ow H2 n2 30 6 w1 out.length (inss out) oo ∧ H1.next ≤ n2 ∧ Sl H3 w2 6 out.length (inss out) ∧ out.length ≤ 200 := by
  obtain ⟨hf, ⟨h1, w1, out, oo, n2, rfl, hR, hw, hn, hl⟩ | ⟨h1, rfl⟩⟩ := h
  · obtain ⟨kf, ⟨k1, w2, out2, oo2, n3, rfl, kR, kw, kn, kl⟩ | ⟨k1, rfl⟩⟩ := k
    · have := Phi.Rows.det hR rfl kR
      subst this
      exact ⟨out, w1, w2, 0, oo, n2, rfl, rfl, hw, hn, kw.sl, by omega⟩
    · rw [h1] at k1; cases k1
  · obtain ⟨kf, ⟨k1, w2, out2, oo2, n3, rfl, kR, kw, kn, kl⟩ | ⟨k1, rfl⟩⟩ := k
    · rw [h1] at k1; cases k1
    · exact ⟨[], _, _, 4, none, H1.next, rfl, rfl, .nil, Nat.le_refl _, .nil, by simp⟩
set_option maxHeartbeats 2000000 in
theorem phisRows_c (hO : ∀ f vs H, f ≠ 6 → O f vs H = none) (hW : ∀ H', Kro H H' → O 6 [] H' = some (.bool true, H')) {a b : List Int} {va vb : Value} (la : aLen V.E H 22 va = some (.int .i64 a.length)) (lb : aLen V.E H 22 vb = some (.int .i64 b.length)) (sa : a.length < 4611686018427387904 → Sl H va 1 a.length (ints a)) (sb : b.length < 4611686018427387904 → Sl H vb 1 b.length (ints b)) (t : Int) :
    ∃ H', Lc V O F_law28_PhisRows [va, vb, .int .i64 t] H (.bool true) H' := by
  have key : ∃ u H', Lc V O F_law28_PhisRows [va, vb, .int .i64 t] H u H' ∧ u = .bool true := by
    refine Lc.law28_PhisRows (R := fun u _ => u = .bool true) (hO _ _ _ (by decide)) (Nat.le_of_ble_eq_true rfl) (by kernel_rfl) ?_
    unfold P_law28_PhisRows
    have works := fun {H'} (h : Kro H H') => Lc.orc (V := V) (hW H' h)
    cases d1 : decide ((a.length : Int) > 60)
    case true =>
      (repeat first | refine zSeq ?_ | refine zReg ?_ | refine zBlk ?_ | refine zSkp ?_ | refine zExt ?_ | refine zNil rfl ?_ | refine zGet rfl ?_ | refine zOn rfl rfl ?_ | refine zOff rfl rfl ?_ | refine zU rfl ?_ | refine zOn rfl (by assumption) ?_ | refine zOff rfl (by assumption) ?_ | refine zMov rfl ?_ | refine zAsg rfl ?_ | refine zXtr rfl ?_ | refine zPT rfl rfl rfl ?_ | refine zPF rfl rfl rfl ?_ | refine zPT rfl (by assumption) rfl ?_ | refine zPF rfl (by assumption) rfl ?_ | refine zLss rfl rfl ?_ | refine zLeq rfl rfl ?_ | refine zGtr rfl rfl ?_ | refine zGeq rfl rfl ?_ | refine zEql rfl rfl ?_ | refine zNeq rfl rfl ?_ | refine zAdd rfl rfl (by omega) ?_ | refine zSub rfl rfl (by omega) ?_ | refine zLenS rfl E_string ?_ | refine zNot rfl ?_ | refine zEqS rfl rfl ?_ | refine zNeS rfl rfl ?_ | refine zT rfl rfl ?_ | refine zF rfl rfl ?_ | refine zT rfl (by assumption) ?_ | refine zF rfl (by assumption) ?_ | refine zLen rfl la ?_ | refine zLen rfl lb ?_ | refine zFld (f := 1) rfl O_api_Ins_R ?_ | refine zIdx rfl rfl ha1 ?_ | refine zLen rfl (hw1.len E_s_api_Ins) ?_)
      refine WL.call rfl rfl is_law28_awake (works (Fr.refl _).kro) ?_
      (repeat first | refine zSeq ?_ | refine zReg ?_ | refine zBlk ?_ | refine zSkp ?_ | refine zExt ?_ | refine zNil rfl ?_ | refine zGet rfl ?_ | refine zOn rfl rfl ?_ | refine zOff rfl rfl ?_ | refine zU rfl ?_ | refine zOn rfl (by assumption) ?_ | refine zOff rfl (by assumption) ?_ | refine zMov rfl ?_ | refine zAsg rfl ?_ | refine zXtr rfl ?_ | refine zPT rfl rfl rfl ?_ | refine zPF rfl rfl rfl ?_ | refine zPT rfl (by assumption) rfl ?_ | refine zPF rfl (by assumption) rfl ?_ | refine zLss rfl rfl ?_ | refine zLeq rfl rfl ?_ | refine zGtr rfl rfl ?_ | refine zGeq rfl rfl ?_ | refine zEql rfl rfl ?_ | refine zNeq rfl rfl ?_ | refine zAdd rfl rfl (by omega) ?_ | refine zSub rfl rfl (by omega) ?_ | refine zLenS rfl E_string ?_ | refine zNot rfl ?_ | refine zEqS rfl rfl ?_ | refine zNeS rfl rfl ?_ | refine zT rfl rfl ?_ | refine zF rfl rfl ?_ | refine zT rfl (by assumption) ?_ | refine zF rfl (by assumption) ?_ | refine zLen rfl la ?_ | refine zLen rfl lb ?_ | refine zFld (f := 1) rfl O_api_Ins_R ?_ | refine zIdx rfl rfl ha1 ?_ | refine zLen rfl (hw1.len E_s_api_Ins) ?_)
      exact WP.ret ⟨.inr rfl, _, rfl, rfl⟩
    cases d2 : decide ((b.length : Int) > 60)
    case true =>
      (repeat first | refine zSeq ?_ | refine zReg ?_ | refine zBlk ?_ | refine zSkp ?_ | refine zExt ?_ | refine zNil rfl ?_ | refine zGet rfl ?_ | refine zOn rfl rfl ?_ | refine zOff rfl rfl ?_ | refine zU rfl ?_ | refine zOn rfl (by assumption) ?_ | refine zOff rfl (by assumption) ?_ | refine zMov rfl ?_ | refine zAsg rfl ?_ | refine zXtr rfl ?_ | refine zPT rfl rfl rfl ?_ | refine zPF rfl rfl rfl ?_ | refine zPT rfl (by assumption) rfl ?_ | refine zPF rfl (by assumption) rfl ?_ | refine zLss rfl rfl ?_ | refine zLeq rfl rfl ?_ | refine zGtr rfl rfl ?_ | refine zGeq rfl rfl ?_ | refine zEql rfl rfl ?_ | refine zNeq rfl rfl ?_ | refine zAdd rfl rfl (by omega) ?_ | refine zSub rfl rfl (by omega) ?_ | refine zLenS rfl E_string ?_ | refine zNot rfl ?_ | refine zEqS rfl rfl ?_ | refine zNeS rfl rfl ?_ | refine zT rfl rfl ?_ | refine zF rfl rfl ?_ | refine zT rfl (by assumption) ?_ | refine zF rfl (by assumption) ?_ | refine zLen rfl la ?_ | refine zLen rfl lb ?_ | refine zFld (f := 1) rfl O_api_Ins_R ?_ | refine zIdx rfl rfl ha1 ?_ | refine zLen rfl (hw1.len E_s_api_Ins) ?_)
      refine WL.call rfl rfl is_law28_awake (works (Fr.refl _).kro) ?_
      (repeat first | refine zSeq ?_ | refine zReg ?_ | refine zBlk ?_ | refine zSkp ?_ | refine zExt ?_ | refine zNil rfl ?_ | refine zGet rfl ?_ | refine zOn rfl rfl ?_ | refine zOff rfl rfl ?_ | refine zU rfl ?_ | refine zOn rfl (by assumption) ?_ | refine zOff rfl (by assumption) ?_ | refine zMov rfl ?_ | refine zAsg rfl ?_ | refine zXtr rfl ?_ | refine zPT rfl rfl rfl ?_ | refine zPF rfl rfl rfl ?_ | refine zPT rfl (by assumption) rfl ?_ | refine zPF rfl (by assumption) rfl ?_ | refine zLss rfl rfl ?_ | refine zLeq rfl rfl ?_ | refine zGtr rfl rfl ?_ | refine zGeq rfl rfl ?_ | refine zEql rfl rfl ?_ | refine zNeq rfl rfl ?_ | refine zAdd rfl rfl (by omega) ?_ | refine zSub rfl rfl (by omega) ?_ | refine zLenS rfl E_string ?_ | refine zNot rfl ?_ | refine zEqS rfl rfl ?_ | refine zNeS rfl rfl ?_ | refine zT rfl rfl ?_ | refine zF rfl rfl ?_ | refine zT rfl (by assumption) ?_ | refine zF rfl (by assumption) ?_ | refine zLen rfl la ?_ | refine zLen rfl lb ?_ | refine zFld (f := 1) rfl O_api_Ins_R ?_ | refine zIdx rfl rfl ha1 ?_ | refine zLen rfl (hw1.len E_s_api_Ins) ?_)
      exact WP.ret ⟨.inr rfl, _, rfl, rfl⟩
    have hLa : a.length ≤ 60 := by have := of_decide_eq_false d1; omega
    have hLb : b.length ≤ 60 := by have := of_decide_eq_false d2; omega
    have sa := sa (by omega)
    have sb := sb (by omega)
    have hfa := Fr.alloc H (.row 3 [] .exact 0 0)
    obtain ⟨v1, H1, o1, k1, k2, k3, k4, k5⟩ := (OwE.new (H := H) (n0 := H.next) (e := 3) (sz := 1) (Nat.le_refl _)).appSl (V := V) (bytes := 8) (sa.fr hfa) (by decide) (by omega) (by omega) hfa.1 (ints_one _) E_s_int E_s_int E_int rfl rfl
    have hf1 : Fr H H1 := hfa.young k3 (by simp [obs]) (by simp [ogs])
    have hfb := Fr.alloc H1 (.row 3 [] .exact 0 0)
    obtain ⟨v2, H2, o2, m1, m2, m3, m4, m5⟩ := (OwE.new (H := H1) (n0 := H1.next) (e := 3) (sz := 1) (Nat.le_refl _)).appSl (V := V) (bytes := 8) ((sb.fr hf1).fr hfb) (by decide) (by omega) (by omega) hfb.1 (ints_one _) E_s_int E_s_int E_int rfl rfl
    have hf12 : Fr H1 H2 := hfb.young m3 (by simp [obs]) (by simp [ogs])
    have s1 : Sl H2 v1 1 a.length (ints a) := by simpa using (k2.fr hf12).sl
    have s2 : Sl H2 v2 1 b.length (ints b) := by simpa using m2.sl
    have hf2 := hf1.trans hf12
    (repeat first | refine zSeq ?_ | refine zReg ?_ | refine zBlk ?_ | refine zSkp ?_ | refine zExt ?_ | refine zNil rfl ?_ | refine zGet rfl ?_ | refine zOn rfl rfl ?_ | refine zOff rfl rfl ?_ | refine zU rfl ?_ | refine zOn rfl (by assumption) ?_ | refine zOff rfl (by assumption) ?_ | refine zMov rfl ?_ | refine zAsg rfl ?_ | refine zXtr rfl ?_ | refine zPT rfl rfl rfl ?_ | refine zPF rfl rfl rfl ?_ | refine zPT rfl (by assumption) rfl ?_ | refine zPF rfl (by assumption) rfl ?_ | refine zLss rfl rfl ?_ | refine zLeq rfl rfl ?_ | refine zGtr rfl rfl ?_ | refine zGeq rfl rfl ?_ | refine zEql rfl rfl ?_ | refine zNeq rfl rfl ?_ | refine zAdd rfl rfl (by omega) ?_ | refine zSub rfl rfl (by omega) ?_ | refine zLenS rfl E_string ?_ | refine zNot rfl ?_ | refine zEqS rfl rfl ?_ | refine zNeS rfl rfl ?_ | refine zT rfl rfl ?_ | refine zF rfl rfl ?_ | refine zT rfl (by assumption) ?_ | refine zF rfl (by assumption) ?_ | refine zLen rfl la ?_ | refine zLen rfl lb ?_ | refine zFld (f := 1) rfl O_api_Ins_R ?_ | refine zIdx rfl rfl ha1 ?_ | refine zLen rfl (hw1.len E_s_api_Ins) ?_)
    refine WL.op (op_buildSlice rfl E_s_int E_int (by decide) rfl) ?_
    (repeat first | refine zSeq ?_ | refine zReg ?_ | refine zBlk ?_ | refine zSkp ?_ | refine zExt ?_ | refine zNil rfl ?_ | refine zGet rfl ?_ | refine zOn rfl rfl ?_ | refine zOff rfl rfl ?_ | refine zU rfl ?_ | refine zOn rfl (by assumption) ?_ | refine zOff rfl (by assumption) ?_ | refine zMov rfl ?_ | refine zAsg rfl ?_ | refine zXtr rfl ?_ | refine zPT rfl rfl rfl ?_ | refine zPF rfl rfl rfl ?_ | refine zPT rfl (by assumption) rfl ?_ | refine zPF rfl (by assumption) rfl ?_ | refine zLss rfl rfl ?_ | refine zLeq rfl rfl ?_ | refine zGtr rfl rfl ?_ | refine zGeq rfl rfl ?_ | refine zEql rfl rfl ?_ | refine zNeq rfl rfl ?_ | refine zAdd rfl rfl (by omega) ?_ | refine zSub rfl rfl (by omega) ?_ | refine zLenS rfl E_string ?_ | refine zNot rfl ?_ | refine zEqS rfl rfl ?_ | refine zNeS rfl rfl ?_ | refine zT rfl rfl ?_ | refine zF rfl rfl ?_ | refine zT rfl (by assumption) ?_ | refine zF rfl (by assumption) ?_ | refine zLen rfl la ?_ | refine zLen rfl lb ?_ | refine zFld (f := 1) rfl O_api_Ins_R ?_ | refine zIdx rfl rfl ha1 ?_ | refine zLen rfl (hw1.len E_s_api_Ins) ?_)
    refine WL.op (k1 rfl rfl) ?_
    refine WL.op (op_buildSlice rfl E_s_int E_int (by decide) rfl) ?_
    (repeat first | refine zSeq ?_ | refine zReg ?_ | refine zBlk ?_ | refine zSkp ?_ | refine zExt ?_ | refine zNil rfl ?_ | refine zGet rfl ?_ | refine zOn rfl rfl ?_ | refine zOff rfl rfl ?_ | refine zU rfl ?_ | refine zOn rfl (by assumption) ?_ | refine zOff rfl (by assumption) ?_ | refine zMov rfl ?_ | refine zAsg rfl ?_ | refine zXtr rfl ?_ | refine zPT rfl rfl rfl ?_ | refine zPF rfl rfl rfl ?_ | refine zPT rfl (by assumption) rfl ?_ | refine zPF rfl (by assumption) rfl ?_ | refine zLss rfl rfl ?_ | refine zLeq rfl rfl ?_ | refine zGtr rfl rfl ?_ | refine zGeq rfl rfl ?_ | refine zEql rfl rfl ?_ | refine zNeq rfl rfl ?_ | refine zAdd rfl rfl (by omega) ?_ | refine zSub rfl rfl (by omega) ?_ | refine zLenS rfl E_string ?_ | refine zNot rfl ?_ | refine zEqS rfl rfl ?_ | refine zNeS rfl rfl ?_ | refine zT rfl rfl ?_ | refine zF rfl rfl ?_ | refine zT rfl (by assumption) ?_ | refine zF rfl (by assumption) ?_ | refine zLen rfl la ?_ | refine zLen rfl lb ?_ | refine zFld (f := 1) rfl O_api_Ins_R ?_ | refine zIdx rfl rfl ha1 ?_ | refine zLen rfl (hw1.len E_s_api_Ins) ?_)
    refine WL.op (m1 rfl rfl) ?_
    (repeat first | refine zSeq ?_ | refine zReg ?_ | refine zBlk ?_ | refine zSkp ?_ | refine zExt ?_ | refine zNil rfl ?_ | refine zGet rfl ?_ | refine zOn rfl rfl ?_ | refine zOff rfl rfl ?_ | refine zU rfl ?_ | refine zOn rfl (by assumption) ?_ | refine zOff rfl (by assumption) ?_ | refine zMov rfl ?_ | refine zAsg rfl ?_ | refine zXtr rfl ?_ | refine zPT rfl rfl rfl ?_ | refine zPF rfl rfl rfl ?_ | refine zPT rfl (by assumption) rfl ?_ | refine zPF rfl (by assumption) rfl ?_ | refine zLss rfl rfl ?_ | refine zLeq rfl rfl ?_ | refine zGtr rfl rfl ?_ | refine zGeq rfl rfl ?_ | refine zEql rfl rfl ?_ | refine zNeq rfl rfl ?_ | refine zAdd rfl rfl (by omega) ?_ | refine zSub rfl rfl (by omega) ?_ | refine zLenS rfl E_string ?_ | refine zNot rfl ?_ | refine zEqS rfl rfl ?_ | refine zNeS rfl rfl ?_ | refine zT rfl rfl ?_ | refine zF rfl rfl ?_ | refine zT rfl (by assumption) ?_ | refine zF rfl (by assumption) ?_ | refine zLen rfl la ?_ | refine zLen rfl lb ?_ | refine zFld (f := 1) rfl O_api_Ins_R ?_ | refine zIdx rfl rfl ha1 ?_ | refine zLen rfl (hw1.len E_s_api_Ins) ?_)
    refine WP.loopH (σ := Nat) (fun i => [(0, va), (1, vb), (2, .int .i64 t), (7, v1), (8, v2), (9, .int .i64 i)]) (fun i Hc => Fr H2 Hc ∧ i ≤ 2) (fun i => 2 - i) 0 ⟨.refl _, by omega⟩ ⟨rfl, rfl, rfl, rfl, rfl, rfl, trivial⟩ ?_
    rintro i Hc ⟨hfr, hi⟩
    rcases Nat.lt_or_ge i 2 with h | h
    · have g1 : decide ((i : Int) < 2) = true := decide_eq_true (by omega)
      obtain ⟨x, H3, hc3, hr3⟩ := row_c (H := Hc) hO (s1.fr hfr) (s2.fr hfr) hLa t
      obtain ⟨y, H4, hc4, hr4⟩ := refRow_c (H := H3) hO ((sa.fr (hf2.trans hfr)).fr hr3.1) ((sb.fr (hf2.trans hfr)).fr hr3.1) hLa t
      obtain ⟨out, w1, w2, e, oo, n2, rfl, rfl, hw, hn2, hs2, hol⟩ := rowR_same hr3 hr4 hLa
      (repeat first | refine zSeq ?_ | refine zReg ?_ | refine zBlk ?_ | refine zSkp ?_ | refine zExt ?_ | refine zNil rfl ?_ | refine zGet rfl ?_ | refine zOn rfl rfl ?_ | refine zOff rfl rfl ?_ | refine zU rfl ?_ | refine zOn rfl (by assumption) ?_ | refine zOff rfl (by assumption) ?_ | refine zMov rfl ?_ | refine zAsg rfl ?_ | refine zXtr rfl ?_ | refine zPT rfl rfl rfl ?_ | refine zPF rfl rfl rfl ?_ | refine zPT rfl (by assumption) rfl ?_ | refine zPF rfl (by assumption) rfl ?_ | refine zLss rfl rfl ?_ | refine zLeq rfl rfl ?_ | refine zGtr rfl rfl ?_ | refine zGeq rfl rfl ?_ | refine zEql rfl rfl ?_ | refine zNeq rfl rfl ?_ | refine zAdd rfl rfl (by omega) ?_ | refine zSub rfl rfl (by omega) ?_ | refine zLenS rfl E_string ?_ | refine zNot rfl ?_ | refine zEqS rfl rfl ?_ | refine zNeS rfl rfl ?_ | refine zT rfl rfl ?_ | refine zF rfl rfl ?_ | refine zT rfl (by assumption) ?_ | refine zF rfl (by assumption) ?_ | refine zLen rfl la ?_ | refine zLen rfl lb ?_ | refine zFld (f := 1) rfl O_api_Ins_R ?_ | refine zIdx rfl rfl ha1 ?_ | refine zLen rfl (hw1.len E_s_api_Ins) ?_)
      refine WL.call rfl rfl is_phis_Row hc3 ?_
      (repeat first | refine zSeq ?_ | refine zReg ?_ | refine zBlk ?_ | refine zSkp ?_ | refine zExt ?_ | refine zNil rfl ?_ | refine zGet rfl ?_ | refine zOn rfl rfl ?_ | refine zOff rfl rfl ?_ | refine zU rfl ?_ | refine zOn rfl (by assumption) ?_ | refine zOff rfl (by assumption) ?_ | refine zMov rfl ?_ | refine zAsg rfl ?_ | refine zXtr rfl ?_ | refine zPT rfl rfl rfl ?_ | refine zPF rfl rfl rfl ?_ | refine zPT rfl (by assumption) rfl ?_ | refine zPF rfl (by assumption) rfl ?_ | refine zLss rfl rfl ?_ | refine zLeq rfl rfl ?_ | refine zGtr rfl rfl ?_ | refine zGeq rfl rfl ?_ | refine zEql rfl rfl ?_ | refine zNeq rfl rfl ?_ | refine zAdd rfl rfl (by omega) ?_ | refine zSub rfl rfl (by omega) ?_ | refine zLenS rfl E_string ?_ | refine zNot rfl ?_ | refine zEqS rfl rfl ?_ | refine zNeS rfl rfl ?_ | refine zT rfl rfl ?_ | refine zF rfl rfl ?_ | refine zT rfl (by assumption) ?_ | refine zF rfl (by assumption) ?_ | refine zLen rfl la ?_ | refine zLen rfl lb ?_ | refine zFld (f := 1) rfl O_api_Ins_R ?_ | refine zIdx rfl rfl ha1 ?_ | refine zLen rfl (hw1.len E_s_api_Ins) ?_)
      refine WL.call rfl rfl is_ref28_Row hc4 ?_
      have c1 : (e != e) = false := by simp
      have hw4 := hw.fr hr4.1
      (repeat first | refine zSeq ?_ | refine zReg ?_ | refine zBlk ?_ | refine zSkp ?_ | refine zExt ?_ | refine zNil rfl ?_ | refine zGet rfl ?_ | refine zOn rfl rfl ?_ | refine zOff rfl rfl ?_ | refine zU rfl ?_ | refine zOn rfl (by assumption) ?_ | refine zOff rfl (by assumption) ?_ | refine zMov rfl ?_ | refine zAsg rfl ?_ | refine zXtr rfl ?_ | refine zPT rfl rfl rfl ?_ | refine zPF rfl rfl rfl ?_ | refine zPT rfl (by assumption) rfl ?_ | refine zPF rfl (by assumption) rfl ?_ | refine zLss rfl rfl ?_ | refine zLeq rfl rfl ?_ | refine zGtr rfl rfl ?_ | refine zGeq rfl rfl ?_ | refine zEql rfl rfl ?_ | refine zNeq rfl rfl ?_ | refine zAdd rfl rfl (by omega) ?_ | refine zSub rfl rfl (by omega) ?_ | refine zLenS rfl E_string ?_ | refine zNot rfl ?_ | refine zEqS rfl rfl ?_ | refine zNeS rfl rfl ?_ | refine zT rfl rfl ?_ | refine zF rfl rfl ?_ | refine zT rfl (by assumption) ?_ | refine zF rfl (by assumption) ?_ | refine zLen rfl la ?_ | refine zLen rfl lb ?_ | refine zFld (f := 1) rfl O_api_Ins_R ?_ | refine zIdx rfl rfl ha1 ?_ | refine zLen rfl (hw1.len E_s_api_Ins) ?_)
      refine WL.call rfl rfl is_ref06_SameIns (sameIns_c hO hw4.sl hs2 (by omega)) ?_
      (repeat first | refine zSeq ?_ | refine zReg ?_ | refine zBlk ?_ | refine zSkp ?_ | refine zExt ?_ | refine zNil rfl ?_ | refine zGet rfl ?_ | refine zOn rfl rfl ?_ | refine zOff rfl rfl ?_ | refine zU rfl ?_ | refine zOn rfl (by assumption) ?_ | refine zOff rfl (by assumption) ?_ | refine zMov rfl ?_ | refine zAsg rfl ?_ | refine zXtr rfl ?_ | refine zPT rfl rfl rfl ?_ | refine zPF rfl rfl rfl ?_ | refine zPT rfl (by assumption) rfl ?_ | refine zPF rfl (by assumption) rfl ?_ | refine zLss rfl rfl ?_ | refine zLeq rfl rfl ?_ | refine zGtr rfl rfl ?_ | refine zGeq rfl rfl ?_ | refine zEql rfl rfl ?_ | refine zNeq rfl rfl ?_ | refine zAdd rfl rfl (by omega) ?_ | refine zSub rfl rfl (by omega) ?_ | refine zLenS rfl E_string ?_ | refine zNot rfl ?_ | refine zEqS rfl rfl ?_ | refine zNeS rfl rfl ?_ | refine zT rfl rfl ?_ | refine zF rfl rfl ?_ | refine zT rfl (by assumption) ?_ | refine zF rfl (by assumption) ?_ | refine zLen rfl la ?_ | refine zLen rfl lb ?_ | refine zFld (f := 1) rfl O_api_Ins_R ?_ | refine zIdx rfl rfl ha1 ?_ | refine zLen rfl (hw1.len E_s_api_Ins) ?_)
      refine WP.loopH (σ := Nat) (fun j => [(0, va), (1, vb), (2, .int .i64 t), (7, v1), (8, v2), (9, .int .i64 i), (10, w1), (14, .int .i64 j)]) (fun j Hd => Fr H2 Hd ∧ (∃ cs, Ow Hd n2 30 6 w1 out.length cs oo) ∧ j ≤ out.length) (fun j => out.length - j) 0 ⟨(hfr.trans hr3.1).trans hr4.1, ⟨_, hw4⟩, Nat.zero_le _⟩ ⟨rfl, rfl, rfl, rfl, rfl, rfl, rfl, rfl, trivial⟩ ?_
      have hy := hw4.young
      have hcn : H2.next ≤ Hc.next := hfr.1
      clear hc3 hc4 hw hw4 hs2 hr3 hr4
      rintro j Hd ⟨hfd, ⟨cs, hwd⟩, hj⟩
      have hw1 := hwd.sl
      rcases Nat.lt_or_ge j out.length with hjl | hjl
      · have g3 : decide ((j : Int) < out.length) = true := decide_eq_true (by omega)
        obtain ⟨b', off', He, ha1, _, hwr, hw5, hf5, hn5⟩ := hwd.set E_s_api_Ins E_api_Ins te_api_Ins_size (kd := .i64) (i := j) (by omega) (by omega) (vs := [.int .i64 (-7)]) (by simp) (k := 1) (by simp)
        (repeat first | refine zSeq ?_ | refine zReg ?_ | refine zBlk ?_ | refine zSkp ?_ | refine zExt ?_ | refine zNil rfl ?_ | refine zGet rfl ?_ | refine zOn rfl rfl ?_ | refine zOff rfl rfl ?_ | refine zU rfl ?_ | refine zOn rfl (by assumption) ?_ | refine zOff rfl (by assumption) ?_ | refine zMov rfl ?_ | refine zAsg rfl ?_ | refine zXtr rfl ?_ | refine zPT rfl rfl rfl ?_ | refine zPF rfl rfl rfl ?_ | refine zPT rfl (by assumption) rfl ?_ | refine zPF rfl (by assumption) rfl ?_ | refine zLss rfl rfl ?_ | refine zLeq rfl rfl ?_ | refine zGtr rfl rfl ?_ | refine zGeq rfl rfl ?_ | refine zEql rfl rfl ?_ | refine zNeq rfl rfl ?_ | refine zAdd rfl rfl (by omega) ?_ | refine zSub rfl rfl (by omega) ?_ | refine zLenS rfl E_string ?_ | refine zNot rfl ?_ | refine zEqS rfl rfl ?_ | refine zNeS rfl rfl ?_ | refine zT rfl rfl ?_ | refine zF rfl rfl ?_ | refine zT rfl (by assumption) ?_ | refine zF rfl (by assumption) ?_ | refine zLen rfl la ?_ | refine zLen rfl lb ?_ | refine zFld (f := 1) rfl O_api_Ins_R ?_ | refine zIdx rfl rfl ha1 ?_ | refine zLen rfl (hw1.len E_s_api_Ins) ?_)
        refine WL.op (op_store rfl rfl E_int rfl rfl hwr) ?_
        (repeat first | refine zSeq ?_ | refine zReg ?_ | refine zBlk ?_ | refine zSkp ?_ | refine zExt ?_ | refine zNil rfl ?_ | refine zGet rfl ?_ | refine zOn rfl rfl ?_ | refine zOff rfl rfl ?_ | refine zU rfl ?_ | refine zOn rfl (by assumption) ?_ | refine zOff rfl (by assumption) ?_ | refine zMov rfl ?_ | refine zAsg rfl ?_ | refine zXtr rfl ?_ | refine zPT rfl rfl rfl ?_ | refine zPF rfl rfl rfl ?_ | refine zPT rfl (by assumption) rfl ?_ | refine zPF rfl (by assumption) rfl ?_ | refine zLss rfl rfl ?_ | refine zLeq rfl rfl ?_ | refine zGtr rfl rfl ?_ | refine zGeq rfl rfl ?_ | refine zEql rfl rfl ?_ | refine zNeq rfl rfl ?_ | refine zAdd rfl rfl (by omega) ?_ | refine zSub rfl rfl (by omega) ?_ | refine zLenS rfl E_string ?_ | refine zNot rfl ?_ | refine zEqS rfl rfl ?_ | refine zNeS rfl rfl ?_ | refine zT rfl rfl ?_ | refine zF rfl rfl ?_ | refine zT rfl (by assumption) ?_ | refine zF rfl (by assumption) ?_ | refine zLen rfl la ?_ | refine zLen rfl lb ?_ | refine zFld (f := 1) rfl O_api_Ins_R ?_ | refine zIdx rfl rfl ha1 ?_ | refine zLen rfl (hw1.len E_s_api_Ins) ?_)
        exact ⟨j + 1, ⟨hfd.young hf5 (fun b hb => by have := hy.1 b hb; omega) (fun b hb => by have := hy.2.1 b hb; omega), ⟨_, hw5⟩, hjl⟩, by omega, rfl, rfl, rfl, rfl, rfl, rfl, rfl, rfl, trivial⟩
      · have g3 : decide ((j : Int) < out.length) = false := decide_eq_false (by omega)
        (repeat first | refine zSeq ?_ | refine zReg ?_ | refine zBlk ?_ | refine zSkp ?_ | refine zExt ?_ | refine zNil rfl ?_ | refine zGet rfl ?_ | refine zOn rfl rfl ?_ | refine zOff rfl rfl ?_ | refine zU rfl ?_ | refine zOn rfl (by assumption) ?_ | refine zOff rfl (by assumption) ?_ | refine zMov rfl ?_ | refine zAsg rfl ?_ | refine zXtr rfl ?_ | refine zPT rfl rfl rfl ?_ | refine zPF rfl rfl rfl ?_ | refine zPT rfl (by assumption) rfl ?_ | refine zPF rfl (by assumption) rfl ?_ | refine zLss rfl rfl ?_ | refine zLeq rfl rfl ?_ | refine zGtr rfl rfl ?_ | refine zGeq rfl rfl ?_ | refine zEql rfl rfl ?_ | refine zNeq rfl rfl ?_ | refine zAdd rfl rfl (by omega) ?_ | refine zSub rfl rfl (by omega) ?_ | refine zLenS rfl E_string ?_ | refine zNot rfl ?_ | refine zEqS rfl rfl ?_ | refine zNeS rfl rfl ?_ | refine zT rfl rfl ?_ | refine zF rfl rfl ?_ | refine zT rfl (by assumption) ?_ | refine zF rfl (by assumption) ?_ | refine zLen rfl la ?_ | refine zLen rfl lb ?_ | refine zFld (f := 1) rfl O_api_Ins_R ?_ | refine zIdx rfl rfl ha1 ?_ | refine zLen rfl (hw1.len E_s_api_Ins) ?_)
        exact ⟨i + 1, ⟨hfd, by omega⟩, by omega, rfl, rfl, rfl, rfl, rfl, rfl, trivial⟩
    · have g1 : decide ((i : Int) < 2) = false := decide_eq_false (by omega)
      (repeat first | refine zSeq ?_ | refine zReg ?_ | refine zBlk ?_ | refine zSkp ?_ | refine zExt ?_ | refine zNil rfl ?_ | refine zGet rfl ?_ | refine zOn rfl rfl ?_ | refine zOff rfl rfl ?_ | refine zU rfl ?_ | refine zOn rfl (by assumption) ?_ | refine zOff rfl (by assumption) ?_ | refine zMov rfl ?_ | refine zAsg rfl ?_ | refine zXtr rfl ?_ | refine zPT rfl rfl rfl ?_ | refine zPF rfl rfl rfl ?_ | refine zPT rfl (by assumption) rfl ?_ | refine zPF rfl (by assumption) rfl ?_ | refine zLss rfl rfl ?_ | refine zLeq rfl rfl ?_ | refine zGtr rfl rfl ?_ | refine zGeq rfl rfl ?_ | refine zEql rfl rfl ?_ | refine zNeq rfl rfl ?_ | refine zAdd rfl rfl (by omega) ?_ | refine zSub rfl rfl (by omega) ?_ | refine zLenS rfl E_string ?_ | refine zNot rfl ?_ | refine zEqS rfl rfl ?_ | refine zNeS rfl rfl ?_ | refine zT rfl rfl ?_ | refine zF rfl rfl ?_ | refine zT rfl (by assumption) ?_ | refine zF rfl (by assumption) ?_ | refine zLen rfl la ?_ | refine zLen rfl lb ?_ | refine zFld (f := 1) rfl O_api_Ins_R ?_ | refine zIdx rfl rfl ha1 ?_ | refine zLen rfl (hw1.len E_s_api_Ins) ?_)
      have e1 := ints_c (H := Hc) hO (s1.fr hfr) (sa.fr (hf2.trans hfr)) (by omega)
      have e2 := ints_c (H := Hc) hO (s2.fr hfr) (sb.fr (hf2.trans hfr)) (by omega)
      rw [beq_self_eq_true] at e1 e2
      refine WL.call rfl rfl is_ref12_Ints e1 ?_
      (repeat first | refine zSeq ?_ | refine zReg ?_ | refine zBlk ?_ | refine zSkp ?_ | refine zExt ?_ | refine zNil rfl ?_ | refine zGet rfl ?_ | refine zOn rfl rfl ?_ | refine zOff rfl rfl ?_ | refine zU rfl ?_ | refine zOn rfl (by assumption) ?_ | refine zOff rfl (by assumption) ?_ | refine zMov rfl ?_ | refine zAsg rfl ?_ | refine zXtr rfl ?_ | refine zPT rfl rfl rfl ?_ | refine zPF rfl rfl rfl ?_ | refine zPT rfl (by assumption) rfl ?_ | refine zPF rfl (by assumption) rfl ?_ | refine zLss rfl rfl ?_ | refine zLeq rfl rfl ?_ | refine zGtr rfl rfl ?_ | refine zGeq rfl rfl ?_ | refine zEql rfl rfl ?_ | refine zNeq rfl rfl ?_ | refine zAdd rfl rfl (by omega) ?_ | refine zSub rfl rfl (by omega) ?_ | refine zLenS rfl E_string ?_ | refine zNot rfl ?_ | refine zEqS rfl rfl ?_ | refine zNeS rfl rfl ?_ | refine zT rfl rfl ?_ | refine zF rfl rfl ?_ | refine zT rfl (by assumption) ?_ | refine zF rfl (by assumption) ?_ | refine zLen rfl la ?_ | refine zLen rfl lb ?_ | refine zFld (f := 1) rfl O_api_Ins_R ?_ | refine zIdx rfl rfl ha1 ?_ | refine zLen rfl (hw1.len E_s_api_Ins) ?_)
      refine WL.call rfl rfl is_ref12_Ints e2 ?_
      (repeat first | refine zSeq ?_ | refine zReg ?_ | refine zBlk ?_ | refine zSkp ?_ | refine zExt ?_ | refine zNil rfl ?_ | refine zGet rfl ?_ | refine zOn rfl rfl ?_ | refine zOff rfl rfl ?_ | refine zU rfl ?_ | refine zOn rfl (by assumption) ?_ | refine zOff rfl (by assumption) ?_ | refine zMov rfl ?_ | refine zAsg rfl ?_ | refine zXtr rfl ?_ | refine zPT rfl rfl rfl ?_ | refine zPF rfl rfl rfl ?_ | refine zPT rfl (by assumption) rfl ?_ | refine zPF rfl (by assumption) rfl ?_ | refine zLss rfl rfl ?_ | refine zLeq rfl rfl ?_ | refine zGtr rfl rfl ?_ | refine zGeq rfl rfl ?_ | refine zEql rfl rfl ?_ | refine zNeq rfl rfl ?_ | refine zAdd rfl rfl (by omega) ?_ | refine zSub rfl rfl (by omega) ?_ | refine zLenS rfl E_string ?_ | refine zNot rfl ?_ | refine zEqS rfl rfl ?_ | refine zNeS rfl rfl ?_ | refine zT rfl rfl ?_ | refine zF rfl rfl ?_ | refine zT rfl (by assumption) ?_ | refine zF rfl (by assumption) ?_ | refine zLen rfl la ?_ | refine zLen rfl lb ?_ | refine zFld (f := 1) rfl O_api_Ins_R ?_ | refine zIdx rfl rfl ha1 ?_ | refine zLen rfl (hw1.len E_s_api_Ins) ?_)
      refine WL.call rfl rfl is_law28_awake (works (hf2.trans hfr).kro) ?_
      (repeat first | refine zSeq ?_ | refine zReg ?_ | refine zBlk ?_ | refine zSkp ?_ | refine zExt ?_ | refine zNil rfl ?_ | refine zGet rfl ?_ | refine zOn rfl rfl ?_ | refine zOff rfl rfl ?_ | refine zU rfl ?_ | refine zOn rfl (by assumption) ?_ | refine zOff rfl (by assumption) ?_ | refine zMov rfl ?_ | refine zAsg rfl ?_ | refine zXtr rfl ?_ | refine zPT rfl rfl rfl ?_ | refine zPF rfl rfl rfl ?_ | refine zPT rfl (by assumption) rfl ?_ | refine zPF rfl (by assumption) rfl ?_ | refine zLss rfl rfl ?_ | refine zLeq rfl rfl ?_ | refine zGtr rfl rfl ?_ | refine zGeq rfl rfl ?_ | refine zEql rfl rfl ?_ | refine zNeq rfl rfl ?_ | refine zAdd rfl rfl (by omega) ?_ | refine zSub rfl rfl (by omega) ?_ | refine zLenS rfl E_string ?_ | refine zNot rfl ?_ | refine zEqS rfl rfl ?_ | refine zNeS rfl rfl ?_ | refine zT rfl rfl ?_ | refine zF rfl rfl ?_ | refine zT rfl (by assumption) ?_ | refine zF rfl (by assumption) ?_ | refine zLen rfl la ?_ | refine zLen rfl lb ?_ | refine zFld (f := 1) rfl O_api_Ins_R ?_ | refine zIdx rfl rfl ha1 ?_ | refine zLen rfl (hw1.len E_s_api_Ins) ?_)
      exact WP.ret ⟨.inr rfl, _, rfl, rfl⟩
  obtain ⟨u, H', h, rfl⟩ := key
  exact ⟨H', h⟩
end Go.Proofs.Ytalhmpcllfhllaa.U

/-
  Moves in a row, in plain words: registers within bounds; what PhisOnce compares.
-/
namespace Go.Phi
theorem Rows.within {t : Int} {P : Int → Prop} (ht : P t) {l out : List Mv} (h : Rows t l out) : (∀ m ∈ l, P m.1 ∧ P m.2) → ∀ m ∈ out, P m.1 ∧ P m.2 := by
  induction h with
  | nil => intro _ m hm; cases hm
  | @free l i out h hf hb k ih =>
    intro hl m hm
    rcases List.mem_cons.1 hm with rfl | hm
    · exact hl _ (List.getElem_mem h)
    · exact ih (fun x hx => hl x (List.mem_of_mem_eraseIdx hx)) m hm
  | @turn m0 l out hn k ih =>
    intro hl m hm
    rcases List.mem_cons.1 hm with rfl | hm
    · exact ⟨ht, (hl m0 List.mem_cons_self).1⟩
    · refine ih (fun x hx => ?_) m hm
      obtain ⟨y, hy, rfl⟩ := List.mem_map.1 hx
      have := hl y hy
      split
      · exact ⟨this.1, ht⟩
      · exact this
def Is (L : List Int) (s : Regs) : Prop := L.length = 41 ∧ ∀ x : Nat, x < 41 → L[x]? = some (s x)
theorem Is.set {L : List Int} {s : Regs} (h : Is L s) {g : Int} (h0 : 0 ≤ g) (h1 : g ≤ 40) (v : Int) : Is (L.set g.toNat v) (upd s g v) := by
  refine ⟨by rw [List.length_set]; exact h.1, fun x hx => ?_⟩
  unfold upd
  by_cases e : (x : Int) = g
  · rw [if_pos e]
    have : g.toNat = x := by omega
    rw [this, List.getElem?_set_self (by rw [h.1]; exact hx)]
  · rw [if_neg e, List.getElem?_set_ne (by omega)]
    exact h.2 x hx
theorem Is.get {L : List Int} {s : Regs} (h : Is L s) {g : Int} (h0 : 0 ≤ g) (h1 : g ≤ 40) : ∃ hl : g.toNat < L.length, L[g.toNat]'hl = s g := by
  have hl : g.toNat < L.length := by rw [h.1]; omega
  refine ⟨hl, ?_⟩
  have := h.2 g.toNat (by omega)
  rw [List.getElem?_eq_getElem hl] at this
  have e := Option.some.inj this
  rw [e]; congr 1; omega
def once (s : Regs) (l : List Mv) : Regs := l.foldl (fun r m => upd r m.1 (s m.2)) s
theorem foldl_not (s0 : Regs) : ∀ (l : List Mv) (s : Regs) (r : Int), r ∉ l.map (·.1) → l.foldl (fun r m => upd r m.1 (s0 m.2)) s r = s r
  | [], _, _, _ => rfl
  | m :: l, s, r, h => by
    rw [List.foldl_cons, foldl_not s0 l _ r (fun k => h (List.mem_cons_of_mem _ k))]
    unfold upd
    rw [if_neg (fun e => h (by rw [e]; exact List.mem_cons_self))]
theorem foldl_mem (s0 : Regs) : ∀ (l : List Mv) (s : Regs), (l.map (·.1)).Nodup → ∀ m ∈ l, l.foldl (fun r m => upd r m.1 (s0 m.2)) s m.1 = s0 m.2
  | [], _, _, _, h => by cases h
  | m0 :: l, s, hd, m, h => by
    rw [List.map_cons, List.nodup_cons] at hd
    rw [List.foldl_cons]
    rcases List.mem_cons.1 h with rfl | h
    · rw [foldl_not s0 l _ _ hd.1]; simp [upd]
    · exact foldl_mem s0 l _ hd.2 m h
theorem Rows.once_eq {t : Int} {l out : List Mv} (h : Rows t (l.filter fun m => !(m.1 == m.2)) out) (hd : (l.map (·.1)).Nodup) (ht : t ∉ l.map (·.1)) (s : Regs) (r : Int) (hr : r ≠ t) : exec s out r = once s l r := by
  have hd2 : ((l.filter fun m => !(m.1 == m.2)).map (·.1)).Nodup := hd.sublist (List.Sublist.map _ List.filter_sublist)
  have ht2 : t ∉ (l.filter fun m => !(m.1 == m.2)).map (·.1) := fun k => by
    obtain ⟨m, hm, e⟩ := List.mem_map.1 k
    exact ht (List.mem_map.2 ⟨m, (List.mem_filter.1 hm).1, e⟩)
  obtain ⟨h1, h2⟩ := h.exec_eq hd2 ht2 s
  by_cases hmm : r ∈ l.map (·.1)
  · obtain ⟨m, hm, rfl⟩ := List.mem_map.1 hmm
    clear hmm
    unfold once
    rw [foldl_mem s l s hd m hm]
    by_cases e : m.1 = m.2
    · rw [h2 m.1 (fun k => ?_) hr, e]
      obtain ⟨y, hy, e2⟩ := List.mem_map.1 k
      have hy2 := List.mem_filter.1 hy
      have : y = m := by
        obtain ⟨i, hi, rfl⟩ := List.mem_iff_getElem.1 hy2.1
        obtain ⟨j, hj, rfl⟩ := List.mem_iff_getElem.1 hm
        have hi' : i < (l.map (·.1)).length := by rw [List.length_map]; exact hi
        have hj' : j < (l.map (·.1)).length := by rw [List.length_map]; exact hj
        have hp := List.pairwise_iff_getElem.1 hd
        have : i = j := by
          rcases Nat.lt_trichotomy i j with h3 | h3 | h3
          · exact absurd (by rw [List.getElem_map, List.getElem_map]; exact e2) (hp i j hi' hj' h3)
          · exact h3
          · exact absurd (by rw [List.getElem_map, List.getElem_map]; exact e2.symm) (hp j i hj' hi' h3)
        subst this; rfl
      subst this
      have := hy2.2
      rw [e] at this; simp at this
    · exact h1 m (List.mem_filter.2 ⟨hm, by simpa using e⟩)
  · unfold once
    rw [foldl_not s l s r hmm]
    refine h2 r (fun k => hmm ?_) hr
    obtain ⟨m, hm, e⟩ := List.mem_map.1 k
    exact List.mem_map.2 ⟨m, (List.mem_filter.1 hm).1, e⟩
end Go.Phi

/-
  The law PhisOnce: what its loops share.
-/
namespace Go.Proofs.Ytalhmpcllfhllaa.U
open Go Go.Ev
attribute [local irreducible] WL WP WH W
variable {O : Orc} {H : AH}
def Ix (t : TypeId) (H : AH) (v : Value) (cs : List Value) : Prop := ∀ i (h : i < cs.length), ∃ b off, aIndex V.E t v (.int .i64 i) = some (.pointer (some ⟨b, off, none⟩)) ∧ Rd H b off 1 [cs[i]]
theorem Ix.fr {t : TypeId} {H H' : AH} {v : Value} {cs : List Value} (h : Ix t H v cs) (k : Fr H H') : Ix t H' v cs := fun i hi =>
  let ⟨b, off, h1, h2⟩ := h i hi
  ⟨b, off, h1, h2.fr k⟩
theorem ix_of {α : Type} {R : Rp α} {c : α → Value} (hR : ∀ H cs x, R H cs x → cs = [c x]) {t e : TypeId} {s0 b0 : Nat} {z0 : Value} (ht : V.E t = some ⟨.slice e, s0, b0, z0⟩) {te : TI} (he : V.E e = some te) (hz : te.size = 1) {H : AH} {cs : List Value} {xs : List α} (h : RSlice 1 R H cs xs) :
    ∃ v, cs = [v] ∧ (∀ H', aLen V.E H' t v = some (.int .i64 xs.length)) ∧ Ix t H v (xs.map c) := by
  obtain ⟨v, rfl, hl, h | ⟨b, cap, rfl, rfl⟩ | ⟨b, off, cap, et, cells, g, k, rfl, h2, h3, h4, h5, h6, h7⟩⟩ := h
  · obtain ⟨rfl, rfl⟩ := h
    exact ⟨_, rfl, fun _ => by simp only [aLen, ht]; rfl, fun i hi => absurd hi (by simp)⟩
  · exact ⟨_, rfl, fun _ => by simp only [aLen, ht]; rfl, fun i hi => absurd hi (by simp)⟩
  · refine ⟨_, rfl, fun _ => by simp only [aLen, ht], fun i hi => ?_⟩
    rw [List.length_map] at hi
    refine ⟨b, off + i * 1, ?_, et, cells, .ro, g, k, h4, h5, .inr (.inl rfl), by omega, ?_⟩
    · simp only [aIndex, ht, he, hz]
      rw [if_pos ⟨by omega, by omega⟩]; rfl
    · have := hR _ _ _ (h7 i xs[i] (List.getElem?_eq_getElem hi))
      rw [List.getElem_map, ← this]
theorem wf_u8 {x : Int} (h : (Lit.int .u8 x).wf = true) : 0 ≤ x := by
  have e1 : IntKind.min .u8 = 0 := by decide
  simp only [Lit.wf, Bool.and_eq_true, decide_eq_true_eq, e1] at h
  exact h.1
theorem rowOk_nodup {a b : List Int} {t : Int} (h : rowOk a b t = true) : a.Nodup ∧ t ∉ a ∧ a.length = b.length := by
  unfold rowOk at h
  rw [Bool.and_eq_true, Bool.and_eq_true] at h
  obtain ⟨⟨h1, h2⟩, h3⟩ := h
  have hlen : a.length = b.length := by have : ((a.length : Int) != b.length) = false := by simpa using h1
                                        have := bne_eq_false_iff_eq.1 this; omega
  have hok : ∀ i (h : i < a.length), a[i] ≠ t ∧ a[i] ∉ a.take i := fun i hi => by
    have := List.all_eq_true.1 h3 i (List.mem_range.2 hi)
    rw [okf_at hi (by omega)] at this
    simp only [ok1, Bool.and_eq_true, Bool.not_eq_true', beq_eq_false_iff_ne, decide_eq_false_iff_not] at this
    refine ⟨this.1.1.2, fun hm => this.2 ?_⟩
    have := List.count_pos_iff.2 hm
    omega
  refine ⟨?_, fun hm => ?_, hlen⟩
  · rw [List.nodup_iff_pairwise_ne, List.pairwise_iff_getElem]
    intro i j hi hj hij e
    refine (hok j hj).2 ?_
    rw [← e]
    exact List.mem_iff_getElem.2 ⟨i, by rw [List.length_take]; omega, by rw [List.getElem_take]⟩
  · obtain ⟨i, hi, e⟩ := List.mem_iff_getElem.1 hm
    exact (hok i hi).1 e
theorem zip_map {l : List Mv} : (l.map (·.1)).zip (l.map (·.2)) = l := by
  induction l with
  | nil => rfl
  | cons a l ih => simp only [List.map_cons, List.zip_cons_cons, ih]
theorem und5 : V.P.underlying 5 = some (.int .u8) := by kernel_rfl
theorem und3 : V.P.underlying 3 = some (.int .i64) := by kernel_rfl
theorem Is.ofLen {L : List Int} (h : L.length = 41) : Phi.Is L (fun x => L.getD x.toNat 0) := ⟨h, fun x hx => by
  have hl : x < L.length := by omega
  simp only [Int.toNat_natCast]
  rw [List.getElem?_eq_getElem hl, List.getD_eq_getElem?_getD, List.getElem?_eq_getElem hl]; rfl⟩
theorem tmod_le {x m : Int} (h : 0 ≤ x) (hm : 0 < m) : 0 ≤ x.tmod m ∧ x.tmod m < m := by
  rw [Int.tmod_eq_emod_of_nonneg h]; exact ⟨Int.emod_nonneg _ (by omega), Int.emod_lt_of_pos _ hm⟩
theorem exec_take {s : Phi.Regs} {l : List Mv} {i : Nat} (h : i < l.length) : Phi.exec s (l.take (i + 1)) = Phi.upd (Phi.exec s (l.take i)) l[i].1 (Phi.exec s (l.take i) l[i].2) := by
  rw [List.take_add_one, List.getElem?_eq_getElem h]
  unfold Phi.exec
  rw [Option.toList_some, List.foldl_append]; rfl
theorem once_take {s : Phi.Regs} {l : List Mv} {i : Nat} (h : i < l.length) : (l.take (i + 1)).foldl (fun r m => Phi.upd r m.1 (s m.2)) s = Phi.upd ((l.take i).foldl (fun r m => Phi.upd r m.1 (s m.2)) s) l[i].1 (s l[i].2) := by
  rw [List.take_add_one, List.getElem?_eq_getElem h]
  rw [Option.toList_some, List.foldl_append]; rfl
theorem temps_take {t : Int} {l : List Mv} {i : Nat} (h : i < l.length) : Phi.temps t (l.take (i + 1)) = Phi.temps t (l.take i) + if l[i].1 == t then 1 else 0 := by
  unfold Phi.temps
  rw [filter_take h, List.length_append]
  split <;> simp
theorem temps_lt {t : Int} (l : List Mv) : Phi.temps t l ≤ l.length := List.length_filter_le _ _
end Go.Proofs.Ytalhmpcllfhllaa.U

/-
  The law PhisOnce, the walk.
-/
namespace Go.Proofs.Ytalhmpcllfhllaa.U
open Go Go.Ev
attribute [local irreducible] WL WP WH W
variable {O : Orc} {H : AH}
def u8s (l : List Int) : List Value := l.map fun x => .int .u8 x
theorem sl_was {H : AH} {b : Nat} {L : List Int} (h : Bx H b 3 (ints L)) (hL : L.length = 41) : Sl H (.slice (some ⟨b, 0, none⟩) 41 41) 1 41 (ints L) :=
  ⟨by rw [ints_len, hL], by decide, .inr ⟨b, 0, 41, rfl, fun _ => h.rd (by rw [ints_len, hL])⟩⟩
theorem ix_u8 {t : TypeId} {v : Value} {l : List Int} (h : Ix t H v (u8s l)) {i : Nat} (hi : i < l.length) :
    ∃ b off, aIndex V.E t v (.int .i64 i) = some (.pointer (some ⟨b, off, none⟩)) ∧ aLoad V.E H 5 (.pointer (some ⟨b, off, none⟩)) = some (.int .u8 l[i]) := by
  obtain ⟨b, off, h1, h2⟩ := h i (by simpa [u8s] using hi)
  have e : (u8s l)[i]'(by simpa [u8s] using hi) = .int .u8 l[i] := by simp [u8s]
  rw [e] at h2
  exact ⟨b, off, h1, h2.load1 E_uint8 rfl⟩
set_option maxHeartbeats 4000000 in
theorem phisOnce_c (hO : ∀ f vs H, f ≠ 6 → O f vs H = none) (hW : ∀ H', Kro H H' → O 6 [] H' = some (.bool true, H')) {a b : List Int} {va vb : Value} (la : ∀ H', aLen V.E H' 33 va = some (.int .i64 a.length)) (lb : ∀ H', aLen V.E H' 33 vb = some (.int .i64 b.length)) (ia : Ix 33 H va (u8s a)) (ib : Ix 33 H vb (u8s b)) (wa : ∀ x ∈ a, 0 ≤ x) (wb : ∀ x ∈ b, 0 ≤ x) :
    ∃ H', Lc V O F_law28_PhisOnce [va, vb] H (.bool true) H' := by
  have key : ∃ u H', Lc V O F_law28_PhisOnce [va, vb] H u H' ∧ u = .bool true := by
    refine Lc.law28_PhisOnce (R := fun u _ => u = .bool true) (hO _ _ _ (by decide)) (Nat.le_of_ble_eq_true rfl) (by kernel_rfl) ?_
    unfold P_law28_PhisOnce
    have works := fun {H'} (h : Kro H H') => Lc.orc (V := V) (hW H' h)
    cases d1 : decide ((a.length : Int) > 60)
    case true =>
      (repeat first | refine zSeq ?_ | refine zReg ?_ | refine zBlk ?_ | refine zSkp ?_ | refine zExt ?_ | refine zNil rfl ?_ | refine zGet rfl ?_ | refine zOn rfl rfl ?_ | refine zOff rfl rfl ?_ | refine zU rfl ?_ | refine zOn rfl (by assumption) ?_ | refine zOff rfl (by assumption) ?_ | refine zMov rfl ?_ | refine zAsg rfl ?_ | refine zXtr rfl ?_ | refine zPT rfl rfl rfl ?_ | refine zPF rfl rfl rfl ?_ | refine zPT rfl (by assumption) rfl ?_ | refine zPF rfl (by assumption) rfl ?_ | refine zLss rfl rfl ?_ | refine zLeq rfl rfl ?_ | refine zGtr rfl rfl ?_ | refine zGeq rfl rfl ?_ | refine zEql rfl rfl ?_ | refine zNeq rfl rfl ?_ | refine zAdd rfl rfl (by omega) ?_ | refine zSub rfl rfl (by omega) ?_ | refine zLenS rfl E_string ?_ | refine zNot rfl ?_ | refine zEqS rfl rfl ?_ | refine zNeS rfl rfl ?_ | refine zT rfl rfl ?_ | refine zF rfl rfl ?_ | refine zT rfl (by assumption) ?_ | refine zF rfl (by assumption) ?_ | refine zLen rfl (la _) ?_ | refine zLen rfl (lb _) ?_ | refine zLen rfl (lw _) ?_ | refine zIdx rfl rfl ha1 ?_ | refine zIdx rfl rfl ha2 ?_ | refine zIdx rfl rfl ha3 ?_ | refine zIdx rfl rfl ha4 ?_ | refine zFld (f := 0) rfl O_api_Ins_Op ?_ | refine zFld (f := 1) rfl O_api_Ins_R ?_ | refine zFld (f := 2) rfl O_api_Ins_A ?_ | refine zLd rfl hl1 ?_ | refine zLd rfl hl2 ?_ | refine zLd rfl hl3 ?_ | refine zLd rfl hl4 ?_ | refine zLen rfl (hv1.len E_s_int) ?_ | refine zLen rfl (hwo.len E_s_api_Ins) ?_)
      refine WL.call rfl rfl is_law28_awake (works (Fr.refl _).kro) ?_
      (repeat first | refine zSeq ?_ | refine zReg ?_ | refine zBlk ?_ | refine zSkp ?_ | refine zExt ?_ | refine zNil rfl ?_ | refine zGet rfl ?_ | refine zOn rfl rfl ?_ | refine zOff rfl rfl ?_ | refine zU rfl ?_ | refine zOn rfl (by assumption) ?_ | refine zOff rfl (by assumption) ?_ | refine zMov rfl ?_ | refine zAsg rfl ?_ | refine zXtr rfl ?_ | refine zPT rfl rfl rfl ?_ | refine zPF rfl rfl rfl ?_ | refine zPT rfl (by assumption) rfl ?_ | refine zPF rfl (by assumption) rfl ?_ | refine zLss rfl rfl ?_ | refine zLeq rfl rfl ?_ | refine zGtr rfl rfl ?_ | refine zGeq rfl rfl ?_ | refine zEql rfl rfl ?_ | refine zNeq rfl rfl ?_ | refine zAdd rfl rfl (by omega) ?_ | refine zSub rfl rfl (by omega) ?_ | refine zLenS rfl E_string ?_ | refine zNot rfl ?_ | refine zEqS rfl rfl ?_ | refine zNeS rfl rfl ?_ | refine zT rfl rfl ?_ | refine zF rfl rfl ?_ | refine zT rfl (by assumption) ?_ | refine zF rfl (by assumption) ?_ | refine zLen rfl (la _) ?_ | refine zLen rfl (lb _) ?_ | refine zLen rfl (lw _) ?_ | refine zIdx rfl rfl ha1 ?_ | refine zIdx rfl rfl ha2 ?_ | refine zIdx rfl rfl ha3 ?_ | refine zIdx rfl rfl ha4 ?_ | refine zFld (f := 0) rfl O_api_Ins_Op ?_ | refine zFld (f := 1) rfl O_api_Ins_R ?_ | refine zFld (f := 2) rfl O_api_Ins_A ?_ | refine zLd rfl hl1 ?_ | refine zLd rfl hl2 ?_ | refine zLd rfl hl3 ?_ | refine zLd rfl hl4 ?_ | refine zLen rfl (hv1.len E_s_int) ?_ | refine zLen rfl (hwo.len E_s_api_Ins) ?_)
      exact WP.ret ⟨.inr rfl, _, rfl, rfl⟩
    have hLa : a.length ≤ 60 := by have := of_decide_eq_false d1; omega
    (repeat first | refine zSeq ?_ | refine zReg ?_ | refine zBlk ?_ | refine zSkp ?_ | refine zExt ?_ | refine zNil rfl ?_ | refine zGet rfl ?_ | refine zOn rfl rfl ?_ | refine zOff rfl rfl ?_ | refine zU rfl ?_ | refine zOn rfl (by assumption) ?_ | refine zOff rfl (by assumption) ?_ | refine zMov rfl ?_ | refine zAsg rfl ?_ | refine zXtr rfl ?_ | refine zPT rfl rfl rfl ?_ | refine zPF rfl rfl rfl ?_ | refine zPT rfl (by assumption) rfl ?_ | refine zPF rfl (by assumption) rfl ?_ | refine zLss rfl rfl ?_ | refine zLeq rfl rfl ?_ | refine zGtr rfl rfl ?_ | refine zGeq rfl rfl ?_ | refine zEql rfl rfl ?_ | refine zNeq rfl rfl ?_ | refine zAdd rfl rfl (by omega) ?_ | refine zSub rfl rfl (by omega) ?_ | refine zLenS rfl E_string ?_ | refine zNot rfl ?_ | refine zEqS rfl rfl ?_ | refine zNeS rfl rfl ?_ | refine zT rfl rfl ?_ | refine zF rfl rfl ?_ | refine zT rfl (by assumption) ?_ | refine zF rfl (by assumption) ?_ | refine zLen rfl (la _) ?_ | refine zLen rfl (lb _) ?_ | refine zLen rfl (lw _) ?_ | refine zIdx rfl rfl ha1 ?_ | refine zIdx rfl rfl ha2 ?_ | refine zIdx rfl rfl ha3 ?_ | refine zIdx rfl rfl ha4 ?_ | refine zFld (f := 0) rfl O_api_Ins_Op ?_ | refine zFld (f := 1) rfl O_api_Ins_R ?_ | refine zFld (f := 2) rfl O_api_Ins_A ?_ | refine zLd rfl hl1 ?_ | refine zLd rfl hl2 ?_ | refine zLd rfl hl3 ?_ | refine zLd rfl hl4 ?_ | refine zLen rfl (hv1.len E_s_int) ?_ | refine zLen rfl (hwo.len E_s_api_Ins) ?_)
    refine WL.call rfl rfl is_law28_awake (works (Fr.refl _).kro) ?_
    (repeat first | refine zSeq ?_ | refine zReg ?_ | refine zBlk ?_ | refine zSkp ?_ | refine zExt ?_ | refine zNil rfl ?_ | refine zGet rfl ?_ | refine zOn rfl rfl ?_ | refine zOff rfl rfl ?_ | refine zU rfl ?_ | refine zOn rfl (by assumption) ?_ | refine zOff rfl (by assumption) ?_ | refine zMov rfl ?_ | refine zAsg rfl ?_ | refine zXtr rfl ?_ | refine zPT rfl rfl rfl ?_ | refine zPF rfl rfl rfl ?_ | refine zPT rfl (by assumption) rfl ?_ | refine zPF rfl (by assumption) rfl ?_ | refine zLss rfl rfl ?_ | refine zLeq rfl rfl ?_ | refine zGtr rfl rfl ?_ | refine zGeq rfl rfl ?_ | refine zEql rfl rfl ?_ | refine zNeq rfl rfl ?_ | refine zAdd rfl rfl (by omega) ?_ | refine zSub rfl rfl (by omega) ?_ | refine zLenS rfl E_string ?_ | refine zNot rfl ?_ | refine zEqS rfl rfl ?_ | refine zNeS rfl rfl ?_ | refine zT rfl rfl ?_ | refine zF rfl rfl ?_ | refine zT rfl (by assumption) ?_ | refine zF rfl (by assumption) ?_ | refine zLen rfl (la _) ?_ | refine zLen rfl (lb _) ?_ | refine zLen rfl (lw _) ?_ | refine zIdx rfl rfl ha1 ?_ | refine zIdx rfl rfl ha2 ?_ | refine zIdx rfl rfl ha3 ?_ | refine zIdx rfl rfl ha4 ?_ | refine zFld (f := 0) rfl O_api_Ins_Op ?_ | refine zFld (f := 1) rfl O_api_Ins_R ?_ | refine zFld (f := 2) rfl O_api_Ins_A ?_ | refine zLd rfl hl1 ?_ | refine zLd rfl hl2 ?_ | refine zLd rfl hl3 ?_ | refine zLd rfl hl4 ?_ | refine zLen rfl (hv1.len E_s_int) ?_ | refine zLen rfl (hwo.len E_s_api_Ins) ?_)
    refine WL.op (op_makeSlice (n := 41) (m := 41) rfl rfl E_s_int E_int (by decide) (by decide) (by decide)) ?_
    (repeat first | refine zSeq ?_ | refine zReg ?_ | refine zBlk ?_ | refine zSkp ?_ | refine zExt ?_ | refine zNil rfl ?_ | refine zGet rfl ?_ | refine zOn rfl rfl ?_ | refine zOff rfl rfl ?_ | refine zU rfl ?_ | refine zOn rfl (by assumption) ?_ | refine zOff rfl (by assumption) ?_ | refine zMov rfl ?_ | refine zAsg rfl ?_ | refine zXtr rfl ?_ | refine zPT rfl rfl rfl ?_ | refine zPF rfl rfl rfl ?_ | refine zPT rfl (by assumption) rfl ?_ | refine zPF rfl (by assumption) rfl ?_ | refine zLss rfl rfl ?_ | refine zLeq rfl rfl ?_ | refine zGtr rfl rfl ?_ | refine zGeq rfl rfl ?_ | refine zEql rfl rfl ?_ | refine zNeq rfl rfl ?_ | refine zAdd rfl rfl (by omega) ?_ | refine zSub rfl rfl (by omega) ?_ | refine zLenS rfl E_string ?_ | refine zNot rfl ?_ | refine zEqS rfl rfl ?_ | refine zNeS rfl rfl ?_ | refine zT rfl rfl ?_ | refine zF rfl rfl ?_ | refine zT rfl (by assumption) ?_ | refine zF rfl (by assumption) ?_ | refine zLen rfl (la _) ?_ | refine zLen rfl (lb _) ?_ | refine zLen rfl (lw _) ?_ | refine zIdx rfl rfl ha1 ?_ | refine zIdx rfl rfl ha2 ?_ | refine zIdx rfl rfl ha3 ?_ | refine zIdx rfl rfl ha4 ?_ | refine zFld (f := 0) rfl O_api_Ins_Op ?_ | refine zFld (f := 1) rfl O_api_Ins_R ?_ | refine zFld (f := 2) rfl O_api_Ins_A ?_ | refine zLd rfl hl1 ?_ | refine zLd rfl hl2 ?_ | refine zLd rfl hl3 ?_ | refine zLd rfl hl4 ?_ | refine zLen rfl (hv1.len E_s_int) ?_ | refine zLen rfl (hwo.len E_s_api_Ins) ?_)
    have lw : ∀ H', aLen V.E H' 22 (.slice (some ⟨H.next, 0, none⟩) 41 41) = some (.int .i64 41) := fun _ => by simp only [aLen, E_s_int]; rfl
    refine WP.loopH (σ := Nat × List Int) (fun x => [(0, va), (1, vb), (5, .slice none 0 0), (6, .slice none 0 0), (7, .slice (some ⟨H.next, 0, none⟩) 41 41), (8, .int .i64 x.1)]) (fun x Hc => Fr H Hc ∧ Bx Hc H.next 3 (ints x.2) ∧ x.2.length = 41 ∧ x.1 ≤ 41) (fun x => 41 - x.1) (0, List.replicate 41 0) ⟨.alloc _ _, ⟨by simp, by simp only [AH.obj_alloc, if_true]; rfl⟩, by simp, by simp⟩ ⟨rfl, rfl, rfl, rfl, rfl, rfl, trivial⟩ ?_
    rintro ⟨i, L⟩ Hc ⟨hfr, hbx, hL, hi⟩
    simp only at hfr hbx hL hi ⊢
    rcases Nat.lt_or_ge i 41 with h | h
    · have g1 : decide ((i : Int) < 41) = true := decide_eq_true (by omega)
      obtain ⟨H2, ha1, hw, hb2, hf2, hn2⟩ := hbx.setE (V := V) (n := 41) (sz := 1) (by rw [ints_len, hL]) E_s_int E_int rfl (kd := .i64) (i := (i : Int)) (by omega) (by omega) (vs := [.int .i64 (100 + (i : Int))]) (by simp) (k := 0) (by simp)
      rw [show (i : Int).toNat = i from rfl, ints_set (by omega)] at hb2
      (repeat first | refine zSeq ?_ | refine zReg ?_ | refine zBlk ?_ | refine zSkp ?_ | refine zExt ?_ | refine zNil rfl ?_ | refine zGet rfl ?_ | refine zOn rfl rfl ?_ | refine zOff rfl rfl ?_ | refine zU rfl ?_ | refine zOn rfl (by assumption) ?_ | refine zOff rfl (by assumption) ?_ | refine zMov rfl ?_ | refine zAsg rfl ?_ | refine zXtr rfl ?_ | refine zPT rfl rfl rfl ?_ | refine zPF rfl rfl rfl ?_ | refine zPT rfl (by assumption) rfl ?_ | refine zPF rfl (by assumption) rfl ?_ | refine zLss rfl rfl ?_ | refine zLeq rfl rfl ?_ | refine zGtr rfl rfl ?_ | refine zGeq rfl rfl ?_ | refine zEql rfl rfl ?_ | refine zNeq rfl rfl ?_ | refine zAdd rfl rfl (by omega) ?_ | refine zSub rfl rfl (by omega) ?_ | refine zLenS rfl E_string ?_ | refine zNot rfl ?_ | refine zEqS rfl rfl ?_ | refine zNeS rfl rfl ?_ | refine zT rfl rfl ?_ | refine zF rfl rfl ?_ | refine zT rfl (by assumption) ?_ | refine zF rfl (by assumption) ?_ | refine zLen rfl (la _) ?_ | refine zLen rfl (lb _) ?_ | refine zLen rfl (lw _) ?_ | refine zIdx rfl rfl ha1 ?_ | refine zIdx rfl rfl ha2 ?_ | refine zIdx rfl rfl ha3 ?_ | refine zIdx rfl rfl ha4 ?_ | refine zFld (f := 0) rfl O_api_Ins_Op ?_ | refine zFld (f := 1) rfl O_api_Ins_R ?_ | refine zFld (f := 2) rfl O_api_Ins_A ?_ | refine zLd rfl hl1 ?_ | refine zLd rfl hl2 ?_ | refine zLd rfl hl3 ?_ | refine zLd rfl hl4 ?_ | refine zLen rfl (hv1.len E_s_int) ?_ | refine zLen rfl (hwo.len E_s_api_Ins) ?_)
      refine WL.op (op_store rfl rfl E_int rfl rfl hw) ?_
      (repeat first | refine zSeq ?_ | refine zReg ?_ | refine zBlk ?_ | refine zSkp ?_ | refine zExt ?_ | refine zNil rfl ?_ | refine zGet rfl ?_ | refine zOn rfl rfl ?_ | refine zOff rfl rfl ?_ | refine zU rfl ?_ | refine zOn rfl (by assumption) ?_ | refine zOff rfl (by assumption) ?_ | refine zMov rfl ?_ | refine zAsg rfl ?_ | refine zXtr rfl ?_ | refine zPT rfl rfl rfl ?_ | refine zPF rfl rfl rfl ?_ | refine zPT rfl (by assumption) rfl ?_ | refine zPF rfl (by assumption) rfl ?_ | refine zLss rfl rfl ?_ | refine zLeq rfl rfl ?_ | refine zGtr rfl rfl ?_ | refine zGeq rfl rfl ?_ | refine zEql rfl rfl ?_ | refine zNeq rfl rfl ?_ | refine zAdd rfl rfl (by omega) ?_ | refine zSub rfl rfl (by omega) ?_ | refine zLenS rfl E_string ?_ | refine zNot rfl ?_ | refine zEqS rfl rfl ?_ | refine zNeS rfl rfl ?_ | refine zT rfl rfl ?_ | refine zF rfl rfl ?_ | refine zT rfl (by assumption) ?_ | refine zF rfl (by assumption) ?_ | refine zLen rfl (la _) ?_ | refine zLen rfl (lb _) ?_ | refine zLen rfl (lw _) ?_ | refine zIdx rfl rfl ha1 ?_ | refine zIdx rfl rfl ha2 ?_ | refine zIdx rfl rfl ha3 ?_ | refine zIdx rfl rfl ha4 ?_ | refine zFld (f := 0) rfl O_api_Ins_Op ?_ | refine zFld (f := 1) rfl O_api_Ins_R ?_ | refine zFld (f := 2) rfl O_api_Ins_A ?_ | refine zLd rfl hl1 ?_ | refine zLd rfl hl2 ?_ | refine zLd rfl hl3 ?_ | refine zLd rfl hl4 ?_ | refine zLen rfl (hv1.len E_s_int) ?_ | refine zLen rfl (hwo.len E_s_api_Ins) ?_)
      exact ⟨(i + 1, L.set i (100 + (i : Int))), ⟨hfr.young hf2 (by simp) (by simp), hb2, by simp [hL], by simp only; omega⟩, by simp only; omega, rfl, rfl, rfl, rfl, rfl, rfl, trivial⟩
    have g1 : decide ((i : Int) < 41) = false := decide_eq_false (by omega)
    refine zSeq ?_
    refine zSeq ?_
    (repeat first | refine zReg ?_ | refine zSkp ?_ | refine zExt ?_ | refine zNil rfl ?_ | refine zGet rfl ?_ | refine zOn rfl rfl ?_ | refine zOff rfl rfl ?_ | refine zU rfl ?_ | refine zOn rfl (by assumption) ?_ | refine zOff rfl (by assumption) ?_ | refine zMov rfl ?_ | refine zAsg rfl ?_ | refine zXtr rfl ?_ | refine zPT rfl rfl rfl ?_ | refine zPF rfl rfl rfl ?_ | refine zPT rfl (by assumption) rfl ?_ | refine zPF rfl (by assumption) rfl ?_ | refine zLss rfl rfl ?_ | refine zLeq rfl rfl ?_ | refine zGtr rfl rfl ?_ | refine zGeq rfl rfl ?_ | refine zEql rfl rfl ?_ | refine zNeq rfl rfl ?_ | refine zAdd rfl rfl (by omega) ?_ | refine zSub rfl rfl (by omega) ?_ | refine zLenS rfl E_string ?_ | refine zNot rfl ?_ | refine zEqS rfl rfl ?_ | refine zNeS rfl rfl ?_ | refine zT rfl rfl ?_ | refine zF rfl rfl ?_ | refine zT rfl (by assumption) ?_ | refine zF rfl (by assumption) ?_ | refine zLen rfl (la _) ?_ | refine zLen rfl (lb _) ?_ | refine zLen rfl (lw _) ?_ | refine zIdx rfl rfl ha1 ?_ | refine zIdx rfl rfl ha2 ?_ | refine zIdx rfl rfl ha3 ?_ | refine zIdx rfl rfl ha4 ?_ | refine zFld (f := 0) rfl O_api_Ins_Op ?_ | refine zFld (f := 1) rfl O_api_Ins_R ?_ | refine zFld (f := 2) rfl O_api_Ins_A ?_ | refine zLd rfl hl1 ?_ | refine zLd rfl hl2 ?_ | refine zLd rfl hl3 ?_ | refine zLd rfl hl4 ?_ | refine zLen rfl (hv1.len E_s_int) ?_ | refine zLen rfl (hwo.len E_s_api_Ins) ?_)
    clear g1 h hi
    generalize hl : ((a.zip b).map fun p => (p.1.tmod 40, p.2.tmod 40) : List Mv) = l
    have hll : l.length = min a.length b.length := by rw [← hl, List.length_map, List.length_zip]
    have hlP : ∀ m ∈ l, (0 ≤ m.1 ∧ m.1 < 40) ∧ (0 ≤ m.2 ∧ m.2 < 40) := fun m hm => by
      rw [← hl] at hm
      obtain ⟨p, hp, rfl⟩ := List.mem_map.1 hm
      have := List.of_mem_zip hp
      exact ⟨tmod_le (wa _ this.1) (by decide), tmod_le (wb _ this.2) (by decide)⟩
    refine WP.seqS (σ := (Value × Option (Nat × Nat)) × (Value × Option (Nat × Nat))) (fun x => [(5, x.1.1), (6, x.2.1), (7, .slice (some ⟨H.next, 0, none⟩) 41 41)]) (fun x Hd => Fr Hc Hd ∧ Tr Hd Hc.next (l.map (·.1)) x.1.1 x.1.2 (l.map (·.2)) x.2.1 x.2.2 (.slice none 0 0) [] none) ?_ ?_
    · (repeat first | refine zSeq ?_ | refine zReg ?_ | refine zBlk ?_ | refine zSkp ?_ | refine zExt ?_ | refine zNil rfl ?_ | refine zGet rfl ?_ | refine zOn rfl rfl ?_ | refine zOff rfl rfl ?_ | refine zU rfl ?_ | refine zOn rfl (by assumption) ?_ | refine zOff rfl (by assumption) ?_ | refine zMov rfl ?_ | refine zAsg rfl ?_ | refine zXtr rfl ?_ | refine zPT rfl rfl rfl ?_ | refine zPF rfl rfl rfl ?_ | refine zPT rfl (by assumption) rfl ?_ | refine zPF rfl (by assumption) rfl ?_ | refine zLss rfl rfl ?_ | refine zLeq rfl rfl ?_ | refine zGtr rfl rfl ?_ | refine zGeq rfl rfl ?_ | refine zEql rfl rfl ?_ | refine zNeq rfl rfl ?_ | refine zAdd rfl rfl (by omega) ?_ | refine zSub rfl rfl (by omega) ?_ | refine zLenS rfl E_string ?_ | refine zNot rfl ?_ | refine zEqS rfl rfl ?_ | refine zNeS rfl rfl ?_ | refine zT rfl rfl ?_ | refine zF rfl rfl ?_ | refine zT rfl (by assumption) ?_ | refine zF rfl (by assumption) ?_ | refine zLen rfl (la _) ?_ | refine zLen rfl (lb _) ?_ | refine zLen rfl (lw _) ?_ | refine zIdx rfl rfl ha1 ?_ | refine zIdx rfl rfl ha2 ?_ | refine zIdx rfl rfl ha3 ?_ | refine zIdx rfl rfl ha4 ?_ | refine zFld (f := 0) rfl O_api_Ins_Op ?_ | refine zFld (f := 1) rfl O_api_Ins_R ?_ | refine zFld (f := 2) rfl O_api_Ins_A ?_ | refine zLd rfl hl1 ?_ | refine zLd rfl hl2 ?_ | refine zLd rfl hl3 ?_ | refine zLd rfl hl4 ?_ | refine zLen rfl (hv1.len E_s_int) ?_ | refine zLen rfl (hwo.len E_s_api_Ins) ?_)
      refine WP.loopH (σ := Nat × (Value × Option (Nat × Nat)) × (Value × Option (Nat × Nat))) (fun x => [(0, va), (1, vb), (5, x.2.1.1), (6, x.2.2.1), (7, .slice (some ⟨H.next, 0, none⟩) 41 41), (9, .int .i64 x.1)])
        (fun x Hd => Fr Hc Hd ∧ Tr Hd Hc.next ((l.take x.1).map (·.1)) x.2.1.1 x.2.1.2 ((l.take x.1).map (·.2)) x.2.2.1 x.2.2.2 (.slice none 0 0) [] none ∧ x.1 ≤ l.length) (fun x => l.length - x.1) (0, (.slice none 0 0, none), (.slice none 0 0, none))
        ⟨.refl _, ⟨.inl .nil, .inl .nil, .nil, .none, .none, .none, Nat.le_refl _⟩, Nat.zero_le _⟩ ⟨rfl, rfl, rfl, rfl, rfl, rfl, trivial⟩ ?_
      rintro ⟨i, ⟨vg, og⟩, ⟨vs, os⟩⟩ Hd ⟨hfd, htr, hi⟩
      simp only at hfd htr hi ⊢
      rcases Nat.lt_or_ge i l.length with h | h
      · have g1 : decide ((i : Int) < a.length) = true := decide_eq_true (by omega)
        have g2 : decide ((i : Int) < b.length) = true := decide_eq_true (by omega)
        have h1 : i < a.length := by omega
        have h2 : i < b.length := by omega
        have hli : l[i] = (a[i].tmod 40, b[i].tmod 40) := by
          have : l[i]? = some (a[i].tmod 40, b[i].tmod 40) := by
            rw [← hl, List.getElem?_map, List.getElem?_eq_getElem (by rw [List.length_zip]; omega), List.getElem_zip]; rfl
          rw [List.getElem?_eq_getElem h] at this
          exact Option.some.inj this
        obtain ⟨b1, o1, ha1, hl1⟩ := ix_u8 (ia.fr (hfr.trans hfd)) h1
        have hb1 : ((l.take i).map (·.1)).length ≤ 65536 := by rw [List.length_map, List.length_take]; omega
        have hb2 : ((l.take i).map (·.2)).length ≤ 65536 := by rw [List.length_map, List.length_take]; omega
        obtain ⟨vg', He, og', k1, k2, k3⟩ := htr.appG hfd (Nat.le_refl _) (a[i].tmod 40) hb1
        obtain ⟨vs', Hf, os', m1, m2, m3⟩ := k2.appS k3 (Nat.le_refl _) (b[i].tmod 40) hb2
        have ra := tmod_le (m := 40) (wa a[i] (List.getElem_mem _)) (by decide)
        have rb := tmod_le (m := 40) (wb b[i] (List.getElem_mem _)) (by decide)
        (repeat first | refine zSeq ?_ | refine zReg ?_ | refine zBlk ?_ | refine zSkp ?_ | refine zExt ?_ | refine zNil rfl ?_ | refine zGet rfl ?_ | refine zOn rfl rfl ?_ | refine zOff rfl rfl ?_ | refine zU rfl ?_ | refine zOn rfl (by assumption) ?_ | refine zOff rfl (by assumption) ?_ | refine zMov rfl ?_ | refine zAsg rfl ?_ | refine zXtr rfl ?_ | refine zPT rfl rfl rfl ?_ | refine zPF rfl rfl rfl ?_ | refine zPT rfl (by assumption) rfl ?_ | refine zPF rfl (by assumption) rfl ?_ | refine zLss rfl rfl ?_ | refine zLeq rfl rfl ?_ | refine zGtr rfl rfl ?_ | refine zGeq rfl rfl ?_ | refine zEql rfl rfl ?_ | refine zNeq rfl rfl ?_ | refine zAdd rfl rfl (by omega) ?_ | refine zSub rfl rfl (by omega) ?_ | refine zLenS rfl E_string ?_ | refine zNot rfl ?_ | refine zEqS rfl rfl ?_ | refine zNeS rfl rfl ?_ | refine zT rfl rfl ?_ | refine zF rfl rfl ?_ | refine zT rfl (by assumption) ?_ | refine zF rfl (by assumption) ?_ | refine zLen rfl (la _) ?_ | refine zLen rfl (lb _) ?_ | refine zLen rfl (lw _) ?_ | refine zIdx rfl rfl ha1 ?_ | refine zIdx rfl rfl ha2 ?_ | refine zIdx rfl rfl ha3 ?_ | refine zIdx rfl rfl ha4 ?_ | refine zFld (f := 0) rfl O_api_Ins_Op ?_ | refine zFld (f := 1) rfl O_api_Ins_R ?_ | refine zFld (f := 2) rfl O_api_Ins_A ?_ | refine zLd rfl hl1 ?_ | refine zLd rfl hl2 ?_ | refine zLd rfl hl3 ?_ | refine zLd rfl hl4 ?_ | refine zLen rfl (hv1.len E_s_int) ?_ | refine zLen rfl (hwo.len E_s_api_Ins) ?_)
        refine WL.op (op_int rfl rfl (aInt_rem _ _ (by decide))) ?_
        refine WL.op (op_conv und5 und3 rfl (m := a[i].tmod 40) (wrap_i64 (by omega) (by omega))) ?_
        refine WL.op (op_buildSlice rfl E_s_int E_int (by decide) fill22) ?_
        refine WL.op (k1 rfl rfl) ?_
        obtain ⟨b2, o2, ha2, hl2⟩ := ix_u8 (ib.fr (hfr.trans k3)) h2
        (repeat first | refine zSeq ?_ | refine zReg ?_ | refine zBlk ?_ | refine zSkp ?_ | refine zExt ?_ | refine zNil rfl ?_ | refine zGet rfl ?_ | refine zOn rfl rfl ?_ | refine zOff rfl rfl ?_ | refine zU rfl ?_ | refine zOn rfl (by assumption) ?_ | refine zOff rfl (by assumption) ?_ | refine zMov rfl ?_ | refine zAsg rfl ?_ | refine zXtr rfl ?_ | refine zPT rfl rfl rfl ?_ | refine zPF rfl rfl rfl ?_ | refine zPT rfl (by assumption) rfl ?_ | refine zPF rfl (by assumption) rfl ?_ | refine zLss rfl rfl ?_ | refine zLeq rfl rfl ?_ | refine zGtr rfl rfl ?_ | refine zGeq rfl rfl ?_ | refine zEql rfl rfl ?_ | refine zNeq rfl rfl ?_ | refine zAdd rfl rfl (by omega) ?_ | refine zSub rfl rfl (by omega) ?_ | refine zLenS rfl E_string ?_ | refine zNot rfl ?_ | refine zEqS rfl rfl ?_ | refine zNeS rfl rfl ?_ | refine zT rfl rfl ?_ | refine zF rfl rfl ?_ | refine zT rfl (by assumption) ?_ | refine zF rfl (by assumption) ?_ | refine zLen rfl (la _) ?_ | refine zLen rfl (lb _) ?_ | refine zLen rfl (lw _) ?_ | refine zIdx rfl rfl ha1 ?_ | refine zIdx rfl rfl ha2 ?_ | refine zIdx rfl rfl ha3 ?_ | refine zIdx rfl rfl ha4 ?_ | refine zFld (f := 0) rfl O_api_Ins_Op ?_ | refine zFld (f := 1) rfl O_api_Ins_R ?_ | refine zFld (f := 2) rfl O_api_Ins_A ?_ | refine zLd rfl hl1 ?_ | refine zLd rfl hl2 ?_ | refine zLd rfl hl3 ?_ | refine zLd rfl hl4 ?_ | refine zLen rfl (hv1.len E_s_int) ?_ | refine zLen rfl (hwo.len E_s_api_Ins) ?_)
        refine WL.op (op_int rfl rfl (aInt_rem _ _ (by decide))) ?_
        refine WL.op (op_conv und5 und3 rfl (m := b[i].tmod 40) (wrap_i64 (by omega) (by omega))) ?_
        refine WL.op (op_buildSlice rfl E_s_int E_int (by decide) fill22) ?_
        refine WL.op (m1 rfl rfl) ?_
        (repeat first | refine zSeq ?_ | refine zReg ?_ | refine zBlk ?_ | refine zSkp ?_ | refine zExt ?_ | refine zNil rfl ?_ | refine zGet rfl ?_ | refine zOn rfl rfl ?_ | refine zOff rfl rfl ?_ | refine zU rfl ?_ | refine zOn rfl (by assumption) ?_ | refine zOff rfl (by assumption) ?_ | refine zMov rfl ?_ | refine zAsg rfl ?_ | refine zXtr rfl ?_ | refine zPT rfl rfl rfl ?_ | refine zPF rfl rfl rfl ?_ | refine zPT rfl (by assumption) rfl ?_ | refine zPF rfl (by assumption) rfl ?_ | refine zLss rfl rfl ?_ | refine zLeq rfl rfl ?_ | refine zGtr rfl rfl ?_ | refine zGeq rfl rfl ?_ | refine zEql rfl rfl ?_ | refine zNeq rfl rfl ?_ | refine zAdd rfl rfl (by omega) ?_ | refine zSub rfl rfl (by omega) ?_ | refine zLenS rfl E_string ?_ | refine zNot rfl ?_ | refine zEqS rfl rfl ?_ | refine zNeS rfl rfl ?_ | refine zT rfl rfl ?_ | refine zF rfl rfl ?_ | refine zT rfl (by assumption) ?_ | refine zF rfl (by assumption) ?_ | refine zLen rfl (la _) ?_ | refine zLen rfl (lb _) ?_ | refine zLen rfl (lw _) ?_ | refine zIdx rfl rfl ha1 ?_ | refine zIdx rfl rfl ha2 ?_ | refine zIdx rfl rfl ha3 ?_ | refine zIdx rfl rfl ha4 ?_ | refine zFld (f := 0) rfl O_api_Ins_Op ?_ | refine zFld (f := 1) rfl O_api_Ins_R ?_ | refine zFld (f := 2) rfl O_api_Ins_A ?_ | refine zLd rfl hl1 ?_ | refine zLd rfl hl2 ?_ | refine zLd rfl hl3 ?_ | refine zLd rfl hl4 ?_ | refine zLen rfl (hv1.len E_s_int) ?_ | refine zLen rfl (hwo.len E_s_api_Ins) ?_)
        refine ⟨(i + 1, (vg', og'), (vs', os')), ⟨m3, ?_, h⟩, by simp only; omega, rfl, rfl, rfl, rfl, rfl, rfl, trivial⟩
        simp only
        rw [List.take_add_one, List.getElem?_eq_getElem h, hli]
        simpa using m2
      have fin : Fr Hc Hd ∧ Tr Hd Hc.next (l.map (·.1)) vg og (l.map (·.2)) vs os (.slice none 0 0) [] none := ⟨hfd, by rw [List.take_of_length_le h] at htr; exact htr⟩
      rcases Nat.lt_or_ge i a.length with h1 | h1
      · have g1 : decide ((i : Int) < a.length) = true := decide_eq_true (by omega)
        have g2 : decide ((i : Int) < b.length) = false := decide_eq_false (by omega)
        (repeat first | refine zSeq ?_ | refine zReg ?_ | refine zBlk ?_ | refine zSkp ?_ | refine zExt ?_ | refine zNil rfl ?_ | refine zGet rfl ?_ | refine zOn rfl rfl ?_ | refine zOff rfl rfl ?_ | refine zU rfl ?_ | refine zOn rfl (by assumption) ?_ | refine zOff rfl (by assumption) ?_ | refine zMov rfl ?_ | refine zAsg rfl ?_ | refine zXtr rfl ?_ | refine zPT rfl rfl rfl ?_ | refine zPF rfl rfl rfl ?_ | refine zPT rfl (by assumption) rfl ?_ | refine zPF rfl (by assumption) rfl ?_ | refine zLss rfl rfl ?_ | refine zLeq rfl rfl ?_ | refine zGtr rfl rfl ?_ | refine zGeq rfl rfl ?_ | refine zEql rfl rfl ?_ | refine zNeq rfl rfl ?_ | refine zAdd rfl rfl (by omega) ?_ | refine zSub rfl rfl (by omega) ?_ | refine zLenS rfl E_string ?_ | refine zNot rfl ?_ | refine zEqS rfl rfl ?_ | refine zNeS rfl rfl ?_ | refine zT rfl rfl ?_ | refine zF rfl rfl ?_ | refine zT rfl (by assumption) ?_ | refine zF rfl (by assumption) ?_ | refine zLen rfl (la _) ?_ | refine zLen rfl (lb _) ?_ | refine zLen rfl (lw _) ?_ | refine zIdx rfl rfl ha1 ?_ | refine zIdx rfl rfl ha2 ?_ | refine zIdx rfl rfl ha3 ?_ | refine zIdx rfl rfl ha4 ?_ | refine zFld (f := 0) rfl O_api_Ins_Op ?_ | refine zFld (f := 1) rfl O_api_Ins_R ?_ | refine zFld (f := 2) rfl O_api_Ins_A ?_ | refine zLd rfl hl1 ?_ | refine zLd rfl hl2 ?_ | refine zLd rfl hl3 ?_ | refine zLd rfl hl4 ?_ | refine zLen rfl (hv1.len E_s_int) ?_ | refine zLen rfl (hwo.len E_s_api_Ins) ?_)
        exact ⟨((vg, og), (vs, os)), fin, rfl, rfl, rfl, trivial⟩
      · have g1 : decide ((i : Int) < a.length) = false := decide_eq_false (by omega)
        (repeat first | refine zSeq ?_ | refine zReg ?_ | refine zBlk ?_ | refine zSkp ?_ | refine zExt ?_ | refine zNil rfl ?_ | refine zGet rfl ?_ | refine zOn rfl rfl ?_ | refine zOff rfl rfl ?_ | refine zU rfl ?_ | refine zOn rfl (by assumption) ?_ | refine zOff rfl (by assumption) ?_ | refine zMov rfl ?_ | refine zAsg rfl ?_ | refine zXtr rfl ?_ | refine zPT rfl rfl rfl ?_ | refine zPF rfl rfl rfl ?_ | refine zPT rfl (by assumption) rfl ?_ | refine zPF rfl (by assumption) rfl ?_ | refine zLss rfl rfl ?_ | refine zLeq rfl rfl ?_ | refine zGtr rfl rfl ?_ | refine zGeq rfl rfl ?_ | refine zEql rfl rfl ?_ | refine zNeq rfl rfl ?_ | refine zAdd rfl rfl (by omega) ?_ | refine zSub rfl rfl (by omega) ?_ | refine zLenS rfl E_string ?_ | refine zNot rfl ?_ | refine zEqS rfl rfl ?_ | refine zNeS rfl rfl ?_ | refine zT rfl rfl ?_ | refine zF rfl rfl ?_ | refine zT rfl (by assumption) ?_ | refine zF rfl (by assumption) ?_ | refine zLen rfl (la _) ?_ | refine zLen rfl (lb _) ?_ | refine zLen rfl (lw _) ?_ | refine zIdx rfl rfl ha1 ?_ | refine zIdx rfl rfl ha2 ?_ | refine zIdx rfl rfl ha3 ?_ | refine zIdx rfl rfl ha4 ?_ | refine zFld (f := 0) rfl O_api_Ins_Op ?_ | refine zFld (f := 1) rfl O_api_Ins_R ?_ | refine zFld (f := 2) rfl O_api_Ins_A ?_ | refine zLd rfl hl1 ?_ | refine zLd rfl hl2 ?_ | refine zLd rfl hl3 ?_ | refine zLd rfl hl4 ?_ | refine zLen rfl (hv1.len E_s_int) ?_ | refine zLen rfl (hwo.len E_s_api_Ins) ?_)
        exact ⟨((vg, og), (vs, os)), fin, rfl, rfl, rfl, trivial⟩
    rintro ⟨⟨vg, og⟩, ⟨vs, os⟩⟩ Hd ⟨hfd, htr⟩
    simp only at hfd htr ⊢
    have hG : (l.map (·.1)).length ≤ 60 := by rw [List.length_map]; omega
    obtain ⟨v, H3, hc3, hf3, hr3⟩ := row_c (H := Hd) hO htr.g.sl htr.s.sl hG 40
    rcases hr3 with ⟨hok, w, out, oo, n2, rfl, hR, hw, hn2, hol⟩ | ⟨_, rfl⟩
    case inr =>
      have ln : aLen V.E H3 24 (.slice none 0 0) = some (.int .i64 0) := by simp only [aLen, E_s_api_Ins]; rfl
      (repeat first | refine zSeq ?_ | refine zReg ?_ | refine zBlk ?_ | refine zSkp ?_ | refine zExt ?_ | refine zNil rfl ?_ | refine zGet rfl ?_ | refine zOn rfl rfl ?_ | refine zOff rfl rfl ?_ | refine zU rfl ?_ | refine zOn rfl (by assumption) ?_ | refine zOff rfl (by assumption) ?_ | refine zMov rfl ?_ | refine zAsg rfl ?_ | refine zXtr rfl ?_ | refine zPT rfl rfl rfl ?_ | refine zPF rfl rfl rfl ?_ | refine zPT rfl (by assumption) rfl ?_ | refine zPF rfl (by assumption) rfl ?_ | refine zLss rfl rfl ?_ | refine zLeq rfl rfl ?_ | refine zGtr rfl rfl ?_ | refine zGeq rfl rfl ?_ | refine zEql rfl rfl ?_ | refine zNeq rfl rfl ?_ | refine zAdd rfl rfl (by omega) ?_ | refine zSub rfl rfl (by omega) ?_ | refine zLenS rfl E_string ?_ | refine zNot rfl ?_ | refine zEqS rfl rfl ?_ | refine zNeS rfl rfl ?_ | refine zT rfl rfl ?_ | refine zF rfl rfl ?_ | refine zT rfl (by assumption) ?_ | refine zF rfl (by assumption) ?_ | refine zLen rfl (la _) ?_ | refine zLen rfl (lb _) ?_ | refine zLen rfl (lw _) ?_ | refine zIdx rfl rfl ha1 ?_ | refine zIdx rfl rfl ha2 ?_ | refine zIdx rfl rfl ha3 ?_ | refine zIdx rfl rfl ha4 ?_ | refine zFld (f := 0) rfl O_api_Ins_Op ?_ | refine zFld (f := 1) rfl O_api_Ins_R ?_ | refine zFld (f := 2) rfl O_api_Ins_A ?_ | refine zLd rfl hl1 ?_ | refine zLd rfl hl2 ?_ | refine zLd rfl hl3 ?_ | refine zLd rfl hl4 ?_ | refine zLen rfl (hv1.len E_s_int) ?_ | refine zLen rfl (hwo.len E_s_api_Ins) ?_)
      refine WL.call rfl rfl is_phis_Row hc3 ?_
      (repeat first | refine zSeq ?_ | refine zReg ?_ | refine zBlk ?_ | refine zSkp ?_ | refine zExt ?_ | refine zNil rfl ?_ | refine zGet rfl ?_ | refine zOn rfl rfl ?_ | refine zOff rfl rfl ?_ | refine zU rfl ?_ | refine zOn rfl (by assumption) ?_ | refine zOff rfl (by assumption) ?_ | refine zMov rfl ?_ | refine zAsg rfl ?_ | refine zXtr rfl ?_ | refine zPT rfl rfl rfl ?_ | refine zPF rfl rfl rfl ?_ | refine zPT rfl (by assumption) rfl ?_ | refine zPF rfl (by assumption) rfl ?_ | refine zLss rfl rfl ?_ | refine zLeq rfl rfl ?_ | refine zGtr rfl rfl ?_ | refine zGeq rfl rfl ?_ | refine zEql rfl rfl ?_ | refine zNeq rfl rfl ?_ | refine zAdd rfl rfl (by omega) ?_ | refine zSub rfl rfl (by omega) ?_ | refine zLenS rfl E_string ?_ | refine zNot rfl ?_ | refine zEqS rfl rfl ?_ | refine zNeS rfl rfl ?_ | refine zT rfl rfl ?_ | refine zF rfl rfl ?_ | refine zT rfl (by assumption) ?_ | refine zF rfl (by assumption) ?_ | refine zLen rfl (la _) ?_ | refine zLen rfl (lb _) ?_ | refine zLen rfl (lw _) ?_ | refine zIdx rfl rfl ha1 ?_ | refine zIdx rfl rfl ha2 ?_ | refine zIdx rfl rfl ha3 ?_ | refine zIdx rfl rfl ha4 ?_ | refine zFld (f := 0) rfl O_api_Ins_Op ?_ | refine zFld (f := 1) rfl O_api_Ins_R ?_ | refine zFld (f := 2) rfl O_api_Ins_A ?_ | refine zLd rfl hl1 ?_ | refine zLd rfl hl2 ?_ | refine zLd rfl hl3 ?_ | refine zLd rfl hl4 ?_ | refine zLen rfl (hv1.len E_s_int) ?_ | refine zLen rfl (hwo.len E_s_api_Ins) ?_)
      refine zLen rfl ln ?_
      (repeat first | refine zSeq ?_ | refine zReg ?_ | refine zBlk ?_ | refine zSkp ?_ | refine zExt ?_ | refine zNil rfl ?_ | refine zGet rfl ?_ | refine zOn rfl rfl ?_ | refine zOff rfl rfl ?_ | refine zU rfl ?_ | refine zOn rfl (by assumption) ?_ | refine zOff rfl (by assumption) ?_ | refine zMov rfl ?_ | refine zAsg rfl ?_ | refine zXtr rfl ?_ | refine zPT rfl rfl rfl ?_ | refine zPF rfl rfl rfl ?_ | refine zPT rfl (by assumption) rfl ?_ | refine zPF rfl (by assumption) rfl ?_ | refine zLss rfl rfl ?_ | refine zLeq rfl rfl ?_ | refine zGtr rfl rfl ?_ | refine zGeq rfl rfl ?_ | refine zEql rfl rfl ?_ | refine zNeq rfl rfl ?_ | refine zAdd rfl rfl (by omega) ?_ | refine zSub rfl rfl (by omega) ?_ | refine zLenS rfl E_string ?_ | refine zNot rfl ?_ | refine zEqS rfl rfl ?_ | refine zNeS rfl rfl ?_ | refine zT rfl rfl ?_ | refine zF rfl rfl ?_ | refine zT rfl (by assumption) ?_ | refine zF rfl (by assumption) ?_ | refine zLen rfl (la _) ?_ | refine zLen rfl (lb _) ?_ | refine zLen rfl (lw _) ?_ | refine zIdx rfl rfl ha1 ?_ | refine zIdx rfl rfl ha2 ?_ | refine zIdx rfl rfl ha3 ?_ | refine zIdx rfl rfl ha4 ?_ | refine zFld (f := 0) rfl O_api_Ins_Op ?_ | refine zFld (f := 1) rfl O_api_Ins_R ?_ | refine zFld (f := 2) rfl O_api_Ins_A ?_ | refine zLd rfl hl1 ?_ | refine zLd rfl hl2 ?_ | refine zLd rfl hl3 ?_ | refine zLd rfl hl4 ?_ | refine zLen rfl (hv1.len E_s_int) ?_ | refine zLen rfl (hwo.len E_s_api_Ins) ?_)
      exact WP.ret ⟨.inr rfl, _, rfl, rfl⟩
    obtain ⟨hnd, htn, _⟩ := rowOk_nodup hok
    have hol : out.length ≤ 200 := by omega
    unfold live_ at hR
    rw [zip_map] at hR
    have hP := hR.within (P := fun x => 0 ≤ x ∧ x ≤ 40) (by decide) (fun m hm => by have := hlP m (List.mem_filter.1 hm).1; omega)
    have htmp := hR.temps_le (fun hm => by
      obtain ⟨m, hm, e⟩ := List.mem_map.1 hm
      exact htn (List.mem_map.2 ⟨m, (List.mem_filter.1 hm).1, e⟩))
    have honce := hR.once_eq hnd htn
    generalize hs0 : (fun x : Int => L.getD x.toNat 0) = s0 at *
    have hIs : Phi.Is L s0 := by rw [← hs0]; exact Is.ofLen hL
    have hbx3 := (hbx.fr hfd).fr hf3
    have hfa := Fr.alloc H3 (.row 3 [] .exact 0 0)
    obtain ⟨v1, H4, o1, k1, k2, k3, k4, k5⟩ := (OwE.new (H := H3) (n0 := H3.next) (e := 3) (sz := 1) (Nat.le_refl _)).appSl (V := V) (bytes := 8) ((sl_was hbx3 hL).fr hfa) (by decide) (by decide) (by decide) hfa.1 (ints_one _) E_s_int E_s_int E_int rfl rfl
    have hf4 : Fr H3 H4 := hfa.young k3 (by simp [obs]) (by simp [ogs])
    have hv1 : Ow H4 H3.next 3 1 v1 41 (ints L) o1 := by have := k2.ow (by omega); simpa using this
    have hyo := hv1.young
    (repeat first | refine zSeq ?_ | refine zReg ?_ | refine zBlk ?_ | refine zSkp ?_ | refine zExt ?_ | refine zNil rfl ?_ | refine zGet rfl ?_ | refine zOn rfl rfl ?_ | refine zOff rfl rfl ?_ | refine zU rfl ?_ | refine zOn rfl (by assumption) ?_ | refine zOff rfl (by assumption) ?_ | refine zMov rfl ?_ | refine zAsg rfl ?_ | refine zXtr rfl ?_ | refine zPT rfl rfl rfl ?_ | refine zPF rfl rfl rfl ?_ | refine zPT rfl (by assumption) rfl ?_ | refine zPF rfl (by assumption) rfl ?_ | refine zLss rfl rfl ?_ | refine zLeq rfl rfl ?_ | refine zGtr rfl rfl ?_ | refine zGeq rfl rfl ?_ | refine zEql rfl rfl ?_ | refine zNeq rfl rfl ?_ | refine zAdd rfl rfl (by omega) ?_ | refine zSub rfl rfl (by omega) ?_ | refine zLenS rfl E_string ?_ | refine zNot rfl ?_ | refine zEqS rfl rfl ?_ | refine zNeS rfl rfl ?_ | refine zT rfl rfl ?_ | refine zF rfl rfl ?_ | refine zT rfl (by assumption) ?_ | refine zF rfl (by assumption) ?_ | refine zLen rfl (la _) ?_ | refine zLen rfl (lb _) ?_ | refine zLen rfl (lw _) ?_ | refine zIdx rfl rfl ha1 ?_ | refine zIdx rfl rfl ha2 ?_ | refine zIdx rfl rfl ha3 ?_ | refine zIdx rfl rfl ha4 ?_ | refine zFld (f := 0) rfl O_api_Ins_Op ?_ | refine zFld (f := 1) rfl O_api_Ins_R ?_ | refine zFld (f := 2) rfl O_api_Ins_A ?_ | refine zLd rfl hl1 ?_ | refine zLd rfl hl2 ?_ | refine zLd rfl hl3 ?_ | refine zLd rfl hl4 ?_ | refine zLen rfl (hv1.len E_s_int) ?_ | refine zLen rfl (hwo.len E_s_api_Ins) ?_)
    refine WL.call rfl rfl is_phis_Row hc3 ?_
    (repeat first | refine zSeq ?_ | refine zReg ?_ | refine zBlk ?_ | refine zSkp ?_ | refine zExt ?_ | refine zNil rfl ?_ | refine zGet rfl ?_ | refine zOn rfl rfl ?_ | refine zOff rfl rfl ?_ | refine zU rfl ?_ | refine zOn rfl (by assumption) ?_ | refine zOff rfl (by assumption) ?_ | refine zMov rfl ?_ | refine zAsg rfl ?_ | refine zXtr rfl ?_ | refine zPT rfl rfl rfl ?_ | refine zPF rfl rfl rfl ?_ | refine zPT rfl (by assumption) rfl ?_ | refine zPF rfl (by assumption) rfl ?_ | refine zLss rfl rfl ?_ | refine zLeq rfl rfl ?_ | refine zGtr rfl rfl ?_ | refine zGeq rfl rfl ?_ | refine zEql rfl rfl ?_ | refine zNeq rfl rfl ?_ | refine zAdd rfl rfl (by omega) ?_ | refine zSub rfl rfl (by omega) ?_ | refine zLenS rfl E_string ?_ | refine zNot rfl ?_ | refine zEqS rfl rfl ?_ | refine zNeS rfl rfl ?_ | refine zT rfl rfl ?_ | refine zF rfl rfl ?_ | refine zT rfl (by assumption) ?_ | refine zF rfl (by assumption) ?_ | refine zLen rfl (la _) ?_ | refine zLen rfl (lb _) ?_ | refine zLen rfl (lw _) ?_ | refine zIdx rfl rfl ha1 ?_ | refine zIdx rfl rfl ha2 ?_ | refine zIdx rfl rfl ha3 ?_ | refine zIdx rfl rfl ha4 ?_ | refine zFld (f := 0) rfl O_api_Ins_Op ?_ | refine zFld (f := 1) rfl O_api_Ins_R ?_ | refine zFld (f := 2) rfl O_api_Ins_A ?_ | refine zLd rfl hl1 ?_ | refine zLd rfl hl2 ?_ | refine zLd rfl hl3 ?_ | refine zLd rfl hl4 ?_ | refine zLen rfl (hv1.len E_s_int) ?_ | refine zLen rfl (hwo.len E_s_api_Ins) ?_)
    refine WL.op (op_buildSlice rfl E_s_int E_int (by decide) rfl) ?_
    (repeat first | refine zSeq ?_ | refine zReg ?_ | refine zBlk ?_ | refine zSkp ?_ | refine zExt ?_ | refine zNil rfl ?_ | refine zGet rfl ?_ | refine zOn rfl rfl ?_ | refine zOff rfl rfl ?_ | refine zU rfl ?_ | refine zOn rfl (by assumption) ?_ | refine zOff rfl (by assumption) ?_ | refine zMov rfl ?_ | refine zAsg rfl ?_ | refine zXtr rfl ?_ | refine zPT rfl rfl rfl ?_ | refine zPF rfl rfl rfl ?_ | refine zPT rfl (by assumption) rfl ?_ | refine zPF rfl (by assumption) rfl ?_ | refine zLss rfl rfl ?_ | refine zLeq rfl rfl ?_ | refine zGtr rfl rfl ?_ | refine zGeq rfl rfl ?_ | refine zEql rfl rfl ?_ | refine zNeq rfl rfl ?_ | refine zAdd rfl rfl (by omega) ?_ | refine zSub rfl rfl (by omega) ?_ | refine zLenS rfl E_string ?_ | refine zNot rfl ?_ | refine zEqS rfl rfl ?_ | refine zNeS rfl rfl ?_ | refine zT rfl rfl ?_ | refine zF rfl rfl ?_ | refine zT rfl (by assumption) ?_ | refine zF rfl (by assumption) ?_ | refine zLen rfl (la _) ?_ | refine zLen rfl (lb _) ?_ | refine zLen rfl (lw _) ?_ | refine zIdx rfl rfl ha1 ?_ | refine zIdx rfl rfl ha2 ?_ | refine zIdx rfl rfl ha3 ?_ | refine zIdx rfl rfl ha4 ?_ | refine zFld (f := 0) rfl O_api_Ins_Op ?_ | refine zFld (f := 1) rfl O_api_Ins_R ?_ | refine zFld (f := 2) rfl O_api_Ins_A ?_ | refine zLd rfl hl1 ?_ | refine zLd rfl hl2 ?_ | refine zLd rfl hl3 ?_ | refine zLd rfl hl4 ?_ | refine zLen rfl (hv1.len E_s_int) ?_ | refine zLen rfl (hwo.len E_s_api_Ins) ?_)
    refine WL.op (k1 rfl rfl) ?_
    refine zNil rfl ?_
    refine zSeq ?_
    (repeat first | refine zReg ?_ | refine zSkp ?_ | refine zExt ?_ | refine zNil rfl ?_ | refine zGet rfl ?_ | refine zOn rfl rfl ?_ | refine zOff rfl rfl ?_ | refine zU rfl ?_ | refine zOn rfl (by assumption) ?_ | refine zOff rfl (by assumption) ?_ | refine zMov rfl ?_ | refine zAsg rfl ?_ | refine zXtr rfl ?_ | refine zPT rfl rfl rfl ?_ | refine zPF rfl rfl rfl ?_ | refine zPT rfl (by assumption) rfl ?_ | refine zPF rfl (by assumption) rfl ?_ | refine zLss rfl rfl ?_ | refine zLeq rfl rfl ?_ | refine zGtr rfl rfl ?_ | refine zGeq rfl rfl ?_ | refine zEql rfl rfl ?_ | refine zNeq rfl rfl ?_ | refine zAdd rfl rfl (by omega) ?_ | refine zSub rfl rfl (by omega) ?_ | refine zLenS rfl E_string ?_ | refine zNot rfl ?_ | refine zEqS rfl rfl ?_ | refine zNeS rfl rfl ?_ | refine zT rfl rfl ?_ | refine zF rfl rfl ?_ | refine zT rfl (by assumption) ?_ | refine zF rfl (by assumption) ?_ | refine zLen rfl (la _) ?_ | refine zLen rfl (lb _) ?_ | refine zLen rfl (lw _) ?_ | refine zIdx rfl rfl ha1 ?_ | refine zIdx rfl rfl ha2 ?_ | refine zIdx rfl rfl ha3 ?_ | refine zIdx rfl rfl ha4 ?_ | refine zFld (f := 0) rfl O_api_Ins_Op ?_ | refine zFld (f := 1) rfl O_api_Ins_R ?_ | refine zFld (f := 2) rfl O_api_Ins_A ?_ | refine zLd rfl hl1 ?_ | refine zLd rfl hl2 ?_ | refine zLd rfl hl3 ?_ | refine zLd rfl hl4 ?_ | refine zLen rfl (hv1.len E_s_int) ?_ | refine zLen rfl (hwo.len E_s_api_Ins) ?_)
    refine WP.seqS (σ := List Int × Nat) (fun x => [(5, vg), (6, vs), (7, .slice (some ⟨H.next, 0, none⟩) 41 41), (10, w), (12, v1), (13, .int .i64 x.2)]) (fun x Hd => Fr H3 Hd ∧ Ow Hd H3.next 3 1 v1 41 (ints x.1) o1 ∧ Phi.Is x.1 (Phi.exec s0 out) ∧ x.2 = Phi.temps 40 out) ?_ ?_
    · (repeat first | refine zSeq ?_ | refine zReg ?_ | refine zBlk ?_ | refine zSkp ?_ | refine zExt ?_ | refine zNil rfl ?_ | refine zGet rfl ?_ | refine zOn rfl rfl ?_ | refine zOff rfl rfl ?_ | refine zU rfl ?_ | refine zOn rfl (by assumption) ?_ | refine zOff rfl (by assumption) ?_ | refine zMov rfl ?_ | refine zAsg rfl ?_ | refine zXtr rfl ?_ | refine zPT rfl rfl rfl ?_ | refine zPF rfl rfl rfl ?_ | refine zPT rfl (by assumption) rfl ?_ | refine zPF rfl (by assumption) rfl ?_ | refine zLss rfl rfl ?_ | refine zLeq rfl rfl ?_ | refine zGtr rfl rfl ?_ | refine zGeq rfl rfl ?_ | refine zEql rfl rfl ?_ | refine zNeq rfl rfl ?_ | refine zAdd rfl rfl (by omega) ?_ | refine zSub rfl rfl (by omega) ?_ | refine zLenS rfl E_string ?_ | refine zNot rfl ?_ | refine zEqS rfl rfl ?_ | refine zNeS rfl rfl ?_ | refine zT rfl rfl ?_ | refine zF rfl rfl ?_ | refine zT rfl (by assumption) ?_ | refine zF rfl (by assumption) ?_ | refine zLen rfl (la _) ?_ | refine zLen rfl (lb _) ?_ | refine zLen rfl (lw _) ?_ | refine zIdx rfl rfl ha1 ?_ | refine zIdx rfl rfl ha2 ?_ | refine zIdx rfl rfl ha3 ?_ | refine zIdx rfl rfl ha4 ?_ | refine zFld (f := 0) rfl O_api_Ins_Op ?_ | refine zFld (f := 1) rfl O_api_Ins_R ?_ | refine zFld (f := 2) rfl O_api_Ins_A ?_ | refine zLd rfl hl1 ?_ | refine zLd rfl hl2 ?_ | refine zLd rfl hl3 ?_ | refine zLd rfl hl4 ?_ | refine zLen rfl (hv1.len E_s_int) ?_ | refine zLen rfl (hwo.len E_s_api_Ins) ?_)
      refine WP.loopH (σ := Nat × List Int × Nat) (fun x => [(5, vg), (6, vs), (7, .slice (some ⟨H.next, 0, none⟩) 41 41), (10, w), (12, v1), (13, .int .i64 x.2.2), (14, .int .i64 x.1)]) (fun x Hd => Fr H3 Hd ∧ Ow Hd H3.next 3 1 v1 41 (ints x.2.1) o1 ∧ Phi.Is x.2.1 (Phi.exec s0 (out.take x.1)) ∧ x.2.2 = Phi.temps 40 (out.take x.1) ∧ x.1 ≤ out.length) (fun x => out.length - x.1) (0, L, 0) ⟨hf4, hv1, hIs, rfl, Nat.zero_le _⟩ ⟨rfl, rfl, rfl, rfl, rfl, rfl, rfl, trivial⟩ ?_
      rintro ⟨i, N, tm⟩ Hd ⟨hfd, hv1, hN, htm, hi⟩
      simp only at hfd hv1 hN htm hi ⊢
      subst htm
      have hwo := hw.sl.fr hfd
      rcases Nat.lt_or_ge i out.length with h | h
      · have g1 : decide ((i : Int) < out.length) = true := decide_eq_true (by omega)
        obtain ⟨p1, q1, ha1, hl1, hl2, hl3, _⟩ := sl_ins hwo h
        have hp := hP out[i] (List.getElem_mem _)
        have c1 : decide (out[i].1 < 0) = false := decide_eq_false (by omega)
        have c2 : decide (out[i].1 > 40) = false := decide_eq_false (by omega)
        have c3 : decide (out[i].2 < 0) = false := decide_eq_false (by omega)
        have c4 : decide (out[i].2 > 40) = false := decide_eq_false (by omega)
        obtain ⟨hlA, hA⟩ := hN.get hp.2.1 hp.2.2
        have hNl : N.length = 41 := hN.1
        obtain ⟨p2, q2, ha2, hl4⟩ := sl_int (l := N) (by rw [hNl]; exact hv1.sl) hlA
        rw [show ((out[i].2.toNat : Nat) : Int) = out[i].2 from Int.toNat_of_nonneg hp.2.1] at ha2
        obtain ⟨p3, q3, H5, ha3, _, hwr, hv5, hf5, hn5⟩ := hv1.set E_s_int E_int rfl (kd := .i64) (i := out[i].1) hp.1.1 (by omega) (vs := [.int .i64 (N[out[i].2.toNat])]) (by simp) (k := 0) (by simp)
        rw [ints_set (by omega)] at hv5
        have hN5 := hN.set hp.1.1 hp.1.2 (N[out[i].2.toNat])
        have hwo5 := hwo
        have hfr5 : Fr H3 H5 := hfd.young hf5 hyo.1 hyo.2.1
        have ht5 := temps_take (t := 40) h
        have hlt := temps_lt (t := 40) (out.take i)
        rw [List.length_take] at hlt
        (repeat first | refine zSeq ?_ | refine zReg ?_ | refine zBlk ?_ | refine zSkp ?_ | refine zExt ?_ | refine zNil rfl ?_ | refine zGet rfl ?_ | refine zOn rfl rfl ?_ | refine zOff rfl rfl ?_ | refine zU rfl ?_ | refine zOn rfl (by assumption) ?_ | refine zOff rfl (by assumption) ?_ | refine zMov rfl ?_ | refine zAsg rfl ?_ | refine zXtr rfl ?_ | refine zPT rfl rfl rfl ?_ | refine zPF rfl rfl rfl ?_ | refine zPT rfl (by assumption) rfl ?_ | refine zPF rfl (by assumption) rfl ?_ | refine zLss rfl rfl ?_ | refine zLeq rfl rfl ?_ | refine zGtr rfl rfl ?_ | refine zGeq rfl rfl ?_ | refine zEql rfl rfl ?_ | refine zNeq rfl rfl ?_ | refine zAdd rfl rfl (by omega) ?_ | refine zSub rfl rfl (by omega) ?_ | refine zLenS rfl E_string ?_ | refine zNot rfl ?_ | refine zEqS rfl rfl ?_ | refine zNeS rfl rfl ?_ | refine zT rfl rfl ?_ | refine zF rfl rfl ?_ | refine zT rfl (by assumption) ?_ | refine zF rfl (by assumption) ?_ | refine zLen rfl (la _) ?_ | refine zLen rfl (lb _) ?_ | refine zLen rfl (lw _) ?_ | refine zIdx rfl rfl ha1 ?_ | refine zIdx rfl rfl ha2 ?_ | refine zIdx rfl rfl ha3 ?_ | refine zIdx rfl rfl ha4 ?_ | refine zFld (f := 0) rfl O_api_Ins_Op ?_ | refine zFld (f := 1) rfl O_api_Ins_R ?_ | refine zFld (f := 2) rfl O_api_Ins_A ?_ | refine zLd rfl hl1 ?_ | refine zLd rfl hl2 ?_ | refine zLd rfl hl3 ?_ | refine zLd rfl hl4 ?_ | refine zLen rfl (hv1.len E_s_int) ?_ | refine zLen rfl (hwo.len E_s_api_Ins) ?_)
        refine WL.op (op_store rfl rfl E_int rfl rfl hwr) ?_
        obtain ⟨p1, q1, ha1, hl1, hl2, hl3, _⟩ := sl_ins (hw.sl.fr hfr5) h
        cases ct : out[i].1 == 40
        · (repeat first | refine zSeq ?_ | refine zReg ?_ | refine zBlk ?_ | refine zSkp ?_ | refine zExt ?_ | refine zNil rfl ?_ | refine zGet rfl ?_ | refine zOn rfl rfl ?_ | refine zOff rfl rfl ?_ | refine zU rfl ?_ | refine zOn rfl (by assumption) ?_ | refine zOff rfl (by assumption) ?_ | refine zMov rfl ?_ | refine zAsg rfl ?_ | refine zXtr rfl ?_ | refine zPT rfl rfl rfl ?_ | refine zPF rfl rfl rfl ?_ | refine zPT rfl (by assumption) rfl ?_ | refine zPF rfl (by assumption) rfl ?_ | refine zLss rfl rfl ?_ | refine zLeq rfl rfl ?_ | refine zGtr rfl rfl ?_ | refine zGeq rfl rfl ?_ | refine zEql rfl rfl ?_ | refine zNeq rfl rfl ?_ | refine zAdd rfl rfl (by omega) ?_ | refine zSub rfl rfl (by omega) ?_ | refine zLenS rfl E_string ?_ | refine zNot rfl ?_ | refine zEqS rfl rfl ?_ | refine zNeS rfl rfl ?_ | refine zT rfl rfl ?_ | refine zF rfl rfl ?_ | refine zT rfl (by assumption) ?_ | refine zF rfl (by assumption) ?_ | refine zLen rfl (la _) ?_ | refine zLen rfl (lb _) ?_ | refine zLen rfl (lw _) ?_ | refine zIdx rfl rfl ha1 ?_ | refine zIdx rfl rfl ha2 ?_ | refine zIdx rfl rfl ha3 ?_ | refine zIdx rfl rfl ha4 ?_ | refine zFld (f := 0) rfl O_api_Ins_Op ?_ | refine zFld (f := 1) rfl O_api_Ins_R ?_ | refine zFld (f := 2) rfl O_api_Ins_A ?_ | refine zLd rfl hl1 ?_ | refine zLd rfl hl2 ?_ | refine zLd rfl hl3 ?_ | refine zLd rfl hl4 ?_ | refine zLen rfl (hv1.len E_s_int) ?_ | refine zLen rfl (hwo.len E_s_api_Ins) ?_)
          refine ⟨(i + 1, _, Phi.temps 40 (out.take i)), ⟨hfr5, hv5, ?_, ?_, h⟩, by simp only; omega, rfl, rfl, rfl, rfl, rfl, rfl, rfl, trivial⟩
          · simp only
            rw [exec_take h, ← hA]; exact hN5
          · simp only
            rw [ht5, ct]; simp
        · (repeat first | refine zSeq ?_ | refine zReg ?_ | refine zBlk ?_ | refine zSkp ?_ | refine zExt ?_ | refine zNil rfl ?_ | refine zGet rfl ?_ | refine zOn rfl rfl ?_ | refine zOff rfl rfl ?_ | refine zU rfl ?_ | refine zOn rfl (by assumption) ?_ | refine zOff rfl (by assumption) ?_ | refine zMov rfl ?_ | refine zAsg rfl ?_ | refine zXtr rfl ?_ | refine zPT rfl rfl rfl ?_ | refine zPF rfl rfl rfl ?_ | refine zPT rfl (by assumption) rfl ?_ | refine zPF rfl (by assumption) rfl ?_ | refine zLss rfl rfl ?_ | refine zLeq rfl rfl ?_ | refine zGtr rfl rfl ?_ | refine zGeq rfl rfl ?_ | refine zEql rfl rfl ?_ | refine zNeq rfl rfl ?_ | refine zAdd rfl rfl (by omega) ?_ | refine zSub rfl rfl (by omega) ?_ | refine zLenS rfl E_string ?_ | refine zNot rfl ?_ | refine zEqS rfl rfl ?_ | refine zNeS rfl rfl ?_ | refine zT rfl rfl ?_ | refine zF rfl rfl ?_ | refine zT rfl (by assumption) ?_ | refine zF rfl (by assumption) ?_ | refine zLen rfl (la _) ?_ | refine zLen rfl (lb _) ?_ | refine zLen rfl (lw _) ?_ | refine zIdx rfl rfl ha1 ?_ | refine zIdx rfl rfl ha2 ?_ | refine zIdx rfl rfl ha3 ?_ | refine zIdx rfl rfl ha4 ?_ | refine zFld (f := 0) rfl O_api_Ins_Op ?_ | refine zFld (f := 1) rfl O_api_Ins_R ?_ | refine zFld (f := 2) rfl O_api_Ins_A ?_ | refine zLd rfl hl1 ?_ | refine zLd rfl hl2 ?_ | refine zLd rfl hl3 ?_ | refine zLd rfl hl4 ?_ | refine zLen rfl (hv1.len E_s_int) ?_ | refine zLen rfl (hwo.len E_s_api_Ins) ?_)
          refine ⟨(i + 1, _, Phi.temps 40 (out.take i) + 1), ⟨hfr5, hv5, ?_, ?_, h⟩, by simp only; omega, rfl, rfl, rfl, rfl, rfl, rfl, rfl, trivial⟩
          · simp only
            rw [exec_take h, ← hA]; exact hN5
          · simp only
            rw [ht5, ct]; simp
      · have g1 : decide ((i : Int) < out.length) = false := decide_eq_false (by omega)
        rw [List.take_of_length_le h] at hN ⊢
        (repeat first | refine zSeq ?_ | refine zReg ?_ | refine zBlk ?_ | refine zSkp ?_ | refine zExt ?_ | refine zNil rfl ?_ | refine zGet rfl ?_ | refine zOn rfl rfl ?_ | refine zOff rfl rfl ?_ | refine zU rfl ?_ | refine zOn rfl (by assumption) ?_ | refine zOff rfl (by assumption) ?_ | refine zMov rfl ?_ | refine zAsg rfl ?_ | refine zXtr rfl ?_ | refine zPT rfl rfl rfl ?_ | refine zPF rfl rfl rfl ?_ | refine zPT rfl (by assumption) rfl ?_ | refine zPF rfl (by assumption) rfl ?_ | refine zLss rfl rfl ?_ | refine zLeq rfl rfl ?_ | refine zGtr rfl rfl ?_ | refine zGeq rfl rfl ?_ | refine zEql rfl rfl ?_ | refine zNeq rfl rfl ?_ | refine zAdd rfl rfl (by omega) ?_ | refine zSub rfl rfl (by omega) ?_ | refine zLenS rfl E_string ?_ | refine zNot rfl ?_ | refine zEqS rfl rfl ?_ | refine zNeS rfl rfl ?_ | refine zT rfl rfl ?_ | refine zF rfl rfl ?_ | refine zT rfl (by assumption) ?_ | refine zF rfl (by assumption) ?_ | refine zLen rfl (la _) ?_ | refine zLen rfl (lb _) ?_ | refine zLen rfl (lw _) ?_ | refine zIdx rfl rfl ha1 ?_ | refine zIdx rfl rfl ha2 ?_ | refine zIdx rfl rfl ha3 ?_ | refine zIdx rfl rfl ha4 ?_ | refine zFld (f := 0) rfl O_api_Ins_Op ?_ | refine zFld (f := 1) rfl O_api_Ins_R ?_ | refine zFld (f := 2) rfl O_api_Ins_A ?_ | refine zLd rfl hl1 ?_ | refine zLd rfl hl2 ?_ | refine zLd rfl hl3 ?_ | refine zLd rfl hl4 ?_ | refine zLen rfl (hv1.len E_s_int) ?_ | refine zLen rfl (hwo.len E_s_api_Ins) ?_)
        exact ⟨(N, _), ⟨hfd, hv1, hN, rfl⟩, rfl, rfl, rfl, rfl, rfl, rfl, trivial⟩
    rintro ⟨N, tm⟩ H5 ⟨hf5, hv5, hN, htm⟩
    simp only at hf5 hv5 hN htm ⊢
    subst htm
    have hbx5 := hbx3.fr hf5
    have hfb := Fr.alloc H5 (.row 3 [] .exact 0 0)
    obtain ⟨v2, H6, o2, m1, m2, m3, m4, m5⟩ := (OwE.new (H := H5) (n0 := H5.next) (e := 3) (sz := 1) (Nat.le_refl _)).appSl (V := V) (bytes := 8) ((sl_was hbx5 hL).fr hfb) (by decide) (by decide) (by decide) hfb.1 (ints_one _) E_s_int E_s_int E_int rfl rfl
    have hf6 : Fr H5 H6 := hfb.young m3 (by simp [obs]) (by simp [ogs])
    have hv2 : Ow H6 H5.next 3 1 v2 41 (ints L) o2 := by have := m2.ow (by omega); simpa using this
    have hy2 := hv2.young
    refine zSeq ?_
    (repeat first | refine zReg ?_ | refine zSkp ?_ | refine zExt ?_ | refine zNil rfl ?_ | refine zGet rfl ?_ | refine zOn rfl rfl ?_ | refine zOff rfl rfl ?_ | refine zU rfl ?_ | refine zOn rfl (by assumption) ?_ | refine zOff rfl (by assumption) ?_ | refine zMov rfl ?_ | refine zAsg rfl ?_ | refine zXtr rfl ?_ | refine zPT rfl rfl rfl ?_ | refine zPF rfl rfl rfl ?_ | refine zPT rfl (by assumption) rfl ?_ | refine zPF rfl (by assumption) rfl ?_ | refine zLss rfl rfl ?_ | refine zLeq rfl rfl ?_ | refine zGtr rfl rfl ?_ | refine zGeq rfl rfl ?_ | refine zEql rfl rfl ?_ | refine zNeq rfl rfl ?_ | refine zAdd rfl rfl (by omega) ?_ | refine zSub rfl rfl (by omega) ?_ | refine zLenS rfl E_string ?_ | refine zNot rfl ?_ | refine zEqS rfl rfl ?_ | refine zNeS rfl rfl ?_ | refine zT rfl rfl ?_ | refine zF rfl rfl ?_ | refine zT rfl (by assumption) ?_ | refine zF rfl (by assumption) ?_ | refine zLen rfl (la _) ?_ | refine zLen rfl (lb _) ?_ | refine zLen rfl (lw _) ?_ | refine zIdx rfl rfl ha1 ?_ | refine zIdx rfl rfl ha2 ?_ | refine zIdx rfl rfl ha3 ?_ | refine zIdx rfl rfl ha4 ?_ | refine zFld (f := 0) rfl O_api_Ins_Op ?_ | refine zFld (f := 1) rfl O_api_Ins_R ?_ | refine zFld (f := 2) rfl O_api_Ins_A ?_ | refine zLd rfl hl1 ?_ | refine zLd rfl hl2 ?_ | refine zLd rfl hl3 ?_ | refine zLd rfl hl4 ?_ | refine zLen rfl (hv1.len E_s_int) ?_ | refine zLen rfl (hwo.len E_s_api_Ins) ?_)
    refine WL.op (op_buildSlice rfl E_s_int E_int (by decide) rfl) ?_
    (repeat first | refine zReg ?_ | refine zSkp ?_ | refine zExt ?_ | refine zNil rfl ?_ | refine zGet rfl ?_ | refine zOn rfl rfl ?_ | refine zOff rfl rfl ?_ | refine zU rfl ?_ | refine zOn rfl (by assumption) ?_ | refine zOff rfl (by assumption) ?_ | refine zMov rfl ?_ | refine zAsg rfl ?_ | refine zXtr rfl ?_ | refine zPT rfl rfl rfl ?_ | refine zPF rfl rfl rfl ?_ | refine zPT rfl (by assumption) rfl ?_ | refine zPF rfl (by assumption) rfl ?_ | refine zLss rfl rfl ?_ | refine zLeq rfl rfl ?_ | refine zGtr rfl rfl ?_ | refine zGeq rfl rfl ?_ | refine zEql rfl rfl ?_ | refine zNeq rfl rfl ?_ | refine zAdd rfl rfl (by omega) ?_ | refine zSub rfl rfl (by omega) ?_ | refine zLenS rfl E_string ?_ | refine zNot rfl ?_ | refine zEqS rfl rfl ?_ | refine zNeS rfl rfl ?_ | refine zT rfl rfl ?_ | refine zF rfl rfl ?_ | refine zT rfl (by assumption) ?_ | refine zF rfl (by assumption) ?_ | refine zLen rfl (la _) ?_ | refine zLen rfl (lb _) ?_ | refine zLen rfl (lw _) ?_ | refine zIdx rfl rfl ha1 ?_ | refine zIdx rfl rfl ha2 ?_ | refine zIdx rfl rfl ha3 ?_ | refine zIdx rfl rfl ha4 ?_ | refine zFld (f := 0) rfl O_api_Ins_Op ?_ | refine zFld (f := 1) rfl O_api_Ins_R ?_ | refine zFld (f := 2) rfl O_api_Ins_A ?_ | refine zLd rfl hl1 ?_ | refine zLd rfl hl2 ?_ | refine zLd rfl hl3 ?_ | refine zLd rfl hl4 ?_ | refine zLen rfl (hv1.len E_s_int) ?_ | refine zLen rfl (hwo.len E_s_api_Ins) ?_)
    refine WL.op (m1 rfl rfl) ?_
    refine zNil rfl ?_
    have htr5 := (htr.fr hf3).fr hf5
    have hw5 := hw.sl.fr hf5
    clear hc3 k1 k2 k3 k4 k5 m1 m2 m3 m4 m5 hfa hfb hv1 hbx3 hyo
    refine WP.seqS (σ := List Int) (fun x => [(10, w), (12, v1), (13, .int .i64 (Phi.temps 40 out)), (15, v2)]) (fun x Hd => Fr H5 Hd ∧ Ow Hd H5.next 3 1 v2 41 (ints x) o2 ∧ Phi.Is x (Phi.once s0 l)) ?_ ?_
    · (repeat first | refine zSeq ?_ | refine zReg ?_ | refine zBlk ?_ | refine zSkp ?_ | refine zExt ?_ | refine zNil rfl ?_ | refine zGet rfl ?_ | refine zOn rfl rfl ?_ | refine zOff rfl rfl ?_ | refine zU rfl ?_ | refine zOn rfl (by assumption) ?_ | refine zOff rfl (by assumption) ?_ | refine zMov rfl ?_ | refine zAsg rfl ?_ | refine zXtr rfl ?_ | refine zPT rfl rfl rfl ?_ | refine zPF rfl rfl rfl ?_ | refine zPT rfl (by assumption) rfl ?_ | refine zPF rfl (by assumption) rfl ?_ | refine zLss rfl rfl ?_ | refine zLeq rfl rfl ?_ | refine zGtr rfl rfl ?_ | refine zGeq rfl rfl ?_ | refine zEql rfl rfl ?_ | refine zNeq rfl rfl ?_ | refine zAdd rfl rfl (by omega) ?_ | refine zSub rfl rfl (by omega) ?_ | refine zLenS rfl E_string ?_ | refine zNot rfl ?_ | refine zEqS rfl rfl ?_ | refine zNeS rfl rfl ?_ | refine zT rfl rfl ?_ | refine zF rfl rfl ?_ | refine zT rfl (by assumption) ?_ | refine zF rfl (by assumption) ?_ | refine zLen rfl (la _) ?_ | refine zLen rfl (lb _) ?_ | refine zLen rfl (lw _) ?_ | refine zIdx rfl rfl ha1 ?_ | refine zIdx rfl rfl ha2 ?_ | refine zIdx rfl rfl ha3 ?_ | refine zIdx rfl rfl ha4 ?_ | refine zFld (f := 0) rfl O_api_Ins_Op ?_ | refine zFld (f := 1) rfl O_api_Ins_R ?_ | refine zFld (f := 2) rfl O_api_Ins_A ?_ | refine zLd rfl hl1 ?_ | refine zLd rfl hl2 ?_ | refine zLd rfl hl3 ?_ | refine zLd rfl hl4 ?_ | refine zLen rfl (hv1.len E_s_int) ?_ | refine zLen rfl (hwo.len E_s_api_Ins) ?_)
      refine WP.loopH (σ := Nat × List Int) (fun x => [(5, vg), (6, vs), (7, .slice (some ⟨H.next, 0, none⟩) 41 41), (10, w), (12, v1), (13, .int .i64 (Phi.temps 40 out)), (15, v2), (16, .int .i64 x.1)]) (fun x Hd => Fr H5 Hd ∧ Ow Hd H5.next 3 1 v2 41 (ints x.2) o2 ∧ Phi.Is x.2 ((l.take x.1).foldl (fun r m => Phi.upd r m.1 (s0 m.2)) s0) ∧ x.1 ≤ l.length) (fun x => l.length - x.1) (0, L) ⟨hf6, hv2, hIs, Nat.zero_le _⟩ ⟨rfl, rfl, rfl, rfl, rfl, rfl, rfl, rfl, trivial⟩ ?_
      rintro ⟨i, N2⟩ Hd ⟨hfd, hv2, hN2, hi⟩
      simp only at hfd hv2 hN2 hi ⊢
      have htrd := htr5.fr hfd
      have hv1 := htrd.g.sl
      rcases Nat.lt_or_ge i l.length with h | h
      · have g1 : decide ((i : Int) < (l.map (·.1)).length) = true := decide_eq_true (by rw [List.length_map]; omega)
        obtain ⟨p1, q1, ha1, hl1⟩ := sl_int hv1 (i := i) (by rw [List.length_map]; exact h)
        obtain ⟨p2, q2, ha2, hl2⟩ := sl_int htrd.s.sl (i := i) (by rw [List.length_map]; exact h)
        rw [List.getElem_map] at hl1 hl2
        have hp := hlP l[i] (List.getElem_mem _)
        obtain ⟨hlA, hA⟩ := hIs.get (g := l[i].2) hp.2.1 (by omega)
        obtain ⟨p3, q3, ha3, hl3⟩ := sl_int (l := L) (by rw [hL]; exact sl_was (hbx5.fr hfd) hL) hlA
        rw [show ((l[i].2.toNat : Nat) : Int) = l[i].2 from Int.toNat_of_nonneg hp.2.1] at ha3
        obtain ⟨p4, q4, H7, ha4, _, hwr, hv7, hf7, hn7⟩ := hv2.set E_s_int E_int rfl (kd := .i64) (i := l[i].1) hp.1.1 (by omega) (vs := [.int .i64 (L[l[i].2.toNat])]) (by simp) (k := 0) (by simp)
        have hN2l : N2.length = 41 := hN2.1
        rw [ints_set (by omega)] at hv7
        have hN7 := hN2.set hp.1.1 (by omega) (L[l[i].2.toNat])
        (repeat first | refine zSeq ?_ | refine zReg ?_ | refine zBlk ?_ | refine zSkp ?_ | refine zExt ?_ | refine zNil rfl ?_ | refine zGet rfl ?_ | refine zOn rfl rfl ?_ | refine zOff rfl rfl ?_ | refine zU rfl ?_ | refine zOn rfl (by assumption) ?_ | refine zOff rfl (by assumption) ?_ | refine zMov rfl ?_ | refine zAsg rfl ?_ | refine zXtr rfl ?_ | refine zPT rfl rfl rfl ?_ | refine zPF rfl rfl rfl ?_ | refine zPT rfl (by assumption) rfl ?_ | refine zPF rfl (by assumption) rfl ?_ | refine zLss rfl rfl ?_ | refine zLeq rfl rfl ?_ | refine zGtr rfl rfl ?_ | refine zGeq rfl rfl ?_ | refine zEql rfl rfl ?_ | refine zNeq rfl rfl ?_ | refine zAdd rfl rfl (by omega) ?_ | refine zSub rfl rfl (by omega) ?_ | refine zLenS rfl E_string ?_ | refine zNot rfl ?_ | refine zEqS rfl rfl ?_ | refine zNeS rfl rfl ?_ | refine zT rfl rfl ?_ | refine zF rfl rfl ?_ | refine zT rfl (by assumption) ?_ | refine zF rfl (by assumption) ?_ | refine zLen rfl (la _) ?_ | refine zLen rfl (lb _) ?_ | refine zLen rfl (lw _) ?_ | refine zIdx rfl rfl ha1 ?_ | refine zIdx rfl rfl ha2 ?_ | refine zIdx rfl rfl ha3 ?_ | refine zIdx rfl rfl ha4 ?_ | refine zFld (f := 0) rfl O_api_Ins_Op ?_ | refine zFld (f := 1) rfl O_api_Ins_R ?_ | refine zFld (f := 2) rfl O_api_Ins_A ?_ | refine zLd rfl hl1 ?_ | refine zLd rfl hl2 ?_ | refine zLd rfl hl3 ?_ | refine zLd rfl hl4 ?_ | refine zLen rfl (hv1.len E_s_int) ?_ | refine zLen rfl (hwo.len E_s_api_Ins) ?_)
        refine WL.op (op_store rfl rfl E_int rfl rfl hwr) ?_
        (repeat first | refine zSeq ?_ | refine zReg ?_ | refine zBlk ?_ | refine zSkp ?_ | refine zExt ?_ | refine zNil rfl ?_ | refine zGet rfl ?_ | refine zOn rfl rfl ?_ | refine zOff rfl rfl ?_ | refine zU rfl ?_ | refine zOn rfl (by assumption) ?_ | refine zOff rfl (by assumption) ?_ | refine zMov rfl ?_ | refine zAsg rfl ?_ | refine zXtr rfl ?_ | refine zPT rfl rfl rfl ?_ | refine zPF rfl rfl rfl ?_ | refine zPT rfl (by assumption) rfl ?_ | refine zPF rfl (by assumption) rfl ?_ | refine zLss rfl rfl ?_ | refine zLeq rfl rfl ?_ | refine zGtr rfl rfl ?_ | refine zGeq rfl rfl ?_ | refine zEql rfl rfl ?_ | refine zNeq rfl rfl ?_ | refine zAdd rfl rfl (by omega) ?_ | refine zSub rfl rfl (by omega) ?_ | refine zLenS rfl E_string ?_ | refine zNot rfl ?_ | refine zEqS rfl rfl ?_ | refine zNeS rfl rfl ?_ | refine zT rfl rfl ?_ | refine zF rfl rfl ?_ | refine zT rfl (by assumption) ?_ | refine zF rfl (by assumption) ?_ | refine zLen rfl (la _) ?_ | refine zLen rfl (lb _) ?_ | refine zLen rfl (lw _) ?_ | refine zIdx rfl rfl ha1 ?_ | refine zIdx rfl rfl ha2 ?_ | refine zIdx rfl rfl ha3 ?_ | refine zIdx rfl rfl ha4 ?_ | refine zFld (f := 0) rfl O_api_Ins_Op ?_ | refine zFld (f := 1) rfl O_api_Ins_R ?_ | refine zFld (f := 2) rfl O_api_Ins_A ?_ | refine zLd rfl hl1 ?_ | refine zLd rfl hl2 ?_ | refine zLd rfl hl3 ?_ | refine zLd rfl hl4 ?_ | refine zLen rfl (hv1.len E_s_int) ?_ | refine zLen rfl (hwo.len E_s_api_Ins) ?_)
        refine ⟨(i + 1, _), ⟨hfd.young hf7 hy2.1 hy2.2.1, hv7, ?_, h⟩, by simp only; omega, rfl, rfl, rfl, rfl, rfl, rfl, rfl, rfl, trivial⟩
        simp only
        rw [once_take h, ← hA]; exact hN7
      · have g1 : decide ((i : Int) < (l.map (·.1)).length) = false := decide_eq_false (by rw [List.length_map]; omega)
        rw [List.take_of_length_le h] at hN2
        (repeat first | refine zSeq ?_ | refine zReg ?_ | refine zBlk ?_ | refine zSkp ?_ | refine zExt ?_ | refine zNil rfl ?_ | refine zGet rfl ?_ | refine zOn rfl rfl ?_ | refine zOff rfl rfl ?_ | refine zU rfl ?_ | refine zOn rfl (by assumption) ?_ | refine zOff rfl (by assumption) ?_ | refine zMov rfl ?_ | refine zAsg rfl ?_ | refine zXtr rfl ?_ | refine zPT rfl rfl rfl ?_ | refine zPF rfl rfl rfl ?_ | refine zPT rfl (by assumption) rfl ?_ | refine zPF rfl (by assumption) rfl ?_ | refine zLss rfl rfl ?_ | refine zLeq rfl rfl ?_ | refine zGtr rfl rfl ?_ | refine zGeq rfl rfl ?_ | refine zEql rfl rfl ?_ | refine zNeq rfl rfl ?_ | refine zAdd rfl rfl (by omega) ?_ | refine zSub rfl rfl (by omega) ?_ | refine zLenS rfl E_string ?_ | refine zNot rfl ?_ | refine zEqS rfl rfl ?_ | refine zNeS rfl rfl ?_ | refine zT rfl rfl ?_ | refine zF rfl rfl ?_ | refine zT rfl (by assumption) ?_ | refine zF rfl (by assumption) ?_ | refine zLen rfl (la _) ?_ | refine zLen rfl (lb _) ?_ | refine zLen rfl (lw _) ?_ | refine zIdx rfl rfl ha1 ?_ | refine zIdx rfl rfl ha2 ?_ | refine zIdx rfl rfl ha3 ?_ | refine zIdx rfl rfl ha4 ?_ | refine zFld (f := 0) rfl O_api_Ins_Op ?_ | refine zFld (f := 1) rfl O_api_Ins_R ?_ | refine zFld (f := 2) rfl O_api_Ins_A ?_ | refine zLd rfl hl1 ?_ | refine zLd rfl hl2 ?_ | refine zLd rfl hl3 ?_ | refine zLd rfl hl4 ?_ | refine zLen rfl (hv1.len E_s_int) ?_ | refine zLen rfl (hwo.len E_s_api_Ins) ?_)
        exact ⟨N2, ⟨hfd, hv2, hN2⟩, rfl, rfl, rfl, rfl, trivial⟩
    rintro W2 H7 ⟨hf7, hv7, hW2⟩
    have hwo := hw5.fr hf7
    (repeat first | refine zSeq ?_ | refine zReg ?_ | refine zBlk ?_ | refine zSkp ?_ | refine zExt ?_ | refine zNil rfl ?_ | refine zGet rfl ?_ | refine zOn rfl rfl ?_ | refine zOff rfl rfl ?_ | refine zU rfl ?_ | refine zOn rfl (by assumption) ?_ | refine zOff rfl (by assumption) ?_ | refine zMov rfl ?_ | refine zAsg rfl ?_ | refine zXtr rfl ?_ | refine zPT rfl rfl rfl ?_ | refine zPF rfl rfl rfl ?_ | refine zPT rfl (by assumption) rfl ?_ | refine zPF rfl (by assumption) rfl ?_ | refine zLss rfl rfl ?_ | refine zLeq rfl rfl ?_ | refine zGtr rfl rfl ?_ | refine zGeq rfl rfl ?_ | refine zEql rfl rfl ?_ | refine zNeq rfl rfl ?_ | refine zAdd rfl rfl (by omega) ?_ | refine zSub rfl rfl (by omega) ?_ | refine zLenS rfl E_string ?_ | refine zNot rfl ?_ | refine zEqS rfl rfl ?_ | refine zNeS rfl rfl ?_ | refine zT rfl rfl ?_ | refine zF rfl rfl ?_ | refine zT rfl (by assumption) ?_ | refine zF rfl (by assumption) ?_ | refine zLen rfl (la _) ?_ | refine zLen rfl (lb _) ?_ | refine zLen rfl (lw _) ?_ | refine zIdx rfl rfl ha1 ?_ | refine zIdx rfl rfl ha2 ?_ | refine zIdx rfl rfl ha3 ?_ | refine zIdx rfl rfl ha4 ?_ | refine zFld (f := 0) rfl O_api_Ins_Op ?_ | refine zFld (f := 1) rfl O_api_Ins_R ?_ | refine zFld (f := 2) rfl O_api_Ins_A ?_ | refine zLd rfl hl1 ?_ | refine zLd rfl hl2 ?_ | refine zLd rfl hl3 ?_ | refine zLd rfl hl4 ?_ | refine zLen rfl (hv1.len E_s_int) ?_ | refine zLen rfl (hwo.len E_s_api_Ins) ?_)
    refine WP.loopH (σ := Nat) (fun x => [(10, w), (12, v1), (13, .int .i64 (Phi.temps 40 out)), (15, v2), (17, .int .i64 x)]) (fun x Hd => Hd = H7 ∧ x ≤ 40) (fun x => 40 - x) 0 ⟨rfl, by omega⟩ ⟨rfl, rfl, rfl, rfl, rfl, trivial⟩ ?_
    rintro i Hy ⟨hy, hi⟩
    replace hy := hy.symm
    subst hy
    rcases Nat.lt_or_ge i 40 with h | h
    · have g1 : decide ((i : Int) < 40) = true := decide_eq_true (by omega)
      obtain ⟨hl5, e5⟩ := hN.get (g := (i : Int)) (by omega) (by omega)
      obtain ⟨hl6, e6⟩ := hW2.get (g := (i : Int)) (by omega) (by omega)
      rw [honce s0 i (by omega), ← e6] at e5
      obtain ⟨p1, q1, ha1, hl1⟩ := sl_int (l := N) (by rw [hN.1]; exact (hv5.fr hf7).sl) hl5
      obtain ⟨p2, q2, ha2, hl2⟩ := sl_int (l := W2) (by rw [hW2.1]; exact hv7.sl) hl6
      rw [e5] at hl1
      have c0 : (W2[(i : Int).toNat] != W2[(i : Int).toNat]) = false := by simp
      (repeat first | refine zSeq ?_ | refine zReg ?_ | refine zBlk ?_ | refine zSkp ?_ | refine zExt ?_ | refine zNil rfl ?_ | refine zGet rfl ?_ | refine zOn rfl rfl ?_ | refine zOff rfl rfl ?_ | refine zU rfl ?_ | refine zOn rfl (by assumption) ?_ | refine zOff rfl (by assumption) ?_ | refine zMov rfl ?_ | refine zAsg rfl ?_ | refine zXtr rfl ?_ | refine zPT rfl rfl rfl ?_ | refine zPF rfl rfl rfl ?_ | refine zPT rfl (by assumption) rfl ?_ | refine zPF rfl (by assumption) rfl ?_ | refine zLss rfl rfl ?_ | refine zLeq rfl rfl ?_ | refine zGtr rfl rfl ?_ | refine zGeq rfl rfl ?_ | refine zEql rfl rfl ?_ | refine zNeq rfl rfl ?_ | refine zAdd rfl rfl (by omega) ?_ | refine zSub rfl rfl (by omega) ?_ | refine zLenS rfl E_string ?_ | refine zNot rfl ?_ | refine zEqS rfl rfl ?_ | refine zNeS rfl rfl ?_ | refine zT rfl rfl ?_ | refine zF rfl rfl ?_ | refine zT rfl (by assumption) ?_ | refine zF rfl (by assumption) ?_ | refine zLen rfl (la _) ?_ | refine zLen rfl (lb _) ?_ | refine zLen rfl (lw _) ?_ | refine zIdx rfl rfl ha1 ?_ | refine zIdx rfl rfl ha2 ?_ | refine zIdx rfl rfl ha3 ?_ | refine zIdx rfl rfl ha4 ?_ | refine zFld (f := 0) rfl O_api_Ins_Op ?_ | refine zFld (f := 1) rfl O_api_Ins_R ?_ | refine zFld (f := 2) rfl O_api_Ins_A ?_ | refine zLd rfl hl1 ?_ | refine zLd rfl hl2 ?_ | refine zLd rfl hl3 ?_ | refine zLd rfl hl4 ?_ | refine zLen rfl (hv1.len E_s_int) ?_ | refine zLen rfl (hwo.len E_s_api_Ins) ?_)
      exact ⟨i + 1, ⟨rfl, h⟩, by omega, rfl, rfl, rfl, rfl, rfl, trivial⟩
    · have g1 : decide ((i : Int) < 40) = false := decide_eq_false (by omega)
      have ht40 := temps_lt (t := 40) out
      (repeat first | refine zSeq ?_ | refine zReg ?_ | refine zBlk ?_ | refine zSkp ?_ | refine zExt ?_ | refine zNil rfl ?_ | refine zGet rfl ?_ | refine zOn rfl rfl ?_ | refine zOff rfl rfl ?_ | refine zU rfl ?_ | refine zOn rfl (by assumption) ?_ | refine zOff rfl (by assumption) ?_ | refine zMov rfl ?_ | refine zAsg rfl ?_ | refine zXtr rfl ?_ | refine zPT rfl rfl rfl ?_ | refine zPF rfl rfl rfl ?_ | refine zPT rfl (by assumption) rfl ?_ | refine zPF rfl (by assumption) rfl ?_ | refine zLss rfl rfl ?_ | refine zLeq rfl rfl ?_ | refine zGtr rfl rfl ?_ | refine zGeq rfl rfl ?_ | refine zEql rfl rfl ?_ | refine zNeq rfl rfl ?_ | refine zAdd rfl rfl (by omega) ?_ | refine zSub rfl rfl (by omega) ?_ | refine zLenS rfl E_string ?_ | refine zNot rfl ?_ | refine zEqS rfl rfl ?_ | refine zNeS rfl rfl ?_ | refine zT rfl rfl ?_ | refine zF rfl rfl ?_ | refine zT rfl (by assumption) ?_ | refine zF rfl (by assumption) ?_ | refine zLen rfl (la _) ?_ | refine zLen rfl (lb _) ?_ | refine zLen rfl (lw _) ?_ | refine zIdx rfl rfl ha1 ?_ | refine zIdx rfl rfl ha2 ?_ | refine zIdx rfl rfl ha3 ?_ | refine zIdx rfl rfl ha4 ?_ | refine zFld (f := 0) rfl O_api_Ins_Op ?_ | refine zFld (f := 1) rfl O_api_Ins_R ?_ | refine zFld (f := 2) rfl O_api_Ins_A ?_ | refine zLd rfl hl1 ?_ | refine zLd rfl hl2 ?_ | refine zLd rfl hl3 ?_ | refine zLd rfl hl4 ?_ | refine zLen rfl (hv1.len E_s_int) ?_ | refine zLen rfl (hwo.len E_s_api_Ins) ?_)
      refine WL.op (op_int rfl rfl (aInt_mulW _ _ (c := 2 * (Phi.temps 40 out : Int)) (wrap_i64 (by omega) (by omega)))) ?_
      (repeat first | refine zSeq ?_ | refine zReg ?_ | refine zBlk ?_ | refine zSkp ?_ | refine zExt ?_ | refine zNil rfl ?_ | refine zGet rfl ?_ | refine zOn rfl rfl ?_ | refine zOff rfl rfl ?_ | refine zU rfl ?_ | refine zOn rfl (by assumption) ?_ | refine zOff rfl (by assumption) ?_ | refine zMov rfl ?_ | refine zAsg rfl ?_ | refine zXtr rfl ?_ | refine zPT rfl rfl rfl ?_ | refine zPF rfl rfl rfl ?_ | refine zPT rfl (by assumption) rfl ?_ | refine zPF rfl (by assumption) rfl ?_ | refine zLss rfl rfl ?_ | refine zLeq rfl rfl ?_ | refine zGtr rfl rfl ?_ | refine zGeq rfl rfl ?_ | refine zEql rfl rfl ?_ | refine zNeq rfl rfl ?_ | refine zAdd rfl rfl (by omega) ?_ | refine zSub rfl rfl (by omega) ?_ | refine zLenS rfl E_string ?_ | refine zNot rfl ?_ | refine zEqS rfl rfl ?_ | refine zNeS rfl rfl ?_ | refine zT rfl rfl ?_ | refine zF rfl rfl ?_ | refine zT rfl (by assumption) ?_ | refine zF rfl (by assumption) ?_ | refine zLen rfl (la _) ?_ | refine zLen rfl (lb _) ?_ | refine zLen rfl (lw _) ?_ | refine zIdx rfl rfl ha1 ?_ | refine zIdx rfl rfl ha2 ?_ | refine zIdx rfl rfl ha3 ?_ | refine zIdx rfl rfl ha4 ?_ | refine zFld (f := 0) rfl O_api_Ins_Op ?_ | refine zFld (f := 1) rfl O_api_Ins_R ?_ | refine zFld (f := 2) rfl O_api_Ins_A ?_ | refine zLd rfl hl1 ?_ | refine zLd rfl hl2 ?_ | refine zLd rfl hl3 ?_ | refine zLd rfl hl4 ?_ | refine zLen rfl (hv1.len E_s_int) ?_ | refine zLen rfl (hwo.len E_s_api_Ins) ?_)
      refine WP.ret ⟨.inr rfl, _, rfl, ?_⟩
      have : decide (2 * (Phi.temps 40 out : Int) ≤ out.length) = true := decide_eq_true (by omega)
      rw [this]; rfl
  obtain ⟨u, H', h, rfl⟩ := key
  exact ⟨H', h⟩
end Go.Proofs.Ytalhmpcllfhllaa.U

/-
  The law PhisApart, the walk.
-/
namespace Go.Proofs.Ytalhmpcllfhllaa.U
open Go Go.Ev
attribute [local irreducible] WL WP WH W
variable {O : Orc} {H : AH}
def bos (l : List Bool) : List Value := l.map fun x => .bool x
theorem ix_bo {t : TypeId} {v : Value} {l : List Bool} (h : Ix t H v (bos l)) {i : Nat} (hi : i < l.length) :
    ∃ b off, aIndex V.E t v (.int .i64 i) = some (.pointer (some ⟨b, off, none⟩)) ∧ aLoad V.E H 4 (.pointer (some ⟨b, off, none⟩)) = some (.bool l[i]) := by
  obtain ⟨b, off, h1, h2⟩ := h i (by simpa [bos] using hi)
  have e : (bos l)[i]'(by simpa [bos] using hi) = .bool l[i] := by simp [bos]
  rw [e] at h2
  exact ⟨b, off, h1, h2.load1 E_bool rfl⟩
theorem filt_at {p : Mv → Bool} {l : List Mv} {i : Nat} (h : i < l.length) (hp : p l[i] = true) : ∃ h' : ((l.take i).filter p).length < (l.filter p).length, (l.filter p)[((l.take i).filter p).length]'h' = l[i] := by
  have e : l.filter p = (l.take i).filter p ++ l[i] :: (l.drop (i + 1)).filter p := by
    conv => lhs; rw [← List.take_append_drop i l, List.filter_append, List.drop_eq_getElem_cons h, List.filter_cons, if_pos hp]
  refine ⟨by rw [e, List.length_append, List.length_cons]; omega, ?_⟩
  simp only [e]
  rw [List.getElem_append_right (Nat.le_refl _)]
  simp
def Good (l : List Mv) : Prop := (l.map (·.1)).Nodup ∧ ∀ m ∈ l, (0 ≤ m.1 ∧ m.1 < 20) ∧ (m.2 = m.1 ∨ (20 ≤ m.2 ∧ m.2 < 40))
theorem Good.snoc {l : List Mv} (h : Good l) {g s : Int} (hg : 0 ≤ g ∧ g < 20) (hs : s = g ∨ (20 ≤ s ∧ s < 40)) (hn : (l.map (·.1)).any (· == g) = false) : Good (l ++ [(g, s)]) := by
  refine ⟨?_, fun m hm => ?_⟩
  · rw [List.map_append, List.nodup_append]
    refine ⟨h.1, by simp, fun a ha b hb e => ?_⟩
    simp at hb
    subst e
    have := List.any_eq_false.1 hn a ha
    simp [hb] at this
  · rcases List.mem_append.1 hm with hm | hm
    · exact h.2 m hm
    · simp at hm; subst hm; exact ⟨hg, hs⟩
theorem Good.ok {l : List Mv} (h : Good l) : rowOk (l.map (·.1)) (l.map (·.2)) 50 = true := by
  unfold rowOk
  have h1 : (((l.map (·.1)).length : Int) != (l.map (·.2)).length) = false := by simp
  rw [h1]
  have h2 : (List.range (l.map (·.1)).length).all (okf (l.map (·.1)) (l.map (·.2)) 50) = true := by
    rw [List.all_eq_true]
    intro i hi
    rw [List.mem_range, List.length_map] at hi
    rw [okf_at (by rw [List.length_map]; exact hi) (by rw [List.length_map]; exact hi), List.getElem_map, List.getElem_map]
    have hm := h.2 l[i] (List.getElem_mem _)
    have hc : ((l.map (·.1)).take i).count l[i].1 = 0 := by
      rw [List.count_eq_zero]
      intro hmem
      obtain ⟨j, hj, e⟩ := List.mem_iff_getElem.1 hmem
      rw [List.length_take, List.length_map] at hj
      rw [List.getElem_take] at e
      have := List.pairwise_iff_getElem.1 (List.nodup_iff_pairwise_ne.1 h.1) j i (by rw [List.length_map]; omega) (by rw [List.length_map]; omega) (by omega)
      exact this (by rw [e, List.getElem_map])
    unfold ok1
    rw [hc]
    have k1 : decide (l[i].1 < 0) = false := decide_eq_false (by omega)
    have k2 : decide (l[i].2 < 0) = false := decide_eq_false (by omega)
    have k3 : (l[i].1 == 50) = false := by rw [beq_eq_false_iff_ne]; omega
    have k4 : (l[i].2 == 50) = false := by rw [beq_eq_false_iff_ne]; omega
    rw [k1, k2, k3, k4]; rfl
  rw [h2]; rfl
theorem Good.rows {l : List Mv} (h : Good l) {out : List Mv} (k : Phi.Rows 50 (live_ (l.map (·.1)) (l.map (·.2))) out) : out = l.filter fun m => !(m.1 == m.2) := by
  unfold live_ at k
  rw [zip_map] at k
  refine k.det rfl (Phi.Rows.apart fun x hx y hy => ?_)
  have hx := List.mem_filter.1 hx
  have hy := List.mem_filter.1 hy
  have h1 := h.2 x hx.1
  have h2 := h.2 y hy.1
  have : x.1 ≠ x.2 := by simpa using hx.2
  omega
theorem any_take {l : List Int} {g : Int} {k : Nat} (h : k < l.length) : (l.take (k + 1)).any (· == g) = ((l.take k).any (· == g) || (l[k] == g)) := by
  rw [List.take_add_one, List.getElem?_eq_getElem h, Option.toList_some, List.any_append]; simp
set_option maxHeartbeats 4000000 in
theorem phisApart_c (hO : ∀ f vs H, f ≠ 6 → O f vs H = none) (hW : ∀ H', Kro H H' → O 6 [] H' = some (.bool true, H')) {a b : List Int} {ow : List Bool} {va vb vo : Value} (la : ∀ H', aLen V.E H' 33 va = some (.int .i64 a.length)) (lb : ∀ H', aLen V.E H' 33 vb = some (.int .i64 b.length)) (lc : ∀ H', aLen V.E H' 35 vo = some (.int .i64 ow.length)) (ia : Ix 33 H va (u8s a)) (ib : Ix 33 H vb (u8s b)) (ic : Ix 35 H vo (bos ow)) (wa : ∀ x ∈ a, 0 ≤ x) (wb : ∀ x ∈ b, 0 ≤ x) :
    ∃ H', Lc V O F_law28_PhisApart [va, vb, vo] H (.bool true) H' := by
  have key : ∃ u H', Lc V O F_law28_PhisApart [va, vb, vo] H u H' ∧ u = .bool true := by
    refine Lc.law28_PhisApart (R := fun u _ => u = .bool true) (hO _ _ _ (by decide)) (Nat.le_of_ble_eq_true rfl) (by kernel_rfl) ?_
    unfold P_law28_PhisApart
    have works := fun {H'} (h : Kro H H') => Lc.orc (V := V) (hW H' h)
    cases d1 : decide ((a.length : Int) > 60)
    case true =>
      (repeat first | refine zSeq ?_ | refine zReg ?_ | refine zBlk ?_ | refine zSkp ?_ | refine zExt ?_ | refine zNil rfl ?_ | refine zGet rfl ?_ | refine zOn rfl rfl ?_ | refine zOff rfl rfl ?_ | refine zU rfl ?_ | refine zOn rfl (by assumption) ?_ | refine zOff rfl (by assumption) ?_ | refine zMov rfl ?_ | refine zAsg rfl ?_ | refine zXtr rfl ?_ | refine zPT rfl rfl rfl ?_ | refine zPF rfl rfl rfl ?_ | refine zPT rfl (by assumption) rfl ?_ | refine zPF rfl (by assumption) rfl ?_ | refine zLss rfl rfl ?_ | refine zLeq rfl rfl ?_ | refine zGtr rfl rfl ?_ | refine zGeq rfl rfl ?_ | refine zEql rfl rfl ?_ | refine zNeq rfl rfl ?_ | refine zAdd rfl rfl (by omega) ?_ | refine zSub rfl rfl (by omega) ?_ | refine zLenS rfl E_string ?_ | refine zNot rfl ?_ | refine zEqS rfl rfl ?_ | refine zNeS rfl rfl ?_ | refine zT rfl rfl ?_ | refine zF rfl rfl ?_ | refine zT rfl (by assumption) ?_ | refine zF rfl (by assumption) ?_ | refine zLen rfl (la _) ?_ | refine zLen rfl (lb _) ?_ | refine zLen rfl (lc _) ?_ | refine zIdx rfl rfl ha1 ?_ | refine zIdx rfl rfl ha2 ?_ | refine zIdx rfl rfl ha3 ?_ | refine zFld (f := 0) rfl O_api_Ins_Op ?_ | refine zFld (f := 1) rfl O_api_Ins_R ?_ | refine zFld (f := 2) rfl O_api_Ins_A ?_ | refine zLd rfl hl1 ?_ | refine zLd rfl hl2 ?_ | refine zLd rfl hl3 ?_ | refine zLd rfl hl4 ?_ | refine zLd rfl hl5 ?_ | refine zLen rfl (hv1.len E_s_int) ?_ | refine zLen rfl (hwo.len E_s_api_Ins) ?_)
      refine WL.call rfl rfl is_law28_awake (works (Fr.refl _).kro) ?_
      (repeat first | refine zSeq ?_ | refine zReg ?_ | refine zBlk ?_ | refine zSkp ?_ | refine zExt ?_ | refine zNil rfl ?_ | refine zGet rfl ?_ | refine zOn rfl rfl ?_ | refine zOff rfl rfl ?_ | refine zU rfl ?_ | refine zOn rfl (by assumption) ?_ | refine zOff rfl (by assumption) ?_ | refine zMov rfl ?_ | refine zAsg rfl ?_ | refine zXtr rfl ?_ | refine zPT rfl rfl rfl ?_ | refine zPF rfl rfl rfl ?_ | refine zPT rfl (by assumption) rfl ?_ | refine zPF rfl (by assumption) rfl ?_ | refine zLss rfl rfl ?_ | refine zLeq rfl rfl ?_ | refine zGtr rfl rfl ?_ | refine zGeq rfl rfl ?_ | refine zEql rfl rfl ?_ | refine zNeq rfl rfl ?_ | refine zAdd rfl rfl (by omega) ?_ | refine zSub rfl rfl (by omega) ?_ | refine zLenS rfl E_string ?_ | refine zNot rfl ?_ | refine zEqS rfl rfl ?_ | refine zNeS rfl rfl ?_ | refine zT rfl rfl ?_ | refine zF rfl rfl ?_ | refine zT rfl (by assumption) ?_ | refine zF rfl (by assumption) ?_ | refine zLen rfl (la _) ?_ | refine zLen rfl (lb _) ?_ | refine zLen rfl (lc _) ?_ | refine zIdx rfl rfl ha1 ?_ | refine zIdx rfl rfl ha2 ?_ | refine zIdx rfl rfl ha3 ?_ | refine zFld (f := 0) rfl O_api_Ins_Op ?_ | refine zFld (f := 1) rfl O_api_Ins_R ?_ | refine zFld (f := 2) rfl O_api_Ins_A ?_ | refine zLd rfl hl1 ?_ | refine zLd rfl hl2 ?_ | refine zLd rfl hl3 ?_ | refine zLd rfl hl4 ?_ | refine zLd rfl hl5 ?_ | refine zLen rfl (hv1.len E_s_int) ?_ | refine zLen rfl (hwo.len E_s_api_Ins) ?_)
      exact WP.ret ⟨.inr rfl, _, rfl, rfl⟩
    cases d2 : decide ((b.length : Int) > 60)
    case true =>
      (repeat first | refine zSeq ?_ | refine zReg ?_ | refine zBlk ?_ | refine zSkp ?_ | refine zExt ?_ | refine zNil rfl ?_ | refine zGet rfl ?_ | refine zOn rfl rfl ?_ | refine zOff rfl rfl ?_ | refine zU rfl ?_ | refine zOn rfl (by assumption) ?_ | refine zOff rfl (by assumption) ?_ | refine zMov rfl ?_ | refine zAsg rfl ?_ | refine zXtr rfl ?_ | refine zPT rfl rfl rfl ?_ | refine zPF rfl rfl rfl ?_ | refine zPT rfl (by assumption) rfl ?_ | refine zPF rfl (by assumption) rfl ?_ | refine zLss rfl rfl ?_ | refine zLeq rfl rfl ?_ | refine zGtr rfl rfl ?_ | refine zGeq rfl rfl ?_ | refine zEql rfl rfl ?_ | refine zNeq rfl rfl ?_ | refine zAdd rfl rfl (by omega) ?_ | refine zSub rfl rfl (by omega) ?_ | refine zLenS rfl E_string ?_ | refine zNot rfl ?_ | refine zEqS rfl rfl ?_ | refine zNeS rfl rfl ?_ | refine zT rfl rfl ?_ | refine zF rfl rfl ?_ | refine zT rfl (by assumption) ?_ | refine zF rfl (by assumption) ?_ | refine zLen rfl (la _) ?_ | refine zLen rfl (lb _) ?_ | refine zLen rfl (lc _) ?_ | refine zIdx rfl rfl ha1 ?_ | refine zIdx rfl rfl ha2 ?_ | refine zIdx rfl rfl ha3 ?_ | refine zFld (f := 0) rfl O_api_Ins_Op ?_ | refine zFld (f := 1) rfl O_api_Ins_R ?_ | refine zFld (f := 2) rfl O_api_Ins_A ?_ | refine zLd rfl hl1 ?_ | refine zLd rfl hl2 ?_ | refine zLd rfl hl3 ?_ | refine zLd rfl hl4 ?_ | refine zLd rfl hl5 ?_ | refine zLen rfl (hv1.len E_s_int) ?_ | refine zLen rfl (hwo.len E_s_api_Ins) ?_)
      refine WL.call rfl rfl is_law28_awake (works (Fr.refl _).kro) ?_
      (repeat first | refine zSeq ?_ | refine zReg ?_ | refine zBlk ?_ | refine zSkp ?_ | refine zExt ?_ | refine zNil rfl ?_ | refine zGet rfl ?_ | refine zOn rfl rfl ?_ | refine zOff rfl rfl ?_ | refine zU rfl ?_ | refine zOn rfl (by assumption) ?_ | refine zOff rfl (by assumption) ?_ | refine zMov rfl ?_ | refine zAsg rfl ?_ | refine zXtr rfl ?_ | refine zPT rfl rfl rfl ?_ | refine zPF rfl rfl rfl ?_ | refine zPT rfl (by assumption) rfl ?_ | refine zPF rfl (by assumption) rfl ?_ | refine zLss rfl rfl ?_ | refine zLeq rfl rfl ?_ | refine zGtr rfl rfl ?_ | refine zGeq rfl rfl ?_ | refine zEql rfl rfl ?_ | refine zNeq rfl rfl ?_ | refine zAdd rfl rfl (by omega) ?_ | refine zSub rfl rfl (by omega) ?_ | refine zLenS rfl E_string ?_ | refine zNot rfl ?_ | refine zEqS rfl rfl ?_ | refine zNeS rfl rfl ?_ | refine zT rfl rfl ?_ | refine zF rfl rfl ?_ | refine zT rfl (by assumption) ?_ | refine zF rfl (by assumption) ?_ | refine zLen rfl (la _) ?_ | refine zLen rfl (lb _) ?_ | refine zLen rfl (lc _) ?_ | refine zIdx rfl rfl ha1 ?_ | refine zIdx rfl rfl ha2 ?_ | refine zIdx rfl rfl ha3 ?_ | refine zFld (f := 0) rfl O_api_Ins_Op ?_ | refine zFld (f := 1) rfl O_api_Ins_R ?_ | refine zFld (f := 2) rfl O_api_Ins_A ?_ | refine zLd rfl hl1 ?_ | refine zLd rfl hl2 ?_ | refine zLd rfl hl3 ?_ | refine zLd rfl hl4 ?_ | refine zLd rfl hl5 ?_ | refine zLen rfl (hv1.len E_s_int) ?_ | refine zLen rfl (hwo.len E_s_api_Ins) ?_)
      exact WP.ret ⟨.inr rfl, _, rfl, rfl⟩
    have hLa : a.length ≤ 60 := by have := of_decide_eq_false d1; omega
    have hLb : b.length ≤ 60 := by have := of_decide_eq_false d2; omega
    (repeat first | refine zSeq ?_ | refine zReg ?_ | refine zBlk ?_ | refine zSkp ?_ | refine zExt ?_ | refine zNil rfl ?_ | refine zGet rfl ?_ | refine zOn rfl rfl ?_ | refine zOff rfl rfl ?_ | refine zU rfl ?_ | refine zOn rfl (by assumption) ?_ | refine zOff rfl (by assumption) ?_ | refine zMov rfl ?_ | refine zAsg rfl ?_ | refine zXtr rfl ?_ | refine zPT rfl rfl rfl ?_ | refine zPF rfl rfl rfl ?_ | refine zPT rfl (by assumption) rfl ?_ | refine zPF rfl (by assumption) rfl ?_ | refine zLss rfl rfl ?_ | refine zLeq rfl rfl ?_ | refine zGtr rfl rfl ?_ | refine zGeq rfl rfl ?_ | refine zEql rfl rfl ?_ | refine zNeq rfl rfl ?_ | refine zAdd rfl rfl (by omega) ?_ | refine zSub rfl rfl (by omega) ?_ | refine zLenS rfl E_string ?_ | refine zNot rfl ?_ | refine zEqS rfl rfl ?_ | refine zNeS rfl rfl ?_ | refine zT rfl rfl ?_ | refine zF rfl rfl ?_ | refine zT rfl (by assumption) ?_ | refine zF rfl (by assumption) ?_ | refine zLen rfl (la _) ?_ | refine zLen rfl (lb _) ?_ | refine zLen rfl (lc _) ?_ | refine zIdx rfl rfl ha1 ?_ | refine zIdx rfl rfl ha2 ?_ | refine zIdx rfl rfl ha3 ?_ | refine zFld (f := 0) rfl O_api_Ins_Op ?_ | refine zFld (f := 1) rfl O_api_Ins_R ?_ | refine zFld (f := 2) rfl O_api_Ins_A ?_ | refine zLd rfl hl1 ?_ | refine zLd rfl hl2 ?_ | refine zLd rfl hl3 ?_ | refine zLd rfl hl4 ?_ | refine zLd rfl hl5 ?_ | refine zLen rfl (hv1.len E_s_int) ?_ | refine zLen rfl (hwo.len E_s_api_Ins) ?_)
    refine WL.call rfl rfl is_law28_awake (works (Fr.refl _).kro) ?_
    (repeat first | refine zReg ?_ | refine zSkp ?_ | refine zExt ?_ | refine zNil rfl ?_ | refine zGet rfl ?_ | refine zOn rfl rfl ?_ | refine zOff rfl rfl ?_ | refine zU rfl ?_ | refine zOn rfl (by assumption) ?_ | refine zOff rfl (by assumption) ?_ | refine zMov rfl ?_ | refine zAsg rfl ?_ | refine zXtr rfl ?_ | refine zPT rfl rfl rfl ?_ | refine zPF rfl rfl rfl ?_ | refine zPT rfl (by assumption) rfl ?_ | refine zPF rfl (by assumption) rfl ?_ | refine zLss rfl rfl ?_ | refine zLeq rfl rfl ?_ | refine zGtr rfl rfl ?_ | refine zGeq rfl rfl ?_ | refine zEql rfl rfl ?_ | refine zNeq rfl rfl ?_ | refine zAdd rfl rfl (by omega) ?_ | refine zSub rfl rfl (by omega) ?_ | refine zLenS rfl E_string ?_ | refine zNot rfl ?_ | refine zEqS rfl rfl ?_ | refine zNeS rfl rfl ?_ | refine zT rfl rfl ?_ | refine zF rfl rfl ?_ | refine zT rfl (by assumption) ?_ | refine zF rfl (by assumption) ?_ | refine zLen rfl (la _) ?_ | refine zLen rfl (lb _) ?_ | refine zLen rfl (lc _) ?_ | refine zIdx rfl rfl ha1 ?_ | refine zIdx rfl rfl ha2 ?_ | refine zIdx rfl rfl ha3 ?_ | refine zFld (f := 0) rfl O_api_Ins_Op ?_ | refine zFld (f := 1) rfl O_api_Ins_R ?_ | refine zFld (f := 2) rfl O_api_Ins_A ?_ | refine zLd rfl hl1 ?_ | refine zLd rfl hl2 ?_ | refine zLd rfl hl3 ?_ | refine zLd rfl hl4 ?_ | refine zLd rfl hl5 ?_ | refine zLen rfl (hv1.len E_s_int) ?_ | refine zLen rfl (hwo.len E_s_api_Ins) ?_)
    refine zSeq ?_
    (repeat first | refine zReg ?_ | refine zSkp ?_ | refine zExt ?_ | refine zNil rfl ?_ | refine zGet rfl ?_ | refine zOn rfl rfl ?_ | refine zOff rfl rfl ?_ | refine zU rfl ?_ | refine zOn rfl (by assumption) ?_ | refine zOff rfl (by assumption) ?_ | refine zMov rfl ?_ | refine zAsg rfl ?_ | refine zXtr rfl ?_ | refine zPT rfl rfl rfl ?_ | refine zPF rfl rfl rfl ?_ | refine zPT rfl (by assumption) rfl ?_ | refine zPF rfl (by assumption) rfl ?_ | refine zLss rfl rfl ?_ | refine zLeq rfl rfl ?_ | refine zGtr rfl rfl ?_ | refine zGeq rfl rfl ?_ | refine zEql rfl rfl ?_ | refine zNeq rfl rfl ?_ | refine zAdd rfl rfl (by omega) ?_ | refine zSub rfl rfl (by omega) ?_ | refine zLenS rfl E_string ?_ | refine zNot rfl ?_ | refine zEqS rfl rfl ?_ | refine zNeS rfl rfl ?_ | refine zT rfl rfl ?_ | refine zF rfl rfl ?_ | refine zT rfl (by assumption) ?_ | refine zF rfl (by assumption) ?_ | refine zLen rfl (la _) ?_ | refine zLen rfl (lb _) ?_ | refine zLen rfl (lc _) ?_ | refine zIdx rfl rfl ha1 ?_ | refine zIdx rfl rfl ha2 ?_ | refine zIdx rfl rfl ha3 ?_ | refine zFld (f := 0) rfl O_api_Ins_Op ?_ | refine zFld (f := 1) rfl O_api_Ins_R ?_ | refine zFld (f := 2) rfl O_api_Ins_A ?_ | refine zLd rfl hl1 ?_ | refine zLd rfl hl2 ?_ | refine zLd rfl hl3 ?_ | refine zLd rfl hl4 ?_ | refine zLd rfl hl5 ?_ | refine zLen rfl (hv1.len E_s_int) ?_ | refine zLen rfl (hwo.len E_s_api_Ins) ?_)
    refine zSeq ?_
    (repeat first | refine zReg ?_ | refine zSkp ?_ | refine zExt ?_ | refine zNil rfl ?_ | refine zGet rfl ?_ | refine zOn rfl rfl ?_ | refine zOff rfl rfl ?_ | refine zU rfl ?_ | refine zOn rfl (by assumption) ?_ | refine zOff rfl (by assumption) ?_ | refine zMov rfl ?_ | refine zAsg rfl ?_ | refine zXtr rfl ?_ | refine zPT rfl rfl rfl ?_ | refine zPF rfl rfl rfl ?_ | refine zPT rfl (by assumption) rfl ?_ | refine zPF rfl (by assumption) rfl ?_ | refine zLss rfl rfl ?_ | refine zLeq rfl rfl ?_ | refine zGtr rfl rfl ?_ | refine zGeq rfl rfl ?_ | refine zEql rfl rfl ?_ | refine zNeq rfl rfl ?_ | refine zAdd rfl rfl (by omega) ?_ | refine zSub rfl rfl (by omega) ?_ | refine zLenS rfl E_string ?_ | refine zNot rfl ?_ | refine zEqS rfl rfl ?_ | refine zNeS rfl rfl ?_ | refine zT rfl rfl ?_ | refine zF rfl rfl ?_ | refine zT rfl (by assumption) ?_ | refine zF rfl (by assumption) ?_ | refine zLen rfl (la _) ?_ | refine zLen rfl (lb _) ?_ | refine zLen rfl (lc _) ?_ | refine zIdx rfl rfl ha1 ?_ | refine zIdx rfl rfl ha2 ?_ | refine zIdx rfl rfl ha3 ?_ | refine zFld (f := 0) rfl O_api_Ins_Op ?_ | refine zFld (f := 1) rfl O_api_Ins_R ?_ | refine zFld (f := 2) rfl O_api_Ins_A ?_ | refine zLd rfl hl1 ?_ | refine zLd rfl hl2 ?_ | refine zLd rfl hl3 ?_ | refine zLd rfl hl4 ?_ | refine zLd rfl hl5 ?_ | refine zLen rfl (hv1.len E_s_int) ?_ | refine zLen rfl (hwo.len E_s_api_Ins) ?_)
    refine WP.seqS (σ := List Mv × (Value × Option (Nat × Nat)) × (Value × Option (Nat × Nat))) (fun x => [(7, x.2.1.1), (8, x.2.2.1), (9, .int .i64 ((x.1.filter fun m => !(m.1 == m.2)).length : Nat))]) (fun x Hd => Fr H Hd ∧ Good x.1 ∧ x.1.length ≤ 60 ∧ Tr Hd H.next (x.1.map (·.1)) x.2.1.1 x.2.1.2 (x.1.map (·.2)) x.2.2.1 x.2.2.2 (.slice none 0 0) [] none) ?_ ?_
    · (repeat first | refine zSeq ?_ | refine zReg ?_ | refine zBlk ?_ | refine zSkp ?_ | refine zExt ?_ | refine zNil rfl ?_ | refine zGet rfl ?_ | refine zOn rfl rfl ?_ | refine zOff rfl rfl ?_ | refine zU rfl ?_ | refine zOn rfl (by assumption) ?_ | refine zOff rfl (by assumption) ?_ | refine zMov rfl ?_ | refine zAsg rfl ?_ | refine zXtr rfl ?_ | refine zPT rfl rfl rfl ?_ | refine zPF rfl rfl rfl ?_ | refine zPT rfl (by assumption) rfl ?_ | refine zPF rfl (by assumption) rfl ?_ | refine zLss rfl rfl ?_ | refine zLeq rfl rfl ?_ | refine zGtr rfl rfl ?_ | refine zGeq rfl rfl ?_ | refine zEql rfl rfl ?_ | refine zNeq rfl rfl ?_ | refine zAdd rfl rfl (by omega) ?_ | refine zSub rfl rfl (by omega) ?_ | refine zLenS rfl E_string ?_ | refine zNot rfl ?_ | refine zEqS rfl rfl ?_ | refine zNeS rfl rfl ?_ | refine zT rfl rfl ?_ | refine zF rfl rfl ?_ | refine zT rfl (by assumption) ?_ | refine zF rfl (by assumption) ?_ | refine zLen rfl (la _) ?_ | refine zLen rfl (lb _) ?_ | refine zLen rfl (lc _) ?_ | refine zIdx rfl rfl ha1 ?_ | refine zIdx rfl rfl ha2 ?_ | refine zIdx rfl rfl ha3 ?_ | refine zFld (f := 0) rfl O_api_Ins_Op ?_ | refine zFld (f := 1) rfl O_api_Ins_R ?_ | refine zFld (f := 2) rfl O_api_Ins_A ?_ | refine zLd rfl hl1 ?_ | refine zLd rfl hl2 ?_ | refine zLd rfl hl3 ?_ | refine zLd rfl hl4 ?_ | refine zLd rfl hl5 ?_ | refine zLen rfl (hv1.len E_s_int) ?_ | refine zLen rfl (hwo.len E_s_api_Ins) ?_)
      refine WP.loopH (σ := Nat × List Mv × (Value × Option (Nat × Nat)) × (Value × Option (Nat × Nat))) (fun x => [(0, va), (1, vb), (2, vo), (7, x.2.2.1.1), (8, x.2.2.2.1), (9, .int .i64 ((x.2.1.filter fun m => !(m.1 == m.2)).length : Nat)), (10, .int .i64 x.1)])
        (fun x Hd => Fr H Hd ∧ Good x.2.1 ∧ x.2.1.length ≤ x.1 ∧ Tr Hd H.next (x.2.1.map (·.1)) x.2.2.1.1 x.2.2.1.2 (x.2.1.map (·.2)) x.2.2.2.1 x.2.2.2.2 (.slice none 0 0) [] none ∧ x.1 ≤ a.length) (fun x => a.length - x.1) (0, [], (.slice none 0 0, none), (.slice none 0 0, none))
        ⟨.refl _, ⟨by simp, by simp⟩, Nat.le_refl _, ⟨.inl .nil, .inl .nil, .nil, .none, .none, .none, Nat.le_refl _⟩, Nat.zero_le _⟩ ⟨rfl, rfl, rfl, rfl, rfl, rfl, rfl, trivial⟩ ?_
      rintro ⟨i, l, ⟨vg, og⟩, ⟨vs, os⟩⟩ Hd ⟨hfd, hG, hll, htr, hi⟩
      simp only at hfd hG hll htr hi ⊢
      rcases Nat.lt_or_ge i a.length with h1 | h1
      case inr =>
        have g1 : decide ((i : Int) < a.length) = false := decide_eq_false (by omega)
        (repeat first | refine zSeq ?_ | refine zReg ?_ | refine zBlk ?_ | refine zSkp ?_ | refine zExt ?_ | refine zNil rfl ?_ | refine zGet rfl ?_ | refine zOn rfl rfl ?_ | refine zOff rfl rfl ?_ | refine zU rfl ?_ | refine zOn rfl (by assumption) ?_ | refine zOff rfl (by assumption) ?_ | refine zMov rfl ?_ | refine zAsg rfl ?_ | refine zXtr rfl ?_ | refine zPT rfl rfl rfl ?_ | refine zPF rfl rfl rfl ?_ | refine zPT rfl (by assumption) rfl ?_ | refine zPF rfl (by assumption) rfl ?_ | refine zLss rfl rfl ?_ | refine zLeq rfl rfl ?_ | refine zGtr rfl rfl ?_ | refine zGeq rfl rfl ?_ | refine zEql rfl rfl ?_ | refine zNeq rfl rfl ?_ | refine zAdd rfl rfl (by omega) ?_ | refine zSub rfl rfl (by omega) ?_ | refine zLenS rfl E_string ?_ | refine zNot rfl ?_ | refine zEqS rfl rfl ?_ | refine zNeS rfl rfl ?_ | refine zT rfl rfl ?_ | refine zF rfl rfl ?_ | refine zT rfl (by assumption) ?_ | refine zF rfl (by assumption) ?_ | refine zLen rfl (la _) ?_ | refine zLen rfl (lb _) ?_ | refine zLen rfl (lc _) ?_ | refine zIdx rfl rfl ha1 ?_ | refine zIdx rfl rfl ha2 ?_ | refine zIdx rfl rfl ha3 ?_ | refine zFld (f := 0) rfl O_api_Ins_Op ?_ | refine zFld (f := 1) rfl O_api_Ins_R ?_ | refine zFld (f := 2) rfl O_api_Ins_A ?_ | refine zLd rfl hl1 ?_ | refine zLd rfl hl2 ?_ | refine zLd rfl hl3 ?_ | refine zLd rfl hl4 ?_ | refine zLd rfl hl5 ?_ | refine zLen rfl (hv1.len E_s_int) ?_ | refine zLen rfl (hwo.len E_s_api_Ins) ?_)
        exact ⟨(l, (vg, og), (vs, os)), ⟨hfd, hG, by simp only; omega, htr⟩, rfl, rfl, rfl, trivial⟩
      have g1 : decide ((i : Int) < a.length) = true := decide_eq_true (by omega)
      rcases Nat.lt_or_ge i b.length with h2 | h2
      case inr =>
        have g2 : decide ((i : Int) < b.length) = false := decide_eq_false (by omega)
        (repeat first | refine zSeq ?_ | refine zReg ?_ | refine zBlk ?_ | refine zSkp ?_ | refine zExt ?_ | refine zNil rfl ?_ | refine zGet rfl ?_ | refine zOn rfl rfl ?_ | refine zOff rfl rfl ?_ | refine zU rfl ?_ | refine zOn rfl (by assumption) ?_ | refine zOff rfl (by assumption) ?_ | refine zMov rfl ?_ | refine zAsg rfl ?_ | refine zXtr rfl ?_ | refine zPT rfl rfl rfl ?_ | refine zPF rfl rfl rfl ?_ | refine zPT rfl (by assumption) rfl ?_ | refine zPF rfl (by assumption) rfl ?_ | refine zLss rfl rfl ?_ | refine zLeq rfl rfl ?_ | refine zGtr rfl rfl ?_ | refine zGeq rfl rfl ?_ | refine zEql rfl rfl ?_ | refine zNeq rfl rfl ?_ | refine zAdd rfl rfl (by omega) ?_ | refine zSub rfl rfl (by omega) ?_ | refine zLenS rfl E_string ?_ | refine zNot rfl ?_ | refine zEqS rfl rfl ?_ | refine zNeS rfl rfl ?_ | refine zT rfl rfl ?_ | refine zF rfl rfl ?_ | refine zT rfl (by assumption) ?_ | refine zF rfl (by assumption) ?_ | refine zLen rfl (la _) ?_ | refine zLen rfl (lb _) ?_ | refine zLen rfl (lc _) ?_ | refine zIdx rfl rfl ha1 ?_ | refine zIdx rfl rfl ha2 ?_ | refine zIdx rfl rfl ha3 ?_ | refine zFld (f := 0) rfl O_api_Ins_Op ?_ | refine zFld (f := 1) rfl O_api_Ins_R ?_ | refine zFld (f := 2) rfl O_api_Ins_A ?_ | refine zLd rfl hl1 ?_ | refine zLd rfl hl2 ?_ | refine zLd rfl hl3 ?_ | refine zLd rfl hl4 ?_ | refine zLd rfl hl5 ?_ | refine zLen rfl (hv1.len E_s_int) ?_ | refine zLen rfl (hwo.len E_s_api_Ins) ?_)
        exact ⟨(l, (vg, og), (vs, os)), ⟨hfd, hG, by simp only; omega, htr⟩, rfl, rfl, rfl, trivial⟩
      have g2 : decide ((i : Int) < b.length) = true := decide_eq_true (by omega)
      obtain ⟨b1, o1, ha1, hl1⟩ := ix_u8 (ia.fr hfd) h1
      have ra := tmod_le (m := 20) (wa a[i] (List.getElem_mem _)) (by decide)
      have rb := tmod_le (m := 20) (wb b[i] (List.getElem_mem _)) (by decide)
      have hv1 := htr.g.sl
      generalize hg : a[i].tmod 20 = g at ra
      have hb1 : (l.map (·.1)).length ≤ 65536 := by rw [List.length_map]; omega
      have hb2 : (l.map (·.2)).length ≤ 65536 := by rw [List.length_map]; omega
      (repeat first | refine zSeq ?_ | refine zReg ?_ | refine zBlk ?_ | refine zSkp ?_ | refine zExt ?_ | refine zNil rfl ?_ | refine zGet rfl ?_ | refine zOn rfl rfl ?_ | refine zOff rfl rfl ?_ | refine zU rfl ?_ | refine zOn rfl (by assumption) ?_ | refine zOff rfl (by assumption) ?_ | refine zMov rfl ?_ | refine zAsg rfl ?_ | refine zXtr rfl ?_ | refine zPT rfl rfl rfl ?_ | refine zPF rfl rfl rfl ?_ | refine zPT rfl (by assumption) rfl ?_ | refine zPF rfl (by assumption) rfl ?_ | refine zLss rfl rfl ?_ | refine zLeq rfl rfl ?_ | refine zGtr rfl rfl ?_ | refine zGeq rfl rfl ?_ | refine zEql rfl rfl ?_ | refine zNeq rfl rfl ?_ | refine zAdd rfl rfl (by omega) ?_ | refine zSub rfl rfl (by omega) ?_ | refine zLenS rfl E_string ?_ | refine zNot rfl ?_ | refine zEqS rfl rfl ?_ | refine zNeS rfl rfl ?_ | refine zT rfl rfl ?_ | refine zF rfl rfl ?_ | refine zT rfl (by assumption) ?_ | refine zF rfl (by assumption) ?_ | refine zLen rfl (la _) ?_ | refine zLen rfl (lb _) ?_ | refine zLen rfl (lc _) ?_ | refine zIdx rfl rfl ha1 ?_ | refine zIdx rfl rfl ha2 ?_ | refine zIdx rfl rfl ha3 ?_ | refine zFld (f := 0) rfl O_api_Ins_Op ?_ | refine zFld (f := 1) rfl O_api_Ins_R ?_ | refine zFld (f := 2) rfl O_api_Ins_A ?_ | refine zLd rfl hl1 ?_ | refine zLd rfl hl2 ?_ | refine zLd rfl hl3 ?_ | refine zLd rfl hl4 ?_ | refine zLd rfl hl5 ?_ | refine zLen rfl (hv1.len E_s_int) ?_ | refine zLen rfl (hwo.len E_s_api_Ins) ?_)
      refine WL.op (op_int rfl rfl (aInt_rem _ _ (by decide))) ?_
      rw [hg]
      refine WL.op (op_conv und5 und3 rfl (m := g) (wrap_i64 (by omega) (by omega))) ?_
      (repeat first | refine zSeq ?_ | refine zReg ?_ | refine zBlk ?_ | refine zSkp ?_ | refine zExt ?_ | refine zNil rfl ?_ | refine zGet rfl ?_ | refine zOn rfl rfl ?_ | refine zOff rfl rfl ?_ | refine zU rfl ?_ | refine zOn rfl (by assumption) ?_ | refine zOff rfl (by assumption) ?_ | refine zMov rfl ?_ | refine zAsg rfl ?_ | refine zXtr rfl ?_ | refine zPT rfl rfl rfl ?_ | refine zPF rfl rfl rfl ?_ | refine zPT rfl (by assumption) rfl ?_ | refine zPF rfl (by assumption) rfl ?_ | refine zLss rfl rfl ?_ | refine zLeq rfl rfl ?_ | refine zGtr rfl rfl ?_ | refine zGeq rfl rfl ?_ | refine zEql rfl rfl ?_ | refine zNeq rfl rfl ?_ | refine zAdd rfl rfl (by omega) ?_ | refine zSub rfl rfl (by omega) ?_ | refine zLenS rfl E_string ?_ | refine zNot rfl ?_ | refine zEqS rfl rfl ?_ | refine zNeS rfl rfl ?_ | refine zT rfl rfl ?_ | refine zF rfl rfl ?_ | refine zT rfl (by assumption) ?_ | refine zF rfl (by assumption) ?_ | refine zLen rfl (la _) ?_ | refine zLen rfl (lb _) ?_ | refine zLen rfl (lc _) ?_ | refine zIdx rfl rfl ha1 ?_ | refine zIdx rfl rfl ha2 ?_ | refine zIdx rfl rfl ha3 ?_ | refine zFld (f := 0) rfl O_api_Ins_Op ?_ | refine zFld (f := 1) rfl O_api_Ins_R ?_ | refine zFld (f := 2) rfl O_api_Ins_A ?_ | refine zLd rfl hl1 ?_ | refine zLd rfl hl2 ?_ | refine zLd rfl hl3 ?_ | refine zLd rfl hl4 ?_ | refine zLd rfl hl5 ?_ | refine zLen rfl (hv1.len E_s_int) ?_ | refine zLen rfl (hwo.len E_s_api_Ins) ?_)
      refine WP.loopH (σ := Nat) (fun k => [(0, va), (1, vb), (2, vo), (7, vg), (8, vs), (9, .int .i64 ((l.filter fun m => !(m.1 == m.2)).length : Nat)), (10, .int .i64 i), (11, .int .i64 g), (12, .bool (((l.map (·.1)).take k).any (· == g))), (13, .int .i64 k)]) (fun k Hy => Hy = Hd ∧ k ≤ (l.map (·.1)).length) (fun k => (l.map (·.1)).length - k) 0 ⟨rfl, Nat.zero_le _⟩ ⟨rfl, rfl, rfl, rfl, rfl, rfl, rfl, rfl, rfl, rfl, trivial⟩ ?_
      rintro k Hy ⟨hy, hk⟩
      replace hy := hy.symm
      subst hy
      rcases Nat.lt_or_ge k (l.map (·.1)).length with h | h
      · have c1 : decide ((k : Int) < (l.map (·.1)).length) = true := decide_eq_true (by omega)
        obtain ⟨b2, o2, ha2, hl2⟩ := sl_int hv1 h
        have hat := any_take (g := g) h
        cases ht : ((l.map (·.1)).take k).any (· == g)
        · rw [ht, Bool.false_or] at hat
          (repeat first | refine zSeq ?_ | refine zReg ?_ | refine zBlk ?_ | refine zSkp ?_ | refine zExt ?_ | refine zNil rfl ?_ | refine zGet rfl ?_ | refine zOn rfl rfl ?_ | refine zOff rfl rfl ?_ | refine zU rfl ?_ | refine zOn rfl (by assumption) ?_ | refine zOff rfl (by assumption) ?_ | refine zMov rfl ?_ | refine zAsg rfl ?_ | refine zXtr rfl ?_ | refine zPT rfl rfl rfl ?_ | refine zPF rfl rfl rfl ?_ | refine zPT rfl (by assumption) rfl ?_ | refine zPF rfl (by assumption) rfl ?_ | refine zLss rfl rfl ?_ | refine zLeq rfl rfl ?_ | refine zGtr rfl rfl ?_ | refine zGeq rfl rfl ?_ | refine zEql rfl rfl ?_ | refine zNeq rfl rfl ?_ | refine zAdd rfl rfl (by omega) ?_ | refine zSub rfl rfl (by omega) ?_ | refine zLenS rfl E_string ?_ | refine zNot rfl ?_ | refine zEqS rfl rfl ?_ | refine zNeS rfl rfl ?_ | refine zT rfl rfl ?_ | refine zF rfl rfl ?_ | refine zT rfl (by assumption) ?_ | refine zF rfl (by assumption) ?_ | refine zLen rfl (la _) ?_ | refine zLen rfl (lb _) ?_ | refine zLen rfl (lc _) ?_ | refine zIdx rfl rfl ha1 ?_ | refine zIdx rfl rfl ha2 ?_ | refine zIdx rfl rfl ha3 ?_ | refine zFld (f := 0) rfl O_api_Ins_Op ?_ | refine zFld (f := 1) rfl O_api_Ins_R ?_ | refine zFld (f := 2) rfl O_api_Ins_A ?_ | refine zLd rfl hl1 ?_ | refine zLd rfl hl2 ?_ | refine zLd rfl hl3 ?_ | refine zLd rfl hl4 ?_ | refine zLd rfl hl5 ?_ | refine zLen rfl (hv1.len E_s_int) ?_ | refine zLen rfl (hwo.len E_s_api_Ins) ?_)
          exact ⟨k + 1, ⟨rfl, h⟩, by omega, rfl, rfl, rfl, rfl, rfl, rfl, rfl, rfl, congrArg (fun x => some (Value.bool x)) hat.symm, rfl, trivial⟩
        · rw [ht, Bool.true_or] at hat
          (repeat first | refine zSeq ?_ | refine zReg ?_ | refine zBlk ?_ | refine zSkp ?_ | refine zExt ?_ | refine zNil rfl ?_ | refine zGet rfl ?_ | refine zOn rfl rfl ?_ | refine zOff rfl rfl ?_ | refine zU rfl ?_ | refine zOn rfl (by assumption) ?_ | refine zOff rfl (by assumption) ?_ | refine zMov rfl ?_ | refine zAsg rfl ?_ | refine zXtr rfl ?_ | refine zPT rfl rfl rfl ?_ | refine zPF rfl rfl rfl ?_ | refine zPT rfl (by assumption) rfl ?_ | refine zPF rfl (by assumption) rfl ?_ | refine zLss rfl rfl ?_ | refine zLeq rfl rfl ?_ | refine zGtr rfl rfl ?_ | refine zGeq rfl rfl ?_ | refine zEql rfl rfl ?_ | refine zNeq rfl rfl ?_ | refine zAdd rfl rfl (by omega) ?_ | refine zSub rfl rfl (by omega) ?_ | refine zLenS rfl E_string ?_ | refine zNot rfl ?_ | refine zEqS rfl rfl ?_ | refine zNeS rfl rfl ?_ | refine zT rfl rfl ?_ | refine zF rfl rfl ?_ | refine zT rfl (by assumption) ?_ | refine zF rfl (by assumption) ?_ | refine zLen rfl (la _) ?_ | refine zLen rfl (lb _) ?_ | refine zLen rfl (lc _) ?_ | refine zIdx rfl rfl ha1 ?_ | refine zIdx rfl rfl ha2 ?_ | refine zIdx rfl rfl ha3 ?_ | refine zFld (f := 0) rfl O_api_Ins_Op ?_ | refine zFld (f := 1) rfl O_api_Ins_R ?_ | refine zFld (f := 2) rfl O_api_Ins_A ?_ | refine zLd rfl hl1 ?_ | refine zLd rfl hl2 ?_ | refine zLd rfl hl3 ?_ | refine zLd rfl hl4 ?_ | refine zLd rfl hl5 ?_ | refine zLen rfl (hv1.len E_s_int) ?_ | refine zLen rfl (hwo.len E_s_api_Ins) ?_)
          exact ⟨k + 1, ⟨rfl, h⟩, by omega, rfl, rfl, rfl, rfl, rfl, rfl, rfl, rfl, congrArg (fun x => some (Value.bool x)) hat.symm, rfl, trivial⟩
      have c1 : decide ((k : Int) < (l.map (·.1)).length) = false := decide_eq_false (by omega)
      rw [List.take_of_length_le h]
      cases ht : (l.map (·.1)).any (· == g)
      case true =>
        (repeat first | refine zSeq ?_ | refine zReg ?_ | refine zBlk ?_ | refine zSkp ?_ | refine zExt ?_ | refine zNil rfl ?_ | refine zGet rfl ?_ | refine zOn rfl rfl ?_ | refine zOff rfl rfl ?_ | refine zU rfl ?_ | refine zOn rfl (by assumption) ?_ | refine zOff rfl (by assumption) ?_ | refine zMov rfl ?_ | refine zAsg rfl ?_ | refine zXtr rfl ?_ | refine zPT rfl rfl rfl ?_ | refine zPF rfl rfl rfl ?_ | refine zPT rfl (by assumption) rfl ?_ | refine zPF rfl (by assumption) rfl ?_ | refine zLss rfl rfl ?_ | refine zLeq rfl rfl ?_ | refine zGtr rfl rfl ?_ | refine zGeq rfl rfl ?_ | refine zEql rfl rfl ?_ | refine zNeq rfl rfl ?_ | refine zAdd rfl rfl (by omega) ?_ | refine zSub rfl rfl (by omega) ?_ | refine zLenS rfl E_string ?_ | refine zNot rfl ?_ | refine zEqS rfl rfl ?_ | refine zNeS rfl rfl ?_ | refine zT rfl rfl ?_ | refine zF rfl rfl ?_ | refine zT rfl (by assumption) ?_ | refine zF rfl (by assumption) ?_ | refine zLen rfl (la _) ?_ | refine zLen rfl (lb _) ?_ | refine zLen rfl (lc _) ?_ | refine zIdx rfl rfl ha1 ?_ | refine zIdx rfl rfl ha2 ?_ | refine zIdx rfl rfl ha3 ?_ | refine zFld (f := 0) rfl O_api_Ins_Op ?_ | refine zFld (f := 1) rfl O_api_Ins_R ?_ | refine zFld (f := 2) rfl O_api_Ins_A ?_ | refine zLd rfl hl1 ?_ | refine zLd rfl hl2 ?_ | refine zLd rfl hl3 ?_ | refine zLd rfl hl4 ?_ | refine zLd rfl hl5 ?_ | refine zLen rfl (hv1.len E_s_int) ?_ | refine zLen rfl (hwo.len E_s_api_Ins) ?_)
        exact ⟨(i + 1, l, (vg, og), (vs, os)), ⟨hfd, hG, by simp only; omega, htr, h1⟩, by simp only; omega, rfl, rfl, rfl, rfl, rfl, rfl, rfl, trivial⟩
      obtain ⟨vg', He, og', k1, k2, k3⟩ := htr.appG hfd (Nat.le_refl _) g hb1
      (repeat first | refine zSeq ?_ | refine zReg ?_ | refine zBlk ?_ | refine zSkp ?_ | refine zExt ?_ | refine zNil rfl ?_ | refine zGet rfl ?_ | refine zOn rfl rfl ?_ | refine zOff rfl rfl ?_ | refine zU rfl ?_ | refine zOn rfl (by assumption) ?_ | refine zOff rfl (by assumption) ?_ | refine zMov rfl ?_ | refine zAsg rfl ?_ | refine zXtr rfl ?_ | refine zPT rfl rfl rfl ?_ | refine zPF rfl rfl rfl ?_ | refine zPT rfl (by assumption) rfl ?_ | refine zPF rfl (by assumption) rfl ?_ | refine zLss rfl rfl ?_ | refine zLeq rfl rfl ?_ | refine zGtr rfl rfl ?_ | refine zGeq rfl rfl ?_ | refine zEql rfl rfl ?_ | refine zNeq rfl rfl ?_ | refine zAdd rfl rfl (by omega) ?_ | refine zSub rfl rfl (by omega) ?_ | refine zLenS rfl E_string ?_ | refine zNot rfl ?_ | refine zEqS rfl rfl ?_ | refine zNeS rfl rfl ?_ | refine zT rfl rfl ?_ | refine zF rfl rfl ?_ | refine zT rfl (by assumption) ?_ | refine zF rfl (by assumption) ?_ | refine zLen rfl (la _) ?_ | refine zLen rfl (lb _) ?_ | refine zLen rfl (lc _) ?_ | refine zIdx rfl rfl ha1 ?_ | refine zIdx rfl rfl ha2 ?_ | refine zIdx rfl rfl ha3 ?_ | refine zFld (f := 0) rfl O_api_Ins_Op ?_ | refine zFld (f := 1) rfl O_api_Ins_R ?_ | refine zFld (f := 2) rfl O_api_Ins_A ?_ | refine zLd rfl hl1 ?_ | refine zLd rfl hl2 ?_ | refine zLd rfl hl3 ?_ | refine zLd rfl hl4 ?_ | refine zLd rfl hl5 ?_ | refine zLen rfl (hv1.len E_s_int) ?_ | refine zLen rfl (hwo.len E_s_api_Ins) ?_)
      refine WL.op (op_buildSlice rfl E_s_int E_int (by decide) fill22) ?_
      refine WL.op (k1 rfl rfl) ?_
      have hcase : (∃ h3 : i < ow.length, ow[i] = true) ∨ ¬ (∃ h3 : i < ow.length, ow[i] = true) := Classical.em _
      rcases hcase with ⟨h3, e3⟩ | hno
      · have g3 : decide ((i : Int) < ow.length) = true := decide_eq_true (by omega)
        obtain ⟨b3, o3, ha3, hl3⟩ := ix_bo (ic.fr k3) h3
        rw [e3] at hl3
        obtain ⟨vs', Hf, os', m1, m2, m3⟩ := k2.appS k3 (Nat.le_refl _) g hb2
        (repeat first | refine zSeq ?_ | refine zReg ?_ | refine zBlk ?_ | refine zSkp ?_ | refine zExt ?_ | refine zNil rfl ?_ | refine zGet rfl ?_ | refine zOn rfl rfl ?_ | refine zOff rfl rfl ?_ | refine zU rfl ?_ | refine zOn rfl (by assumption) ?_ | refine zOff rfl (by assumption) ?_ | refine zMov rfl ?_ | refine zAsg rfl ?_ | refine zXtr rfl ?_ | refine zPT rfl rfl rfl ?_ | refine zPF rfl rfl rfl ?_ | refine zPT rfl (by assumption) rfl ?_ | refine zPF rfl (by assumption) rfl ?_ | refine zLss rfl rfl ?_ | refine zLeq rfl rfl ?_ | refine zGtr rfl rfl ?_ | refine zGeq rfl rfl ?_ | refine zEql rfl rfl ?_ | refine zNeq rfl rfl ?_ | refine zAdd rfl rfl (by omega) ?_ | refine zSub rfl rfl (by omega) ?_ | refine zLenS rfl E_string ?_ | refine zNot rfl ?_ | refine zEqS rfl rfl ?_ | refine zNeS rfl rfl ?_ | refine zT rfl rfl ?_ | refine zF rfl rfl ?_ | refine zT rfl (by assumption) ?_ | refine zF rfl (by assumption) ?_ | refine zLen rfl (la _) ?_ | refine zLen rfl (lb _) ?_ | refine zLen rfl (lc _) ?_ | refine zIdx rfl rfl ha1 ?_ | refine zIdx rfl rfl ha2 ?_ | refine zIdx rfl rfl ha3 ?_ | refine zFld (f := 0) rfl O_api_Ins_Op ?_ | refine zFld (f := 1) rfl O_api_Ins_R ?_ | refine zFld (f := 2) rfl O_api_Ins_A ?_ | refine zLd rfl hl1 ?_ | refine zLd rfl hl2 ?_ | refine zLd rfl hl3 ?_ | refine zLd rfl hl4 ?_ | refine zLd rfl hl5 ?_ | refine zLen rfl (hv1.len E_s_int) ?_ | refine zLen rfl (hwo.len E_s_api_Ins) ?_)
        refine WL.op (op_buildSlice rfl E_s_int E_int (by decide) fill22) ?_
        refine WL.op (m1 rfl rfl) ?_
        (repeat first | refine zSeq ?_ | refine zReg ?_ | refine zBlk ?_ | refine zSkp ?_ | refine zExt ?_ | refine zNil rfl ?_ | refine zGet rfl ?_ | refine zOn rfl rfl ?_ | refine zOff rfl rfl ?_ | refine zU rfl ?_ | refine zOn rfl (by assumption) ?_ | refine zOff rfl (by assumption) ?_ | refine zMov rfl ?_ | refine zAsg rfl ?_ | refine zXtr rfl ?_ | refine zPT rfl rfl rfl ?_ | refine zPF rfl rfl rfl ?_ | refine zPT rfl (by assumption) rfl ?_ | refine zPF rfl (by assumption) rfl ?_ | refine zLss rfl rfl ?_ | refine zLeq rfl rfl ?_ | refine zGtr rfl rfl ?_ | refine zGeq rfl rfl ?_ | refine zEql rfl rfl ?_ | refine zNeq rfl rfl ?_ | refine zAdd rfl rfl (by omega) ?_ | refine zSub rfl rfl (by omega) ?_ | refine zLenS rfl E_string ?_ | refine zNot rfl ?_ | refine zEqS rfl rfl ?_ | refine zNeS rfl rfl ?_ | refine zT rfl rfl ?_ | refine zF rfl rfl ?_ | refine zT rfl (by assumption) ?_ | refine zF rfl (by assumption) ?_ | refine zLen rfl (la _) ?_ | refine zLen rfl (lb _) ?_ | refine zLen rfl (lc _) ?_ | refine zIdx rfl rfl ha1 ?_ | refine zIdx rfl rfl ha2 ?_ | refine zIdx rfl rfl ha3 ?_ | refine zFld (f := 0) rfl O_api_Ins_Op ?_ | refine zFld (f := 1) rfl O_api_Ins_R ?_ | refine zFld (f := 2) rfl O_api_Ins_A ?_ | refine zLd rfl hl1 ?_ | refine zLd rfl hl2 ?_ | refine zLd rfl hl3 ?_ | refine zLd rfl hl4 ?_ | refine zLd rfl hl5 ?_ | refine zLen rfl (hv1.len E_s_int) ?_ | refine zLen rfl (hwo.len E_s_api_Ins) ?_)
        refine ⟨(i + 1, l ++ [(g, g)], (vg', og'), (vs', os')), ⟨m3, hG.snoc ra (.inl rfl) ht, by simp; omega, by simpa using m2, h1⟩, by simp only; omega, rfl, rfl, rfl, rfl, rfl, ?_, rfl, trivial⟩
        simp only
        rw [List.filter_append]
        simp
        rfl
      · have ra2 : 20 ≤ 20 + b[i].tmod 20 ∧ 20 + b[i].tmod 20 < 40 := by omega
        have hcnt : ((l.filter fun m => !(m.1 == m.2)).length : Int) ≤ 60 := by have := List.length_filter_le (fun m : Mv => !(m.1 == m.2)) l; omega
        have fin : ∀ vs' os' Hf, Tr Hf H.next (l.map (·.1) ++ [g]) vg' og' (l.map (·.2) ++ [20 + b[i].tmod 20]) vs' os' (.slice none 0 0) [] none → Tr Hf H.next ((l ++ [(g, 20 + b[i].tmod 20)]).map (·.1)) vg' og' ((l ++ [(g, 20 + b[i].tmod 20)]).map (·.2)) vs' os' (.slice none 0 0) [] none := fun vs' os' Hf h => by simpa using h
        have hne : (g == 20 + b[i].tmod 20) = false := by rw [beq_eq_false_iff_ne]; omega
        have hmv : ((l ++ [(g, 20 + b[i].tmod 20)]).filter fun m => !(m.1 == m.2)).length = (l.filter fun m => !(m.1 == m.2)).length + 1 := by
          rw [List.filter_append, List.filter_cons]
          simp only [hne, Bool.not_false, if_true, List.filter_nil, List.length_append, List.length_cons, List.length_nil]
        obtain ⟨vs', Hf, os', m1, m2, m3⟩ := k2.appS k3 (Nat.le_refl _) (20 + b[i].tmod 20) hb2
        obtain ⟨b2, o2, ha2, hl2⟩ := ix_u8 (ib.fr k3) h2
        rcases Nat.lt_or_ge i ow.length with h3 | h3
        · have g3 : decide ((i : Int) < ow.length) = true := decide_eq_true (by omega)
          obtain ⟨b3, o3, ha3, hl3⟩ := ix_bo (ic.fr k3) h3
          have e3 : ow[i] = false := by cases e : ow[i] with
            | false => rfl
            | true => exact absurd ⟨h3, e⟩ hno
          rw [e3] at hl3
          (repeat first | refine zSeq ?_ | refine zReg ?_ | refine zBlk ?_ | refine zSkp ?_ | refine zExt ?_ | refine zNil rfl ?_ | refine zGet rfl ?_ | refine zOn rfl rfl ?_ | refine zOff rfl rfl ?_ | refine zU rfl ?_ | refine zOn rfl (by assumption) ?_ | refine zOff rfl (by assumption) ?_ | refine zMov rfl ?_ | refine zAsg rfl ?_ | refine zXtr rfl ?_ | refine zPT rfl rfl rfl ?_ | refine zPF rfl rfl rfl ?_ | refine zPT rfl (by assumption) rfl ?_ | refine zPF rfl (by assumption) rfl ?_ | refine zLss rfl rfl ?_ | refine zLeq rfl rfl ?_ | refine zGtr rfl rfl ?_ | refine zGeq rfl rfl ?_ | refine zEql rfl rfl ?_ | refine zNeq rfl rfl ?_ | refine zAdd rfl rfl (by omega) ?_ | refine zSub rfl rfl (by omega) ?_ | refine zLenS rfl E_string ?_ | refine zNot rfl ?_ | refine zEqS rfl rfl ?_ | refine zNeS rfl rfl ?_ | refine zT rfl rfl ?_ | refine zF rfl rfl ?_ | refine zT rfl (by assumption) ?_ | refine zF rfl (by assumption) ?_ | refine zLen rfl (la _) ?_ | refine zLen rfl (lb _) ?_ | refine zLen rfl (lc _) ?_ | refine zIdx rfl rfl ha1 ?_ | refine zIdx rfl rfl ha2 ?_ | refine zIdx rfl rfl ha3 ?_ | refine zFld (f := 0) rfl O_api_Ins_Op ?_ | refine zFld (f := 1) rfl O_api_Ins_R ?_ | refine zFld (f := 2) rfl O_api_Ins_A ?_ | refine zLd rfl hl1 ?_ | refine zLd rfl hl2 ?_ | refine zLd rfl hl3 ?_ | refine zLd rfl hl4 ?_ | refine zLd rfl hl5 ?_ | refine zLen rfl (hv1.len E_s_int) ?_ | refine zLen rfl (hwo.len E_s_api_Ins) ?_)
          refine WL.op (op_int rfl rfl (aInt_rem _ _ (by decide))) ?_
          refine WL.op (op_conv und5 und3 rfl (m := b[i].tmod 20) (wrap_i64 (by omega) (by omega))) ?_
          (repeat first | refine zSeq ?_ | refine zReg ?_ | refine zBlk ?_ | refine zSkp ?_ | refine zExt ?_ | refine zNil rfl ?_ | refine zGet rfl ?_ | refine zOn rfl rfl ?_ | refine zOff rfl rfl ?_ | refine zU rfl ?_ | refine zOn rfl (by assumption) ?_ | refine zOff rfl (by assumption) ?_ | refine zMov rfl ?_ | refine zAsg rfl ?_ | refine zXtr rfl ?_ | refine zPT rfl rfl rfl ?_ | refine zPF rfl rfl rfl ?_ | refine zPT rfl (by assumption) rfl ?_ | refine zPF rfl (by assumption) rfl ?_ | refine zLss rfl rfl ?_ | refine zLeq rfl rfl ?_ | refine zGtr rfl rfl ?_ | refine zGeq rfl rfl ?_ | refine zEql rfl rfl ?_ | refine zNeq rfl rfl ?_ | refine zAdd rfl rfl (by omega) ?_ | refine zSub rfl rfl (by omega) ?_ | refine zLenS rfl E_string ?_ | refine zNot rfl ?_ | refine zEqS rfl rfl ?_ | refine zNeS rfl rfl ?_ | refine zT rfl rfl ?_ | refine zF rfl rfl ?_ | refine zT rfl (by assumption) ?_ | refine zF rfl (by assumption) ?_ | refine zLen rfl (la _) ?_ | refine zLen rfl (lb _) ?_ | refine zLen rfl (lc _) ?_ | refine zIdx rfl rfl ha1 ?_ | refine zIdx rfl rfl ha2 ?_ | refine zIdx rfl rfl ha3 ?_ | refine zFld (f := 0) rfl O_api_Ins_Op ?_ | refine zFld (f := 1) rfl O_api_Ins_R ?_ | refine zFld (f := 2) rfl O_api_Ins_A ?_ | refine zLd rfl hl1 ?_ | refine zLd rfl hl2 ?_ | refine zLd rfl hl3 ?_ | refine zLd rfl hl4 ?_ | refine zLd rfl hl5 ?_ | refine zLen rfl (hv1.len E_s_int) ?_ | refine zLen rfl (hwo.len E_s_api_Ins) ?_)
          refine WL.op (op_buildSlice rfl E_s_int E_int (by decide) fill22) ?_
          refine WL.op (m1 rfl rfl) ?_
          (repeat first | refine zSeq ?_ | refine zReg ?_ | refine zBlk ?_ | refine zSkp ?_ | refine zExt ?_ | refine zNil rfl ?_ | refine zGet rfl ?_ | refine zOn rfl rfl ?_ | refine zOff rfl rfl ?_ | refine zU rfl ?_ | refine zOn rfl (by assumption) ?_ | refine zOff rfl (by assumption) ?_ | refine zMov rfl ?_ | refine zAsg rfl ?_ | refine zXtr rfl ?_ | refine zPT rfl rfl rfl ?_ | refine zPF rfl rfl rfl ?_ | refine zPT rfl (by assumption) rfl ?_ | refine zPF rfl (by assumption) rfl ?_ | refine zLss rfl rfl ?_ | refine zLeq rfl rfl ?_ | refine zGtr rfl rfl ?_ | refine zGeq rfl rfl ?_ | refine zEql rfl rfl ?_ | refine zNeq rfl rfl ?_ | refine zAdd rfl rfl (by omega) ?_ | refine zSub rfl rfl (by omega) ?_ | refine zLenS rfl E_string ?_ | refine zNot rfl ?_ | refine zEqS rfl rfl ?_ | refine zNeS rfl rfl ?_ | refine zT rfl rfl ?_ | refine zF rfl rfl ?_ | refine zT rfl (by assumption) ?_ | refine zF rfl (by assumption) ?_ | refine zLen rfl (la _) ?_ | refine zLen rfl (lb _) ?_ | refine zLen rfl (lc _) ?_ | refine zIdx rfl rfl ha1 ?_ | refine zIdx rfl rfl ha2 ?_ | refine zIdx rfl rfl ha3 ?_ | refine zFld (f := 0) rfl O_api_Ins_Op ?_ | refine zFld (f := 1) rfl O_api_Ins_R ?_ | refine zFld (f := 2) rfl O_api_Ins_A ?_ | refine zLd rfl hl1 ?_ | refine zLd rfl hl2 ?_ | refine zLd rfl hl3 ?_ | refine zLd rfl hl4 ?_ | refine zLd rfl hl5 ?_ | refine zLen rfl (hv1.len E_s_int) ?_ | refine zLen rfl (hwo.len E_s_api_Ins) ?_)
          exact ⟨(i + 1, l ++ [(g, 20 + b[i].tmod 20)], (vg', og'), (vs', os')), ⟨m3, hG.snoc ra (.inr ra2) ht, by simp; omega, fin _ _ _ m2, h1⟩, by simp only; omega, rfl, rfl, rfl, rfl, rfl, by simp only; rw [hmv]; rfl, rfl, trivial⟩
        · have g3 : decide ((i : Int) < ow.length) = false := decide_eq_false (by omega)
          (repeat first | refine zSeq ?_ | refine zReg ?_ | refine zBlk ?_ | refine zSkp ?_ | refine zExt ?_ | refine zNil rfl ?_ | refine zGet rfl ?_ | refine zOn rfl rfl ?_ | refine zOff rfl rfl ?_ | refine zU rfl ?_ | refine zOn rfl (by assumption) ?_ | refine zOff rfl (by assumption) ?_ | refine zMov rfl ?_ | refine zAsg rfl ?_ | refine zXtr rfl ?_ | refine zPT rfl rfl rfl ?_ | refine zPF rfl rfl rfl ?_ | refine zPT rfl (by assumption) rfl ?_ | refine zPF rfl (by assumption) rfl ?_ | refine zLss rfl rfl ?_ | refine zLeq rfl rfl ?_ | refine zGtr rfl rfl ?_ | refine zGeq rfl rfl ?_ | refine zEql rfl rfl ?_ | refine zNeq rfl rfl ?_ | refine zAdd rfl rfl (by omega) ?_ | refine zSub rfl rfl (by omega) ?_ | refine zLenS rfl E_string ?_ | refine zNot rfl ?_ | refine zEqS rfl rfl ?_ | refine zNeS rfl rfl ?_ | refine zT rfl rfl ?_ | refine zF rfl rfl ?_ | refine zT rfl (by assumption) ?_ | refine zF rfl (by assumption) ?_ | refine zLen rfl (la _) ?_ | refine zLen rfl (lb _) ?_ | refine zLen rfl (lc _) ?_ | refine zIdx rfl rfl ha1 ?_ | refine zIdx rfl rfl ha2 ?_ | refine zIdx rfl rfl ha3 ?_ | refine zFld (f := 0) rfl O_api_Ins_Op ?_ | refine zFld (f := 1) rfl O_api_Ins_R ?_ | refine zFld (f := 2) rfl O_api_Ins_A ?_ | refine zLd rfl hl1 ?_ | refine zLd rfl hl2 ?_ | refine zLd rfl hl3 ?_ | refine zLd rfl hl4 ?_ | refine zLd rfl hl5 ?_ | refine zLen rfl (hv1.len E_s_int) ?_ | refine zLen rfl (hwo.len E_s_api_Ins) ?_)
          refine WL.op (op_int rfl rfl (aInt_rem _ _ (by decide))) ?_
          refine WL.op (op_conv und5 und3 rfl (m := b[i].tmod 20) (wrap_i64 (by omega) (by omega))) ?_
          (repeat first | refine zSeq ?_ | refine zReg ?_ | refine zBlk ?_ | refine zSkp ?_ | refine zExt ?_ | refine zNil rfl ?_ | refine zGet rfl ?_ | refine zOn rfl rfl ?_ | refine zOff rfl rfl ?_ | refine zU rfl ?_ | refine zOn rfl (by assumption) ?_ | refine zOff rfl (by assumption) ?_ | refine zMov rfl ?_ | refine zAsg rfl ?_ | refine zXtr rfl ?_ | refine zPT rfl rfl rfl ?_ | refine zPF rfl rfl rfl ?_ | refine zPT rfl (by assumption) rfl ?_ | refine zPF rfl (by assumption) rfl ?_ | refine zLss rfl rfl ?_ | refine zLeq rfl rfl ?_ | refine zGtr rfl rfl ?_ | refine zGeq rfl rfl ?_ | refine zEql rfl rfl ?_ | refine zNeq rfl rfl ?_ | refine zAdd rfl rfl (by omega) ?_ | refine zSub rfl rfl (by omega) ?_ | refine zLenS rfl E_string ?_ | refine zNot rfl ?_ | refine zEqS rfl rfl ?_ | refine zNeS rfl rfl ?_ | refine zT rfl rfl ?_ | refine zF rfl rfl ?_ | refine zT rfl (by assumption) ?_ | refine zF rfl (by assumption) ?_ | refine zLen rfl (la _) ?_ | refine zLen rfl (lb _) ?_ | refine zLen rfl (lc _) ?_ | refine zIdx rfl rfl ha1 ?_ | refine zIdx rfl rfl ha2 ?_ | refine zIdx rfl rfl ha3 ?_ | refine zFld (f := 0) rfl O_api_Ins_Op ?_ | refine zFld (f := 1) rfl O_api_Ins_R ?_ | refine zFld (f := 2) rfl O_api_Ins_A ?_ | refine zLd rfl hl1 ?_ | refine zLd rfl hl2 ?_ | refine zLd rfl hl3 ?_ | refine zLd rfl hl4 ?_ | refine zLd rfl hl5 ?_ | refine zLen rfl (hv1.len E_s_int) ?_ | refine zLen rfl (hwo.len E_s_api_Ins) ?_)
          refine WL.op (op_buildSlice rfl E_s_int E_int (by decide) fill22) ?_
          refine WL.op (m1 rfl rfl) ?_
          (repeat first | refine zSeq ?_ | refine zReg ?_ | refine zBlk ?_ | refine zSkp ?_ | refine zExt ?_ | refine zNil rfl ?_ | refine zGet rfl ?_ | refine zOn rfl rfl ?_ | refine zOff rfl rfl ?_ | refine zU rfl ?_ | refine zOn rfl (by assumption) ?_ | refine zOff rfl (by assumption) ?_ | refine zMov rfl ?_ | refine zAsg rfl ?_ | refine zXtr rfl ?_ | refine zPT rfl rfl rfl ?_ | refine zPF rfl rfl rfl ?_ | refine zPT rfl (by assumption) rfl ?_ | refine zPF rfl (by assumption) rfl ?_ | refine zLss rfl rfl ?_ | refine zLeq rfl rfl ?_ | refine zGtr rfl rfl ?_ | refine zGeq rfl rfl ?_ | refine zEql rfl rfl ?_ | refine zNeq rfl rfl ?_ | refine zAdd rfl rfl (by omega) ?_ | refine zSub rfl rfl (by omega) ?_ | refine zLenS rfl E_string ?_ | refine zNot rfl ?_ | refine zEqS rfl rfl ?_ | refine zNeS rfl rfl ?_ | refine zT rfl rfl ?_ | refine zF rfl rfl ?_ | refine zT rfl (by assumption) ?_ | refine zF rfl (by assumption) ?_ | refine zLen rfl (la _) ?_ | refine zLen rfl (lb _) ?_ | refine zLen rfl (lc _) ?_ | refine zIdx rfl rfl ha1 ?_ | refine zIdx rfl rfl ha2 ?_ | refine zIdx rfl rfl ha3 ?_ | refine zFld (f := 0) rfl O_api_Ins_Op ?_ | refine zFld (f := 1) rfl O_api_Ins_R ?_ | refine zFld (f := 2) rfl O_api_Ins_A ?_ | refine zLd rfl hl1 ?_ | refine zLd rfl hl2 ?_ | refine zLd rfl hl3 ?_ | refine zLd rfl hl4 ?_ | refine zLd rfl hl5 ?_ | refine zLen rfl (hv1.len E_s_int) ?_ | refine zLen rfl (hwo.len E_s_api_Ins) ?_)
          exact ⟨(i + 1, l ++ [(g, 20 + b[i].tmod 20)], (vg', og'), (vs', os')), ⟨m3, hG.snoc ra (.inr ra2) ht, by simp; omega, fin _ _ _ m2, h1⟩, by simp only; omega, rfl, rfl, rfl, rfl, rfl, by simp only; rw [hmv]; rfl, rfl, trivial⟩
    rintro ⟨l, ⟨vg, og⟩, ⟨vs, os⟩⟩ Hd ⟨hfd, hG, hll, htr⟩
    simp only at hfd hG hll htr ⊢
    obtain ⟨v, H3, hc3, hf3, hr3⟩ := row_c (H := Hd) hO htr.g.sl htr.s.sl (by rw [List.length_map]; exact hll) 50
    rcases hr3 with ⟨hok, w, out, oo, n2, rfl, hR, hw, hn2, hol⟩ | ⟨hbad, _⟩
    case inr => rw [hG.ok] at hbad; cases hbad
    have ho := hG.rows hR
    subst ho
    have hwo := hw.sl
    have htr3 := htr.fr hf3
    have hv1 := htr3.g.sl
    have c1 : (((l.filter fun m => !(m.1 == m.2)).length : Int) != (l.filter fun m => !(m.1 == m.2)).length) = false := by simp
    (repeat first | refine zSeq ?_ | refine zReg ?_ | refine zBlk ?_ | refine zSkp ?_ | refine zExt ?_ | refine zNil rfl ?_ | refine zGet rfl ?_ | refine zOn rfl rfl ?_ | refine zOff rfl rfl ?_ | refine zU rfl ?_ | refine zOn rfl (by assumption) ?_ | refine zOff rfl (by assumption) ?_ | refine zMov rfl ?_ | refine zAsg rfl ?_ | refine zXtr rfl ?_ | refine zPT rfl rfl rfl ?_ | refine zPF rfl rfl rfl ?_ | refine zPT rfl (by assumption) rfl ?_ | refine zPF rfl (by assumption) rfl ?_ | refine zLss rfl rfl ?_ | refine zLeq rfl rfl ?_ | refine zGtr rfl rfl ?_ | refine zGeq rfl rfl ?_ | refine zEql rfl rfl ?_ | refine zNeq rfl rfl ?_ | refine zAdd rfl rfl (by omega) ?_ | refine zSub rfl rfl (by omega) ?_ | refine zLenS rfl E_string ?_ | refine zNot rfl ?_ | refine zEqS rfl rfl ?_ | refine zNeS rfl rfl ?_ | refine zT rfl rfl ?_ | refine zF rfl rfl ?_ | refine zT rfl (by assumption) ?_ | refine zF rfl (by assumption) ?_ | refine zLen rfl (la _) ?_ | refine zLen rfl (lb _) ?_ | refine zLen rfl (lc _) ?_ | refine zIdx rfl rfl ha1 ?_ | refine zIdx rfl rfl ha2 ?_ | refine zIdx rfl rfl ha3 ?_ | refine zFld (f := 0) rfl O_api_Ins_Op ?_ | refine zFld (f := 1) rfl O_api_Ins_R ?_ | refine zFld (f := 2) rfl O_api_Ins_A ?_ | refine zLd rfl hl1 ?_ | refine zLd rfl hl2 ?_ | refine zLd rfl hl3 ?_ | refine zLd rfl hl4 ?_ | refine zLd rfl hl5 ?_ | refine zLen rfl (hv1.len E_s_int) ?_ | refine zLen rfl (hwo.len E_s_api_Ins) ?_)
    refine WL.call rfl rfl is_phis_Row hc3 ?_
    (repeat first | refine zSeq ?_ | refine zReg ?_ | refine zBlk ?_ | refine zSkp ?_ | refine zExt ?_ | refine zNil rfl ?_ | refine zGet rfl ?_ | refine zOn rfl rfl ?_ | refine zOff rfl rfl ?_ | refine zU rfl ?_ | refine zOn rfl (by assumption) ?_ | refine zOff rfl (by assumption) ?_ | refine zMov rfl ?_ | refine zAsg rfl ?_ | refine zXtr rfl ?_ | refine zPT rfl rfl rfl ?_ | refine zPF rfl rfl rfl ?_ | refine zPT rfl (by assumption) rfl ?_ | refine zPF rfl (by assumption) rfl ?_ | refine zLss rfl rfl ?_ | refine zLeq rfl rfl ?_ | refine zGtr rfl rfl ?_ | refine zGeq rfl rfl ?_ | refine zEql rfl rfl ?_ | refine zNeq rfl rfl ?_ | refine zAdd rfl rfl (by omega) ?_ | refine zSub rfl rfl (by omega) ?_ | refine zLenS rfl E_string ?_ | refine zNot rfl ?_ | refine zEqS rfl rfl ?_ | refine zNeS rfl rfl ?_ | refine zT rfl rfl ?_ | refine zF rfl rfl ?_ | refine zT rfl (by assumption) ?_ | refine zF rfl (by assumption) ?_ | refine zLen rfl (la _) ?_ | refine zLen rfl (lb _) ?_ | refine zLen rfl (lc _) ?_ | refine zIdx rfl rfl ha1 ?_ | refine zIdx rfl rfl ha2 ?_ | refine zIdx rfl rfl ha3 ?_ | refine zFld (f := 0) rfl O_api_Ins_Op ?_ | refine zFld (f := 1) rfl O_api_Ins_R ?_ | refine zFld (f := 2) rfl O_api_Ins_A ?_ | refine zLd rfl hl1 ?_ | refine zLd rfl hl2 ?_ | refine zLd rfl hl3 ?_ | refine zLd rfl hl4 ?_ | refine zLd rfl hl5 ?_ | refine zLen rfl (hv1.len E_s_int) ?_ | refine zLen rfl (hwo.len E_s_api_Ins) ?_)
    refine WP.loopH (σ := Nat) (fun i => [(7, vg), (8, vs), (14, w), (16, .int .i64 (((l.take i).filter fun m => !(m.1 == m.2)).length : Nat)), (17, .int .i64 i)]) (fun i Hy => Hy = H3 ∧ i ≤ l.length) (fun i => l.length - i) 0 ⟨rfl, Nat.zero_le _⟩ ⟨rfl, rfl, rfl, rfl, rfl, trivial⟩ ?_
    rintro i Hy ⟨hy, hi⟩
    replace hy := hy.symm
    subst hy
    rcases Nat.lt_or_ge i l.length with h | h
    case inr =>
      have g1 : decide ((i : Int) < (l.map (·.1)).length) = false := decide_eq_false (by rw [List.length_map]; omega)
      (repeat first | refine zSeq ?_ | refine zReg ?_ | refine zBlk ?_ | refine zSkp ?_ | refine zExt ?_ | refine zNil rfl ?_ | refine zGet rfl ?_ | refine zOn rfl rfl ?_ | refine zOff rfl rfl ?_ | refine zU rfl ?_ | refine zOn rfl (by assumption) ?_ | refine zOff rfl (by assumption) ?_ | refine zMov rfl ?_ | refine zAsg rfl ?_ | refine zXtr rfl ?_ | refine zPT rfl rfl rfl ?_ | refine zPF rfl rfl rfl ?_ | refine zPT rfl (by assumption) rfl ?_ | refine zPF rfl (by assumption) rfl ?_ | refine zLss rfl rfl ?_ | refine zLeq rfl rfl ?_ | refine zGtr rfl rfl ?_ | refine zGeq rfl rfl ?_ | refine zEql rfl rfl ?_ | refine zNeq rfl rfl ?_ | refine zAdd rfl rfl (by omega) ?_ | refine zSub rfl rfl (by omega) ?_ | refine zLenS rfl E_string ?_ | refine zNot rfl ?_ | refine zEqS rfl rfl ?_ | refine zNeS rfl rfl ?_ | refine zT rfl rfl ?_ | refine zF rfl rfl ?_ | refine zT rfl (by assumption) ?_ | refine zF rfl (by assumption) ?_ | refine zLen rfl (la _) ?_ | refine zLen rfl (lb _) ?_ | refine zLen rfl (lc _) ?_ | refine zIdx rfl rfl ha1 ?_ | refine zIdx rfl rfl ha2 ?_ | refine zIdx rfl rfl ha3 ?_ | refine zFld (f := 0) rfl O_api_Ins_Op ?_ | refine zFld (f := 1) rfl O_api_Ins_R ?_ | refine zFld (f := 2) rfl O_api_Ins_A ?_ | refine zLd rfl hl1 ?_ | refine zLd rfl hl2 ?_ | refine zLd rfl hl3 ?_ | refine zLd rfl hl4 ?_ | refine zLd rfl hl5 ?_ | refine zLen rfl (hv1.len E_s_int) ?_ | refine zLen rfl (hwo.len E_s_api_Ins) ?_)
      exact WP.ret ⟨.inr rfl, _, rfl, rfl⟩
    have g1 : decide ((i : Int) < (l.map (·.1)).length) = true := decide_eq_true (by rw [List.length_map]; omega)
    obtain ⟨p1, q1, ha1, hl1⟩ := sl_int hv1 (i := i) (by rw [List.length_map]; exact h)
    obtain ⟨p2, q2, ha2, hl2⟩ := sl_int htr3.s.sl (i := i) (by rw [List.length_map]; exact h)
    rw [List.getElem_map] at hl1 hl2
    have hft := filter_take (p := fun m => !(m.1 == m.2)) h
    have hcnt : (((l.take i).filter fun m => !(m.1 == m.2)).length : Int) ≤ 60 := by
      have := List.length_filter_le (fun m : Mv => !(m.1 == m.2)) (l.take i)
      rw [List.length_take] at this; omega
    cases e : l[i].1 == l[i].2
    · obtain ⟨h', hat⟩ := filt_at (p := fun m => !(m.1 == m.2)) h (by rw [e]; rfl)
      obtain ⟨p3, q3, ha3, hl3, hl4, hl5, _⟩ := sl_ins hwo h'
      rw [hat] at hl4 hl5
      have c2 : (l[i].1 != l[i].1) = false := by simp
      have c3 : (l[i].2 != l[i].2) = false := by simp
      rw [e] at hft
      (repeat first | refine zSeq ?_ | refine zReg ?_ | refine zBlk ?_ | refine zSkp ?_ | refine zExt ?_ | refine zNil rfl ?_ | refine zGet rfl ?_ | refine zOn rfl rfl ?_ | refine zOff rfl rfl ?_ | refine zU rfl ?_ | refine zOn rfl (by assumption) ?_ | refine zOff rfl (by assumption) ?_ | refine zMov rfl ?_ | refine zAsg rfl ?_ | refine zXtr rfl ?_ | refine zPT rfl rfl rfl ?_ | refine zPF rfl rfl rfl ?_ | refine zPT rfl (by assumption) rfl ?_ | refine zPF rfl (by assumption) rfl ?_ | refine zLss rfl rfl ?_ | refine zLeq rfl rfl ?_ | refine zGtr rfl rfl ?_ | refine zGeq rfl rfl ?_ | refine zEql rfl rfl ?_ | refine zNeq rfl rfl ?_ | refine zAdd rfl rfl (by omega) ?_ | refine zSub rfl rfl (by omega) ?_ | refine zLenS rfl E_string ?_ | refine zNot rfl ?_ | refine zEqS rfl rfl ?_ | refine zNeS rfl rfl ?_ | refine zT rfl rfl ?_ | refine zF rfl rfl ?_ | refine zT rfl (by assumption) ?_ | refine zF rfl (by assumption) ?_ | refine zLen rfl (la _) ?_ | refine zLen rfl (lb _) ?_ | refine zLen rfl (lc _) ?_ | refine zIdx rfl rfl ha1 ?_ | refine zIdx rfl rfl ha2 ?_ | refine zIdx rfl rfl ha3 ?_ | refine zFld (f := 0) rfl O_api_Ins_Op ?_ | refine zFld (f := 1) rfl O_api_Ins_R ?_ | refine zFld (f := 2) rfl O_api_Ins_A ?_ | refine zLd rfl hl1 ?_ | refine zLd rfl hl2 ?_ | refine zLd rfl hl3 ?_ | refine zLd rfl hl4 ?_ | refine zLd rfl hl5 ?_ | refine zLen rfl (hv1.len E_s_int) ?_ | refine zLen rfl (hwo.len E_s_api_Ins) ?_)
      refine ⟨i + 1, ⟨rfl, h⟩, by omega, rfl, rfl, rfl, ?_, rfl, trivial⟩
      rw [hft, List.length_append]; rfl
    · rw [e] at hft
      (repeat first | refine zSeq ?_ | refine zReg ?_ | refine zBlk ?_ | refine zSkp ?_ | refine zExt ?_ | refine zNil rfl ?_ | refine zGet rfl ?_ | refine zOn rfl rfl ?_ | refine zOff rfl rfl ?_ | refine zU rfl ?_ | refine zOn rfl (by assumption) ?_ | refine zOff rfl (by assumption) ?_ | refine zMov rfl ?_ | refine zAsg rfl ?_ | refine zXtr rfl ?_ | refine zPT rfl rfl rfl ?_ | refine zPF rfl rfl rfl ?_ | refine zPT rfl (by assumption) rfl ?_ | refine zPF rfl (by assumption) rfl ?_ | refine zLss rfl rfl ?_ | refine zLeq rfl rfl ?_ | refine zGtr rfl rfl ?_ | refine zGeq rfl rfl ?_ | refine zEql rfl rfl ?_ | refine zNeq rfl rfl ?_ | refine zAdd rfl rfl (by omega) ?_ | refine zSub rfl rfl (by omega) ?_ | refine zLenS rfl E_string ?_ | refine zNot rfl ?_ | refine zEqS rfl rfl ?_ | refine zNeS rfl rfl ?_ | refine zT rfl rfl ?_ | refine zF rfl rfl ?_ | refine zT rfl (by assumption) ?_ | refine zF rfl (by assumption) ?_ | refine zLen rfl (la _) ?_ | refine zLen rfl (lb _) ?_ | refine zLen rfl (lc _) ?_ | refine zIdx rfl rfl ha1 ?_ | refine zIdx rfl rfl ha2 ?_ | refine zIdx rfl rfl ha3 ?_ | refine zFld (f := 0) rfl O_api_Ins_Op ?_ | refine zFld (f := 1) rfl O_api_Ins_R ?_ | refine zFld (f := 2) rfl O_api_Ins_A ?_ | refine zLd rfl hl1 ?_ | refine zLd rfl hl2 ?_ | refine zLd rfl hl3 ?_ | refine zLd rfl hl4 ?_ | refine zLd rfl hl5 ?_ | refine zLen rfl (hv1.len E_s_int) ?_ | refine zLen rfl (hwo.len E_s_api_Ins) ?_)
      refine ⟨i + 1, ⟨rfl, h⟩, by omega, rfl, rfl, rfl, ?_, rfl, trivial⟩
      rw [hft]; simp
      rfl
  obtain ⟨u, H', h, rfl⟩ := key
  exact ⟨H', h⟩
end Go.Proofs.Ytalhmpcllfhllaa.U

/-
  PhisApart: what its row asks, and its card.
-/
namespace Go.Proofs.Ytalhmpcllfhllaa.U.PhisApart
open Go Go.Ev Go.Proofs.Ytalhmpcllfhllaa.U
noncomputable def rows : List AObj := []
theorem rowsOk : rows.all Go.Ev.rowOk = true := by kernel_rfl
theorem names : (Try.prog.funcs.toList.all fun fn => !(fn.name == "runtime.NumGoroutine")) = true := by kernel_rfl
theorem mixed : Try.prog.follows .mixedOrders = true := by kernel_rfl
theorem laidOut : laidOutB Try.prog = true := by kernel_rfl
theorem run : runK (envOf Try.prog rows.length) rows 1000 50 6 = some (.bool true) := by kernel_rfl
noncomputable def orc : Orc := orcOne rows 6 (.bool true)
theorem orc_ok : OrcOk (envOf Try.prog rows.length) orc := orcOne_ok fun _ hk => closed_sound names mixed rowsOk rfl run hk
theorem ua33 : Try.prog.underlying 33 = some (.slice 5) := by kernel_rfl
theorem ua35 : Try.prog.underlying 35 = some (.slice 4) := by kernel_rfl
theorem ua5 : Try.prog.underlying 5 = some (.int .u8) := by kernel_rfl
theorem ua4 : Try.prog.underlying 4 = some .bool := by kernel_rfl
abbrev S := AOne (RSlice 1 (RInt .u8)) (AOne (RSlice 1 (RInt .u8)) (AOne (RSlice 1 RBool) AEnd))
theorem entS : EntA Try.prog S [33, 33, 35] := EntA.one ua33 rfl (Ent.slice ua33 (by kernel_rfl) (by decide) (Ent.int ua5) RInt.mono) (RSlice.mono (n := 1) (R := RInt .u8) RInt.mono) (EntA.one ua33 rfl (Ent.slice ua33 (by kernel_rfl) (by decide) (Ent.int ua5) RInt.mono) (RSlice.mono (n := 1) (R := RInt .u8) RInt.mono) (EntA.one ua35 rfl (Ent.slice ua35 (by kernel_rfl) (by decide) (Ent.bool ua4) RBool.mono) (RSlice.mono (n := 1) (R := RBool) RBool.mono) EntA.nil))
theorem law (H : AH) (avs : List Value) b (hk : Kro (startH rows) H) (hs : S H avs b) : ∃ H', Lc (envOf Try.prog rows.length) orc 5 avs H (.bool true) H' := by
  obtain ⟨va, r1, rfl, h1, vb, r2, rfl, h2, vc, r3, rfl, h3, rfl⟩ := hs
  have w1 : ∀ x ∈ _, (0 : Int) ≤ x := all_of (P := fun x : Int => 0 ≤ x) (fun _ _ x h => wf_u8 h.2) h1
  have w2 : ∀ x ∈ _, (0 : Int) ≤ x := all_of (P := fun x : Int => 0 ≤ x) (fun _ _ x h => wf_u8 h.2) h2
  obtain ⟨_, e1, la, ia⟩ := ix_of (c := fun x : Int => .int .u8 x) (fun _ _ _ h => h.1) E_s_uint8 E_uint8 rfl h1
  cases e1
  obtain ⟨_, e2, lb, ib⟩ := ix_of (c := fun x : Int => .int .u8 x) (fun _ _ _ h => h.1) E_s_uint8 E_uint8 rfl h2
  cases e2
  obtain ⟨_, e3, lc, ic⟩ := ix_of (c := fun x : Bool => .bool x) (fun _ _ _ h => h) E_s_bool E_bool rfl h3
  cases e3
  refine phisApart_c (O := orc) (H := H) (fun f vs H' hf => ?_) (fun H' hk' => ?_) la lb lc ia ib ic w1 w2
  · unfold orc orcOne; rw [if_neg (fun h => hf h.1)]
  · unfold orc orcOne; rw [if_pos ⟨rfl, rfl, hk.trans hk'⟩]
open Go.RowKit in
theorem rows_in {W : World} (h : laidMetH Try.prog Rows.phisApartRow.laid W) : ∀ g o, rows[g]? = some o → RowIn W g o := by
  intro g o hg
  simp [rows] at hg
open Go.RowKit Go.ChangeShapes in
theorem contract (H : Type) (enc : TypeId × Value → H) (W : World) (base : Nat) (args : Array Value) (ds gs : List (DataW H)) (before : List MemPlace)
    (hval : ∀ (j : Nat) t v, Try.f5.params[j]? = some t → args[j]? = some v → Value.okWide Try.prog W .any base t v)
    (hW : DataW.Whole enc Try.prog Try.f5.params.toList Rows.phisApartSpec.vars false W args.toList ds gs before) (hL : laidMetH Try.prog Rows.phisApartRow.laid W) :
    Calls Try.prog 5 args W fun e W' => ∃ v, e = .returned v ∧ Rows.phisApartSpec.post enc Try.prog Try.f5 false true false false W args v W' :=
  law_contract (S := S) (ts := [33, 33, 35]) (tb := 4) names mixed laidOut (rows_in hL) (by kernel_rfl) entS (by kernel_rfl) (by kernel_rfl) (by kernel_rfl) rfl
    (fun hg hd => by
      subst hg
      match ds, hd with
      | [d0, d1, d2], _ => rfl) hval hW orc_ok law
open Go.ChangeShapes Go.WideShapes Go.ChangeAt Go.RowKit
theorem own : ownKnob Try.prog.godebug = none := by kernel_rfl
noncomputable def laidWorld (os : Os) : World := World.holding Try.prog os ⟨#[], #[.slice none 0 0, .slice none 0 0, .slice none 0 0], []⟩
theorem laid_met (os : Os) : laidMet Try.prog Rows.phisApartRow.laid ((laidWorld os).forCall (fun _ _ => 0) ⟨#[], #[.slice none 0 0, .slice none 0 0, .slice none 0 0], []⟩).memory :=
  by first | exact laidMet_of_run' 8 (by kernel_rfl) (by kernel_rfl) | (intro x h; cases h) | (unfold laidMet; simp)
theorem reads (os : Os) {H : Type} (enc : TypeId × Value → H) : ∃ places, DataW.whole enc Try.prog ((laidWorld os).forCall (fun _ _ => 0) ⟨#[], #[.slice none 0 0, .slice none 0 0, .slice none 0 0], []⟩).memory Try.f5.params.toList Rows.phisApartSpec.vars false (#[.slice none 0 0, .slice none 0 0, .slice none 0 0] : Array Value).toList 8 = some ([.nil, .nil, .nil], [], places) :=
  ⟨[], by kernel_rfl⟩
set_option maxRecDepth 100000 in
theorem lifted (os : Os) (started : os.Started) (H : Type) (enc : TypeId × Value → H) (F : Stop.Interp) :
    ReturnsInHanded {} Try.checked os 5 .any ((OpenSpec.ofChange Rows.phisApartSpec).preRow enc Try.prog Try.f5 Rows.phisApartRow.domain false Rows.phisApartRow.laid) (((OpenSpec.ofChange Rows.phisApartSpec).at F).post enc Try.prog Try.f5 false true false false) := by
  obtain ⟨places, hx⟩ := reads os enc
  refine returnsInHanded_of_row (C := Try.checked) (s := OpenSpec.ofChange Rows.phisApartSpec) own started (by kernel_rfl) Try.func5
    (witness_row_at (enc := enc) (C := Try.checked) false (laidWorld os) #[.slice none 0 0, .slice none 0 0, .slice none 0 0] rfl (by kernel_rfl) (by kernel_rfl) (by kernel_rfl)
      (OpenSpec.preRow_of_cond 8 hx (by kernel_rfl) (fun k hk => by cases hk) (by kernel_rfl) (laid_met os))) ?_
  intro W base args ds gs before hval hW _ _ _ hL _ _
  exact contract H enc W base args ds gs before hval hW hL
theorem said : Rows.PhisApartSaid :=
  OpenClaim.holds_of_cond 5 Try.f5 rfl rfl rfl rfl rfl rfl rfl ⟨rfl, rfl, rfl, rfl, rfl⟩ rfl rfl rfl rfl rfl (by kernel_rfl) Try.func5 (by kernel_rfl)
    (of_decide_eq_true (by kernel_rfl)) (by unfold Func.isWrapper; first | (rw [if_pos (by decide +kernel)]; kernel_rfl) | (rw [if_neg (by decide +kernel)]; exact ⟨rfl, rfl⟩))
    (fun os started H enc _ F => by rw [OpenClaim.pre_eq_preRow]; exact lifted os started H enc F)
end Go.Proofs.Ytalhmpcllfhllaa.U.PhisApart

