/-
  The same instructions?
-/
import Derived.Test.YtfhmdhndmlinkaaDoorLaw3
import Derived.Test.YtfhmdhndmlinkaaDoorEv6
import Derived.Test.YtfhmdhndmlinkaaDoorRows
import Derived.ProofKit
import Derived.Test.YtfhmdhndmlinkaaDoorEv5
import Derived.Test.YtfhmdhndmlinkaaDoorCards
import Derived.Test.YtfhmdhndmlinkaaDoorTie
import Derived.WalkKit
import Derived.OpenShut
import Derived.Deep.DeepHandedRow
set_option linter.all false
namespace Go.Proofs.YtfhmdhndmlinkaaDoor.U
open Go Go.Ev
attribute [local irreducible] WL WP WH W
attribute [local irreducible] V
variable {O : Orc} {H : AH}
theorem ins_ne {x y : Ins} (h : x = y) : (x.op != y.op) = false ∧ (x.r != y.r) = false ∧ (x.a != y.a) = false ∧ (x.b != y.b) = false ∧ (x.n != y.n) = false ∧ ((x.args.length : Int) != y.args.length) = false ∧ x.args = y.args := by subst h; simp
theorem ins_eq {x y : Ins} (h1 : (x.op != y.op) = false) (h2 : (x.r != y.r) = false) (h3 : (x.a != y.a) = false) (h4 : (x.b != y.b) = false) (h5 : (x.n != y.n) = false) (h6 : x.args = y.args) : x = y := by
  cases x; cases y
  simp at *
  exact ⟨h1, h2, h3, h4, h5, h6⟩
set_option maxHeartbeats 4000000 in
theorem sameIns_c (hO : NoO O) {A A' : Av} {v v' : Value} {l l' : List Ins} (hc : Els 6 InsR A H v l) (hc' : Els 6 InsR A' H v' l') (hL : l.length ≤ 1000000) (hL' : l'.length ≤ 1000000) (ha : ∀ i ∈ l, i.args.length ≤ 1000000) :
    ∃ u H', Lc V O F_ref06_SameIns [v, v'] H u H' ∧ (u = .bool (decide (l = l')) ∧ H' = H) := by
  refine Lc.ref06_SameIns (R := fun u H' => u = .bool (decide (l = l')) ∧ H' = H) (hO _ _ _ (by decide) (by decide) (by decide) (by decide)) (Nat.le_of_ble_eq_true rfl) (by kernel_rfl) ?_
  unfold P_ref06_SameIns
  have hcl := hc
  by_cases hll : l.length = l'.length
  case neg =>
    have g0 : ((l.length : Int) != l'.length) = true := by simp; omega
    have hne : l ≠ l' := fun e => hll (by rw [e])
    (repeat first | refine zSeq ?_ | refine zReg ?_ | refine zNil rfl ?_ | refine zGet rfl ?_ | refine zAsg rfl ?_ | refine zNeq rfl rfl ?_ | refine zT rfl (by assumption) ?_ | refine zLen rfl (hc.len E_s_api_Ins) ?_ | refine zLen rfl (hc'.len E_s_api_Ins) ?_)
    exact WP.ret ⟨.inr rfl, _, rfl, by simp [hne, resOf], rfl⟩
  have g0 : ((l.length : Int) != l'.length) = false := by simp; omega
  (repeat first | refine zSeq ?_ | refine zReg ?_ | refine zBlk ?_ | refine zSkp ?_ | refine zNil rfl ?_ | refine zGet rfl ?_ | refine zAsg rfl ?_ | refine zNeq rfl rfl ?_ | refine zF rfl (by assumption) ?_ | refine zLen rfl (hc.len E_s_api_Ins) ?_ | refine zLen rfl (hc'.len E_s_api_Ins) ?_)
  refine WP.loopH (σ := Nat) (fun k => [(0, v), (1, v'), (5, .int .i64 k)]) (fun k Hc => Hc = H ∧ k ≤ l.length ∧ l.take k = l'.take k) (fun k => l.length - k) 0 ⟨rfl, Nat.zero_le _, rfl⟩ ⟨rfl, rfl, rfl, trivial⟩ ?_
  rintro k Hc ⟨rfl, hk, hpre⟩
  rcases Nat.lt_or_ge k l.length with h | h
  · have g1 : decide ((k : Int) < l.length) = true := decide_eq_true (by omega)
    have h' : k < l'.length := by omega
    obtain ⟨b, off, va, ia, io, ir, iA, iB, iN, iV, iW, ht⟩ := ins_at hc h
    obtain ⟨b', off', va', ia', io', ir', iA', iB', iN', iV', iW', ht'⟩ := ins_at hc' h'
    have hne : l[k] ≠ l'[k] → Value.bool false = .bool (decide (l = l')) := fun e => by
      have : l ≠ l' := fun e' => e (by subst e'; rfl)
      simp [this]
    have hla := ha l[k] (List.getElem_mem _)
    have hstep : l[k] = l'[k] → l.take (k + 1) = l'.take (k + 1) := fun e => by
      rw [List.take_succ_eq_append_getElem h, List.take_succ_eq_append_getElem h', hpre, e]
    generalize l[k] = x at *
    generalize l'[k] = y at *
    have hq := @ins_ne x y
    cases c1 : x.op != y.op
    case true =>
      (repeat first | refine zSeq ?_ | refine zReg ?_ | refine zBlk ?_ | refine zSkp ?_ | refine zNil rfl ?_ | refine zGet rfl ?_ | refine zOff rfl rfl ?_ | refine zOff rfl (by assumption) ?_ | refine zAsg rfl ?_ | refine zPT rfl rfl rfl ?_ | refine zPT rfl (by assumption) rfl ?_ | refine zLss rfl rfl ?_ | refine zNeq rfl rfl ?_ | refine zT rfl rfl ?_ | refine zT rfl (by assumption) ?_ | refine zFld (f := 0) rfl O_api_Ins_Op ?_ | refine zLen rfl (hc.len E_s_api_Ins) ?_ | refine zIdx rfl rfl ia ?_ | refine zLd (ty := 5) rfl io ?_ | refine zIdx rfl rfl ia' ?_ | refine zLd (ty := 5) rfl io' ?_)
      exact WP.ret ⟨.inr rfl, _, rfl, hne fun e => by simp [(hq e).1] at c1, rfl⟩
    cases c2 : x.r != y.r
    case true =>
      (repeat first | refine zSeq ?_ | refine zReg ?_ | refine zBlk ?_ | refine zSkp ?_ | refine zNil rfl ?_ | refine zGet rfl ?_ | refine zOff rfl rfl ?_ | refine zOn rfl (by assumption) ?_ | refine zOff rfl (by assumption) ?_ | refine zMov rfl ?_ | refine zAsg rfl ?_ | refine zPT rfl rfl rfl ?_ | refine zPT rfl (by assumption) rfl ?_ | refine zPF rfl (by assumption) rfl ?_ | refine zLss rfl rfl ?_ | refine zNeq rfl rfl ?_ | refine zT rfl rfl ?_ | refine zT rfl (by assumption) ?_ | refine zFld (f := 0) rfl O_api_Ins_Op ?_ | refine zFld (f := 1) rfl O_api_Ins_R ?_ | refine zLen rfl (hc.len E_s_api_Ins) ?_ | refine zIdx rfl rfl ia ?_ | refine zLd (ty := 5) rfl io ?_ | refine zLd (ty := 3) rfl ir ?_ | refine zIdx rfl rfl ia' ?_ | refine zLd (ty := 5) rfl io' ?_ | refine zLd (ty := 3) rfl ir' ?_)
      exact WP.ret ⟨.inr rfl, _, rfl, hne fun e => by simp [(hq e).2.1] at c2, rfl⟩
    cases c3 : x.a != y.a
    case true =>
      (repeat first | refine zSeq ?_ | refine zReg ?_ | refine zBlk ?_ | refine zSkp ?_ | refine zNil rfl ?_ | refine zGet rfl ?_ | refine zOff rfl rfl ?_ | refine zOn rfl (by assumption) ?_ | refine zOff rfl (by assumption) ?_ | refine zMov rfl ?_ | refine zAsg rfl ?_ | refine zPT rfl rfl rfl ?_ | refine zPT rfl (by assumption) rfl ?_ | refine zPF rfl (by assumption) rfl ?_ | refine zLss rfl rfl ?_ | refine zNeq rfl rfl ?_ | refine zT rfl rfl ?_ | refine zT rfl (by assumption) ?_ | refine zFld (f := 0) rfl O_api_Ins_Op ?_ | refine zFld (f := 1) rfl O_api_Ins_R ?_ | refine zFld (f := 2) rfl O_api_Ins_A ?_ | refine zLen rfl (hc.len E_s_api_Ins) ?_ | refine zIdx rfl rfl ia ?_ | refine zLd (ty := 5) rfl io ?_ | refine zLd (ty := 3) rfl ir ?_ | refine zLd (ty := 3) rfl iA ?_ | refine zIdx rfl rfl ia' ?_ | refine zLd (ty := 5) rfl io' ?_ | refine zLd (ty := 3) rfl ir' ?_ | refine zLd (ty := 3) rfl iA' ?_)
      exact WP.ret ⟨.inr rfl, _, rfl, hne fun e => by simp [(hq e).2.2.1] at c3, rfl⟩
    cases c4 : x.b != y.b
    case true =>
      (repeat first | refine zSeq ?_ | refine zReg ?_ | refine zBlk ?_ | refine zSkp ?_ | refine zNil rfl ?_ | refine zGet rfl ?_ | refine zOff rfl rfl ?_ | refine zOn rfl (by assumption) ?_ | refine zOff rfl (by assumption) ?_ | refine zMov rfl ?_ | refine zAsg rfl ?_ | refine zPT rfl rfl rfl ?_ | refine zPT rfl (by assumption) rfl ?_ | refine zPF rfl (by assumption) rfl ?_ | refine zLss rfl rfl ?_ | refine zNeq rfl rfl ?_ | refine zT rfl rfl ?_ | refine zT rfl (by assumption) ?_ | refine zFld (f := 0) rfl O_api_Ins_Op ?_ | refine zFld (f := 1) rfl O_api_Ins_R ?_ | refine zFld (f := 2) rfl O_api_Ins_A ?_ | refine zFld (f := 3) rfl O_api_Ins_B ?_ | refine zLen rfl (hc.len E_s_api_Ins) ?_ | refine zIdx rfl rfl ia ?_ | refine zLd (ty := 5) rfl io ?_ | refine zLd (ty := 3) rfl ir ?_ | refine zLd (ty := 3) rfl iA ?_ | refine zLd (ty := 3) rfl iB ?_ | refine zIdx rfl rfl ia' ?_ | refine zLd (ty := 5) rfl io' ?_ | refine zLd (ty := 3) rfl ir' ?_ | refine zLd (ty := 3) rfl iA' ?_ | refine zLd (ty := 3) rfl iB' ?_)
      exact WP.ret ⟨.inr rfl, _, rfl, hne fun e => by simp [(hq e).2.2.2.1] at c4, rfl⟩
    cases c5 : x.n != y.n
    case true =>
      (repeat first | refine zSeq ?_ | refine zReg ?_ | refine zBlk ?_ | refine zSkp ?_ | refine zNil rfl ?_ | refine zGet rfl ?_ | refine zOn rfl (by assumption) ?_ | refine zOff rfl (by assumption) ?_ | refine zMov rfl ?_ | refine zAsg rfl ?_ | refine zPT rfl (by assumption) rfl ?_ | refine zPF rfl (by assumption) rfl ?_ | refine zLss rfl rfl ?_ | refine zNeq rfl rfl ?_ | refine zT rfl rfl ?_ | refine zT rfl (by assumption) ?_ | refine zFld (f := 0) rfl O_api_Ins_Op ?_ | refine zFld (f := 1) rfl O_api_Ins_R ?_ | refine zFld (f := 2) rfl O_api_Ins_A ?_ | refine zFld (f := 3) rfl O_api_Ins_B ?_ | refine zFld (f := 4) rfl O_api_Ins_N ?_ | refine zLen rfl (hc.len E_s_api_Ins) ?_ | refine zIdx rfl rfl ia ?_ | refine zLd (ty := 5) rfl io ?_ | refine zLd (ty := 3) rfl ir ?_ | refine zLd (ty := 3) rfl iA ?_ | refine zLd (ty := 3) rfl iB ?_ | refine zLd (ty := 2) rfl iN ?_ | refine zIdx rfl rfl ia' ?_ | refine zLd (ty := 5) rfl io' ?_ | refine zLd (ty := 3) rfl ir' ?_ | refine zLd (ty := 3) rfl iA' ?_ | refine zLd (ty := 3) rfl iB' ?_ | refine zLd (ty := 2) rfl iN' ?_)
      exact WP.ret ⟨.inr rfl, _, rfl, hne fun e => by simp [(hq e).2.2.2.2.1] at c5, rfl⟩
    cases c6 : (x.args.length : Int) != y.args.length
    case true =>
      (repeat first | refine zSeq ?_ | refine zReg ?_ | refine zBlk ?_ | refine zSkp ?_ | refine zNil rfl ?_ | refine zGet rfl ?_ | refine zOn rfl (by assumption) ?_ | refine zMov rfl ?_ | refine zAsg rfl ?_ | refine zPF rfl (by assumption) rfl ?_ | refine zLss rfl rfl ?_ | refine zNeq rfl rfl ?_ | refine zT rfl (by assumption) ?_ | refine zFld (f := 0) rfl O_api_Ins_Op ?_ | refine zFld (f := 1) rfl O_api_Ins_R ?_ | refine zFld (f := 2) rfl O_api_Ins_A ?_ | refine zFld (f := 3) rfl O_api_Ins_B ?_ | refine zFld (f := 4) rfl O_api_Ins_N ?_ | refine zFld (f := 5) rfl O_api_Ins_Args ?_ | refine zLen rfl (hc.len E_s_api_Ins) ?_ | refine zIdx rfl rfl ia ?_ | refine zLd (ty := 5) rfl io ?_ | refine zLd (ty := 3) rfl ir ?_ | refine zLd (ty := 3) rfl iA ?_ | refine zLd (ty := 3) rfl iB ?_ | refine zLd (ty := 2) rfl iN ?_ | refine zLd (ty := 32) rfl iV ?_ | refine zIdx rfl rfl ia' ?_ | refine zLd (ty := 5) rfl io' ?_ | refine zLd (ty := 3) rfl ir' ?_ | refine zLd (ty := 3) rfl iA' ?_ | refine zLd (ty := 3) rfl iB' ?_ | refine zLd (ty := 2) rfl iN' ?_ | refine zLd (ty := 32) rfl iV' ?_ | refine zLen rfl (ht.len E_s_int) ?_ | refine zLen rfl (ht'.len E_s_int) ?_)
      exact WP.ret ⟨.inr rfl, _, rfl, hne fun e => by simp [(hq e).2.2.2.2.2.1] at c6, rfl⟩
    have hal : x.args.length = y.args.length := by simp at c6; omega
    (repeat first | refine zSeq ?_ | refine zReg ?_ | refine zBlk ?_ | refine zSkp ?_ | refine zNil rfl ?_ | refine zGet rfl ?_ | refine zOn rfl (by assumption) ?_ | refine zMov rfl ?_ | refine zAsg rfl ?_ | refine zPF rfl (by assumption) rfl ?_ | refine zLss rfl rfl ?_ | refine zNeq rfl rfl ?_ | refine zT rfl (by assumption) ?_ | refine zF rfl (by assumption) ?_ | refine zFld (f := 0) rfl O_api_Ins_Op ?_ | refine zFld (f := 1) rfl O_api_Ins_R ?_ | refine zFld (f := 2) rfl O_api_Ins_A ?_ | refine zFld (f := 3) rfl O_api_Ins_B ?_ | refine zFld (f := 4) rfl O_api_Ins_N ?_ | refine zFld (f := 5) rfl O_api_Ins_Args ?_ | refine zLen rfl (hc.len E_s_api_Ins) ?_ | refine zIdx rfl rfl ia ?_ | refine zLd (ty := 5) rfl io ?_ | refine zLd (ty := 3) rfl ir ?_ | refine zLd (ty := 3) rfl iA ?_ | refine zLd (ty := 3) rfl iB ?_ | refine zLd (ty := 2) rfl iN ?_ | refine zLd (ty := 32) rfl iV ?_ | refine zIdx rfl rfl ia' ?_ | refine zLd (ty := 5) rfl io' ?_ | refine zLd (ty := 3) rfl ir' ?_ | refine zLd (ty := 3) rfl iA' ?_ | refine zLd (ty := 3) rfl iB' ?_ | refine zLd (ty := 2) rfl iN' ?_ | refine zLd (ty := 32) rfl iV' ?_ | refine zLen rfl (ht.len E_s_int) ?_ | refine zLen rfl (ht'.len E_s_int) ?_)
    refine WP.loopH (σ := Nat) (fun j => [(0, v), (1, v'), (5, .int .i64 k), (6, .int .i64 j)]) (fun j Hd => Hd = Hc ∧ j ≤ x.args.length ∧ x.args.take j = y.args.take j) (fun j => x.args.length - j) 0 ⟨rfl, Nat.zero_le _, rfl⟩ ⟨rfl, rfl, rfl, rfl, trivial⟩ ?_
    rintro j Hd ⟨hd, hj, hprj⟩
    replace hd := hd.symm
    subst hd
    rcases Nat.lt_or_ge j x.args.length with hja | hja
    · have g2 : decide ((j : Int) < x.args.length) = true := decide_eq_true (by omega)
      have hja' : j < y.args.length := by omega
      obtain ⟨b2, off2, ja, jl⟩ := ht.at E_s_int E_int (kd := .i64) hja
      obtain ⟨b2', off2', ja', jl'⟩ := ht'.at E_s_int E_int (kd := .i64) hja'
      cases c7 : x.args[j] != y.args[j]
      · (repeat first | refine zSeq ?_ | refine zReg ?_ | refine zBlk ?_ | refine zSkp ?_ | refine zNil rfl ?_ | refine zGet rfl ?_ | refine zLss rfl rfl ?_ | refine zNeq rfl rfl ?_ | refine zAdd rfl rfl (by omega) ?_ | refine zT rfl (by assumption) ?_ | refine zF rfl (by assumption) ?_ | refine zFld (f := 5) rfl O_api_Ins_Args ?_ | refine zIdx rfl rfl ia ?_ | refine zLd (ty := 32) rfl iV ?_ | refine zIdx rfl rfl ia' ?_ | refine zLd (ty := 32) rfl iV' ?_ | refine zIdx rfl rfl ja ?_ | refine zIdx rfl rfl ja' ?_ | refine zLd (ty := 3) rfl jl ?_ | refine zLd (ty := 3) rfl jl' ?_ | refine zLen rfl (ht.len E_s_int) ?_)
        exact ⟨j + 1, ⟨rfl, hja, by rw [List.take_succ_eq_append_getElem hja, List.take_succ_eq_append_getElem hja', hprj]; simp at c7; rw [c7]⟩, by omega, rfl, rfl, rfl, rfl, trivial⟩
      · (repeat first | refine zSeq ?_ | refine zReg ?_ | refine zBlk ?_ | refine zSkp ?_ | refine zNil rfl ?_ | refine zGet rfl ?_ | refine zAsg rfl ?_ | refine zLss rfl rfl ?_ | refine zNeq rfl rfl ?_ | refine zT rfl (by assumption) ?_ | refine zFld (f := 5) rfl O_api_Ins_Args ?_ | refine zIdx rfl rfl ia ?_ | refine zLd (ty := 32) rfl iV ?_ | refine zIdx rfl rfl ia' ?_ | refine zLd (ty := 32) rfl iV' ?_ | refine zIdx rfl rfl ja ?_ | refine zIdx rfl rfl ja' ?_ | refine zLd (ty := 3) rfl jl ?_ | refine zLd (ty := 3) rfl jl' ?_ | refine zLen rfl (ht.len E_s_int) ?_)
        exact WP.ret ⟨.inr rfl, _, rfl, hne fun e => by subst e; simp at c7, rfl⟩
    · have g2 : decide ((j : Int) < x.args.length) = false := decide_eq_false (by omega)
      (repeat first | refine zSeq ?_ | refine zReg ?_ | refine zExt ?_ | refine zNil rfl ?_ | refine zGet rfl ?_ | refine zLss rfl rfl ?_ | refine zAdd rfl rfl (by omega) ?_ | refine zF rfl (by assumption) ?_ | refine zFld (f := 5) rfl O_api_Ins_Args ?_ | refine zIdx rfl rfl ia ?_ | refine zLd (ty := 32) rfl iV ?_ | refine zLen rfl (ht.len E_s_int) ?_)
      have e : x = y := ins_eq c1 c2 c3 c4 c5 (by rw [List.take_of_length_le hja, List.take_of_length_le (by omega)] at hprj; exact hprj)
      exact ⟨k + 1, ⟨rfl, h, hstep e⟩, by omega, rfl, rfl, rfl, trivial⟩
  · have g1 : decide ((k : Int) < l.length) = false := decide_eq_false (by omega)
    rw [List.take_of_length_le h, List.take_of_length_le (by omega)] at hpre
    (repeat first | refine zSeq ?_ | refine zReg ?_ | refine zExt ?_ | refine zNil rfl ?_ | refine zGet rfl ?_ | refine zAsg rfl ?_ | refine zLss rfl rfl ?_ | refine zF rfl (by assumption) ?_ | refine zLen rfl (hc.len E_s_api_Ins) ?_)
    exact WP.ret ⟨.inr rfl, _, rfl, by simp [hpre, resOf], rfl⟩
end Go.Proofs.YtfhmdhndmlinkaaDoor.U

/-
  What the law asks: no pair there.
-/
namespace Go.Proofs.YtfhmdhndmlinkaaDoor.U
open Go Go.Ev
attribute [local irreducible] WL WP WH W
attribute [local irreducible] V
variable {O : Orc} {H : AH}
set_option maxHeartbeats 4000000 in
theorem pair_c (hO : NoO O) {A : Av} {v : Value} {l : List Ins} (hc : Els 6 InsR A H v l) (hL : l.length ≤ 1000000) (hnp : Mer.NoPair l) :
    ∃ u H', Lc V O F_ref26_Pair [v] H u H' ∧ (u = .tuple #[.int .i64 (-1), .int .i64 (-1)] ∧ Fr H H') := by
  refine Lc.ref26_Pair (R := fun u H' => u = .tuple #[.int .i64 (-1), .int .i64 (-1)] ∧ Fr H H') (hO _ _ _ (by decide) (by decide) (by decide) (by decide)) (Nat.le_of_ble_eq_true rfl) (by kernel_rfl) ?_
  unfold P_ref26_Pair
  have hcl := hc
  (repeat first | refine zSeq ?_ | refine zReg ?_ | refine zBlk ?_ | refine zNil rfl ?_ | refine zAsg rfl ?_)
  refine WP.loopH (σ := Nat) (fun k => [(0, v), (4, .int .i64 k)]) (fun k Hc => Fr H Hc ∧ k ≤ l.length) (fun k => l.length - k) 0 ⟨.refl _, Nat.zero_le _⟩ ⟨rfl, rfl, trivial⟩ ?_
  rintro k Hc ⟨fc, hk⟩
  rcases Nat.lt_or_ge k l.length with h | h
  · have g1 : decide ((k : Int) < l.length) = true := decide_eq_true (by omega)
    have hcc := hc.fr InsR.m fc
    obtain ⟨b, off, va, ia, io, ir, iA, iB, iN, iV, iW, ht⟩ := ins_at hcc h
    cases c1 : l[k].op != 8
    case true =>
      (repeat first | refine zSeq ?_ | refine zReg ?_ | refine zBlk ?_ | refine zSkp ?_ | refine zExt ?_ | refine zNil rfl ?_ | refine zGet rfl ?_ | refine zLss rfl rfl ?_ | refine zNeq rfl rfl ?_ | refine zAdd rfl rfl (by omega) ?_ | refine zT rfl (by assumption) ?_ | refine zFld (f := 0) rfl O_api_Ins_Op ?_ | refine zLen rfl (hc.len E_s_api_Ins) ?_ | refine zIdx rfl rfl ia ?_ | refine zLd (ty := 5) rfl io ?_)
      exact ⟨k + 1, ⟨fc, h⟩, by omega, rfl, rfl, trivial⟩
    have hop8 : l[k].op = 8 := by simpa using c1
    (repeat first | refine zSeq ?_ | refine zReg ?_ | refine zBlk ?_ | refine zSkp ?_ | refine zNil rfl ?_ | refine zGet rfl ?_ | refine zLss rfl rfl ?_ | refine zNeq rfl rfl ?_ | refine zAdd rfl rfl (by omega) ?_ | refine zT rfl (by assumption) ?_ | refine zF rfl (by assumption) ?_ | refine zFld (f := 0) rfl O_api_Ins_Op ?_ | refine zLen rfl (hc.len E_s_api_Ins) ?_ | refine zIdx rfl rfl ia ?_ | refine zLd (ty := 5) rfl io ?_)
    refine WP.loopH (σ := Nat) (fun j => [(0, v), (4, .int .i64 k), (5, .int .i64 j)]) (fun j Hd => Fr H Hd ∧ k < j ∧ j ≤ l.length ∧ ∀ m (hm : k < m) (hmj : m < j) (hml : m < l.length), Mer.quiet l[m] = true) (fun j => l.length - j) (k + 1) ⟨fc, by omega, h, fun m h1 h2 => by omega⟩ ⟨rfl, rfl, rfl, trivial⟩ ?_
    rintro j Hd ⟨fd, hkj, hjl, hq⟩
    have hcd := hc.fr InsR.m fd
    obtain ⟨b1, off1, va1, ia1, io1, ir1, iA1, iB1, iN1, iV1, iW1, ht1⟩ := ins_at hcd h
    clear ia io ir iA iB iN iV iW ht
    rcases Nat.lt_or_ge j l.length with hj | hj
    · have g2 : decide ((j : Int) < l.length) = true := decide_eq_true (by omega)
      obtain ⟨b', off', va', ia, io, ir, iA, iB, iN, iV, iW, ht⟩ := ins_at hcd hj
      obtain ⟨_, He, hce, rfl, fe⟩ := quietL_c (H := Hd) hO l[j] ht
      have hce' := hcd.fr InsR.m fe
      cases c2 : Mer.quiet l[j]
      · rw [c2] at hce
        obtain ⟨b3, off3, va3, ib, ibo, -, -, -, ibn, -, -, -⟩ := ins_at hce' h
        obtain ⟨b4, off4, va4, ia', io', ir', iA', iB', iN', iV', iW', ht'⟩ := ins_at hce' hj
        (repeat first | refine zSeq ?_ | refine zReg ?_ | refine zGet rfl ?_ | refine zOn rfl (by assumption) ?_ | refine zMov rfl ?_ | refine zLss rfl rfl ?_ | refine zLen rfl (hc.len E_s_api_Ins) ?_ | refine zIdx rfl rfl ia ?_ | refine zLd (ty := 39) rfl iW ?_)
        refine WL.call rfl rfl is_ref26_quiet hce ?_
        clear ia io ir iA iB iN iV iW ht
        cases c3 : l[j].op == 7
        · (repeat first | refine zSeq ?_ | refine zReg ?_ | refine zSkp ?_ | refine zExt ?_ | refine zNil rfl ?_ | refine zGet rfl ?_ | refine zOn rfl (by assumption) ?_ | refine zOff rfl (by assumption) ?_ | refine zMov rfl ?_ | refine zPT rfl (by assumption) rfl ?_ | refine zPF rfl (by assumption) rfl ?_ | refine zLss rfl rfl ?_ | refine zEql rfl rfl ?_ | refine zAdd rfl rfl (by omega) ?_ | refine zF rfl rfl ?_ | refine zFld (f := 0) rfl O_api_Ins_Op ?_ | refine zLen rfl (hc.len E_s_api_Ins) ?_ | refine zIdx rfl rfl ia' ?_ | refine zLd (ty := 5) rfl io' ?_)
          exact ⟨k + 1, ⟨fd.trans fe, h⟩, by omega, rfl, rfl, trivial⟩
        · cases c4 : l[j].n == l[k].n
          · (repeat first | refine zSeq ?_ | refine zReg ?_ | refine zSkp ?_ | refine zExt ?_ | refine zNil rfl ?_ | refine zGet rfl ?_ | refine zOn rfl (by assumption) ?_ | refine zMov rfl ?_ | refine zPT rfl (by assumption) rfl ?_ | refine zLss rfl rfl ?_ | refine zEql rfl rfl ?_ | refine zAdd rfl rfl (by omega) ?_ | refine zF rfl rfl ?_ | refine zF rfl (by assumption) ?_ | refine zFld (f := 0) rfl O_api_Ins_Op ?_ | refine zFld (f := 4) rfl O_api_Ins_N ?_ | refine zLen rfl (hc.len E_s_api_Ins) ?_ | refine zIdx rfl rfl ia' ?_ | refine zLd (ty := 5) rfl io' ?_ | refine zLd (ty := 2) rfl iN' ?_ | refine zIdx rfl rfl ib ?_ | refine zLd (ty := 2) rfl ibn ?_)
            exact ⟨k + 1, ⟨fd.trans fe, h⟩, by omega, rfl, rfl, trivial⟩
          · exact absurd ⟨hkj, hj, hop8, by simpa using c3, by simpa using (by simpa using c4 : l[j].n = l[k].n).symm, fun m h1 h2 => hq m h1 h2 _⟩ (hnp k j)
      · rw [c2] at hce
        (repeat first | refine zSeq ?_ | refine zReg ?_ | refine zGet rfl ?_ | refine zOn rfl (by assumption) ?_ | refine zMov rfl ?_ | refine zLss rfl rfl ?_ | refine zLen rfl (hc.len E_s_api_Ins) ?_ | refine zIdx rfl rfl ia ?_ | refine zLd (ty := 39) rfl iW ?_)
        refine WL.call rfl rfl is_ref26_quiet hce ?_
        (repeat first | refine zReg ?_ | refine zBlk ?_ | refine zSkp ?_ | refine zNil rfl ?_ | refine zGet rfl ?_ | refine zPT rfl (by assumption) rfl ?_ | refine zAdd rfl rfl (by omega) ?_ | refine zT rfl rfl ?_)
        exact ⟨j + 1, ⟨fd.trans fe, by omega, hj, fun m h1 h2 h3 => by
          rcases Nat.lt_or_ge m j with h4 | h4
          · exact hq m h1 h4 h3
          · have : m = j := by omega
            subst this; exact c2⟩, by omega, rfl, rfl, rfl, trivial⟩
    · have g2 : decide ((j : Int) < l.length) = false := decide_eq_false (by omega)
      (repeat first | refine zSeq ?_ | refine zReg ?_ | refine zSkp ?_ | refine zExt ?_ | refine zNil rfl ?_ | refine zGet rfl ?_ | refine zOff rfl rfl ?_ | refine zOff rfl (by assumption) ?_ | refine zPF rfl rfl rfl ?_ | refine zPF rfl (by assumption) rfl ?_ | refine zLss rfl rfl ?_ | refine zAdd rfl rfl (by omega) ?_ | refine zF rfl rfl ?_ | refine zLen rfl (hc.len E_s_api_Ins) ?_)
      exact ⟨k + 1, ⟨fd, h⟩, by omega, rfl, rfl, trivial⟩
  · have g1 : decide ((k : Int) < l.length) = false := decide_eq_false (by omega)
    (repeat first | refine zSeq ?_ | refine zReg ?_ | refine zExt ?_ | refine zNil rfl ?_ | refine zGet rfl ?_ | refine zAsg rfl ?_ | refine zLss rfl rfl ?_ | refine zF rfl (by assumption) ?_ | refine zLen rfl (hc.len E_s_api_Ins) ?_)
    exact WP.ret ⟨.inr rfl, _, rfl, rfl, fc⟩
end Go.Proofs.YtfhmdhndmlinkaaDoor.U

/-
  The law's own limits.
-/
namespace Go.Proofs.YtfhmdhndmlinkaaDoor.U
open Go Go.Ev
attribute [local irreducible] WL WP WH W
attribute [local irreducible] V
variable {O : Orc} {H : AH}
structure TinyB (b : Block) : Prop where
  code : b.code.length ≤ 200
  phis : b.phis.length ≤ 100
  frm : b.frm.length ≤ 100
  to : b.to.length ≤ 100
  cargs : ∀ i ∈ b.code, i.args.length ≤ 100
  pargs : ∀ p ∈ b.phis, p.args.length ≤ 100
theorem TinyB.small {b : Block} (h : TinyB b) : SmallB b := ⟨by have := h.code; omega, by have := h.phis; omega, by have := h.frm; omega, by have := h.to; omega, fun p hp => by have := h.pargs p hp; omega, fun p hp => by have := h.cargs p hp; omega⟩
theorem phi_at {A : Av} {v : Value} {l : List Phi} (h : Els 2 PhiR A H v l) {k : Nat} (hk : k < l.length) : ∃ b off va, aIndex V.E 30 v (.int .i64 k) = some (.pointer (some ⟨b, off, none⟩)) ∧ aLoad V.E H 3 (.pointer (some ⟨b, off + 0, none⟩)) = some (.int .i64 l[k].r) ∧ aLoad V.E H 32 (.pointer (some ⟨b, off + 1, none⟩)) = some va ∧ IntsR A H va l[k].args := by
  obtain ⟨b, off, cs, h1, hrd, va, rfl, hva⟩ := h.at E_s_api_Phi E_api_Phi te_api_Phi_size (kd := .i64) hk
  exact ⟨b, off, va, h1, (hrd.sub 0 1 (by omega)).load1 E_int rfl, (hrd.sub 1 1 (by omega)).load1 E_s_int rfl, hva⟩
set_option maxHeartbeats 4000000 in
theorem long_c (hO : NoO O) {A : Av} {g : Graph} {cs : List Value} (hR : GraphR A H cs g) :
    ∃ u H', Lc V O F_law26_long [.agg cs.toArray] H u H' ∧ (∃ t, u = .bool t ∧ Fr H H' ∧ (t = false → g.blocks.length ≤ 60 ∧ ∀ b ∈ g.blocks, TinyB b)) := by
  obtain ⟨vb, rfl, hb⟩ := hR
  refine Lc.law26_long (R := fun u H' => ∃ t, u = .bool t ∧ Fr H H' ∧ (t = false → g.blocks.length ≤ 60 ∧ ∀ b ∈ g.blocks, TinyB b)) (hO _ _ _ (by decide) (by decide) (by decide) (by decide)) (Nat.le_of_ble_eq_true rfl) (by kernel_rfl) ?_
  unfold P_law26_long
  refine zSeq ?_
  refine zReg ?_
  refine zBox rfl (fun _ => rfl) fun H1 f1 b1 n1 => ?_
  have b1' : Bx H1 H.next 24 (graphC g vb) := b1
  clear b1
  have hbl := hb
  cases c1 : decide ((g.blocks.length : Int) > 60)
  case true =>
    (repeat first | refine zSeq ?_ | refine zReg ?_ | refine zNil rfl ?_ | refine zOff rfl (by assumption) ?_ | refine zAsg rfl ?_ | refine zPT rfl (by assumption) rfl ?_ | refine zGtr rfl rfl ?_ | refine zT rfl rfl ?_ | refine zFld (f := 4) rfl O_api_Graph_Blocks ?_ | refine zLd (ty := 22) rfl (Bx.ld (by assumption) (by rfl) E_s_api_Block rfl) ?_ | refine zLen rfl (hbl.len E_s_api_Block) ?_)
    exact WP.ret ⟨.inr rfl, _, rfl, _, rfl, f1, fun e => by cases e⟩
  have hnb : g.blocks.length ≤ 60 := by simp at c1; omega
  cases c2 : decide (g.regs > 300)
  case true =>
    (repeat first | refine zSeq ?_ | refine zReg ?_ | refine zNil rfl ?_ | refine zOn rfl (by assumption) ?_ | refine zAsg rfl ?_ | refine zPF rfl (by assumption) rfl ?_ | refine zGtr rfl rfl ?_ | refine zT rfl (by assumption) ?_ | refine zLd (ty := 3) rfl (Bx.ld (by assumption) (by rfl) E_int rfl) ?_ | refine zFld (f := 4) rfl O_api_Graph_Blocks ?_ | refine zFld (f := 3) rfl O_api_Graph_Regs ?_ | refine zLd (ty := 22) rfl (Bx.ld (by assumption) (by rfl) E_s_api_Block rfl) ?_ | refine zLen rfl (hbl.len E_s_api_Block) ?_)
    exact WP.ret ⟨.inr rfl, _, rfl, _, rfl, f1, fun e => by cases e⟩
  (repeat first | refine zSeq ?_ | refine zReg ?_ | refine zBlk ?_ | refine zSkp ?_ | refine zNil rfl ?_ | refine zOn rfl (by assumption) ?_ | refine zAsg rfl ?_ | refine zPF rfl (by assumption) rfl ?_ | refine zGtr rfl rfl ?_ | refine zF rfl (by assumption) ?_ | refine zLd (ty := 3) rfl (Bx.ld (by assumption) (by rfl) E_int rfl) ?_ | refine zFld (f := 4) rfl O_api_Graph_Blocks ?_ | refine zFld (f := 3) rfl O_api_Graph_Regs ?_ | refine zLd (ty := 22) rfl (Bx.ld (by assumption) (by rfl) E_s_api_Block rfl) ?_ | refine zLen rfl (hbl.len E_s_api_Block) ?_)
  refine WP.loopH (σ := Nat × Nat) (fun x => [(1, .pointer (some ⟨H.next, 0, none⟩)), (3, .int .i64 x.2), (4, .int .i64 x.1)]) (fun x Hc => Fr H1 Hc ∧ x.1 ≤ g.blocks.length ∧ x.2 ≤ x.1 * 300 ∧ ∀ b ∈ g.blocks.take x.1, TinyB b) (fun x => g.blocks.length - x.1) (0, 0) ⟨.refl _, Nat.zero_le _, by simp, fun b hb => by simp at hb⟩ ⟨rfl, rfl, rfl, trivial⟩ ?_
  rintro ⟨k, n⟩ Hc ⟨fc, hk, hn, hall⟩
  simp only at fc hk hn hall ⊢
  have b1c := b1'.fr fc
  rcases Nat.lt_or_ge k g.blocks.length with h | h
  · have g1 : decide ((k : Int) < g.blocks.length) = true := decide_eq_true (by omega)
    have hbc := hb.fr BlockR.m (f1.trans fc)
    obtain ⟨bb, off, cs, ha1, hrd, vp, vc, vf, vt, rfl, hp, hcc, hf, ht0⟩ := hbc.at E_s_api_Block E_api_Block te_api_Block_size (kd := .i64) h
    have hl1 := hrd.loadN (V := V) E_api_Block te_api_Block_agg te_api_Block_size
    have hone := (BlockR.one (A := A) (H := Hc) (cs := [vp, vc, vf, vt]) (a := g.blocks[k]) ⟨vp, vc, vf, vt, rfl, hp, hcc, hf, ht0⟩).1
    have hdone : TinyB g.blocks[k] → ∀ b ∈ g.blocks.take (k + 1), TinyB b := fun e b hb => by
      rw [List.take_succ_eq_append_getElem h] at hb
      rcases List.mem_append.1 hb with hb | hb
      · exact hall b hb
      · rw [List.mem_singleton] at hb; subst hb; exact e
    generalize g.blocks[k] = b at *
    (repeat first | refine zSeq ?_ | refine zReg ?_ | refine zBlk ?_ | refine zSkp ?_ | refine zNil rfl ?_ | refine zGet rfl ?_ | refine zLss rfl rfl ?_ | refine zT rfl (by assumption) ?_ | refine zIdx rfl rfl ha1 ?_ | refine zLd rfl hl1 ?_ | refine zFld (f := 4) rfl O_api_Graph_Blocks ?_ | refine zLd (ty := 22) rfl (Bx.ld (by assumption) (by rfl) E_s_api_Block rfl) ?_ | refine zLen rfl (hbl.len E_s_api_Block) ?_)
    refine zAlc E_api_Block zero34 fun H7 f7 b7 n7 => ?_
    refine zStB b7 rfl rfl E_api_Block (by rw [te_api_Block_size]; rfl) (by simpa [Value.cells] using hone) (by simp [Value.cells]) (by simp [Value.cells]) fun H8 f8 b8 n8 => ?_
    have b8' : Bx H8 Hc.next 34 [vp, vc, vf, vt] := b8
    have f78 : Fr Hc H8 := f7.young f8 (by simp) (by simp)
    have hcl := hcc.fr InsR.m f78
    have hpl := hp.fr PhiR.m f78
    have hfl := hf.fr f78
    have htl := ht0.fr f78
    have b1d := b1c.fr f78
    have f18 := (f1.trans fc).trans f78
    cases c3 : decide ((b.code.length : Int) > 200)
    case true =>
      (repeat first | refine zSeq ?_ | refine zReg ?_ | refine zNil rfl ?_ | refine zOff rfl rfl ?_ | refine zOff rfl (by assumption) ?_ | refine zAsg rfl ?_ | refine zPT rfl rfl rfl ?_ | refine zPT rfl (by assumption) rfl ?_ | refine zGtr rfl rfl ?_ | refine zT rfl rfl ?_ | refine zLd (ty := 31) rfl (Bx.ld (by assumption) (by rfl) E_s_api_Ins rfl) ?_ | refine zFld (f := 1) rfl O_api_Block_Code ?_ | refine zLen rfl (hcl.len E_s_api_Ins) ?_)
      exact WP.ret ⟨.inr rfl, _, rfl, _, rfl, f18, fun e => by cases e⟩
    cases c4 : decide ((b.phis.length : Int) > 100)
    case true =>
      (repeat first | refine zSeq ?_ | refine zReg ?_ | refine zNil rfl ?_ | refine zOff rfl rfl ?_ | refine zOn rfl (by assumption) ?_ | refine zOff rfl (by assumption) ?_ | refine zAsg rfl ?_ | refine zPT rfl rfl rfl ?_ | refine zPT rfl (by assumption) rfl ?_ | refine zPF rfl (by assumption) rfl ?_ | refine zGtr rfl rfl ?_ | refine zT rfl rfl ?_ | refine zLd (ty := 31) rfl (Bx.ld (by assumption) (by rfl) E_s_api_Ins rfl) ?_ | refine zFld (f := 0) rfl O_api_Block_Phis ?_ | refine zFld (f := 1) rfl O_api_Block_Code ?_ | refine zLd (ty := 30) rfl (Bx.ld (by assumption) (by rfl) E_s_api_Phi rfl) ?_ | refine zLen rfl (hpl.len E_s_api_Phi) ?_ | refine zLen rfl (hcl.len E_s_api_Ins) ?_)
      exact WP.ret ⟨.inr rfl, _, rfl, _, rfl, f18, fun e => by cases e⟩
    cases c5 : decide ((b.frm.length : Int) > 100)
    case true =>
      (repeat first | refine zSeq ?_ | refine zReg ?_ | refine zNil rfl ?_ | refine zOn rfl (by assumption) ?_ | refine zOff rfl (by assumption) ?_ | refine zAsg rfl ?_ | refine zPT rfl (by assumption) rfl ?_ | refine zPF rfl (by assumption) rfl ?_ | refine zGtr rfl rfl ?_ | refine zT rfl rfl ?_ | refine zLd (ty := 32) rfl (Bx.ld (by assumption) (by rfl) E_s_int rfl) ?_ | refine zLd (ty := 31) rfl (Bx.ld (by assumption) (by rfl) E_s_api_Ins rfl) ?_ | refine zFld (f := 2) rfl O_api_Block_From ?_ | refine zFld (f := 0) rfl O_api_Block_Phis ?_ | refine zFld (f := 1) rfl O_api_Block_Code ?_ | refine zLd (ty := 30) rfl (Bx.ld (by assumption) (by rfl) E_s_api_Phi rfl) ?_ | refine zLen rfl (hpl.len E_s_api_Phi) ?_ | refine zLen rfl (hcl.len E_s_api_Ins) ?_ | refine zLen rfl (hfl.len E_s_int) ?_)
      exact WP.ret ⟨.inr rfl, _, rfl, _, rfl, f18, fun e => by cases e⟩
    cases c6 : decide ((b.to.length : Int) > 100)
    case true =>
      (repeat first | refine zSeq ?_ | refine zReg ?_ | refine zNil rfl ?_ | refine zOn rfl (by assumption) ?_ | refine zAsg rfl ?_ | refine zPF rfl (by assumption) rfl ?_ | refine zGtr rfl rfl ?_ | refine zT rfl (by assumption) ?_ | refine zLd (ty := 32) rfl (Bx.ld (by assumption) (by rfl) E_s_int rfl) ?_ | refine zLd (ty := 31) rfl (Bx.ld (by assumption) (by rfl) E_s_api_Ins rfl) ?_ | refine zFld (f := 2) rfl O_api_Block_From ?_ | refine zFld (f := 3) rfl O_api_Block_To ?_ | refine zFld (f := 0) rfl O_api_Block_Phis ?_ | refine zFld (f := 1) rfl O_api_Block_Code ?_ | refine zLd (ty := 30) rfl (Bx.ld (by assumption) (by rfl) E_s_api_Phi rfl) ?_ | refine zLen rfl (hpl.len E_s_api_Phi) ?_ | refine zLen rfl (hcl.len E_s_api_Ins) ?_ | refine zLen rfl (hfl.len E_s_int) ?_ | refine zLen rfl (htl.len E_s_int) ?_)
      exact WP.ret ⟨.inr rfl, _, rfl, _, rfl, f18, fun e => by cases e⟩
    have hq3 : b.code.length ≤ 200 := by simp at c3; omega
    have hq4 : b.phis.length ≤ 100 := by simp at c4; omega
    have hq5 : b.frm.length ≤ 100 := by simp at c5; omega
    have hq6 : b.to.length ≤ 100 := by simp at c6; omega
    (repeat first | refine zSeq ?_ | refine zReg ?_ | refine zBlk ?_ | refine zSkp ?_ | refine zNil rfl ?_ | refine zGet rfl ?_ | refine zOn rfl (by assumption) ?_ | refine zAsg rfl ?_ | refine zPF rfl (by assumption) rfl ?_ | refine zGtr rfl rfl ?_ | refine zAdd rfl rfl (by omega) ?_ | refine zF rfl (by assumption) ?_ | refine zLd (ty := 32) rfl (Bx.ld (by assumption) (by rfl) E_s_int rfl) ?_ | refine zLd (ty := 31) rfl (Bx.ld (by assumption) (by rfl) E_s_api_Ins rfl) ?_ | refine zFld (f := 2) rfl O_api_Block_From ?_ | refine zFld (f := 3) rfl O_api_Block_To ?_ | refine zFld (f := 0) rfl O_api_Block_Phis ?_ | refine zFld (f := 1) rfl O_api_Block_Code ?_ | refine zLd (ty := 30) rfl (Bx.ld (by assumption) (by rfl) E_s_api_Phi rfl) ?_ | refine zLen rfl (hpl.len E_s_api_Phi) ?_ | refine zLen rfl (hcl.len E_s_api_Ins) ?_ | refine zLen rfl (hfl.len E_s_int) ?_ | refine zLen rfl (htl.len E_s_int) ?_)
    refine WP.loopH (σ := Nat) (fun i => [(1, .pointer (some ⟨H.next, 0, none⟩)), (3, .int .i64 ((n : Int) + b.code.length + b.phis.length)), (4, .int .i64 k), (5, .pointer (some ⟨Hc.next, 0, none⟩)), (6, .int .i64 i)]) (fun i Hd => Hd = H8 ∧ i ≤ b.code.length ∧ ∀ x ∈ b.code.take i, x.args.length ≤ 100) (fun i => b.code.length - i) 0 ⟨rfl, Nat.zero_le _, fun x hx => by simp at hx⟩ ⟨rfl, rfl, rfl, rfl, rfl, trivial⟩ ?_
    rintro i Hd ⟨hd, hi, hia⟩
    replace hd := hd.symm
    subst hd
    rcases Nat.lt_or_ge i b.code.length with hil | hil
    · have g2 : decide ((i : Int) < b.code.length) = true := decide_eq_true (by omega)
      obtain ⟨bi, offi, va, ia, io, ir, iA, iB, iN, iV, iW, ht⟩ := ins_at hcl hil
      cases c7 : decide ((b.code[i].args.length : Int) > 100)
      · (repeat first | refine zSeq ?_ | refine zReg ?_ | refine zBlk ?_ | refine zSkp ?_ | refine zNil rfl ?_ | refine zGet rfl ?_ | refine zLss rfl rfl ?_ | refine zGtr rfl rfl ?_ | refine zAdd rfl rfl (by omega) ?_ | refine zT rfl (by assumption) ?_ | refine zF rfl (by assumption) ?_ | refine zFld (f := 5) rfl O_api_Ins_Args ?_ | refine zLd (ty := 31) rfl (Bx.ld (by assumption) (by rfl) E_s_api_Ins rfl) ?_ | refine zFld (f := 1) rfl O_api_Block_Code ?_ | refine zLen rfl (hcl.len E_s_api_Ins) ?_ | refine zIdx rfl rfl ia ?_ | refine zLd (ty := 32) rfl iV ?_ | refine zLen rfl (ht.len E_s_int) ?_)
        exact ⟨i + 1, ⟨rfl, hil, fun x hx => by
          rw [List.take_succ_eq_append_getElem hil] at hx
          rcases List.mem_append.1 hx with hx | hx
          · exact hia x hx
          · rw [List.mem_singleton] at hx; subst hx; simp at c7; omega⟩, by omega, rfl, rfl, rfl, rfl, rfl, trivial⟩
      · (repeat first | refine zSeq ?_ | refine zReg ?_ | refine zBlk ?_ | refine zSkp ?_ | refine zNil rfl ?_ | refine zGet rfl ?_ | refine zAsg rfl ?_ | refine zLss rfl rfl ?_ | refine zGtr rfl rfl ?_ | refine zT rfl (by assumption) ?_ | refine zFld (f := 5) rfl O_api_Ins_Args ?_ | refine zLd (ty := 31) rfl (Bx.ld (by assumption) (by rfl) E_s_api_Ins rfl) ?_ | refine zFld (f := 1) rfl O_api_Block_Code ?_ | refine zLen rfl (hcl.len E_s_api_Ins) ?_ | refine zIdx rfl rfl ia ?_ | refine zLd (ty := 32) rfl iV ?_ | refine zLen rfl (ht.len E_s_int) ?_)
        exact WP.ret ⟨.inr rfl, _, rfl, _, rfl, f18, fun e => by cases e⟩
    have g2 : decide ((i : Int) < b.code.length) = false := decide_eq_false (by omega)
    rw [List.take_of_length_le hil] at hia
    (repeat first | refine zSeq ?_ | refine zReg ?_ | refine zBlk ?_ | refine zExt ?_ | refine zNil rfl ?_ | refine zGet rfl ?_ | refine zAsg rfl ?_ | refine zLss rfl rfl ?_ | refine zF rfl (by assumption) ?_ | refine zLd (ty := 31) rfl (Bx.ld (by assumption) (by rfl) E_s_api_Ins rfl) ?_ | refine zFld (f := 1) rfl O_api_Block_Code ?_ | refine zLen rfl (hcl.len E_s_api_Ins) ?_)
    refine WP.loopH (σ := Nat) (fun i => [(1, .pointer (some ⟨H.next, 0, none⟩)), (3, .int .i64 ((n : Int) + b.code.length + b.phis.length)), (4, .int .i64 k), (5, .pointer (some ⟨Hc.next, 0, none⟩)), (7, .int .i64 i)]) (fun i Hd => Hd = H8 ∧ i ≤ b.phis.length ∧ ∀ x ∈ b.phis.take i, x.args.length ≤ 100) (fun i => b.phis.length - i) 0 ⟨rfl, Nat.zero_le _, fun x hx => by simp at hx⟩ ⟨rfl, rfl, rfl, rfl, rfl, trivial⟩ ?_
    rintro j Hd ⟨hd, hj, hja⟩
    replace hd := hd.symm
    subst hd
    rcases Nat.lt_or_ge j b.phis.length with hjl | hjl
    · have g3 : decide ((j : Int) < b.phis.length) = true := decide_eq_true (by omega)
      obtain ⟨bi, offi, va, pa, pr, pV, ht⟩ := phi_at hpl hjl
      cases c7 : decide ((b.phis[j].args.length : Int) > 100)
      · (repeat first | refine zSeq ?_ | refine zReg ?_ | refine zBlk ?_ | refine zSkp ?_ | refine zNil rfl ?_ | refine zGet rfl ?_ | refine zLss rfl rfl ?_ | refine zGtr rfl rfl ?_ | refine zAdd rfl rfl (by omega) ?_ | refine zT rfl (by assumption) ?_ | refine zF rfl (by assumption) ?_ | refine zFld (f := 0) rfl O_api_Block_Phis ?_ | refine zFld (f := 1) rfl O_api_Phi_Args ?_ | refine zLd (ty := 30) rfl (Bx.ld (by assumption) (by rfl) E_s_api_Phi rfl) ?_ | refine zLen rfl (hpl.len E_s_api_Phi) ?_ | refine zLen rfl (ht.len E_s_int) ?_ | refine zIdx rfl rfl pa ?_ | refine zLd (ty := 32) rfl pV ?_)
        exact ⟨j + 1, ⟨rfl, hjl, fun x hx => by
          rw [List.take_succ_eq_append_getElem hjl] at hx
          rcases List.mem_append.1 hx with hx | hx
          · exact hja x hx
          · rw [List.mem_singleton] at hx; subst hx; simp at c7; omega⟩, by omega, rfl, rfl, rfl, rfl, rfl, trivial⟩
      · (repeat first | refine zSeq ?_ | refine zReg ?_ | refine zBlk ?_ | refine zSkp ?_ | refine zNil rfl ?_ | refine zGet rfl ?_ | refine zAsg rfl ?_ | refine zLss rfl rfl ?_ | refine zGtr rfl rfl ?_ | refine zT rfl (by assumption) ?_ | refine zFld (f := 0) rfl O_api_Block_Phis ?_ | refine zFld (f := 1) rfl O_api_Phi_Args ?_ | refine zLd (ty := 30) rfl (Bx.ld (by assumption) (by rfl) E_s_api_Phi rfl) ?_ | refine zLen rfl (hpl.len E_s_api_Phi) ?_ | refine zLen rfl (ht.len E_s_int) ?_ | refine zIdx rfl rfl pa ?_ | refine zLd (ty := 32) rfl pV ?_)
        exact WP.ret ⟨.inr rfl, _, rfl, _, rfl, f18, fun e => by cases e⟩
    have g3 : decide ((j : Int) < b.phis.length) = false := decide_eq_false (by omega)
    rw [List.take_of_length_le hjl] at hja
    (repeat first | refine zSeq ?_ | refine zReg ?_ | refine zExt ?_ | refine zNil rfl ?_ | refine zGet rfl ?_ | refine zLss rfl rfl ?_ | refine zAdd rfl rfl (by omega) ?_ | refine zF rfl (by assumption) ?_ | refine zFld (f := 0) rfl O_api_Block_Phis ?_ | refine zLd (ty := 30) rfl (Bx.ld (by assumption) (by rfl) E_s_api_Phi rfl) ?_ | refine zLen rfl (hpl.len E_s_api_Phi) ?_)
    exact ⟨(k + 1, n + b.code.length + b.phis.length), ⟨fc.trans f78, h, by simp only; omega, hdone ⟨hq3, hq4, hq5, hq6, hia, hja⟩⟩, by simp only; omega, rfl, rfl, rfl, trivial⟩
  · have g1 : decide ((k : Int) < g.blocks.length) = false := decide_eq_false (by omega)
    rw [List.take_of_length_le h] at hall
    (repeat first | refine zSeq ?_ | refine zReg ?_ | refine zExt ?_ | refine zNil rfl ?_ | refine zGet rfl ?_ | refine zLss rfl rfl ?_ | refine zGtr rfl rfl ?_ | refine zF rfl (by assumption) ?_ | refine zFld (f := 4) rfl O_api_Graph_Blocks ?_ | refine zLd (ty := 22) rfl (Bx.ld (by assumption) (by rfl) E_s_api_Block rfl) ?_ | refine zLen rfl (hbl.len E_s_api_Block) ?_)
    exact WP.ret ⟨.inr rfl, _, rfl, _, rfl, f1.trans fc, fun _ => ⟨hnb, hall⟩⟩
end Go.Proofs.YtfhmdhndmlinkaaDoor.U

/-
  The same graphs: told to be so.
-/
namespace Go.Proofs.YtfhmdhndmlinkaaDoor.U
open Go Go.Ev
attribute [local irreducible] WL WP WH W
theorem aBin_neB' {P : Program} {E : TypeId → Option TI} {t : TypeId} {ox oy : Operand} {a b : Bool} (e3 : pureRun P (binOp .neq t (.bool a) (.bool b)) = some (.bool (a != b))) : aBin P E .neq t ox oy (.bool a) (.bool b) = some (.bool (a != b)) := by
  have e : aBin P E .neq t ox oy (.bool a) (.bool b) = (if constOk (.bool a) && constOk (.bool b) then match pureRun P (do eqGuard .neq t ox oy (.bool a) (.bool b); binOp .neq t (.bool a) (.bool b)) with
      | some v => if constOk v then some v else none
      | none => none
    else none) := by unfold aBin; rfl
  have e2 : (do eqGuard .neq t ox oy (.bool a) (.bool b); binOp .neq t (.bool a) (.bool b)) = binOp .neq t (.bool a) (.bool b) := by
    have := binSem_skip (op := .neq) (t := t) (ox := ox) (oy := oy) (x := .bool a) (y := .bool b) (fun _ h => nomatch h) (fun h => nomatch h)
    unfold binSem at this
    rw [this]
  rw [e, e2]
  rw [e3]; rfl
theorem neB_run {a b : Bool} : pureRun V.P (binOp .neq 4 (.bool a) (.bool b)) = some (.bool (a != b)) := by cases a <;> cases b <;> kernel_rfl
theorem aBin_neB {ox oy : Operand} {a b : Bool} : aBin V.P V.E .neq 4 ox oy (.bool a) (.bool b) = some (.bool (a != b)) := aBin_neB' neB_run
attribute [local irreducible] V
theorem zNeB {O : Orc} {E : List Value} {l : SL} {H : AH} {K : List Value → AH → Prop} {is : List LI} {x y : Operand} {ty2 : TypeId} {s r : Bool} (hx : gS V.nG E l x = some (.bool s)) (hy : gS V.nG E l y = some (.bool r)) (h : WL V O is (.bool (s != r) :: E) l H K) : WL V O (.run (.binOp .neq 4 x y ty2) none :: is) E l H K := .op (by simp only [aopG, hx, hy, aBin_neB, Option.map_some]) h
variable {O : Orc} {H : AH}
set_option maxHeartbeats 4000000 in
theorem same_c (hO : NoO O) {A A' : Av} {g : Graph} {cs cs' : List Value} (hR : GraphR A H cs g) (hR' : GraphR A' H cs' g) (hnb : g.blocks.length ≤ 1000) (hsm : ∀ b ∈ g.blocks, TinyB b) :
    ∃ u H', Lc V O F_law26_same [.agg cs.toArray, .agg cs'.toArray] H u H' ∧ (u = .bool true ∧ Fr H H') := by
  obtain ⟨vb, rfl, hb⟩ := hR
  obtain ⟨vb', rfl, hb'⟩ := hR'
  refine Lc.law26_same (R := fun u H' => u = .bool true ∧ Fr H H') (hO _ _ _ (by decide) (by decide) (by decide) (by decide)) (Nat.le_of_ble_eq_true rfl) (by kernel_rfl) ?_
  unfold P_law26_same
  refine zSeq ?_
  refine zReg ?_
  refine zBox rfl (fun _ => rfl) fun H1 f1 b1 n1 => ?_
  have b1' : Bx H1 H.next 24 (graphC g vb) := b1
  refine zBox rfl (fun _ => rfl) fun H2 f2 b2 n2 => ?_
  have b2' : Bx H2 H1.next 24 (graphC g vb') := b2
  replace b1' := b1'.fr f2
  have f12 := f1.trans f2
  clear b1 b2 f1 f2
  have hbl := hb
  have hbl' := hb'
  have e1 : (!(g.name.data.toList == g.name.data.toList)) = false := by simp
  have e2 : (g.thread != g.thread) = false := by simp
  have e3 : (g.params != g.params) = false := by simp
  have e4 : (g.regs != g.regs) = false := by simp
  have e5 : ((g.blocks.length : Int) != g.blocks.length) = false := by simp
  (repeat first | refine zSeq ?_ | refine zReg ?_ | refine zBlk ?_ | refine zSkp ?_ | refine zNil rfl ?_ | refine zOn rfl (by assumption) ?_ | refine zAsg rfl ?_ | refine zPF rfl (by assumption) rfl ?_ | refine zNeq rfl rfl ?_ | refine zNeS rfl rfl ?_ | refine zF rfl (by assumption) ?_ | refine zLd (ty := 3) rfl (Bx.ld (by assumption) (by rfl) E_int rfl) ?_ | refine zLd (ty := 4) rfl (Bx.ld (by assumption) (by rfl) E_bool rfl) ?_ | refine zFld (f := 4) rfl O_api_Graph_Blocks ?_ | refine zFld (f := 3) rfl O_api_Graph_Regs ?_ | refine zFld (f := 2) rfl O_api_Graph_Params ?_ | refine zFld (f := 0) rfl O_api_Graph_Name ?_ | refine zFld (f := 1) rfl O_api_Graph_Thread ?_ | refine zLd (ty := 22) rfl (Bx.ld (by assumption) (by rfl) E_s_api_Block rfl) ?_ | refine zLen rfl (hbl.len E_s_api_Block) ?_ | refine zLd (ty := 9) rfl (Bx.ld (by assumption) (by rfl) E_string rfl) ?_ | refine zNeB rfl rfl ?_ | refine zLen rfl (hbl'.len E_s_api_Block) ?_)
  refine WP.loopH (σ := Nat) (fun k => [(2, .pointer (some ⟨H.next, 0, none⟩)), (3, .pointer (some ⟨H1.next, 0, none⟩)), (5, .int .i64 k)]) (fun k Hc => Fr H2 Hc ∧ k ≤ g.blocks.length) (fun k => g.blocks.length - k) 0 ⟨.refl _, Nat.zero_le _⟩ ⟨rfl, rfl, rfl, trivial⟩ ?_
  rintro k Hc ⟨fc, hk⟩
  have b1c := b1'.fr fc
  have b2c := b2'.fr fc
  have f1c := f12.trans fc
  rcases Nat.lt_or_ge k g.blocks.length with h | h
  case inr =>
    have g1 : decide ((k : Int) < g.blocks.length) = false := decide_eq_false (by omega)
    (repeat first | refine zSeq ?_ | refine zReg ?_ | refine zExt ?_ | refine zNil rfl ?_ | refine zGet rfl ?_ | refine zAsg rfl ?_ | refine zLss rfl rfl ?_ | refine zF rfl (by assumption) ?_ | refine zFld (f := 4) rfl O_api_Graph_Blocks ?_ | refine zLd (ty := 22) rfl (Bx.ld (by assumption) (by rfl) E_s_api_Block rfl) ?_ | refine zLen rfl (hbl.len E_s_api_Block) ?_)
    exact WP.ret ⟨.inr rfl, _, rfl, rfl, f1c⟩
  have g1 : decide ((k : Int) < g.blocks.length) = true := decide_eq_true (by omega)
  have hbc := hb.fr BlockR.m f1c
  have hbc' := hb'.fr BlockR.m f1c
  obtain ⟨bb, off, cs, ha1, hrd, vp, vc, vf, vt, rfl, hp, hcc, hf, ht0⟩ := hbc.at E_s_api_Block E_api_Block te_api_Block_size (kd := .i64) h
  have hl1 := hrd.loadN (V := V) E_api_Block te_api_Block_agg te_api_Block_size
  have hone := (BlockR.one (A := A) (H := Hc) (cs := [vp, vc, vf, vt]) (a := g.blocks[k]) ⟨vp, vc, vf, vt, rfl, hp, hcc, hf, ht0⟩).1
  obtain ⟨bb', off', cs', ha1', hrd', vp', vc', vf', vt', rfl, hp', hcc', hf', ht0'⟩ := hbc'.at E_s_api_Block E_api_Block te_api_Block_size (kd := .i64) h
  have hl1' := hrd'.loadN (V := V) E_api_Block te_api_Block_agg te_api_Block_size
  have hone' := (BlockR.one (A := A') (H := Hc) (cs := [vp', vc', vf', vt']) (a := g.blocks[k]) ⟨vp', vc', vf', vt', rfl, hp', hcc', hf', ht0'⟩).1
  have hbs := hsm g.blocks[k] (List.getElem_mem _)
  generalize g.blocks[k] = b at *
  (repeat first | refine zSeq ?_ | refine zReg ?_ | refine zBlk ?_ | refine zSkp ?_ | refine zNil rfl ?_ | refine zGet rfl ?_ | refine zLss rfl rfl ?_ | refine zT rfl (by assumption) ?_ | refine zFld (f := 4) rfl O_api_Graph_Blocks ?_ | refine zLd (ty := 22) rfl (Bx.ld (by assumption) (by rfl) E_s_api_Block rfl) ?_ | refine zLen rfl (hbl.len E_s_api_Block) ?_)
  refine WP.rega ?_
  refine yFld (f := 4) rfl O_api_Graph_Blocks ?_
  refine yLd rfl (b1c.ld (off := 4) rfl E_s_api_Block rfl) ?_
  refine WH.get rfl ?_
  refine WH.op (op_indexAddr rfl rfl ha1) ?_
  refine yLd rfl hl1 ?_
  refine yFld (f := 4) rfl O_api_Graph_Blocks ?_
  refine yLd rfl (b2c.ld (off := 4) rfl E_s_api_Block rfl) ?_
  refine WH.get rfl ?_
  refine WH.op (op_indexAddr rfl rfl ha1') ?_
  refine yLd rfl hl1' ?_
  refine yAlc E_api_Block zero34 fun H3 f3 b3 n3 => ?_
  refine yAlc E_api_Block zero34 fun H4 f4 b4 n4 => ?_
  refine yStB (b3.fr f4) rfl rfl E_api_Block (by rw [te_api_Block_size]; rfl) (by simpa [Value.cells] using hone) (by simp [Value.cells]) (by simp [Value.cells]) fun H5 f5 b5 n5 => ?_
  have b5' : Bx H5 Hc.next 34 [vp, vc, vf, vt] := b5
  have b45 := b4.frX f5 (by simp; omega)
  refine yStB b45 rfl rfl E_api_Block (by rw [te_api_Block_size]; rfl) (by simpa [Value.cells] using hone') (by simp [Value.cells]) (by simp [Value.cells]) fun H6 f6 b6 n6 => ?_
  have b6' : Bx H6 H3.next 34 [vp', vc', vf', vt'] := b6
  have b56 := b5'.frX f6 (by simp; omega)
  have fc5 : Fr Hc H5 := (f3.trans f4).young f5 (by simp) (by simp)
  have fc6 : Fr Hc H6 := fc5.young f6 (by simp; omega) (by simp)
  have fz := f1c.trans fc6
  refine WH.nil ⟨?_, _, rfl, ?_⟩
  · obtain ⟨_, hs1, _⟩ := hp'
    obtain ⟨_, hs2, _⟩ := hcc'
    obtain ⟨q1, q2, q3, rfl⟩ := hs1.isSl
    obtain ⟨r1, r2, r3, rfl⟩ := hs2.isSl
    obtain ⟨s1, s2, s3, rfl⟩ := hf'.isSl
    obtain ⟨t1, t2, t3, rfl⟩ := ht0'.isSl
    obtain ⟨_, hs5, _⟩ := hb'
    obtain ⟨u1, u2, u3, rfl⟩ := hs5.isSl
    intro y hy
    simp only [List.mem_cons, List.not_mem_nil, or_false] at hy
    rcases hy with rfl | rfl
    · exact .inr ⟨rfl, _, _, _, rfl, rfl, op_load rfl ((b2c.fr fc5).ld (off := 4) rfl E_s_api_Block rfl), sameV_sl⟩
    · exact .inr ⟨rfl, _, _, _, rfl, rfl, op_load rfl ((hrd'.fr fc5).loadN (V := V) E_api_Block te_api_Block_agg te_api_Block_size), by simp [sameV, sameL, same0]⟩
  have hp6 := (hp.fr PhiR.m fc6)
  have hp6' := (hp'.fr PhiR.m fc6)
  have hpl := hp6
  have hpl' := hp6'
  have e6 : ((b.phis.length : Int) != b.phis.length) = false := by simp
  obtain ⟨_, Hx1, hi1, rfl, ex1⟩ := intsEq_c (H := H6) hO (hf.fr fc6) (hf'.fr fc6) (by have := hbs.frm; omega)
  rw [ex1] at hi1
  obtain ⟨_, Hx2, hi2, rfl, ex2⟩ := intsEq_c (H := H6) hO (ht0.fr fc6) (ht0'.fr fc6) (by have := hbs.to; omega)
  rw [ex2] at hi2
  obtain ⟨_, Hx3, hi3, rfl, ex3⟩ := sameIns_c (H := H6) hO (hcc.fr InsR.m fc6) (hcc'.fr InsR.m fc6) (by have := hbs.code; omega) (by have := hbs.code; omega) (fun i hi => by have := hbs.cargs i hi; omega)
  rw [ex3] at hi3
  rw [decide_eq_true (rfl : b.code = b.code)] at hi3
  (repeat first | refine zSeq ?_ | refine zReg ?_ | refine zLd (ty := 32) rfl (Bx.ld (by assumption) (by rfl) E_s_int rfl) ?_ | refine zFld (f := 2) rfl O_api_Block_From ?_)
  refine WL.call rfl rfl is_ref12_Ints hi1 ?_
  (repeat first | refine zOn rfl rfl ?_ | refine zNot rfl ?_ | refine zLd (ty := 32) rfl (Bx.ld (by assumption) (by rfl) E_s_int rfl) ?_ | refine zFld (f := 3) rfl O_api_Block_To ?_)
  refine WL.call rfl rfl is_ref12_Ints hi2 ?_
  (repeat first | refine zOn rfl rfl ?_ | refine zPF rfl rfl rfl ?_ | refine zNot rfl ?_ | refine zLd (ty := 31) rfl (Bx.ld (by assumption) (by rfl) E_s_api_Ins rfl) ?_ | refine zFld (f := 1) rfl O_api_Block_Code ?_)
  refine WL.call rfl rfl is_ref06_SameIns hi3 ?_
  (repeat first | refine zSeq ?_ | refine zReg ?_ | refine zBlk ?_ | refine zSkp ?_ | refine zNil rfl ?_ | refine zOn rfl rfl ?_ | refine zAsg rfl ?_ | refine zPF rfl rfl rfl ?_ | refine zNeq rfl rfl ?_ | refine zNot rfl ?_ | refine zF rfl (by assumption) ?_ | refine zFld (f := 0) rfl O_api_Block_Phis ?_ | refine zLd (ty := 30) rfl (Bx.ld (by assumption) (by rfl) E_s_api_Phi rfl) ?_ | refine zLen rfl (hpl.len E_s_api_Phi) ?_ | refine zLen rfl (hpl'.len E_s_api_Phi) ?_)
  refine WP.loopH (σ := Nat) (fun j => [(2, .pointer (some ⟨H.next, 0, none⟩)), (3, .pointer (some ⟨H1.next, 0, none⟩)), (5, .int .i64 k), (6, .pointer (some ⟨Hc.next, 0, none⟩)), (7, .pointer (some ⟨H3.next, 0, none⟩)), (8, .int .i64 j)]) (fun j Hd => Hd = H6 ∧ j ≤ b.phis.length) (fun j => b.phis.length - j) 0 ⟨rfl, Nat.zero_le _⟩ ⟨rfl, rfl, rfl, rfl, rfl, rfl, trivial⟩ ?_
  rintro j Hd ⟨hd, hj⟩
  replace hd := hd.symm
  subst hd
  have hbp := hbs.phis
  rcases Nat.lt_or_ge j b.phis.length with hjl | hjl
  · have g3 : decide ((j : Int) < b.phis.length) = true := decide_eq_true (by omega)
    obtain ⟨bi, offi, va, pa, pr, pV, ht⟩ := phi_at hp6 hjl
    obtain ⟨bi', offi', va', pa', pr', pV', ht'⟩ := phi_at hp6' hjl
    have e7 : (b.phis[j].r != b.phis[j].r) = false := by simp
    obtain ⟨_, Hx4, hi4, rfl, ex4⟩ := intsEq_c (H := H6) hO ht ht' (by have := hbs.pargs b.phis[j] (List.getElem_mem _); omega)
    rw [ex4] at hi4
    (repeat first | refine zSeq ?_ | refine zReg ?_ | refine zBlk ?_ | refine zSkp ?_ | refine zNil rfl ?_ | refine zGet rfl ?_ | refine zOn rfl (by assumption) ?_ | refine zMov rfl ?_ | refine zLss rfl rfl ?_ | refine zNeq rfl rfl ?_ | refine zT rfl (by assumption) ?_ | refine zFld (f := 0) rfl O_api_Block_Phis ?_ | refine zFld (f := 0) rfl O_api_Phi_R ?_ | refine zFld (f := 1) rfl O_api_Phi_Args ?_ | refine zLd (ty := 30) rfl (Bx.ld (by assumption) (by rfl) E_s_api_Phi rfl) ?_ | refine zLen rfl (hpl.len E_s_api_Phi) ?_ | refine zIdx rfl rfl pa ?_ | refine zLd (ty := 32) rfl pV ?_ | refine zLd (ty := 3) rfl pr ?_ | refine zIdx rfl rfl pa' ?_ | refine zLd (ty := 32) rfl pV' ?_ | refine zLd (ty := 3) rfl pr' ?_)
    refine WL.call rfl rfl is_ref12_Ints hi4 ?_
    (repeat first | refine zReg ?_ | refine zSkp ?_ | refine zNil rfl ?_ | refine zGet rfl ?_ | refine zOn rfl (by assumption) ?_ | refine zPF rfl (by assumption) rfl ?_ | refine zAdd rfl rfl (by omega) ?_ | refine zNot rfl ?_ | refine zF rfl rfl ?_)
    exact ⟨j + 1, ⟨rfl, hjl⟩, by omega, rfl, rfl, rfl, rfl, rfl, rfl, trivial⟩
  · have g3 : decide ((j : Int) < b.phis.length) = false := decide_eq_false (by omega)
    (repeat first | refine zSeq ?_ | refine zReg ?_ | refine zExt ?_ | refine zNil rfl ?_ | refine zGet rfl ?_ | refine zLss rfl rfl ?_ | refine zAdd rfl rfl (by omega) ?_ | refine zF rfl (by assumption) ?_ | refine zFld (f := 0) rfl O_api_Block_Phis ?_ | refine zLd (ty := 30) rfl (Bx.ld (by assumption) (by rfl) E_s_api_Phi rfl) ?_ | refine zLen rfl (hpl.len E_s_api_Phi) ?_)
    exact ⟨k + 1, ⟨fc.trans fc6, h⟩, by omega, rfl, rfl, rfl, trivial⟩
end Go.Proofs.YtfhmdhndmlinkaaDoor.U

/-
  Small blocks stay small.
-/
namespace Go.Proofs.YtfhmdhndmlinkaaDoor.U
open Go Go.Ev
theorem TinyB.mer {b : Block} (h : TinyB b) : TinyB (Mer.block b) := ⟨by have := (Mer.code_sub b.code).length_le; have := h.code; simp only [Mer.block]; omega, h.phis, h.frm, h.to, fun i hi => h.cargs i ((Mer.code_sub b.code).subset hi), h.pargs⟩
theorem tiny_mer {l : List Block} (h : ∀ b ∈ l, TinyB b) : ∀ b ∈ l.map Mer.block, TinyB b := fun b hb => by
  obtain ⟨b', hb', rfl⟩ := List.mem_map.1 hb
  exact (h b' hb').mer
end Go.Proofs.YtfhmdhndmlinkaaDoor.U

/-
  A graph as an argument.
-/
namespace Go.Proofs.YtfhmdhndmlinkaaDoor.U
open Go Go.Ev Go.Proofs.YtfhmdhndmlinkaaDoor
attribute [local irreducible] Ent EntF Mono
noncomputable def fs (t : Nat) : Array Field := match Tryd.prog.underlying t with
  | some (.struct fs) => fs
  | _ => #[]
theorem ln24 : (fs 24).toList.length = 5 := by kernel_rfl
theorem ln34 : (fs 34).toList.length = 4 := by kernel_rfl
theorem ln39 : (fs 39).toList.length = 6 := by kernel_rfl
theorem ln50 : (fs 50).toList.length = 2 := by kernel_rfl
theorem us24 : Tryd.prog.underlying 24 = some (.struct (fs 24)) := by kernel_rfl
theorem us34 : Tryd.prog.underlying 34 = some (.struct (fs 34)) := by kernel_rfl
theorem us39 : Tryd.prog.underlying 39 = some (.struct (fs 39)) := by kernel_rfl
theorem us50 : Tryd.prog.underlying 50 = some (.struct (fs 50)) := by kernel_rfl
noncomputable def f24 (i : Nat) (h : i < 5) : Field := (fs 24).toList[i]'(by rw [ln24]; exact h)
noncomputable def f34 (i : Nat) (h : i < 4) : Field := (fs 34).toList[i]'(by rw [ln34]; exact h)
noncomputable def f39 (i : Nat) (h : i < 6) : Field := (fs 39).toList[i]'(by rw [ln39]; exact h)
noncomputable def f50 (i : Nat) (h : i < 2) : Field := (fs 50).toList[i]'(by rw [ln50]; exact h)
theorem eInts {t : TypeId} (h : Tryd.prog.underlying t = some (.slice 3)) : Ent Tryd.prog (RSlice 1 (RInt .i64)) t := .slice h (by kernel_rfl) (by decide) (.int (by kernel_rfl)) (@RInt.mono _)
theorem mInts : Mono (RSlice 1 (RInt .i64)) := @RSlice.mono _ _ _ (@RInt.mono _)
theorem mIns : Mono RIns := @RCons.mono _ _ _ _ _ (@RInt.mono _) (@RCons.mono _ _ _ _ _ (@RInt.mono _) (@RCons.mono _ _ _ _ _ (@RInt.mono _) (@RCons.mono _ _ _ _ _ (@RInt.mono _) (@RCons.mono _ _ _ _ _ (@RInt.mono _) (@RCons.mono _ _ _ _ _ @mInts @REnd.mono)))))
theorem mPhi : Mono RPhi := @RCons.mono _ _ _ _ _ (@RInt.mono _) (@RCons.mono _ _ _ _ _ @mInts @REnd.mono)
theorem mPhis : Mono (RSlice 2 RPhi) := @RSlice.mono _ _ _ @mPhi
theorem mCode : Mono (RSlice 6 RIns) := @RSlice.mono _ _ _ @mIns
theorem mBlock : Mono RBlock := @RCons.mono _ _ _ _ _ @mPhis (@RCons.mono _ _ _ _ _ @mCode (@RCons.mono _ _ _ _ _ @mInts (@RCons.mono _ _ _ _ _ @mInts @REnd.mono)))
theorem mBlocks : Mono (RSlice 4 RBlock) := @RSlice.mono _ _ _ @mBlock
theorem mGraph : Mono RGraph := @RCons.mono _ _ _ _ _ @RStr.mono (@RCons.mono _ _ _ _ _ @RBool.mono (@RCons.mono _ _ _ _ _ (@RInt.mono _) (@RCons.mono _ _ _ _ _ (@RInt.mono _) (@RCons.mono _ _ _ _ _ @mBlocks @REnd.mono))))
theorem eIns : Ent Tryd.prog RIns 39 := Ent.struct (l := [f39 0 (by decide), f39 1 (by decide), f39 2 (by decide), f39 3 (by decide), f39 4 (by decide), f39 5 (by decide)]) (size := 6) us39 (by kernel_rfl) (by kernel_rfl)
  (.cons (n := 1) (by kernel_rfl) (by kernel_rfl) (by decide) (.int (by kernel_rfl)) (@RInt.mono _) (.cons (n := 1) (by kernel_rfl) (by kernel_rfl) (by decide) (.int (by kernel_rfl)) (@RInt.mono _) (.cons (n := 1) (by kernel_rfl) (by kernel_rfl) (by decide) (.int (by kernel_rfl)) (@RInt.mono _) (.cons (n := 1) (by kernel_rfl) (by kernel_rfl) (by decide) (.int (by kernel_rfl)) (@RInt.mono _) (.cons (n := 1) (by kernel_rfl) (by kernel_rfl) (by decide) (.int (by kernel_rfl)) (@RInt.mono _) (.cons (n := 1) (by kernel_rfl) (by kernel_rfl) (by decide) (eInts (by kernel_rfl)) @mInts (.nil (by decide))))))))
theorem ePhi : Ent Tryd.prog RPhi 50 := Ent.struct (l := [f50 0 (by decide), f50 1 (by decide)]) (size := 2) us50 (by kernel_rfl) (by kernel_rfl)
  (.cons (n := 1) (by kernel_rfl) (by kernel_rfl) (by decide) (.int (by kernel_rfl)) (@RInt.mono _) (.cons (n := 1) (by kernel_rfl) (by kernel_rfl) (by decide) (eInts (by kernel_rfl)) @mInts (.nil (by decide))))
theorem eBlock : Ent Tryd.prog RBlock 34 := Ent.struct (l := [f34 0 (by decide), f34 1 (by decide), f34 2 (by decide), f34 3 (by decide)]) (size := 4) us34 (by kernel_rfl) (by kernel_rfl)
  (.cons (n := 1) (by kernel_rfl) (by kernel_rfl) (by decide) (.slice (e := 50) (by kernel_rfl) (by kernel_rfl) (by decide) ePhi @mPhi) @mPhis (.cons (n := 1) (by kernel_rfl) (by kernel_rfl) (by decide) (.slice (e := 39) (by kernel_rfl) (by kernel_rfl) (by decide) eIns @mIns) @mCode (.cons (n := 1) (by kernel_rfl) (by kernel_rfl) (by decide) (eInts (by kernel_rfl)) @mInts (.cons (n := 1) (by kernel_rfl) (by kernel_rfl) (by decide) (eInts (by kernel_rfl)) @mInts (.nil (by decide))))))
theorem eGraph : Ent Tryd.prog RGraph 24 := Ent.struct (l := [f24 0 (by decide), f24 1 (by decide), f24 2 (by decide), f24 3 (by decide), f24 4 (by decide)]) (size := 5) us24 (by kernel_rfl) (by kernel_rfl)
  (.cons (n := 1) (by kernel_rfl) (by kernel_rfl) (by decide) (.str (by kernel_rfl)) @RStr.mono (.cons (n := 1) (by kernel_rfl) (by kernel_rfl) (by decide) (.bool (by kernel_rfl)) @RBool.mono (.cons (n := 1) (by kernel_rfl) (by kernel_rfl) (by decide) (.int (by kernel_rfl)) (@RInt.mono _) (.cons (n := 1) (by kernel_rfl) (by kernel_rfl) (by decide) (.int (by kernel_rfl)) (@RInt.mono _) (.cons (n := 1) (by kernel_rfl) (by kernel_rfl) (by decide) (.slice (e := 34) (by kernel_rfl) (by kernel_rfl) (by decide) eBlock @mBlock) @mBlocks (.nil (by decide)))))))
end Go.Proofs.YtfhmdhndmlinkaaDoor.U

/-
  The law MergeLess: the walk.
-/
namespace Go.Proofs.YtfhmdhndmlinkaaDoor.U
open Go Go.Ev
attribute [local irreducible] WL WP WH W
attribute [local irreducible] V
variable {O : Orc} {H : AH}
theorem block_atS {A : Av} {H : AH} {v : Value} {l : List Block} (h : Els 4 BlockS A H v l) {k : Nat} (hk : k < l.length) : ∃ b off vc, aIndex V.E 22 v (.int .i64 k) = some (.pointer (some ⟨b, off, none⟩)) ∧ aLoad V.E H 31 (.pointer (some ⟨b, off + 1, none⟩)) = some vc ∧ Els 6 InsR A H vc l[k].code ∧ Slb 39 A H vc := by
  obtain ⟨b, off, cs, h1, hrd, ⟨vp, vc, vf, vt, rfl, k1, k2, k3, k4⟩, vc', e, hs⟩ := h.at E_s_api_Block E_api_Block te_api_Block_size (kd := .i64) hk
  cases e
  exact ⟨b, off, vc, h1, (hrd.sub 1 1 (by omega)).load1 E_s_api_Ins rfl, k2, hs⟩
theorem lock_ops {x : Ins} (h : Mer.lockOp x = true) : x.op = 7 ∨ x.op = 8 := by
  unfold Mer.lockOp at h
  simp only [Bool.or_eq_true, beq_iff_eq] at h
  exact h
set_option maxHeartbeats 8000000 in
theorem mergeLess_c (hO : NoO O) (hW : ∀ H', Kro H H' → O 11 [] H' = some (.bool true, H')) (hgh : GH H) (hg : GM H) {A : Av} {g : Graph} {cs : List Value} (hR : GraphS A H cs g) (hop : ∀ b ∈ g.blocks, ∀ i ∈ b.code, 0 ≤ i.op ∧ i.op < 256) :
    ∃ H', Lc V O F_law26_MergeLess [.agg cs.toArray] H (.bool true) H' := by
  have key : ∃ u H', Lc V O F_law26_MergeLess [.agg cs.toArray] H u H' ∧ u = .bool true := by
    have hR00 := hR.r
    have hR0 := hR00
    obtain ⟨vb, rfl, hb⟩ := hR
    refine Lc.law26_MergeLess (R := fun u _ => u = .bool true) (hO _ _ _ (by decide) (by decide) (by decide) (by decide)) (Nat.le_of_ble_eq_true rfl) (by kernel_rfl) ?_
    unfold P_law26_MergeLess
    have works := fun {H'} (h : Kro H H') => Lc.orc (V := V) (hW H' h)
    refine zSeq ?_
    refine zReg ?_
    refine zBox rfl (fun _ => rfl) fun H1 f1 b1 n1 => ?_
    have b1' : Bx H1 H.next 24 (graphC g vb) := b1
    clear b1
    obtain ⟨_, H2, hc2, t, rfl, f2, hsm⟩ := long_c (H := H1) hO (GraphR.m.fr hR0 f1)
    have f12 := f1.trans f2
    have b12 := b1'.fr f2
    (repeat first | refine zSeq ?_ | refine zReg ?_ | refine zNil rfl ?_ | refine zAsg rfl ?_)
    refine zLd (ty := 24) rfl (b1'.ldN E_api_Graph te_api_Graph_agg (by rw [te_api_Graph_size]; rfl)) ?_
    refine WL.call rfl rfl is_law26_long hc2 ?_
    cases t
    case true =>
      (repeat first | refine zSeq ?_ | refine zReg ?_ | refine zNil rfl ?_ | refine zOff rfl rfl ?_ | refine zPT rfl rfl rfl ?_ | refine zT rfl rfl ?_)
      refine WL.call rfl rfl is_law26_awake (works f12.kro) ?_
      (repeat first | refine zNil rfl ?_)
      exact WP.ret ⟨.inr rfl, _, rfl, rfl⟩
    obtain ⟨hnb, hsm⟩ := hsm rfl
    have hsG : SmallG g := ⟨by omega, fun b hb => (hsm b hb).small⟩
    (repeat first | refine zOn rfl rfl ?_)
    refine WL.call rfl rfl is_law26_awake (works f12.kro) ?_
    (repeat first | refine zSeq ?_ | refine zReg ?_ | refine zSkp ?_ | refine zNil rfl ?_ | refine zOn rfl rfl ?_ | refine zPF rfl rfl rfl ?_ | refine zNot rfl ?_ | refine zF rfl rfl ?_)
    refine zLd (ty := 24) rfl (b12.ldN E_api_Graph te_api_Graph_agg (by rw [te_api_Graph_size]; rfl)) ?_
    obtain ⟨_, H3, hc3, cs3, rfl, hR3, f3⟩ := mof_c (H := H2) hO (hgh.fr f12) (hg.fr f12) (GraphR.m.fr hR0 f12) hsG hop
    have hR3S := hR3
    refine WL.call rfl rfl is_merge_Of hc3 ?_
    have hR30 := hR3
    obtain ⟨v3, rfl, h3⟩ := hR3
    have f13 := f12.trans f3
    have b13 := b12.fr f3
    (repeat first | refine zXtr rfl ?_)
    refine zAlc E_api_Graph zero24 fun H4 f4 b4 n4 => ?_
    have hv3 : Value.oneCell' v3 = true := h3.oneCell
    refine zStB b4 rfl rfl E_api_Graph (by rw [te_api_Graph_size]; rfl) (by simp [Value.cells, Value.oneCell'] at hv3 ⊢; exact hv3) (by simp [Value.cells]) (by simp [Value.cells]) fun H5 f5 b5 n5 => ?_
    have f35 : Fr H3 H5 := f4.young f5 (by simp) (by simp)
    have b15 := b13.fr f35
    have f15 := f13.trans f35
    cases ok : okG g
    case false =>
      have hE : errG g = 4 := by unfold errG; rw [ok]; rfl
      have hG : outG g = Mer.zero := by unfold outG; rw [ok]; rfl
      rw [hG] at h3 b5
      rw [hE]
      have b5' : Bx H5 H3.next 24 (graphC Mer.zero v3) := b5
      have hbl := h3
      (repeat first | refine zSeq ?_ | refine zReg ?_ | refine zNil rfl ?_ | refine zGet rfl ?_ | refine zEql rfl rfl ?_ | refine zNeq rfl rfl ?_ | refine zT rfl rfl ?_ | refine zFld (f := 4) rfl O_api_Graph_Blocks ?_ | refine zLd (ty := 22) rfl (Bx.ld (by assumption) (by rfl) E_s_api_Block rfl) ?_ | refine zLen rfl (hbl.len E_s_api_Block) ?_)
      exact WP.ret ⟨.inr rfl, _, rfl, rfl⟩
    have hE : errG g = 0 := by unfold errG; rw [ok]; rfl
    have hG : outG g = Mer.graph g := by unfold outG; rw [ok]; rfl
    rw [hG] at h3 b5 hR30
    rw [hE]
    have b5' : Bx H5 H3.next 24 (graphC g v3) := b5
    have hbl := hb
    have hbl' : Els 4 BlockS (.old H2.next) H3 v3 (g.blocks.map Mer.block) := h3
    have e5 : (((g.blocks.map Mer.block).length : Int) != g.blocks.length) = false := by simp
    clear b1' b12 b13 hc2 hc3 b4 b5 f4 f5
    (repeat first | refine zSeq ?_ | refine zReg ?_ | refine zBlk ?_ | refine zSkp ?_ | refine zNil rfl ?_ | refine zGet rfl ?_ | refine zAsg rfl ?_ | refine zNeq rfl rfl ?_ | refine zF rfl rfl ?_ | refine zF rfl (by assumption) ?_ | refine zFld (f := 4) rfl O_api_Graph_Blocks ?_ | refine zLd (ty := 22) rfl (Bx.ld (by assumption) (by rfl) E_s_api_Block rfl) ?_ | refine zLen rfl (hbl.len E_s_api_Block) ?_ | refine zLen rfl (hbl'.len E_s_api_Block) ?_)
    refine WP.loopH (σ := Nat) (fun k => [(1, .pointer (some ⟨H.next, 0, none⟩)), (3, .pointer (some ⟨H3.next, 0, none⟩)), (5, .int .i64 k)]) (fun k Hc => Fr H5 Hc ∧ k ≤ g.blocks.length) (fun k => g.blocks.length - k) 0 ⟨.refl _, Nat.zero_le _⟩ ⟨rfl, rfl, rfl, trivial⟩ ?_
    rintro k Hc ⟨fc, hk⟩
    have b1c := b15.fr fc
    have b3c := b5'.fr fc
    rcases Nat.lt_or_ge k g.blocks.length with h | h
    case inr =>
      have g1 : decide ((k : Int) < g.blocks.length) = false := decide_eq_false (by omega)
      have f1c := f15.trans fc
      have f3c := f35.trans fc
      have hRm : GraphR (.old H2.next) Hc (graphC g v3) (Mer.graph g) := GraphR.m.fr (GraphS.r ⟨v3, rfl, h3⟩) f3c
      have okm : okG (Mer.graph g) = true := by
        unfold okG at ok ⊢
        rw [Mer.graph_graph]
        simp only [Bool.and_eq_true] at ok ⊢
        exact ⟨ok.2, ok.2⟩
      obtain ⟨_, H6, hc6, cs6, rfl, hR6, f6⟩ := mof_c (H := Hc) hO (hgh.fr f1c) (hg.fr f1c) hRm hsG.mer (ops_mer (p := fun x => 0 ≤ x ∧ x < 256) hop)
      have hE6 : errG (Mer.graph g) = 0 := by unfold errG; rw [okm]; rfl
      have hG6 : outG (Mer.graph g) = Mer.graph g := by unfold outG; rw [okm]; exact Mer.graph_graph g
      rw [hE6] at hc6
      rw [hG6] at hR6
      have hR60 := hR6.r
      obtain ⟨v6, rfl, h6⟩ := hR6
      have hv6 : Value.oneCell' v6 = true := h6.oneCell
      (repeat first | refine zSeq ?_ | refine zReg ?_ | refine zExt ?_ | refine zNil rfl ?_ | refine zGet rfl ?_ | refine zLss rfl rfl ?_ | refine zF rfl (by assumption) ?_ | refine zFld (f := 4) rfl O_api_Graph_Blocks ?_ | refine zLd (ty := 22) rfl (Bx.ld (by assumption) (by rfl) E_s_api_Block rfl) ?_ | refine zLen rfl (hbl.len E_s_api_Block) ?_)
      refine zLd (ty := 24) rfl (b3c.ldN E_api_Graph te_api_Graph_agg (by rw [te_api_Graph_size]; rfl)) ?_
      refine WL.call rfl rfl is_merge_Of hc6 ?_
      (repeat first | refine zXtr rfl ?_)
      refine zAlc E_api_Graph zero24 fun H7 f7 b7 n7 => ?_
      refine zStB b7 rfl rfl E_api_Graph (by rw [te_api_Graph_size]; rfl) (by simp [Value.cells, Value.oneCell'] at hv6 ⊢; exact hv6) (by simp [Value.cells]) (by simp [Value.cells]) fun H8 f8 b8 n8 => ?_
      have f68 : Fr H6 H8 := f7.young f8 (by simp) (by simp)
      have b8' : Bx H8 H6.next 24 (graphC g v6) := b8
      have b38 := (b3c.fr f6).fr f68
      obtain ⟨_, H9, hc9, rfl, f9⟩ := same_c (H := H8) hO (GraphR.m.fr (GraphR.m.fr hRm f6) f68) (GraphR.m.fr hR60 f68) (by simp [Mer.graph]; omega) (tiny_mer hsm)
      have hc9' : Lc V O F_law26_same [.agg (graphC g v3).toArray, .agg (graphC g v6).toArray] H8 (.bool true) H9 := hc9
      (repeat first | refine zSeq ?_ | refine zReg ?_ | refine zNil rfl ?_ | refine zGet rfl ?_ | refine zOn rfl rfl ?_ | refine zEql rfl rfl ?_)
      refine zLd (ty := 24) rfl (b38.ldN E_api_Graph te_api_Graph_agg (by rw [te_api_Graph_size]; rfl)) ?_
      (repeat first | refine zOn rfl rfl ?_)
      refine zLd (ty := 24) rfl (b8'.ldN E_api_Graph te_api_Graph_agg (by rw [te_api_Graph_size]; rfl)) ?_
      (repeat first | refine zOn rfl rfl ?_)
      refine WL.call rfl rfl is_law26_same hc9' ?_
      (repeat first | refine zNil rfl ?_ | refine zPT rfl rfl rfl ?_)
      exact WP.ret ⟨.inr rfl, _, rfl, rfl⟩
    have g1 : decide ((k : Int) < g.blocks.length) = true := decide_eq_true (by omega)
    have hkm : k < (g.blocks.map Mer.block).length := by rw [List.length_map]; exact h
    obtain ⟨q1, o1, vc, ba, bc, hcc, hsl⟩ := block_atS (hb.fr BlockS.m (f15.trans fc)) h
    obtain ⟨q2, o2, vc', ba', bc', hcc', hsl'⟩ := block_atS (hbl'.fr BlockS.m (f35.trans fc)) hkm
    rw [List.getElem_map] at hcc'
    have hbs := hsm g.blocks[k] (List.getElem_mem _)
    generalize g.blocks[k] = b at *
    have hcc'' : Els 6 InsR (.old H2.next) Hc vc' (Mer.code b.code) := hcc'
    have hL := hbs.code
    have hLm := (Mer.code_sub b.code).length_le
    have hcnt := Mer.code_cnt b.code
    have hleft := Mer.left_code b.code
    obtain ⟨_, Hp, hcp, rfl, fp⟩ := pair_c (H := Hc) hO hcc'' (by omega) (Mer.noPair_code b.code)
    have hcl := hcc.fr InsR.m fp
    have hcl' := hcc''.fr InsR.m fp
    have hs1 := hsl.frX (fp.x _ _)
    have hs2 := hsl'.frX (fp.x _ _)
    have hargs := hbs.cargs
    have hsubm := (Mer.code_sub b.code).subset
    clear hcc hcc' hcc'' hsl hsl'
    generalize hm : Mer.code b.code = m at *
    generalize b.code = l at *
    (repeat first | refine zSeq ?_ | refine zReg ?_ | refine zBlk ?_ | refine zSkp ?_ | refine zNil rfl ?_ | refine zGet rfl ?_ | refine zLss rfl rfl ?_ | refine zT rfl (by assumption) ?_ | refine zFld (f := 1) rfl O_api_Block_Code ?_ | refine zFld (f := 4) rfl O_api_Graph_Blocks ?_ | refine zLd (ty := 22) rfl (Bx.ld (by assumption) (by rfl) E_s_api_Block rfl) ?_ | refine zLen rfl (hbl.len E_s_api_Block) ?_ | refine zIdx rfl rfl ba ?_ | refine zLd (ty := 31) rfl bc ?_ | refine zIdx rfl rfl ba' ?_ | refine zLd (ty := 31) rfl bc' ?_)
    refine WL.call rfl rfl is_ref26_Pair hcp ?_
    (repeat first | refine zSeq ?_ | refine zReg ?_ | refine zBlk ?_ | refine zSkp ?_ | refine zNil rfl ?_ | refine zGet rfl ?_ | refine zAsg rfl ?_ | refine zXtr rfl ?_ | refine zGeq rfl rfl ?_ | refine zF rfl rfl ?_)
    refine WP.loopH (σ := Nat × Nat) (fun x => [(1, .pointer (some ⟨H.next, 0, none⟩)), (3, .pointer (some ⟨H3.next, 0, none⟩)), (5, .int .i64 k), (6, vc), (7, vc'), (10, .int .i64 x.2), (11, .int .i64 x.1)]) (fun x Hd => Hd = Hp ∧ x.1 ≤ l.length ∧ x.2 ≤ m.length ∧ Mer.Left (m.drop x.2) (l.drop x.1)) (fun x => l.length - x.1) (0, 0) ⟨rfl, Nat.zero_le _, Nat.zero_le _, hleft⟩ ⟨rfl, rfl, rfl, rfl, rfl, rfl, rfl, trivial⟩ ?_
    rintro ⟨j, i⟩ Hd ⟨hd, hj, hi, hlf⟩
    simp only at hd hj hi hlf ⊢
    replace hd := hd.symm
    subst hd
    rcases Nat.lt_or_ge j l.length with hjl | hjl
    · have g2 : decide ((j : Int) < l.length) = true := decide_eq_true (by omega)
      obtain ⟨bi, offi, va, ia, io, -, -, -, -, -, -, -⟩ := ins_at hcl hjl
      have hdj := List.drop_eq_getElem_cons hjl
      have lockRoad : (∀ y m', m.drop i = y :: m' → l[j] ≠ y) → Mer.lockOp l[j] = true ∧ Mer.Left (m.drop i) (l.drop (j + 1)) := fun hx => by
        rw [hdj] at hlf
        exact hlf.other hx
      rcases Nat.lt_or_ge i m.length with hil | hil
      · have g3 : decide ((i : Int) < m.length) = true := decide_eq_true (by omega)
        obtain ⟨s1, hq1, he1⟩ := hcl.slice1 E_s_api_Ins E_api_Ins te_api_Ins_size (by decide) hs1 hjl
        obtain ⟨s2, hq2, he2⟩ := hcl'.slice1 E_s_api_Ins E_api_Ins te_api_Ins_size (by decide) hs2 hil
        have hdi := List.drop_eq_getElem_cons hil
        obtain ⟨_, Hx, hci, rfl, ex⟩ := sameIns_c (H := Hp) hO he1 he2 (by simp) (by simp) (fun y hy => by rw [List.mem_singleton] at hy; subst hy; have := hargs l[j] (List.getElem_mem _); omega)
        rw [ex] at hci
        by_cases he : l[j] = m[i]
        · rw [decide_eq_true (by rw [he])] at hci
          rw [hdj, hdi, he] at hlf
          have hnext := hlf.same
          (repeat first | refine zSeq ?_ | refine zReg ?_ | refine zBlk ?_ | refine zSkp ?_ | refine zNil rfl ?_ | refine zGet rfl ?_ | refine zOn rfl (by assumption) ?_ | refine zMov rfl ?_ | refine zLss rfl rfl ?_ | refine zAdd rfl rfl (by omega) ?_ | refine zT rfl (by assumption) ?_ | refine zLen rfl (hcl.len E_s_api_Ins) ?_ | refine zLen rfl (hcl'.len E_s_api_Ins) ?_)
          refine WL.op (op_slice rfl rfl rfl rfl hq1) ?_
          (repeat first | refine zOn rfl (by assumption) ?_ | refine zMov rfl ?_ | refine zAdd rfl rfl (by omega) ?_)
          refine WL.op (op_slice rfl rfl rfl rfl hq2) ?_
          (repeat first | refine zOn rfl (by assumption) ?_)
          refine WL.call rfl rfl is_ref06_SameIns hci ?_
          (repeat first | refine zSeq ?_ | refine zReg ?_ | refine zExt ?_ | refine zNil rfl ?_ | refine zGet rfl ?_ | refine zPT rfl (by assumption) rfl ?_ | refine zAdd rfl rfl (by omega) ?_ | refine zT rfl rfl ?_)
          exact ⟨(j + 1, i + 1), ⟨rfl, hjl, hil, hnext⟩, by simp only; omega, rfl, rfl, rfl, rfl, rfl, rfl, rfl, trivial⟩
        · rw [decide_eq_false (by simpa using he)] at hci
          obtain ⟨hlo, hnext⟩ := lockRoad fun y m' e => by rw [hdi] at e; cases e; exact he
          have h78 := lock_ops hlo
          generalize l[j].op = x at *
          rcases h78 with rfl | rfl
          · (repeat first | refine zSeq ?_ | refine zReg ?_ | refine zBlk ?_ | refine zSkp ?_ | refine zNil rfl ?_ | refine zGet rfl ?_ | refine zOn rfl (by assumption) ?_ | refine zMov rfl ?_ | refine zLss rfl rfl ?_ | refine zAdd rfl rfl (by omega) ?_ | refine zT rfl (by assumption) ?_ | refine zLen rfl (hcl.len E_s_api_Ins) ?_ | refine zLen rfl (hcl'.len E_s_api_Ins) ?_)
            refine WL.op (op_slice rfl rfl rfl rfl hq1) ?_
            (repeat first | refine zOn rfl (by assumption) ?_ | refine zMov rfl ?_ | refine zAdd rfl rfl (by omega) ?_)
            refine WL.op (op_slice rfl rfl rfl rfl hq2) ?_
            (repeat first | refine zOn rfl (by assumption) ?_)
            refine WL.call rfl rfl is_ref06_SameIns hci ?_
            (repeat first | refine zSeq ?_ | refine zReg ?_ | refine zSkp ?_ | refine zNil rfl ?_ | refine zGet rfl ?_ | refine zOn rfl rfl ?_ | refine zMov rfl ?_ | refine zPT rfl rfl rfl ?_ | refine zPT rfl (by assumption) rfl ?_ | refine zNeq rfl rfl ?_ | refine zAdd rfl rfl (by omega) ?_ | refine zF rfl rfl ?_ | refine zFld (f := 0) rfl O_api_Ins_Op ?_ | refine zIdx rfl rfl ia ?_ | refine zLd (ty := 5) rfl io ?_)
            exact ⟨(j + 1, i), ⟨rfl, hjl, hi, hnext⟩, by simp only; omega, rfl, rfl, rfl, rfl, rfl, rfl, rfl, trivial⟩
          · (repeat first | refine zSeq ?_ | refine zReg ?_ | refine zBlk ?_ | refine zSkp ?_ | refine zNil rfl ?_ | refine zGet rfl ?_ | refine zOn rfl (by assumption) ?_ | refine zMov rfl ?_ | refine zLss rfl rfl ?_ | refine zAdd rfl rfl (by omega) ?_ | refine zT rfl (by assumption) ?_ | refine zLen rfl (hcl.len E_s_api_Ins) ?_ | refine zLen rfl (hcl'.len E_s_api_Ins) ?_)
            refine WL.op (op_slice rfl rfl rfl rfl hq1) ?_
            (repeat first | refine zOn rfl (by assumption) ?_ | refine zMov rfl ?_ | refine zAdd rfl rfl (by omega) ?_)
            refine WL.op (op_slice rfl rfl rfl rfl hq2) ?_
            (repeat first | refine zOn rfl (by assumption) ?_)
            refine WL.call rfl rfl is_ref06_SameIns hci ?_
            (repeat first | refine zSeq ?_ | refine zReg ?_ | refine zSkp ?_ | refine zNil rfl ?_ | refine zGet rfl ?_ | refine zOff rfl rfl ?_ | refine zPF rfl rfl rfl ?_ | refine zPT rfl (by assumption) rfl ?_ | refine zNeq rfl rfl ?_ | refine zAdd rfl rfl (by omega) ?_ | refine zF rfl rfl ?_ | refine zFld (f := 0) rfl O_api_Ins_Op ?_ | refine zIdx rfl rfl ia ?_ | refine zLd (ty := 5) rfl io ?_)
            exact ⟨(j + 1, i), ⟨rfl, hjl, hi, hnext⟩, by simp only; omega, rfl, rfl, rfl, rfl, rfl, rfl, rfl, trivial⟩
      · have g3 : decide ((i : Int) < m.length) = false := decide_eq_false (by omega)
        obtain ⟨hlo, hnext⟩ := lockRoad fun y m' e => by rw [List.drop_eq_nil_of_le hil] at e; cases e
        have h78 := lock_ops hlo
        generalize l[j].op = x at *
        rcases h78 with rfl | rfl
        · (repeat first | refine zSeq ?_ | refine zReg ?_ | refine zBlk ?_ | refine zSkp ?_ | refine zNil rfl ?_ | refine zGet rfl ?_ | refine zOn rfl rfl ?_ | refine zOff rfl (by assumption) ?_ | refine zMov rfl ?_ | refine zPT rfl rfl rfl ?_ | refine zPF rfl (by assumption) rfl ?_ | refine zLss rfl rfl ?_ | refine zNeq rfl rfl ?_ | refine zAdd rfl rfl (by omega) ?_ | refine zF rfl rfl ?_ | refine zT rfl (by assumption) ?_ | refine zFld (f := 0) rfl O_api_Ins_Op ?_ | refine zLen rfl (hcl.len E_s_api_Ins) ?_ | refine zIdx rfl rfl ia ?_ | refine zLd (ty := 5) rfl io ?_ | refine zLen rfl (hcl'.len E_s_api_Ins) ?_)
          exact ⟨(j + 1, i), ⟨rfl, hjl, hi, hnext⟩, by simp only; omega, rfl, rfl, rfl, rfl, rfl, rfl, rfl, trivial⟩
        · (repeat first | refine zSeq ?_ | refine zReg ?_ | refine zBlk ?_ | refine zSkp ?_ | refine zNil rfl ?_ | refine zGet rfl ?_ | refine zOff rfl rfl ?_ | refine zOff rfl (by assumption) ?_ | refine zPF rfl rfl rfl ?_ | refine zPF rfl (by assumption) rfl ?_ | refine zLss rfl rfl ?_ | refine zNeq rfl rfl ?_ | refine zAdd rfl rfl (by omega) ?_ | refine zF rfl rfl ?_ | refine zT rfl (by assumption) ?_ | refine zFld (f := 0) rfl O_api_Ins_Op ?_ | refine zLen rfl (hcl.len E_s_api_Ins) ?_ | refine zIdx rfl rfl ia ?_ | refine zLd (ty := 5) rfl io ?_ | refine zLen rfl (hcl'.len E_s_api_Ins) ?_)
          exact ⟨(j + 1, i), ⟨rfl, hjl, hi, hnext⟩, by simp only; omega, rfl, rfl, rfl, rfl, rfl, rfl, rfl, trivial⟩
    have g2 : decide ((j : Int) < l.length) = false := decide_eq_false (by omega)
    rw [List.drop_eq_nil_of_le hjl] at hlf
    have hmi := List.drop_eq_nil_iff.1 hlf.nil
    have e6 : ((i : Int) != m.length) = false := by simp; omega
    (repeat first | refine zSeq ?_ | refine zReg ?_ | refine zBlk ?_ | refine zSkp ?_ | refine zExt ?_ | refine zNil rfl ?_ | refine zGet rfl ?_ | refine zAsg rfl ?_ | refine zLss rfl rfl ?_ | refine zNeq rfl rfl ?_ | refine zF rfl (by assumption) ?_ | refine zLen rfl (hcl.len E_s_api_Ins) ?_ | refine zLen rfl (hcl'.len E_s_api_Ins) ?_)
    clear g2
    refine WP.loopH (σ := Nat) (fun j => [(1, .pointer (some ⟨H.next, 0, none⟩)), (3, .pointer (some ⟨H3.next, 0, none⟩)), (5, .int .i64 k), (6, vc), (7, vc'), (12, .int .i64 j)]) (fun j Hd => Hd = Hp ∧ j ≤ l.length) (fun j => l.length - j) 0 ⟨rfl, Nat.zero_le _⟩ ⟨rfl, rfl, rfl, rfl, rfl, rfl, trivial⟩ ?_
    clear hj hjl hlf
    rintro j Hd ⟨hd, hj⟩
    replace hd := hd.symm
    subst hd
    rcases Nat.lt_or_ge j l.length with hjl | hjl
    · have g2 : decide ((j : Int) < l.length) = true := decide_eq_true (by omega)
      obtain ⟨bi, offi, va, ia, io, -, -, -, iN, -, -, -⟩ := ins_at hcl hjl
      cases c7 : l[j].op == 7
      · (repeat first | refine zSeq ?_ | refine zReg ?_ | refine zBlk ?_ | refine zSkp ?_ | refine zNil rfl ?_ | refine zGet rfl ?_ | refine zOff rfl (by assumption) ?_ | refine zPF rfl (by assumption) rfl ?_ | refine zLss rfl rfl ?_ | refine zEql rfl rfl ?_ | refine zAdd rfl rfl (by omega) ?_ | refine zF rfl rfl ?_ | refine zT rfl (by assumption) ?_ | refine zFld (f := 0) rfl O_api_Ins_Op ?_ | refine zFld (f := 4) rfl O_api_Ins_N ?_ | refine zLen rfl (hcl.len E_s_api_Ins) ?_ | refine zIdx rfl rfl ia ?_ | refine zLd (ty := 5) rfl io ?_ | refine zLd (ty := 2) rfl iN ?_)
        exact ⟨j + 1, ⟨rfl, hjl⟩, by omega, rfl, rfl, rfl, rfl, rfl, rfl, trivial⟩
      · generalize l[j].n = n at *
        obtain ⟨_, Hx1, hk1, rfl, ex1⟩ := locks_c (H := Hp) hO hcl (by omega) 7 n
        rw [ex1] at hk1
        obtain ⟨_, Hx2, hk2, rfl, ex2⟩ := locks_c (H := Hp) hO hcl' (by omega) 7 n
        rw [ex2] at hk2
        obtain ⟨_, Hx3, hk3, rfl, ex3⟩ := locks_c (H := Hp) hO hcl (by omega) 8 n
        rw [ex3] at hk3
        obtain ⟨_, Hx4, hk4, rfl, ex4⟩ := locks_c (H := Hp) hO hcl' (by omega) 8 n
        rw [ex4] at hk4
        have hck := hcnt.lock n
        have w1 := List.countP_le_length (p := fun i : Ins => i.op == 7 && i.n == n) (l := l)
        have w2 := List.countP_le_length (p := fun i : Ins => i.op == 7 && i.n == n) (l := m)
        have w3 := List.countP_le_length (p := fun i : Ins => i.op == 8 && i.n == n) (l := l)
        have w4 := List.countP_le_length (p := fun i : Ins => i.op == 8 && i.n == n) (l := m)
        generalize List.countP (fun i : Ins => i.op == 7 && i.n == n) l = z1 at *
        generalize List.countP (fun i : Ins => i.op == 7 && i.n == n) m = z2 at *
        generalize List.countP (fun i : Ins => i.op == 8 && i.n == n) l = z3 at *
        generalize List.countP (fun i : Ins => i.op == 8 && i.n == n) m = z4 at *
        have ez : ((z1 : Int) - z2 != (z3 : Int) - z4) = false := by simp; omega
        (repeat first | refine zSeq ?_ | refine zReg ?_ | refine zBlk ?_ | refine zSkp ?_ | refine zNil rfl ?_ | refine zGet rfl ?_ | refine zOn rfl (by assumption) ?_ | refine zMov rfl ?_ | refine zLss rfl rfl ?_ | refine zEql rfl rfl ?_ | refine zT rfl (by assumption) ?_ | refine zFld (f := 0) rfl O_api_Ins_Op ?_ | refine zFld (f := 4) rfl O_api_Ins_N ?_ | refine zLen rfl (hcl.len E_s_api_Ins) ?_ | refine zIdx rfl rfl ia ?_ | refine zLd (ty := 5) rfl io ?_ | refine zLd (ty := 2) rfl iN ?_)
        refine WL.call rfl rfl is_law26_locks hk1 ?_
        (repeat first | refine zOn rfl (by assumption) ?_ | refine zMov rfl ?_)
        refine WL.call rfl rfl is_law26_locks hk2 ?_
        (repeat first | refine zOn rfl (by assumption) ?_ | refine zMov rfl ?_ | refine zSub rfl rfl (by omega) ?_)
        refine WL.call rfl rfl is_law26_locks hk3 ?_
        (repeat first | refine zOn rfl (by assumption) ?_ | refine zMov rfl ?_)
        refine WL.call rfl rfl is_law26_locks hk4 ?_
        (repeat first | refine zReg ?_ | refine zSkp ?_ | refine zNil rfl ?_ | refine zGet rfl ?_ | refine zOn rfl (by assumption) ?_ | refine zPT rfl (by assumption) rfl ?_ | refine zNeq rfl rfl ?_ | refine zAdd rfl rfl (by omega) ?_ | refine zSub rfl rfl (by omega) ?_ | refine zF rfl (by assumption) ?_)
        exact ⟨j + 1, ⟨rfl, hjl⟩, by omega, rfl, rfl, rfl, rfl, rfl, rfl, trivial⟩
    have g2 : decide ((j : Int) < l.length) = false := decide_eq_false (by omega)
    (repeat first | refine zSeq ?_ | refine zReg ?_ | refine zExt ?_ | refine zNil rfl ?_ | refine zGet rfl ?_ | refine zLss rfl rfl ?_ | refine zAdd rfl rfl (by omega) ?_ | refine zF rfl (by assumption) ?_ | refine zLen rfl (hcl.len E_s_api_Ins) ?_)
    exact ⟨k + 1, ⟨fc.trans fp, h⟩, by omega, rfl, rfl, rfl, trivial⟩
  obtain ⟨u, H', h, rfl⟩ := key
  exact ⟨H', h⟩
end Go.Proofs.YtfhmdhndmlinkaaDoor.U

/-
  A graph as an argument: its code may be sliced.
-/
namespace Go.Ev
theorem RSlice.slb {α : Type} {n : Nat} {R : Rp α} {H : AH} {cs : List Value} {xs : List α} (h : RSlice n R H cs xs) (e : TypeId) (A : Av) : ∃ v, cs = [v] ∧ Slb e A H v := by
  obtain ⟨v, rfl, _, ⟨rfl, _⟩ | ⟨b, cap, hc, rfl, _⟩ | ⟨b, off, cap, et, cells, g, k, rfl, h2, h3, _⟩⟩ := h
  · exact ⟨_, rfl, .inl rfl⟩
  · exact ⟨_, rfl, .inr ⟨b, 0, 0, cap, rfl, .inl ⟨Nat.zero_le _, hc⟩⟩⟩
  · exact ⟨_, rfl, .inr ⟨b, off, _, cap, rfl, .inl ⟨h2, Nat.lt_of_le_of_lt h3 (by decide)⟩⟩⟩
theorem RBlock.toS {H : AH} {cs : List Value} {x : TBlock} (h : RBlock H cs x) : BlockS .no H cs (TBlock.to x) := by
  refine ⟨RBlock.to h, ?_⟩
  obtain ⟨h1, h2, _⟩ := h
  obtain ⟨v1, e1, _⟩ := RSlice.slb h1 39 .no
  obtain ⟨v2, e2, hs⟩ := RSlice.slb h2 39 .no
  exact ⟨v2, by rw [split1 e1, split1 e2]; rfl, hs⟩
theorem RGraph.toS {H : AH} {cs : List Value} {x : TGraph} (h : RGraph H cs x) : GraphS .no H cs (TGraph.to x) := by
  obtain ⟨⟨h1, _⟩, h2, ⟨h3, _⟩, ⟨h4, _⟩, h5, h6⟩ := h
  obtain ⟨vb, e5, h5⟩ := els_of (R := BlockS) (f := TBlock.to) (fun _ _ _ => RBlock.toS) h5
  refine ⟨vb, ?_, h5⟩
  have h6 : _ = ([] : List Value) := h6
  have h2 : _ = [_] := h2
  rw [split1 h1, split1 h2, split1 h3, split1 h4, split1 e5, h6]; rfl
end Go.Ev

/-
  MergeLess: what its row asks, and its card.
-/
namespace Go.Proofs.YtfhmdhndmlinkaaDoor.U.MergeLess
open Go Go.Ev Go.Proofs.YtfhmdhndmlinkaaDoor.U
set_option maxRecDepth 100000
theorem named0 : Tryd.prog.globalNamed "bobbin/code.ops" = some 0 := by kernel_rfl
noncomputable def ty0 : Nat := match (Tryd.prog.globals[0]?).map (·.type) with
  | some t => t
  | none => 0
theorem type0 : (Tryd.prog.globals[0]?).map (·.type) = some ty0 := by kernel_rfl
noncomputable def cells0 : List Value := (flatT Tryd.prog 100 ty0 Rows.laid_bobbin_code_ops).getD []
theorem flat0 : flatT Tryd.prog 100 ty0 Rows.laid_bobbin_code_ops = some cells0 := by kernel_rfl
theorem plain0 : (cells0.all plain) = true := by kernel_rfl
theorem named1 : Tryd.prog.globalNamed "bobbin/merge.quiet" = some 1 := by kernel_rfl
noncomputable def ty1 : Nat := match (Tryd.prog.globals[1]?).map (·.type) with
  | some t => t
  | none => 0
theorem type1 : (Tryd.prog.globals[1]?).map (·.type) = some ty1 := by kernel_rfl
noncomputable def cells1 : List Value := (flatT Tryd.prog 100 ty1 Rows.laid_bobbin_merge_quiet).getD []
theorem flat1 : flatT Tryd.prog 100 ty1 Rows.laid_bobbin_merge_quiet = some cells1 := by kernel_rfl
theorem plain1 : (cells1.all plain) = true := by kernel_rfl
noncomputable def rows : List AObj := [.row ty0 cells0 .ro 0 0, .row ty1 cells1 .ro 0 0]
theorem rowsOk : rows.all Go.Ev.rowOk = true := by kernel_rfl
theorem names : (Tryd.prog.funcs.toList.all fun fn => !(fn.name == "runtime.NumGoroutine")) = true := by kernel_rfl
theorem mixed : Tryd.prog.follows .mixedOrders = true := by kernel_rfl
theorem laidOut : laidOutB Tryd.prog = true := by kernel_rfl
theorem run : runK (envOf Tryd.prog rows.length) rows 1000 60 11 = some (.bool true) := by kernel_rfl
noncomputable def orc : Orc := orcOne rows 11 (.bool true)
theorem orc_ok : OrcOk (envOf Tryd.prog rows.length) orc := orcOne_ok fun _ hk => closed_sound names mixed rowsOk rfl run hk
theorem ua24 : Tryd.prog.underlying 24 = some (.struct (fs 24)) := by kernel_rfl
abbrev S := AAgg RGraph AEnd
theorem entS : EntA Tryd.prog S [24] := EntA.agg ua24 eGraph mGraph EntA.nil
theorem law (H : AH) (avs : List Value) b (hk : Kro (startH rows) H) (hs : S H avs b) : ∃ H', Lc (envOf Tryd.prog rows.length) orc 3 avs H (.bool true) H' := by
  obtain ⟨cs, vs, rfl, hR, rfl⟩ := hs
  have hg := RGraph.toS hR
  have hok := RGraph.ok hR
  have e : cs = cs.toList.toArray := by simp
  rw [e]
  refine mergeLess_c (O := orc) (H := H) (fun f vs H' h1 _ _ _ => ?_) (fun H' hk' => ?_) ⟨Nat.lt_of_lt_of_le (by decide) hk.1, hk.2 0 _ _ _ _ (by decide) (by rw [startH_obj]; kernel_rfl)⟩ ⟨Nat.lt_of_lt_of_le (by decide) hk.1, hk.2 1 _ _ _ _ (by decide) (by rw [startH_obj]; kernel_rfl)⟩ hg (fun b hb i hi => (hok.ins b hb i hi).op)
  · unfold orc orcOne; rw [if_neg (fun h => h1 h.1)]
  · unfold orc orcOne; rw [if_pos ⟨rfl, rfl, hk.trans hk'⟩]
open Go.RowKit in
theorem rows_in {W : World} (h : laidMetH Tryd.prog Rows.mergeLessRow.laid W) : ∀ g o, rows[g]? = some o → RowIn W g o := by
  have hl : laidMet Tryd.prog Rows.mergeLessRow.laid W := h
  intro g o hg
  unfold rows at hg
  match g, hg with
  | 0, hg =>
    cases hg
    exact ⟨fun v hv => List.all_eq_true.1 plain0 v hv, laidMet_row hl (.head _) named0 type0 flat0⟩
  | 1, hg =>
    cases hg
    exact ⟨fun v hv => List.all_eq_true.1 plain1 v hv, laidMet_row hl (.tail _ (.head _)) named1 type1 flat1⟩
  | n + 2, hg => simp at hg
open Go.RowKit Go.ChangeShapes in
theorem contract (H : Type) (enc : TypeId × Value → H) (W : World) (base : Nat) (args : Array Value) (ds gs : List (DataW H)) (before : List MemPlace)
    (hval : ∀ (j : Nat) t v, Tryd.f3.params[j]? = some t → args[j]? = some v → Value.okWide Tryd.prog W .any base t v)
    (hW : DataW.Whole enc Tryd.prog Tryd.f3.params.toList Rows.mergeLessSpec.vars false W args.toList ds gs before) (hL : laidMetH Tryd.prog Rows.mergeLessRow.laid W) :
    Calls Tryd.prog 3 args W fun e W' => ∃ v, e = .returned v ∧ Rows.mergeLessSpec.post enc Tryd.prog Tryd.f3 false true false false W args v W' :=
  law_contract (S := S) (ts := [24]) (tb := 4) names mixed laidOut (rows_in hL) (by kernel_rfl) entS (by kernel_rfl) (by kernel_rfl) (by kernel_rfl) rfl
    (fun hg hd => by
      subst hg
      match ds, hd with
      | [d0], _ => rfl) hval hW orc_ok law
open Go.ChangeShapes Go.WideShapes Go.ChangeAt Go.RowKit
theorem own : ownKnob Tryd.prog.godebug = none := by kernel_rfl
noncomputable def laidWorld (os : Os) : World := { World.holding Tryd.prog os ⟨#[], #[.agg #[.string .empty, .bool false, .int .i64 0, .int .i64 0, .slice none 0 0]], []⟩ with heap := ((((World.holding Tryd.prog os ⟨#[], #[.agg #[.string .empty, .bool false, .int .i64 0, .int .i64 0, .slice none 0 0]], []⟩).heap).modify 0 (fun | .cells _ t frozen => .cells cells0.toArray t frozen | o => o)).modify 1 (fun | .cells _ t frozen => .cells cells1.toArray t frozen | o => o)) }
theorem laid_met (os : Os) : laidMet Tryd.prog Rows.mergeLessRow.laid ((laidWorld os).forCall (fun _ _ => 0) ⟨#[], #[.agg #[.string .empty, .bool false, .int .i64 0, .int .i64 0, .slice none 0 0]], []⟩).memory :=
  laidMet_of_run' 8 (by kernel_rfl) (by kernel_rfl)
theorem reads (os : Os) {H : Type} (enc : TypeId × Value → H) : ∃ places, DataW.whole enc Tryd.prog ((laidWorld os).forCall (fun _ _ => 0) ⟨#[], #[.agg #[.string .empty, .bool false, .int .i64 0, .int .i64 0, .slice none 0 0]], []⟩).memory Tryd.f3.params.toList Rows.mergeLessSpec.vars false (#[.agg #[.string .empty, .bool false, .int .i64 0, .int .i64 0, .slice none 0 0]] : Array Value).toList 8 = some ([.agg [.lit (.string []), .lit (.bool false), .lit (.int .i64 0), .lit (.int .i64 0), .nil]], [], places) :=
  ⟨[], by kernel_rfl⟩
set_option maxRecDepth 100000 in
theorem lifted (os : Os) (started : os.Started) (H : Type) (enc : TypeId × Value → H) (F : Stop.Interp) :
    ReturnsInHanded {} Tryd.checked os 3 .any ((OpenSpec.ofChange Rows.mergeLessSpec).preRow enc Tryd.prog Tryd.f3 Rows.mergeLessRow.domain false Rows.mergeLessRow.laid) (((OpenSpec.ofChange Rows.mergeLessSpec).at F).post enc Tryd.prog Tryd.f3 false true false false) := by
  obtain ⟨places, hx⟩ := reads os enc
  refine returnsInHanded_of_row (C := Tryd.checked) (s := OpenSpec.ofChange Rows.mergeLessSpec) own started (by kernel_rfl) Tryd.func3
    (witness_row_at (enc := enc) (C := Tryd.checked) false (laidWorld os) #[.agg #[.string .empty, .bool false, .int .i64 0, .int .i64 0, .slice none 0 0]] rfl (by kernel_rfl) (by kernel_rfl) (by kernel_rfl)
      (OpenSpec.preRow_of_cond 8 hx (by kernel_rfl) (fun k hk => by cases hk) (by kernel_rfl) (laid_met os))) ?_
  intro W base args ds gs before hval hW _ _ _ hL _ _
  exact contract H enc W base args ds gs before hval hW hL
theorem said : Rows.MergeLessSaid :=
  OpenClaim.holds_of_cond 3 Tryd.f3 rfl rfl rfl rfl rfl rfl rfl ⟨rfl, rfl, rfl, rfl, rfl⟩ rfl rfl rfl rfl rfl (by kernel_rfl) Tryd.func3 (by kernel_rfl)
    (of_decide_eq_true (by kernel_rfl)) (by unfold Func.isWrapper; first | (rw [if_pos (by decide +kernel)]; kernel_rfl) | (rw [if_neg (by decide +kernel)]; exact ⟨rfl, rfl⟩))
    (fun os started H enc _ F => by rw [OpenClaim.pre_eq_preRow]; exact lifted os started H enc F)
theorem wants : ([24].all fun t => !Tryd.pinned.checked.prog.wantsStandIn t) = true := by kernel_rfl
theorem standIns (f : FuncId) (fn : Func) (hf : Tryd.pinned.checked.prog.funcNamed "bobbin/bobbinlaw26.MergeLess" = some f) (hfn : Tryd.pinned.checked.prog.funcs[f]? = some fn) :
    false = Tryd.pinned.checked.prog.looks [] ∧ ∀ (j : Nat) t, fn.params[j]? = some t → Tryd.pinned.checked.prog.wantsStandIn t = false := by
  obtain rfl : f = 3 := Option.some.inj ((show Tryd.prog.funcNamed "bobbin/bobbinlaw26.MergeLess" = some 3 by kernel_rfl).symm.trans hf) |>.symm
  obtain rfl : fn = Tryd.f3 := (Option.some.inj (Tryd.func3.symm.trans hfn)).symm
  refine ⟨by kernel_rfl, fun j t ht => ?_⟩
  have hm : t ∈ Tryd.f3.params.toList := by
    have := Array.mem_of_getElem? ht
    simpa using this
  rw [show Tryd.f3.params.toList = [24] by kernel_rfl] at hm
  simpa using List.all_eq_true.1 wants t hm
theorem card : Rows.MergeLessCardSaid :=
  Claim7.holds_tied_plain_at .later [] _ _ _ _ said (fun _ h => by cases h) (by kernel_rfl) (fun _ h => by cases h) mergeLess_row_tie rfl ⟨rfl, rfl⟩ (by kernel_rfl) rfl standIns (by kernel_rfl)
end Go.Proofs.YtfhmdhndmlinkaaDoor.U.MergeLess

