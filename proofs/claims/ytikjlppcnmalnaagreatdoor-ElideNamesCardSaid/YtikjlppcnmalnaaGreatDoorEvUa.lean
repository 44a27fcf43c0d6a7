/-
  EV, universal use, part a: what code does for sure, with all bounds great enough, from what is known of the temporaries.
-/
import Derived.Test.YtikjlppcnmalnaaGreatDoorEvUo
namespace Go.Ev
open Go.RowKit

variable {V : Env} {O : Orc} {live : Option Nat} {n : Nat}

abbrev SL := List (Nat × Value)

/-- What a list of known temporaries says. -/
def look (l : SL) (t : Nat) : Option Value :=
  match l with
  | [] => none
  | (u, v) :: l => if u = t then some v else look l t

def Has (T : PTree Value) (l : SL) : Prop := ∀ t v, look l t = some v → T.get t = some v

/-- A function answers so, whatever the bounds are, if they are great enough. -/
def Lc (V : Env) (O : Orc) (f : FuncId) (vs : List Value) (H : AH) (v : Value) (H' : AH) : Prop := ∃ N, ∀ lf, N ≤ lf → ∀ d, N ≤ d → fO V O lf d (.fn f) vs H = some (v, H')

theorem Lc.det {f : FuncId} {vs : List Value} {H : AH} {v v' : Value} {H1 H2 : AH} (h : Lc V O f vs H v H1) (k : Lc V O f vs H v' H2) : v = v' ∧ H1 = H2 := by
  obtain ⟨N, h⟩ := h
  obtain ⟨M, k⟩ := k
  have := h (N + M) (by omega) (N + M) (by omega)
  rw [k (N + M) (by omega) (N + M) (by omega)] at this
  cases this; exact ⟨rfl, rfl⟩

/-- Code comes out somewhere as Q says. -/
def W (V : Env) (O : Orc) (live : Option Nat) (n : Nat) (c : Code) (l : SL) (H : AH) (Q : Ex → SL → AH → Prop) : Prop :=
  ∀ T, Has T l → Dom live T → ∃ N e T' H', (∀ lf, N ≤ lf → ∀ d, N ≤ d → codeL V (fO V O lf d) live none n lf c T H = some (e, T', H')) ∧ Dom live T' ∧ ∃ l', Has T' l' ∧ Q e l' H'

def ThenL (K : SL → AH → Prop) (Q : Ex → SL → AH → Prop) : Ex → SL → AH → Prop
  | .normal, l, H => K l H
  | e, l, H => Q e l H

theorem W.mono {c : Code} {l : SL} {H : AH} {Q Q' : Ex → SL → AH → Prop} (h : W V O live n c l H Q) (hq : ∀ e l H, Q e l H → Q' e l H) : W V O live n c l H Q' := fun T hT hd =>
  let ⟨N, e, T', H', h1, h2, l', h3, h4⟩ := h T hT hd
  ⟨N, e, T', H', h1, h2, l', h3, hq _ _ _ h4⟩

theorem W.sub {c : Code} {l l' : SL} {H : AH} {Q : Ex → SL → AH → Prop} (h : W V O live n c l' H Q) (hl : ∀ t v, look l' t = some v → look l t = some v) : W V O live n c l H Q := fun T hT hd => h T (fun t v e => hT t v (hl t v e)) hd

theorem W.skip {l : SL} {H : AH} {Q : Ex → SL → AH → Prop} (h : Q .normal l H) : W V O live n .skip l H Q := fun T hT hd => ⟨0, .normal, T, H, fun _ _ _ _ => rfl, hd, l, hT, h⟩
theorem W.exit {id : Nat} {l : SL} {H : AH} {Q : Ex → SL → AH → Prop} (h : Q (.exit id) l H) : W V O live n (.exit id) l H Q := fun T hT hd => ⟨0, _, T, H, fun _ _ _ _ => rfl, hd, l, hT, h⟩
theorem W.ret {l : SL} {H : AH} {Q : Ex → SL → AH → Prop} (h : Q .ret l H) : W V O live n .ret l H Q := fun T hT hd => ⟨0, _, T, H, fun _ _ _ _ => rfl, hd, l, hT, h⟩
theorem W.label {id : Nat} {l : SL} {H : AH} {Q : Ex → SL → AH → Prop} (h : Q .normal l H) : W V O live n (.label id) l H Q := fun T hT hd => ⟨0, _, T, H, fun _ _ _ _ => rfl, hd, l, hT, h⟩

theorem W.seq {a b : Code} {l : SL} {H : AH} {Q : Ex → SL → AH → Prop} (h : W V O live n a l H (ThenL (fun l1 H1 => W V O live n b l1 H1 Q) Q)) : W V O live n (.seq a b) l H Q := fun T hT hd => by
  obtain ⟨N, e, T1, H1, h1, d1, l1, h2, h3⟩ := h T hT hd
  cases e with
  | normal =>
    obtain ⟨M, e, T2, H2, k1, d2, l2, k2, k3⟩ := h3 T1 h2 d1
    exact ⟨N + M, e, T2, H2, fun lf hlf d hdd => by simp only [codeL]; rw [h1 lf (by omega) d (by omega)]; exact k1 lf (by omega) d (by omega), d2, l2, k2, k3⟩
  | exit id => exact ⟨N, _, T1, H1, fun lf hlf d hdd => by simp only [codeL]; rw [h1 lf hlf d hdd], d1, l1, h2, h3⟩
  | ret => exact ⟨N, _, T1, H1, fun lf hlf d hdd => by simp only [codeL]; rw [h1 lf hlf d hdd], d1, l1, h2, h3⟩

/-- How an operand between regions is found. -/
def lookO (nG : Nat) (l : SL) : Operand → Option Value
  | .tmp t => look l t
  | x => oval nG .leaf x

theorem Has.oval {T : PTree Value} {l : SL} (h : Has T l) {nG : Nat} {x : Operand} {v : Value} (hx : lookO nG l x = some v) : oval nG T x = some v := by
  cases x with
  | tmp t => exact h t v hx
  | _ => exact hx

theorem W.cond {x : Operand} {a b : Code} {l : SL} {H : AH} {Q : Ex → SL → AH → Prop} {t : Bool} (hx : lookO V.nG l x = some (.bool t)) (h1 : t = true → W V O live n a l H Q) (h2 : t = false → W V O live n b l H Q) : W V O live n (.cond x a b) l H Q := fun T hT hd => by
  have hv := hT.oval hx
  cases t with
  | true =>
    obtain ⟨N, e, T', H', k1, k2⟩ := h1 rfl T hT hd
    exact ⟨N, e, T', H', fun lf hlf d hdd => by simp only [codeL, hv]; exact k1 lf hlf d hdd, k2⟩
  | false =>
    obtain ⟨N, e, T', H', k1, k2⟩ := h2 rfl T hT hd
    exact ⟨N, e, T', H', fun lf hlf d hdd => by simp only [codeL, hv]; exact k1 lf hlf d hdd, k2⟩

theorem W.block {id : Nat} {c : Code} {l : SL} {H : AH} {Q : Ex → SL → AH → Prop} (h : W V O live n c l H fun e l' H' => Q (e.out id) l' H') : W V O live n (.block id c) l H Q := fun T hT hd => by
  obtain ⟨N, e, T1, H1, h1, d1, l1, h2, h3⟩ := h T hT hd
  refine ⟨N, e.out id, T1, H1, fun lf hlf d hdd => ?_, d1, l1, h2, h3⟩
  simp only [codeL]; rw [h1 lf hlf d hdd]
  cases e with
  | exit id' => simp only [Ex.out]; split <;> rfl
  | _ => rfl

/-- A loop whose rounds bring a measure down. -/
theorem W.loop {c : Code} {Q : Ex → SL → AH → Prop} (I : SL → AH → Prop) (μ : SL → AH → Nat) (hI : ∀ l H, I l H → W V O live n c l H (ThenL (fun l' H' => I l' H' ∧ μ l' H' < μ l H) Q)) {l : SL} {H : AH} (h0 : I l H) : W V O live n (.loop c) l H Q := by
  have key : ∀ k l H, I l H → μ l H < k → ∀ T, Has T l → Dom live T → ∃ N e T' H', (∀ m, N ≤ m → ∀ lf, N ≤ lf → ∀ d, N ≤ d → loopN (fun T H => codeL V (fO V O lf d) live none n lf c T H) m T H = some (e, T', H')) ∧ Dom live T' ∧ ∃ l', Has T' l' ∧ Q e l' H' := by
    intro k
    induction k with
    | zero => intro l H _ hk; omega
    | succ k ih =>
      intro l H hi hk T hT hd
      obtain ⟨N, e, T1, H1, h1, d1, l1, h2, h3⟩ := hI l H hi T hT hd
      cases e with
      | normal =>
        obtain ⟨M, e, T2, H2, k1, k2⟩ := ih l1 H1 h3.1 (by have := h3.2; omega) T1 h2 d1
        refine ⟨N + M + 1, e, T2, H2, fun m hm lf hlf d hdd => ?_, k2⟩
        obtain ⟨m, rfl⟩ : ∃ m', m = m' + 1 := ⟨m - 1, by omega⟩
        simp only [loopN]
        rw [h1 lf (by omega) d (by omega)]
        exact k1 m (by omega) lf (by omega) d (by omega)
      | exit id =>
        refine ⟨N + 1, _, T1, H1, fun m hm lf hlf d hdd => ?_, d1, l1, h2, h3⟩
        obtain ⟨m, rfl⟩ : ∃ m', m = m' + 1 := ⟨m - 1, by omega⟩
        simp only [loopN]
        rw [h1 lf (by omega) d (by omega)]
      | ret =>
        refine ⟨N + 1, _, T1, H1, fun m hm lf hlf d hdd => ?_, d1, l1, h2, h3⟩
        obtain ⟨m, rfl⟩ : ∃ m', m = m' + 1 := ⟨m - 1, by omega⟩
        simp only [loopN]
        rw [h1 lf (by omega) d (by omega)]
  intro T hT hd
  obtain ⟨N, e, T', H', h1, h2⟩ := key (μ l H + 1) l H h0 (Nat.lt_succ_self _) T hT hd
  exact ⟨N, e, T', H', fun lf hlf d hdd => by simp only [codeL]; exact h1 lf hlf lf hlf d hdd, h2⟩

/-! ### Prepared regions -/
/-- How a prepared operation finds its operands. -/
def gS (nG : Nat) (E : List Value) (l : SL) : Ft
  | .tmp k => if k < far then E[k]? else look l (k - far)
  | x => oval nG .leaf x

theorem gS_le {T : PTree Value} {l : SL} (h : Has T l) (nG : Nat) (E : List Value) : Ft.le (gS nG E l) (gL nG E T) := fun x v hx => by
  cases x with
  | tmp k =>
    simp only [gS, gL] at hx ⊢
    split
    · rename_i hk; rw [if_pos hk] at hx; exact hx
    · rename_i hk; rw [if_neg hk] at hx; exact h _ _ hx
  | _ => exact hx

/-- A row of prepared operations comes to its end as K says. -/
def WL (V : Env) (O : Orc) (is : List LI) (E : List Value) (l : SL) (H : AH) (K : List Value → AH → Prop) : Prop :=
  ∀ T, Has T l → ∃ N E' H', (∀ lf, N ≤ lf → ∀ d, N ≤ d → runLI V (fO V O lf d) is E T H = some (E', H')) ∧ K E' H'

theorem WL.nil {E : List Value} {l : SL} {H : AH} {K : List Value → AH → Prop} (h : K E H) : WL V O [] E l H K := fun _ _ => ⟨0, E, H, fun _ _ _ _ => rfl, h⟩
theorem WL.get {t : Tmp} {is : List LI} {E : List Value} {l : SL} {H : AH} {K : List Value → AH → Prop} {v : Value} (hv : look l t = some v) (h : WL V O is (v :: E) l H K) : WL V O (.get t :: is) E l H K := fun T hT => by
  obtain ⟨N, E', H', h1, h2⟩ := h T hT
  exact ⟨N, E', H', fun lf hlf d hd => by simp only [runLI, hT t v hv]; exact h1 lf hlf d hd, h2⟩

/-- An operation that is no call of the program's. -/
theorem WL.op {o : Op} {is : List LI} {E : List Value} {l : SL} {H H1 : AH} {K : List Value → AH → Prop} {v : Value} (ho : aopG V (gS V.nG E l) H o = some (v, H1)) (h : WL V O is (v :: E) l H1 K) : WL V O (.run o none :: is) E l H K := fun T hT => by
  obtain ⟨N, E', H', h1, h2⟩ := h T hT
  have := aopG_mono (gS_le hT V.nG E) ho
  exact ⟨N, E', H', fun lf hlf d hd => by simp only [runLI, wantL, aopG_call this]; exact h1 lf hlf d hd, h2⟩

/-- An operation under a guard. -/
theorem WL.guard {o : Op} {x : Operand} {w b : Bool} {is : List LI} {E : List Value} {l : SL} {H : AH} {K : List Value → AH → Prop} (hx : gS V.nG E l x = some (.bool b)) (h1 : b = w → WL V O (.run o none :: is) E l H K) (h2 : b = !w → WL V O is (undef :: E) l H K) : WL V O (.run o (some (x, w)) :: is) E l H K := fun T hT => by
  have hv := gS_le hT V.nG E x _ hx
  by_cases e : b = w
  · obtain ⟨N, E', H', k1, k2⟩ := h1 e T hT
    refine ⟨N, E', H', fun lf hlf d hd => ?_, k2⟩
    have := k1 lf hlf d hd
    simp only [runLI, wantL] at this ⊢
    rw [hv]
    simp only [e, beq_self_eq_true]
    exact this
  · obtain ⟨N, E', H', k1, k2⟩ := h2 (by cases b <;> cases w <;> simp_all) T hT
    refine ⟨N, E', H', fun lf hlf d hd => ?_, k2⟩
    simp only [runLI, wantL]
    rw [hv]
    have : (b == w) = false := by simpa using e
    simp only [this]
    exact k1 lf hlf d hd

/-- A call of a function that is known by name or by value. -/
theorem WL.call {f : Operand} {args : Array Operand} {ts : Array TypeId} {k : FuncId} {first cap : Array Value} {vs : List Value} {is : List LI} {E : List Value} {l : SL} {H H1 : AH} {K : List Value → AH → Prop} {v : Value}
    (hf : gS V.nG E l f = some (.func (.func k) first cap)) (ha : gvals (gS V.nG E l) args.toList = some vs) (hk : (V.F k).isSome = true) (hc : Lc V O k (first.toList ++ vs ++ cap.toList) H v H1) (h : WL V O is (v :: E) l H1 K) :
    WL V O (.run (.call ⟨.value f, args, ts⟩) none :: is) E l H K := fun T hT => by
  obtain ⟨N, E', H', h1, h2⟩ := h T hT
  obtain ⟨M, hc⟩ := hc
  have e1 := gS_le hT V.nG E f _ hf
  have e2 := gvals_mono (gS_le hT V.nG E) ha
  obtain ⟨fn, hfn⟩ := Option.isSome_iff_exists.1 hk
  refine ⟨N + M, E', H', fun lf hlf d hd => ?_, h2⟩
  simp only [runLI, wantL, evOpG, e1, e2, hfn, hc lf (by omega) d (by omega)]
  exact h1 lf (by omega) d (by omega)

def outsL (E : List Value) : List (Tmp × Nat) → SL → Option SL
  | [], l => some l
  | (d, i) :: os, l => match E[i]? with
    | some v => outsL E os ((d, v) :: l)
    | none => none

theorem outsL_ok {E : List Value} : ∀ {os : List (Tmp × Nat)} {l l' : SL} {T : PTree Value}, outsL E os l = some l' → Has T l → ∃ T', setOuts E os T = some T' ∧ Has T' l'
  | [], l, l', T, h, hT => by simp [outsL] at h; subst h; exact ⟨T, rfl, hT⟩
  | (d, i) :: os, l, l', T, h, hT => by
    simp only [outsL] at h
    split at h
    · rename_i v hv
      simp only [setOuts, hv]
      refine outsL_ok h fun t u hu => ?_
      simp only [look] at hu
      split at hu
      · rename_i e; subst e; cases hu; exact PTree.get_set_same _ _ _
      · rename_i e; rw [PTree.get_set_ne _ _ (Ne.symm e)]; exact hT t u hu
    · cases h

/-- A region, prepared. -/
theorem W.region {id : Nat} {ops : Array Oper} {d : Bool} {is : List LI} {outs : List (Tmp × Nat)} {l : SL} {H : AH} {Q : Ex → SL → AH → Prop} (hp : planL V n live ops d = some (.fast is outs))
    (hl : ∀ os ∈ outs, isLive live os.1 = true) (h : WL V O is [] l H fun E H' => ∃ l', outsL E outs l = some l' ∧ Q .normal l' H') : W V O live n (.region id ops d) l H Q := fun T hT hd => by
  obtain ⟨N, E, H', h1, l', h2, h3⟩ := h T hT
  obtain ⟨T', k1, k2⟩ := outsL_ok h2 hT
  refine ⟨N, .normal, T', H', fun lf hlf d' hdd => ?_, fun t v hv => ?_, l', k2, h3⟩
  · simp only [codeL, regionL, hp]
    rw [h1 lf hlf d' hdd]
    simp only [k1, Option.map_some]
  · rcases setOuts_ok k1 t with ⟨i, m1, _⟩ | ⟨_, m2⟩
    · exact hl _ m1
    · rw [m2] at hv; exact hd t v hv

/-! ### Functions -/
def initL : List Value → Nat → SL
  | [], _ => []
  | v :: vs, i => (i, v) :: initL vs (i + 1)
theorem initL_look : ∀ {vs : List Value} {i t : Nat} {v : Value}, look (initL vs i) t = some v → i ≤ t ∧ vs[t - i]? = some v
  | [], i, t, v, h => by cases h
  | u :: vs, i, t, v, h => by
    simp only [initL, look] at h
    split at h
    · rename_i e; subst e; cases h; simp
    · rename_i e
      obtain ⟨h1, h2⟩ := initL_look h
      refine ⟨by omega, ?_⟩
      rw [show t - i = (t - (i + 1)) + 1 by omega]; simpa using h2

def resL (V : Env) (l : SL) (H : AH) : List ResultVar → Option (List Value)
  | [] => some []
  | .tmp t :: rs => match look l t, resL V l H rs with
    | some v, some vs => some (v :: vs)
    | _, _ => none
  | .cell a t :: rs => match look l a with
    | some p => match aLoad V.E H t p, resL V l H rs with
      | some v, some vs => some (v :: vs)
      | _, _ => none
    | none => none
theorem resL_ok {T : PTree Value} {l : SL} (hT : Has T l) {H : AH} : ∀ {rs : List ResultVar} {vs : List Value}, resL V l H rs = some vs → aResults V T H rs = some vs
  | [], vs, h => h
  | .tmp t :: rs, vs, h => by
    simp only [resL] at h
    split at h
    · rename_i v us h1 h2
      simp only [aResults, hT t v h1, resL_ok hT h2]; exact h
    · cases h
  | .cell a t :: rs, vs, h => by
    simp only [resL] at h
    split at h
    · rename_i p hp
      split at h
      · rename_i v us h1 h2
        simp only [aResults, hT a p hp, h1, resL_ok hT h2]; exact h
      · cases h
    · cases h

/-- A function's contract from its body. -/
theorem Lc.fn {f : FuncId} {fn : Func} {c : Code} {vs : List Value} {H : AH} {R : Value → AH → Prop} (ho : O f vs H = none) (hfn : V.F f = some fn) (hb : fn.body = some c) (hlen : vs.length ≤ fn.ntmps) (hlive : (List.range vs.length).all (isLive (some (liveOf fn c))) = true)
    (h : W V O (some (liveOf fn c)) fn.ntmps c (initL vs 0) H fun e l H' => (e = .normal ∨ e = .ret) ∧ ∃ rs, resL V l H' fn.results.toList = some rs ∧ R (resOf rs) H') : ∃ v H', Lc V O f vs H v H' ∧ R v H' := by
  have hT : Has (initT vs 0 .leaf) (initL vs 0) := fun t v hv => by
    obtain ⟨_, h2⟩ := initL_look hv
    rw [initT_get]
    have hlt := (List.getElem?_eq_some_iff.1 h2).1
    rw [if_pos (by omega)]; exact h2
  have hd : Dom (some (liveOf fn c)) (initT vs 0 .leaf) := fun t v hv => by
    rw [initT_get] at hv
    split at hv
    · rename_i ht
      rw [List.all_eq_true] at hlive
      exact hlive t (List.mem_range.2 (by omega))
    · simp at hv
  obtain ⟨N, e, T', H', h1, _, l', h2, he, rs, h3, h4⟩ := h _ hT hd
  refine ⟨resOf rs, H', ⟨N + 1, fun lf hlf d hdd => ?_⟩, h4⟩
  obtain ⟨d, rfl⟩ : ∃ d', d = d' + 1 := ⟨d - 1, by omega⟩
  simp only [fO, ho, hfn, hb]
  rw [if_pos ⟨hlen, hlive⟩, h1 lf (by omega) d (by omega)]
  have hres := resL_ok h2 h3
  rcases he with rfl | rfl <;> simp only [hres, Option.map_some]

theorem Lc.orc {f : FuncId} {vs : List Value} {H H' : AH} {v : Value} (h : O f vs H = some (v, H')) : Lc V O f vs H v H' := ⟨1, fun lf _ d hd => by
  obtain ⟨d, rfl⟩ : ∃ d', d = d' + 1 := ⟨d - 1, by omega⟩
  simp only [fO, h]⟩

/-- What is known so is sound. -/
theorem Lc.sound (hO : OrcOk V O) (hE : TOk V.E V.P) (hF : FOk V.F V.P) (hm : V.P.follows .mixedOrders = true) {f : FuncId} {vs : List Value} {H : AH} {v : Value} {H' : AH} (h : Lc V O f vs H v H') : Sound V (.fn f) vs H v H' := by
  obtain ⟨N, h⟩ := h
  exact CallOk.iff.1 (fO_ok hO hE hF hm N N) _ _ _ _ _ (h N (Nat.le_refl _) N (Nat.le_refl _))
end Go.Ev
