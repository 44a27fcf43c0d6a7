/-
  EV, symbolic use, part a: what code does in the abstract machine, as facts that compose ('Runs'); contracts of functions ('Sound').
-/
import Derived.Test.YtikjlppcnmalnaaGreatDoorEvZ
namespace Go.Ev
open Go.RowKit

variable {V : Env} {n : Nat} {ro : Option Nat}

/-- From (T, H) this code comes out by e at (T', H'). -/
def Runs (V : Env) (n : Nat) (ro : Option Nat) (c : Code) (T : PTree Value) (H : AH) (e : Ex) (T' : PTree Value) (H' : AH) : Prop :=
  ∀ (B0 : Nat) (s0 : Fr0) (rr : Option Nat) (ι : Emb) (a : Act) (w : World), FrOk V B0 s0 n ro rr ι T H a w → ∀ Q : Exit → Act → World → Prop,
    (∀ ι' a' w', FrOk V B0 s0 n ro rr ι' T' H' a' w' → Step V.P B0 ι H w ι' H' w' → Q e.to a' w') → c.wpIn (Wd rr) 0 V.P Q a w

/-- A function's contract at one place. -/
def Sound (V : Env) (t : Tgt) (vs : List Value) (H : AH) (v : Value) (H' : AH) : Prop :=
  match t with
  | .fn f => ∀ B0 ι w vs', GOk ι V.nG → HRel V.P B0 ι H w → LRel ι vs vs' →
      Calls V.P f vs'.toArray w fun e w' => ∃ v' ι', e = .returned v' ∧ VRel ι' v v' ∧ Step V.P B0 ι H w ι' H' w'
  | .yld b => ∀ B0 ι w vs' l, GOk ι V.nG → HRel V.P B0 ι H w → LRel ι vs vs' → ι b = some l →
      ∃ f tmps x y, (Instr.yield l.blk vs'.toArray).run V.P w = .ok (.round l.blk f tmps x y) w ∧
        RoundIn Fence.wide 0 V.P l.blk f tmps x y w fun e w' => ∃ v' ι', e = .returned v' ∧ VRel ι' v v' ∧ Step V.P B0 ι H w ι' H' w'

theorem CallOk.iff {call : CallFn} : CallOk V call ↔ ∀ t vs H v H', call t vs H = some (v, H') → Sound V t vs H v H' :=
  ⟨fun h t vs H v H' hc => match t with
    | .fn f => h.fn f vs H v H' hc
    | .yld b => h.yld b vs H v H' hc,
   fun h => ⟨fun f vs H v H' hc => h (.fn f) vs H v H' hc, fun b vs H v H' hc => h (.yld b) vs H v H' hc⟩⟩

/-- No call at all. -/
def noCall : CallFn := fun _ _ _ => none
theorem noCall_ok : CallOk V noCall := CallOk.iff.2 fun t vs H v H' h => (nomatch h)

open Classical in
/-- One call is known. -/
noncomputable def one (t0 : Tgt) (vs0 : List Value) (H0 : AH) (v0 : Value) (H0' : AH) (rest : CallFn := noCall) : CallFn := fun t vs H => if t = t0 ∧ vs = vs0 ∧ H = H0 then some (v0, H0') else rest t vs H
theorem one_ok {t : Tgt} {vs : List Value} {H : AH} {v : Value} {H' : AH} {rest : CallFn} (h : Sound V t vs H v H') (hr : CallOk V rest) : CallOk V (one t vs H v H' rest) :=
  CallOk.iff.2 fun t1 vs1 H1 v1 H1' hc => by
    unfold one at hc
    split at hc
    · rename_i e
      obtain ⟨rfl, rfl, rfl⟩ := e
      cases hc
      exact h
    · exact CallOk.iff.1 hr _ _ _ _ _ hc
theorem one_at {t : Tgt} {vs : List Value} {H : AH} {v : Value} {H' : AH} {rest : CallFn} : one t vs H v H' rest t vs H = some (v, H') := by
  unfold one; rw [if_pos ⟨rfl, rfl, rfl⟩]

theorem Runs.ev (hE : TOk V.E V.P) (hF : FOk V.F V.P) (hm : V.P.follows .mixedOrders = true) {call : CallFn} (hc : CallOk V call) {lf : Nat} {c : Code} {T T' : PTree Value} {H H' : AH} {e : Ex} (h : evC V (drawEv V) call ro n lf c T H = some (e, T', H')) : Runs V n ro c T H e T' H' :=
  fun _ _ _ _ _ _ hf _ hQ => evC_wp (drawEv V) hE hF hc (drawEv_ok hE hF hm) c hf h hQ

theorem Runs.seq {a b : Code} {T T1 T' : PTree Value} {H H1 H' : AH} {e : Ex} (h1 : Runs V n ro a T H .normal T1 H1) (h2 : Runs V n ro b T1 H1 e T' H') : Runs V n ro (.seq a b) T H e T' H' :=
  fun B0 s0 rr ι x w hf Q hQ => wpIn_seq (h1 B0 s0 rr ι x w hf _ fun ι1 a1 w1 g1 g2 => h2 B0 s0 rr ι1 a1 w1 g1 _ fun ι2 a2 w2 k1 k2 => hQ ι2 a2 w2 k1 (g2.trans k2))

theorem Runs.seqOut {a b : Code} {T T' : PTree Value} {H H' : AH} {e : Ex} (he : e ≠ .normal) (h : Runs V n ro a T H e T' H') : Runs V n ro (.seq a b) T H e T' H' :=
  fun B0 s0 rr ι x w hf Q hQ => wpIn_seq (h B0 s0 rr ι x w hf _ fun ι1 a1 w1 g1 g2 => by
    have hq := hQ ι1 a1 w1 g1 g2
    cases e with
    | normal => exact absurd rfl he
    | exit id => exact hq
    | ret => exact hq)

theorem Runs.condT {x : Operand} {a b : Code} {T T' : PTree Value} {H H' : AH} {e : Ex} (hx : oval V.nG T x = some (.bool true)) (h : Runs V n ro a T H e T' H') : Runs V n ro (.cond x a b) T H e T' H' :=
  fun B0 s0 rr ι y w hf Q hQ => wpIn_cond_true ((oval_ok hf.tr hf.g hx).plain_eq rfl) (h B0 s0 rr ι y w hf Q hQ)
theorem Runs.condF {x : Operand} {a b : Code} {T T' : PTree Value} {H H' : AH} {e : Ex} (hx : oval V.nG T x = some (.bool false)) (h : Runs V n ro b T H e T' H') : Runs V n ro (.cond x a b) T H e T' H' :=
  fun B0 s0 rr ι y w hf Q hQ => wpIn_cond_false ((oval_ok hf.tr hf.g hx).plain_eq rfl) (h B0 s0 rr ι y w hf Q hQ)

/-- How a block is left when its code is left by e. -/
def Ex.out (id : Nat) : Ex → Ex
  | .exit id' => if id' = id then .normal else .exit id'
  | e => e

theorem Runs.block {id : Nat} {c : Code} {T T' : PTree Value} {H H' : AH} {e : Ex} (h : Runs V n ro c T H e T' H') : Runs V n ro (.block id c) T H (e.out id) T' H' :=
  fun B0 s0 rr ι x w hf Q hQ => wpIn_block (h B0 s0 rr ι x w hf _ fun ι1 a1 w1 g1 g2 => by
    have hq := hQ ι1 a1 w1 g1 g2
    cases e with
    | normal => exact hq
    | ret => exact hq
    | exit id' =>
      simp only [Ex.to, Exit.inBlock]
      simp only [Ex.out] at hq
      split
      · rename_i e; rw [if_pos e] at hq; exact hq
      · rename_i e; rw [if_neg e] at hq; exact hq)

theorem Runs.skip {T : PTree Value} {H : AH} : Runs V n ro .skip T H .normal T H := fun _ _ _ ι a w hf _ hQ => wpIn_skip (hQ ι a w hf (Step.refl hf.rel))
theorem Runs.exit {id : Nat} {T : PTree Value} {H : AH} : Runs V n ro (.exit id) T H (.exit id) T H := fun _ _ _ ι a w hf _ hQ => wpIn_exit (hQ ι a w hf (Step.refl hf.rel))
theorem Runs.ret {T : PTree Value} {H : AH} : Runs V n ro .ret T H .ret T H := fun _ _ _ ι a w hf _ hQ => wpIn_ret (hQ ι a w hf (Step.refl hf.rel))
theorem Runs.label {id : Nat} {T : PTree Value} {H : AH} : Runs V n ro (.label id) T H .normal T H := fun _ _ _ ι a w hf _ hQ => wpIn_label (hQ ι a w hf (Step.refl hf.rel))

/-- Code that comes out somewhere as Q says. -/
def AW (V : Env) (n : Nat) (ro : Option Nat) (c : Code) (T : PTree Value) (H : AH) (Q : Ex → PTree Value → AH → Prop) : Prop := ∃ e T' H', Runs V n ro c T H e T' H' ∧ Q e T' H'

theorem AW.mono {c : Code} {T : PTree Value} {H : AH} {Q Q' : Ex → PTree Value → AH → Prop} (h : AW V n ro c T H Q) (hq : ∀ e T H, Q e T H → Q' e T H) : AW V n ro c T H Q' :=
  let ⟨e, T', H', h1, h2⟩ := h; ⟨e, T', H', h1, hq _ _ _ h2⟩

/-- Behind the first part: on if it ended normally, else out. -/
def Then (K : PTree Value → AH → Prop) (Q : Ex → PTree Value → AH → Prop) : Ex → PTree Value → AH → Prop
  | .normal, T, H => K T H
  | e, T, H => Q e T H

theorem AW.seq {a b : Code} {T : PTree Value} {H : AH} {Q : Ex → PTree Value → AH → Prop} (h : AW V n ro a T H (Then (fun T1 H1 => AW V n ro b T1 H1 Q) Q)) : AW V n ro (.seq a b) T H Q := by
  obtain ⟨e, T1, H1, h1, h2⟩ := h
  cases e with
  | normal =>
    obtain ⟨e, T2, H2, h3, h4⟩ := h2
    exact ⟨e, T2, H2, h1.seq h3, h4⟩
  | exit id => exact ⟨_, T1, H1, h1.seqOut (by simp), h2⟩
  | ret => exact ⟨_, T1, H1, h1.seqOut (by simp), h2⟩

theorem AW.cond {x : Operand} {a b : Code} {t : Bool} {T : PTree Value} {H : AH} {Q : Ex → PTree Value → AH → Prop} (hx : oval V.nG T x = some (.bool t)) (h1 : t = true → AW V n ro a T H Q) (h2 : t = false → AW V n ro b T H Q) : AW V n ro (.cond x a b) T H Q := by
  cases t with
  | true => obtain ⟨e, T', H', k1, k2⟩ := h1 rfl; exact ⟨e, T', H', .condT hx k1, k2⟩
  | false => obtain ⟨e, T', H', k1, k2⟩ := h2 rfl; exact ⟨e, T', H', .condF hx k1, k2⟩

theorem AW.block {id : Nat} {c : Code} {T : PTree Value} {H : AH} {Q : Ex → PTree Value → AH → Prop} (h : AW V n ro c T H fun e T' H' => Q (e.out id) T' H') : AW V n ro (.block id c) T H Q :=
  let ⟨_, T', H', h1, h2⟩ := h; ⟨_, T', H', h1.block, h2⟩

theorem AW.skip {T : PTree Value} {H : AH} {Q : Ex → PTree Value → AH → Prop} (h : Q .normal T H) : AW V n ro .skip T H Q := ⟨_, _, _, .skip, h⟩
theorem AW.exit {id : Nat} {T : PTree Value} {H : AH} {Q : Ex → PTree Value → AH → Prop} (h : Q (.exit id) T H) : AW V n ro (.exit id) T H Q := ⟨_, _, _, .exit, h⟩
theorem AW.ret {T : PTree Value} {H : AH} {Q : Ex → PTree Value → AH → Prop} (h : Q .ret T H) : AW V n ro .ret T H Q := ⟨_, _, _, .ret, h⟩
theorem AW.label {id : Nat} {T : PTree Value} {H : AH} {Q : Ex → PTree Value → AH → Prop} (h : Q .normal T H) : AW V n ro (.label id) T H Q := ⟨_, _, _, .label, h⟩

/-- A loop whose rounds bring a measure down. -/
theorem AW.loop {c : Code} {Q : Ex → PTree Value → AH → Prop} (I : PTree Value → AH → Prop) (μ : PTree Value → AH → Nat) (hI : ∀ T H, I T H → AW V n ro c T H (Then (fun T' H' => I T' H' ∧ μ T' H' < μ T H) Q)) {T : PTree Value} {H : AH} (h0 : I T H) : AW V n ro (.loop c) T H Q := by
  have key : ∀ k, ∀ T H, I T H → μ T H < k → ∃ e T' H', Q e T' H' ∧ ∀ (B0 : Nat) (s0 : Fr0) (rr : Option Nat) (ι : Emb) (a : Act) (w : World), FrOk V B0 s0 n ro rr ι T H a w → ∀ Qm : Exit → Act → World → Prop,
      (∀ ι' a' w', FrOk V B0 s0 n ro rr ι' T' H' a' w' → Step V.P B0 ι H w ι' H' w' → Qm e.to a' w') → Code.roundsIn (Wd rr) 0 V.P c Qm k a w := by
    intro k
    induction k with
    | zero => intro T H _ hk; omega
    | succ k ih =>
      intro T H hi hk
      obtain ⟨e, T1, H1, hr, hq⟩ := hI T H hi
      cases e with
      | normal =>
        obtain ⟨hi1, hm⟩ := hq
        obtain ⟨e, T2, H2, hq2, hr2⟩ := ih T1 H1 hi1 (by omega)
        refine ⟨e, T2, H2, hq2, fun B0 s0 rr ι a w hf Qm hQm => ?_⟩
        rw [roundsIn_succ]
        refine hr B0 s0 rr ι a w hf _ fun ι1 a1 w1 g1 g2 => ?_
        exact hr2 B0 s0 rr ι1 a1 w1 g1 Qm fun ι2 a2 w2 k1 k2 => hQm ι2 a2 w2 k1 (g2.trans k2)
      | exit id =>
        refine ⟨_, T1, H1, hq, fun B0 s0 rr ι a w hf Qm hQm => ?_⟩
        rw [roundsIn_succ]
        exact hr B0 s0 rr ι a w hf _ fun ι1 a1 w1 g1 g2 => hQm ι1 a1 w1 g1 g2
      | ret =>
        refine ⟨_, T1, H1, hq, fun B0 s0 rr ι a w hf Qm hQm => ?_⟩
        rw [roundsIn_succ]
        exact hr B0 s0 rr ι a w hf _ fun ι1 a1 w1 g1 g2 => hQm ι1 a1 w1 g1 g2
  obtain ⟨e, T', H', hq, hr⟩ := key (μ T H + 1) T H h0 (Nat.lt_succ_self _)
  exact ⟨e, T', H', fun B0 s0 rr ι a w hf Q hQ => wpIn_loop_rounds _ (hr B0 s0 rr ι a w hf Q hQ), hq⟩

/-- A region in the order of the text. -/
theorem AW.region (hE : TOk V.E V.P) (hF : FOk V.F V.P) {call : CallFn} (hc : CallOk V call) {id : Nat} {ops : Array Oper} {T T' : PTree Value} {H H' : AH} {Q : Ex → PTree Value → AH → Prop} (h : evOps V call n ops ops.toList T H = some (T', H')) (hq : Q .normal T' H') : AW V n ro (.region id ops false) T H Q := by
  refine ⟨.normal, T', H', fun B0 s0 rr ι a w hf Qm hQm => ?_, hq⟩
  refine wpIn_region ?_
  have hl := evOps_wp (Q := Qm) (ro := rr) hE hF hc (all := ops) ops.toList 0 (fun j hj => by simp) hf.tr hf.sz rfl hf.g hf.rel h fun ι' a' w' g1 g2 g3 g4 => hQm ι' a' w' (hf.next g1 g2 g3 g4) g4
  simpa [List.range_eq_range'] using hl

/-- A region that draws. -/
theorem AW.draw (hE : TOk V.E V.P) (hF : FOk V.F V.P) (hm : V.P.follows .mixedOrders = true) {call : CallFn} (hc : CallOk V call) {id : Nat} {ops : Array Oper} {T T' : PTree Value} {H H' : AH} {Q : Ex → PTree Value → AH → Prop} (h : drawEv V call n ops T H = some (T', H')) (hq : Q .normal T' H') : AW V n ro (.region id ops true) T H Q :=
  ⟨.normal, T', H', fun B0 s0 rr ι a w hf Qm hQm => drawEv_ok hE hF hm call hc rr n _ ops id B0 ι T H a w T' H' hf.tr hf.sz rfl hf.g hf.rel h Qm fun ι' a' w' g1 g2 g3 g4 => hQm ι' a' w' (hf.next g1 g2 g3 g4) g4, hq⟩

/-- A function's contract from its body. -/
theorem Sound.fn (hE : TOk V.E V.P) (hF : FOk V.F V.P) {f : FuncId} {fn : Func} {c : Code} {vs : List Value} {H : AH} {R : Value → AH → Prop} (hfn : V.F f = some fn) (hb : fn.body = some c) (hlen : vs.length ≤ fn.ntmps)
    (h : AW V fn.ntmps none c (initT vs 0 .leaf) H fun e T H' => (e = .normal ∨ e = .ret) ∧ ∃ rs, aResults V T H' fn.results.toList = some rs ∧ R (resOf rs) H') : ∃ v H', R v H' ∧ Sound V (.fn f) vs H v H' := by
  obtain ⟨e, T, H', hr, he, rs, hrs, hR⟩ := h
  refine ⟨resOf rs, H', hR, fun B0 ι w vs' hG hRel hL => ?_⟩
  obtain ⟨h1, h2, h3⟩ := hF f fn hfn
  have hn : (vs'.toArray ++ Array.replicate (fn.ntmps - vs'.toArray.size) undef).size = fn.ntmps := by
    have := hL.length
    simp; omega
  have hT := initT_ok hL fn.ntmps
  refine (callsIn_wide (n := 0)).1 (callsIn_of_wp_marks (F := Wd none) h1 hb trivial ?_)
  have hf0 : FrOk V B0 ⟨w.heap.size, []⟩ fn.ntmps none none ι (initT vs 0 .leaf) H { tmps := vs'.toArray ++ Array.replicate (fn.ntmps - vs'.toArray.size) undef, defers := [] } w :=
    ⟨by simpa using hT, by simpa using hn, Marks.nil, hG, hRel, trivial, Nat.le_refl _⟩
  refine hr _ _ _ _ _ _ hf0 _ fun ι' a' w' g1 g4 => ?_
  have hl : LeavesInM (Wd none) 0 V.P fn a'.tmps (fun e w' => ∃ v' ι', e = .returned v' ∧ VRel ι' (resOf rs) v' ∧ Step V.P B0 ι H w ι' H' w') a'.defers .returning w' := by
    refine leaves_marks w H ι ι' H' hRel.base a'.defers w' g1.mks g4 fun w2 hs2 => ?_
    obtain ⟨rs', k1, k2⟩ := aResults_ok hE (a := a') g1.tr hs2.rel hrs
    have hrun : (results fn a'.tmps).run V.P w2 = .ok (if h : rs'.toArray.size = 1 then rs'.toArray[0] else .tuple rs'.toArray) w2 := by
      rw [results_eq, Array.mapM_eq_mapM_toList]
      simp only [Sem.run_bind, Sem.run_map]
      rw [k2]
      rfl
    have hvr : VRel ι' (resOf rs) (if h : rs'.toArray.size = 1 then rs'.toArray[0] else .tuple rs'.toArray) := by
      cases k1 with
      | nil => exact VRel.tuple' .nil
      | cons hv ht => cases ht with
        | nil => exact hv
        | cons hv2 ht2 => simpa [resOf] using VRel.tuple' (.cons hv (.cons hv2 ht2))
    exact ⟨_, hrun, _, ι', rfl, hvr, hs2⟩
  rcases he with rfl | rfl
  · exact hl
  · exact hl
end Go.Ev
