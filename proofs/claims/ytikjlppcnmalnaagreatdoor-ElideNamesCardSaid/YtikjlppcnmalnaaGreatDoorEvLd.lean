/-
  EV, kernel, part Ld: code and functions over prepared regions; the run is sound.
-/
import Derived.Test.YtikjlppcnmalnaaGreatDoorEvLc
namespace Go.Ev
open Go.RowKit

variable {V : Env} {call : CallFn} {n : Nat} {ro : Option Nat}

def codeL (V : Env) (call : CallFn) (live : Option Nat) (ro : Option Nat) (n lf : Nat) : Code → PTree Value → AH → Option (Ex × PTree Value × AH)
  | .skip, T, H => some (.normal, T, H)
  | .region _ ops d, T, H => (regionL V call n live ops d T H).map fun (T', H') => (.normal, T', H')
  | .seq a b, T, H => match codeL V call live ro n lf a T H with
    | some (.normal, T', H') => codeL V call live ro n lf b T' H'
    | r => r
  | .cond c a b, T, H => match oval V.nG T c with
    | some (.bool true) => codeL V call live ro n lf a T H
    | some (.bool false) => codeL V call live ro n lf b T H
    | _ => none
  | .block id c, T, H => match codeL V call live ro n lf c T H with
    | some (.exit id', T', H') => if id' = id then some (.normal, T', H') else some (.exit id', T', H')
    | r => r
  | .loop c, T, H => loopN (fun T H => codeL V call live ro n lf c T H) lf T H
  | .exit id, T, H => some (.exit id, T, H)
  | .label _, T, H => some (.normal, T, H)
  | .ret, T, H => some (.ret, T, H)
  | .rangeFunc f ps x y, T, H => evC V (drawX V) call ro n lf (.rangeFunc f ps x y) T H
  | _, _, _ => none

theorem loopEnd_T {b : Nat} {T T' : PTree Value} {H H' : AH} {e : Ex} (h : loopEnd b T H = some (e, T', H')) : T' = T := by
  unfold loopEnd at h
  split at h
  · split at h
    · cases h
    · obtain ⟨_, _, h2⟩ := map_some h
      simp only [Prod.mk.injEq] at h2
      exact h2.2.1.symm
  · cases h

theorem rangeFunc_T {lf : Nat} {f : Operand} {ps : Array Tmp} {x y : Code} {T T' : PTree Value} {H H' : AH} {e : Ex} (h : evC V (drawX V) call ro n lf (.rangeFunc f ps x y) T H = some (e, T', H')) : T' = T := by
  simp only [evC] at h
  split at h
  · split at h
    · split at h
      · exact loopEnd_T h
      · cases h
    · cases h
  · cases h

theorem codeL_runs (hE : TOk V.E V.P) (hF : FOk V.F V.P) (hm : V.P.follows .mixedOrders = true) (hc : CallOk V call) (live : Option Nat) (lf : Nat) : ∀ (c : Code) {T T' : PTree Value} {H H' : AH} {e : Ex}, Dom live T → codeL V call live ro n lf c T H = some (e, T', H') →
    Runs V n ro c T H e T' H' ∧ Dom live T' := by
  intro c
  induction c with
  | skip =>
    intro T T' H H' e hd h
    simp only [codeL, Option.some.injEq, Prod.mk.injEq] at h
    obtain ⟨rfl, rfl, rfl⟩ := h
    exact ⟨.skip, hd⟩
  | region id ops d =>
    intro T T' H H' e hd h
    simp only [codeL] at h
    obtain ⟨⟨T1, H1⟩, h1, h2⟩ := map_some h
    simp only [Prod.mk.injEq] at h2
    obtain ⟨rfl, rfl, rfl⟩ := h2
    exact regionL_runs hE hF hm hc hd h1
  | seq a b iha ihb =>
    intro T T' H H' e hd h
    simp only [codeL] at h
    split at h
    · rename_i T1 H1 h1
      obtain ⟨r1, d1⟩ := iha hd h1
      obtain ⟨r2, d2⟩ := ihb d1 h
      exact ⟨r1.seq r2, d2⟩
    · rename_i hne
      obtain ⟨r1, d1⟩ := iha hd h
      refine ⟨r1.seqOut (fun e' => ?_), d1⟩
      subst e'
      exact hne _ _ h
  | cond x a b iha ihb =>
    intro T T' H H' e hd h
    simp only [codeL] at h
    split at h
    · rename_i hx
      obtain ⟨r, d⟩ := iha hd h
      exact ⟨.condT hx r, d⟩
    · rename_i hx
      obtain ⟨r, d⟩ := ihb hd h
      exact ⟨.condF hx r, d⟩
    · cases h
  | block id c ih =>
    intro T T' H H' e hd h
    simp only [codeL] at h
    split at h
    · rename_i id' T1 H1 h1
      obtain ⟨r, d⟩ := ih hd h1
      have rb := r.block (id := id)
      simp only [Ex.out] at rb
      split at h
      · rename_i e'
        rw [if_pos e'] at rb
        simp only [Option.some.injEq, Prod.mk.injEq] at h
        obtain ⟨rfl, rfl, rfl⟩ := h
        exact ⟨rb, d⟩
      · rename_i e'
        rw [if_neg e'] at rb
        simp only [Option.some.injEq, Prod.mk.injEq] at h
        obtain ⟨rfl, rfl, rfl⟩ := h
        exact ⟨rb, d⟩
    · rename_i hne
      obtain ⟨r, d⟩ := ih hd h
      have rb := r.block (id := id)
      cases e with
      | exit id' => exact absurd h (hne _ _ _)
      | normal => exact ⟨rb, d⟩
      | ret => exact ⟨rb, d⟩
  | loop c ih =>
    intro T T' H H' e hd h
    simp only [codeL] at h
    have key : ∀ k T H, Dom live T → loopN (fun T H => codeL V call live ro n lf c T H) k T H = some (e, T', H') → Dom live T' ∧ ∀ (B0 : Nat) (s0 : Fr0) (rr : Option Nat) (ι : Emb) (a : Act) (w : World), FrOk V B0 s0 n ro rr ι T H a w → ∀ Qm : Exit → Act → World → Prop,
        (∀ ι' a' w', FrOk V B0 s0 n ro rr ι' T' H' a' w' → Step V.P B0 ι H w ι' H' w' → Qm e.to a' w') → Code.roundsIn (Wd rr) 0 V.P c Qm k a w := by
      intro k
      induction k with
      | zero => intro T H _ h; simp [loopN] at h
      | succ k ihk =>
        intro T H hd h
        simp only [loopN] at h
        split at h
        · rename_i T1 H1 h1
          obtain ⟨r1, d1⟩ := ih hd h1
          obtain ⟨d2, r2⟩ := ihk T1 H1 d1 h
          refine ⟨d2, fun B0 s0 rr ι a w hf Qm hQm => ?_⟩
          rw [roundsIn_succ]
          refine r1 B0 s0 rr ι a w hf _ fun ι1 a1 w1 g1 g2 => ?_
          exact r2 B0 s0 rr ι1 a1 w1 g1 Qm fun ι2 a2 w2 k1 k2 => hQm ι2 a2 w2 k1 (g2.trans k2)
        · rename_i hne
          obtain ⟨r1, d1⟩ := ih hd h
          refine ⟨d1, fun B0 s0 rr ι a w hf Qm hQm => ?_⟩
          rw [roundsIn_succ]
          refine r1 B0 s0 rr ι a w hf _ fun ι1 a1 w1 g1 g2 => ?_
          cases e with
          | normal => exact absurd h (hne _ _)
          | exit id => exact hQm ι1 a1 w1 g1 g2
          | ret => exact hQm ι1 a1 w1 g1 g2
    obtain ⟨d, r⟩ := key lf T H hd h
    exact ⟨fun B0 s0 rr ι a w hf Q hQ => wpIn_loop_rounds _ (r B0 s0 rr ι a w hf Q hQ), d⟩
  | rangeFunc f ps x y ihx ihy =>
    intro T T' H H' e hd h
    simp only [codeL] at h
    have hT := rangeFunc_T h
    subst hT
    exact ⟨fun B0 s0 rr ι a w hf Q hQ => evC_wp (drawX V) hE hF hc (drawX_ok hE hF hm) _ hf h hQ, hd⟩
  | exit id =>
    intro T T' H H' e hd h
    simp only [codeL, Option.some.injEq, Prod.mk.injEq] at h
    obtain ⟨rfl, rfl, rfl⟩ := h
    exact ⟨.exit, hd⟩
  | label l =>
    intro T T' H H' e hd h
    simp only [codeL, Option.some.injEq, Prod.mk.injEq] at h
    obtain ⟨rfl, rfl, rfl⟩ := h
    exact ⟨.label, hd⟩
  | ret =>
    intro T T' H H' e hd h
    simp only [codeL, Option.some.injEq, Prod.mk.injEq] at h
    obtain ⟨rfl, rfl, rfl⟩ := h
    exact ⟨.ret, hd⟩
  | scope c ih => intro T T' H H' e hd h; simp only [codeL] at h; cases h
  | goto l => intro T T' H H' e hd h; simp only [codeL] at h; cases h
  | refuse w => intro T T' H H' e hd h; simp only [codeL] at h; cases h

/-! ### Rounds -/
def roundL (V : Env) (call : CallFn) (lf : Nat) (b : Nat) (vs : List Value) (H : AH) : Option (Value × AH) :=
  match H.obj b with
  | .loop _ _ n T ps x y => match setPs n ps.toList vs T with
    | some T1 => match codeL V call none (some b) n lf x T1 H with
      | some (.normal, T2, H2) => match H2.obj b with
        | .loop .ready pe n' T' ps' x' y' => match codeL V call none (some b) n lf y T2 (H2.put b (.loop .busy pe n' T' ps' x' y')) with
          | some (e, _, H4) => match H4.obj b with
            | .loop _ _ n'' T'' ps'' x'' y'' => some (.bool e.jump.isNone, H4.put b (.loop (if e.jump.isNone then .ready else .done) e.jump n'' T'' ps'' x'' y''))
            | _ => none
          | none => none
        | _ => none
      | _ => none
    | none => none
  | _ => none

theorem dom_none (T : PTree Value) : Dom none T := fun _ _ _ => rfl

variable {B0 : Nat} {ι : Emb} {H H' : AH} {w : World}

theorem roundL_ok (hE : TOk V.E V.P) (hF : FOk V.F V.P) (hm : V.P.follows .mixedOrders = true) (hc : CallOk V call) (lf : Nat) {b : Nat} {vs : List Value} {v : Value} (h : roundL V call lf b vs H = some (v, H')) {vs' : List Value} {l : ILoc} (hG : GOk ι V.nG) (hR : HRel V.P B0 ι H w) (hL : LRel ι vs vs') (hb : ι b = some l) :
    ∃ f tmps x y, (Instr.yield l.blk vs'.toArray).run V.P w = .ok (.round l.blk f tmps x y) w ∧
      RoundIn Fence.wide 0 V.P l.blk f tmps x y w fun e w' => ∃ v' ι', e = .returned v' ∧ VRel ι' v v' ∧ Step V.P B0 ι H w ι' H' w' := by
  unfold roundL at h
  split at h
  · rename_i st0 pe0 n T ps x y hob
    split at h
    · rename_i T1 hps
      split at h
      · rename_i T2 H2 hx
        split at h
        · rename_i pe n' T' ps' x' y' hob2
          split at h
          · rename_i e T3 H4 hy
            split at h
            · rename_i st4 pe4 n'' T'' ps'' x'' y'' hob4
              cases h
              obtain ⟨rec, r1, r2, r3, r4, r5, r6, r7, r8, _⟩ := hR.loopPut hb (st' := .ready) (pe' := none) hob
              obtain ⟨k1, k2, k3⟩ := setPs_ok hL r8 r7 hps
              have hz : (rec.params.zip vs'.toArray).foldl (fun tmps (t, a) => tmps.setIfInBounds t a) rec.tmps = (ps.toList.zip vs').foldl (fun tmps (t, a) => tmps.setIfInBounds t a) rec.tmps := by
                rw [r4, ← Array.foldl_toList]
                simp
              refine ⟨rec.fn, _, rec.assign, rec.body, run_yield r1 (by rw [r4]; simpa using k1), ?_⟩
              refine roundIn_of_wpIn trivial ?_
              rw [Wd.some, hz, r5, r6]
              have hf0 : FrOk V B0 ⟨w.heap.size, []⟩ n (some b) (some l.blk) ι T1 H { tmps := (ps.toList.zip vs').foldl (fun tmps (t, a) => tmps.setIfInBounds t a) rec.tmps, defers := [] } w :=
                ⟨k2, k3, Marks.nil, hG, hR, ⟨l, hb, rfl⟩, Nat.le_refl _⟩
              refine (codeL_runs hE hF hm hc none lf x (dom_none T1) hx).1 B0 ⟨w.heap.size, []⟩ (some l.blk) ι _ w hf0 _ fun ι2 a2 w2 g1 g2 => ?_
              simp only [Ex.to, Exit.then]
              obtain ⟨rec2, q1, q2, q3, q4, q5, q6, q7, q8, q9, _⟩ := g1.rel.loopPut (g2.le _ _ hb) (st' := .busy) (pe' := pe) hob2
              have hbr := run_beginRound (P := V.P) q1 q2
              have hrec2 : ({ rec2 with state := LoopState.busy, pending := pe } : Loop) = { rec2 with state := .busy } := by rw [← q3]
              rw [hrec2] at q9
              refine ⟨_, hbr, ?_⟩
              have g3 : FrOk V B0 ⟨w.heap.size, []⟩ n (some b) (some l.blk) ι2 T2 (H2.put b (.loop .busy pe n' T' ps' x' y')) a2 (w2.putObj l.blk (.loop { rec2 with state := .busy })) := g1.next g1.tr g1.sz rfl q9
              refine (codeL_runs hE hF hm hc none lf y (dom_none T2) hy).1 B0 ⟨w.heap.size, []⟩ (some l.blk) ι2 a2 _ g3 _ fun ι4 a4 w4 m1 m2 => ?_
              have hst4 := (g2.trans q9).trans m2
              obtain ⟨rec4, p1, p2, p3, p4, p5, p6, p7, p8, p9, _⟩ := m1.rel.loopPut (hst4.le _ _ hb) (st' := if e.jump.isNone then .ready else .done) (pe' := e.jump) hob4
              have hend := run_endRound (P := V.P) e.jump p1
              have hfin := hst4.trans p9
              cases e with
              | normal => exact ⟨_, _, hend, _, ι4, rfl, .bool _, hfin⟩
              | exit id => exact ⟨_, _, hend, _, ι4, rfl, .bool _, hfin⟩
              | ret => exact ⟨_, _, hend, _, ι4, rfl, .bool _, hfin⟩
            · cases h
          · cases h
        · cases h
      · cases h
    · cases h
  · cases h

/-! ### What is read later -/
def addT (def_ l : Nat) : Operand → Nat
  | .tmp t => if def_.testBit t then l else l ||| 2 ^ t
  | _ => l
/-- A region's operands that it has not made itself. -/
def expoOps : List Oper → Nat → Nat → Nat
  | [], _, l => l
  | o :: os, def_, l => expoOps os (match o.dst with | some d => def_ ||| 2 ^ d | none => def_) (o.op.operands.toList.foldl (addT def_) l)
def expo : Code → Nat → Nat
  | .region _ ops _, l => expoOps ops.toList 0 l
  | .seq a b, l => expo b (expo a l)
  | .cond x a b, l => expo b (expo a (addT 0 l x))
  | .block _ c, l => expo c l
  | .loop c, l => expo c l
  | .scope c, l => expo c l
  | .rangeFunc f ps x y, l => expo y (expo x (ps.toList.foldl (fun l t => l ||| 2 ^ t) (addT 0 l f)))
  | _, l => l
def resT : ResultVar → Nat
  | .tmp t => t
  | .cell a _ => a
/-- The temporaries of a function that are read in another region than that which makes them. -/
def liveOf (fn : Func) (c : Code) : Nat := fn.results.toList.foldl (fun l r => l ||| 2 ^ resT r) (expo c (2 ^ fn.params.size - 1))

/-! ### Functions -/
def fL (V : Env) (lf : Nat) : Nat → CallFn
  | 0, _, _, _ => none
  | d + 1, .fn f, vs, H => match V.F f with
    | some fn => match fn.body with
      | some c => if vs.length ≤ fn.ntmps ∧ (List.range vs.length).all (isLive (some (liveOf fn c))) = true then
          match codeL V (fL V lf d) (some (liveOf fn c)) none fn.ntmps lf c (initT vs 0 .leaf) H with
          | some (.normal, T, H') | some (.ret, T, H') => (aResults V T H' fn.results.toList).map fun vs => (resOf vs, H')
          | _ => none
        else none
      | none => none
    | none => none
  | d + 1, .yld b, vs, H => roundL V (fL V lf d) lf b vs H

theorem fL_ok (hE : TOk V.E V.P) (hF : FOk V.F V.P) (hm : V.P.follows .mixedOrders = true) (lf : Nat) : ∀ d, CallOk V (fL V lf d)
  | 0 => ⟨fun f vs H v H' h => by simp [fL] at h, fun b vs H v H' h => by simp [fL] at h⟩
  | d + 1 => by
    have ih := fL_ok hE hF hm lf d
    refine CallOk.iff.2 fun t vs H v H' h => ?_
    cases t with
    | fn f =>
      simp only [fL] at h
      split at h
      · rename_i fn hfn
        split at h
        · rename_i c hb
          split at h
          · rename_i hlen
            have hdom : Dom (some (liveOf fn c)) (initT vs 0 .leaf) := fun t v hv => by
              rw [initT_get] at hv
              split at hv
              · rename_i ht
                have := hlen.2
                rw [List.all_eq_true] at this
                exact this t (List.mem_range.2 (by omega))
              · simp at hv
            have fin : ∀ (e : Ex) (T : PTree Value) (H1 : AH), (e = .normal ∨ e = .ret) → codeL V (fL V lf d) (some (liveOf fn c)) none fn.ntmps lf c (initT vs 0 .leaf) H = some (e, T, H1) → (aResults V T H1 fn.results.toList).map (fun vs => (resOf vs, H1)) = some (v, H') → Sound V (.fn f) vs H v H' := fun e T H1 he hev hres => by
              obtain ⟨rs, hrs, hv⟩ := map_some hres
              simp only [Prod.mk.injEq] at hv
              obtain ⟨rfl, rfl⟩ := hv
              obtain ⟨hr, _⟩ := codeL_runs hE hF hm ih (some (liveOf fn c)) lf c hdom hev
              obtain ⟨v0, H0, hR, hS⟩ := Sound.fn (R := fun v0 H0 => v0 = resOf rs ∧ H0 = H1) hE hF hfn hb hlen.1 ⟨e, T, H1, hr, he, rs, hrs, rfl, rfl⟩
              obtain ⟨rfl, rfl⟩ := hR
              exact hS
            split at h
            · rename_i T H1 hev; exact fin .normal T H1 (.inl rfl) hev h
            · rename_i T H1 hev; exact fin .ret T H1 (.inr rfl) hev h
            · cases h
          · cases h
        · cases h
      · cases h
    | yld b =>
      simp only [fL] at h
      exact fun B0 ι w vs' l hG hR hL hb => roundL_ok hE hF hm ih lf h hG hR hL hb
end Go.Ev
