/-
  EV, part R: code and functions.
-/
import Derived.Test.YtikjlppcnmalnaaGreatDoorEvP
namespace Go.Ev
open Go.RowKit

inductive Ex where
  | normal
  | exit (id : Nat)
  | ret

abbrev St := PTree Value × AH

def loopN (step : PTree Value → AH → Option (Ex × PTree Value × AH)) : Nat → PTree Value → AH → Option (Ex × PTree Value × AH)
  | 0, _, _ => none
  | k + 1, T, H => match step T H with
    | some (.normal, T', H') => loopN step k T' H'
    | r => r

/-- How a region that draws its order is run: handed in. -/
abbrev DrawFn := CallFn → Nat → Array Oper → PTree Value → AH → Option (PTree Value × AH)

/-- The jump that a round's end leaves pending. -/
def Ex.jump : Ex → Option Code
  | .normal => none
  | .exit id => some (.exit id)
  | .ret => some .ret

def ofJump : Option Code → Option Ex
  | none => some .normal
  | some .ret => some .ret
  | some (.exit id) => some (.exit id)
  | _ => none

/-- The temporaries of a round: yield's arguments in the parameters. -/
def setPs (n : Nat) : List Tmp → List Value → PTree Value → Option (PTree Value)
  | [], [], T => some T
  | t :: ts, v :: vs, T => if t < n then setPs n ts vs (T.set t v) else none
  | _, _, _ => none

def roAlive (H : AH) : Option Nat → Bool
  | none => true
  | some b => match H.obj b with
    | .loop .. => true
    | _ => false

/-- The loop over a function is left. -/
def loopEnd (b : Nat) (T : PTree Value) (H : AH) : Option (Ex × PTree Value × AH) :=
  match H.obj b with
  | .loop st pend _ _ _ _ _ => if st = .busy then none else (ofJump pend).map fun e => (e, T, H.put b .dead)
  | _ => none

def evC (V : Env) (draw : DrawFn) (call : CallFn) (ro : Option Nat) (n lf : Nat) : Code → PTree Value → AH → Option (Ex × PTree Value × AH)
  | .skip, T, H => some (.normal, T, H)
  | .region _ ops false, T, H => (evOps V call n ops ops.toList T H).map fun (T', H') => (.normal, T', H')
  | .region _ ops true, T, H => (draw call n ops T H).map fun (T', H') => (.normal, T', H')
  | .seq a b, T, H => match evC V draw call ro n lf a T H with
    | some (.normal, T', H') => evC V draw call ro n lf b T' H'
    | r => r
  | .cond c a b, T, H => match oval V.nG T c with
    | some (.bool true) => evC V draw call ro n lf a T H
    | some (.bool false) => evC V draw call ro n lf b T H
    | _ => none
  | .block id c, T, H => match evC V draw call ro n lf c T H with
    | some (.exit id', T', H') => if id' = id then some (.normal, T', H') else some (.exit id', T', H')
    | r => r
  | .loop c, T, H => loopN (fun T H => evC V draw call ro n lf c T H) lf T H
  | .exit id, T, H => some (.exit id, T, H)
  | .label _, T, H => some (.normal, T, H)
  | .ret, T, H => some (.ret, T, H)
  | .rangeFunc f ps x y, T, H =>
    match roAlive H ro, oval V.nG T f with
    | true, some (.func (.func g) first cap) => match V.F g with
      | some _ => match call (.fn g) (first.toList ++ [.func (.yield H.next) #[] #[]] ++ cap.toList) (H.alloc (.loop .ready none n T ps x y)) with
        | some (_, H') => loopEnd H.next T H'
        | none => none
      | none => none
    | _, _ => none
  | _, _, _ => none

def initT : List Value → Nat → PTree Value → PTree Value
  | [], _, T => T
  | v :: vs, i, T => initT vs (i + 1) (T.set i v)

def aResults (V : Env) (T : PTree Value) (H : AH) : List ResultVar → Option (List Value)
  | [] => some []
  | .tmp t :: rs => match T.get t, aResults V T H rs with
    | some v, some vs => some (v :: vs)
    | _, _ => none
  | .cell a t :: rs => match T.get a with
    | some p => match aLoad V.E H t p, aResults V T H rs with
      | some v, some vs => some (v :: vs)
      | _, _ => none
    | none => none

def resOf (vs : List Value) : Value :=
  match vs with
  | [v] => v
  | vs => .tuple vs.toArray

/-- One round of a range over a function: yield is called. -/
def evRound (V : Env) (draw : DrawFn) (call : CallFn) (lf : Nat) (b : Nat) (vs : List Value) (H : AH) : Option (Value × AH) :=
  match H.obj b with
  | .loop _ _ n T ps x y => match setPs n ps.toList vs T with
    | some T1 => match evC V draw call (some b) n lf x T1 H with
      | some (.normal, T2, H2) => match H2.obj b with
        | .loop .ready pe n' T' ps' x' y' => match evC V draw call (some b) n lf y T2 (H2.put b (.loop .busy pe n' T' ps' x' y')) with
          | some (e, _, H4) => match H4.obj b with
            | .loop _ _ n'' T'' ps'' x'' y'' => some (.bool e.jump.isNone, H4.put b (.loop (if e.jump.isNone then .ready else .done) e.jump n'' T'' ps'' x'' y''))
            | _ => none
          | none => none
        | _ => none
      | _ => none
    | none => none
  | _ => none

def evF (V : Env) (draw : DrawFn) (lf : Nat) : Nat → CallFn
  | 0, _, _, _ => none
  | d + 1, .fn f, vs, H => match V.F f with
    | some fn => match fn.body with
      | some c => if vs.length ≤ fn.ntmps then
          match evC V draw (evF V draw lf d) none fn.ntmps lf c (initT vs 0 .leaf) H with
          | some (.normal, T, H') | some (.ret, T, H') => (aResults V T H' fn.results.toList).map fun vs => (resOf vs, H')
          | _ => none
        else none
      | none => none
    | none => none
  | d + 1, .yld b, vs, H => evRound V draw (evF V draw lf d) lf b vs H

variable {B0 : Nat} {ι : Emb} {H H' : AH} {w : World} {T T' : PTree Value} {V : Env} {call : CallFn}

/-- What is asked of the run of regions that draw. -/
def DrawOk (V : Env) (draw : DrawFn) : Prop := ∀ call, CallOk V call → ∀ (ro : Option Nat) (n : Nat) (ds : List Deferred) (ops : Array Oper) (id : Nat) (B0 : Nat) (ι : Emb) (T : PTree Value) (H : AH) (a : Act) (w : World) (T' : PTree Value) (H' : AH),
  TRel ι T a.tmps → a.tmps.size = n → a.defers = ds → GOk ι V.nG → HRel V.P B0 ι H w → draw call n ops T H = some (T', H') → ∀ Q : Exit → Act → World → Prop,
    (∀ ι' a' w', TRel ι' T' a'.tmps → a'.tmps.size = n → a'.defers = ds → Step V.P B0 ι H w ι' H' w' → Q .normal a' w') → (Code.region id ops true).wpIn (Wd ro) 0 V.P Q a w

def Ex.to : Ex → Exit
  | .normal => .normal
  | .exit id => .exit id
  | .ret => .ret

/-- How big the heap was when the frame was entered; the calls that it has deferred itself. -/
structure Fr0 where
  n : Nat
  base : List Deferred

/-- The marks of ranges over functions among a frame's deferred calls: blocks made since the frame was entered, that the abstract heap does not hold. -/
def Marks (s0 : Fr0) (ι : Emb) (H : AH) (w : World) (ds : List Deferred) : Prop :=
  ∃ rs ss : List Nat, (rs ++ ss).Nodup ∧ ds = rs.map (fun r => ⟨.collected r, #[]⟩) ++ (s0.base ++ ss.map (fun r => ⟨.collected r, #[]⟩)) ∧ ∀ r, r ∈ rs ++ ss → s0.n ≤ r ∧ w.heap[r]? = some (.deferred (some [])) ∧ ∀ b l, ι b = some l → H.alive (H.obj b) = true → l.blk ≠ r

theorem Marks.nil {k : Nat} : Marks ⟨k, []⟩ ι H w [] := ⟨[], [], List.nodup_nil, rfl, fun _ hr => (nomatch hr)⟩
/-- A call more is deferred. -/
theorem Marks.defer {k : Nat} {ds : List Deferred} (h : Marks ⟨k, []⟩ ι H w ds) (d : Deferred) : Marks ⟨k, [d]⟩ ι H w (d :: ds) := by
  obtain ⟨rs, ss, m1, rfl, m3⟩ := h
  exact ⟨[], rs ++ ss, by simpa using m1, by simp, by simpa using m3⟩

theorem Step.unheld {P : Program} {ι ι' : Emb} {H H' : AH} {w w' : World} (h : Step P B0 ι H w ι' H' w') {r : Nat} {o : Obj} (hr : w.heap[r]? = some o) (hn : ∀ b l, ι b = some l → H.alive (H.obj b) = true → l.blk ≠ r) :
    w'.heap[r]? = some o ∧ ∀ b l, ι' b = some l → H'.alive (H'.obj b) = true → l.blk ≠ r := by
  have hlt : r < w.heap.size := (Array.getElem?_eq_some_iff.1 hr).1
  refine ⟨(h.frame r hlt hn).trans hr, fun b l hb ha e => ?_⟩
  rcases h.new b l hb with h1 | ⟨h1, _⟩
  · exact hn b l h1 (h.old b l h1 ha) e
  · rcases h.fresh b l hb h1 ha with h2 | ⟨b0, l0, hb0, ha0, e0⟩
    · omega
    · exact hn b0 l0 hb0 ha0 (e0.trans e)

theorem Marks.step {P : Program} {s0 : Fr0} {ι ι' : Emb} {H H' : AH} {w w' : World} {ds : List Deferred} (hm : Marks s0 ι H w ds) (h : Step P B0 ι H w ι' H' w') : Marks s0 ι' H' w' ds := by
  obtain ⟨rs, ss, h1, h2, h3⟩ := hm
  refine ⟨rs, ss, h1, h2, fun r hr => ?_⟩
  obtain ⟨k1, k2, k3⟩ := h3 r hr
  exact ⟨k1, h.unheld k2 k3⟩

/-- A block that the abstract heap does not hold, and that is new since the step's begin, turns. -/
theorem Step.turn {P : Program} {ι0 ι : Emb} {H0 H : AH} {w0 w : World} (h : Step P B0 ι0 H0 w0 ι H w) {r : Nat} (hr : w0.heap.size ≤ r) (hn : ∀ b l, ι b = some l → H.alive (H.obj b) = true → l.blk ≠ r) (o : Obj) (hB : B0 ≤ w0.heap.size) :
    Step P B0 ι0 H0 w0 ι H (w.putObj r o) :=
  { le := h.le, new := h.new, next := h.next
    rel :=
      { base := by simpa using h.rel.base
        dom := h.rel.dom
        obj := fun b l hb ha => (h.rel.obj b l hb ha).carry (Emb.le_refl _) (World.putObj_heap_other (hn b l hb ha))
        sep := h.rel.sep
        grp := h.rel.grp }
    size := by simpa using h.size
    frame := fun c hc hx => (World.putObj_heap_other (by omega)).trans (h.frame c hc hx)
    low := fun c hc => (World.putObj_heap_other (by omega)).trans (h.low c hc)
    fresh := h.fresh, old := h.old, loc := h.loc, os := h.os, tape := h.tape, output := h.output }

def RoOk (ι : Emb) : Option Nat → Option Nat → Prop
  | none, none => True
  | some b, some r => ∃ l, ι b = some l ∧ l.blk = r
  | _, _ => False
theorem RoOk.mono {ι ι' : Emb} (hi : ι.le ι') : ∀ {ro rr : Option Nat}, RoOk ι ro rr → RoOk ι' ro rr
  | none, none, _ => trivial
  | some _, some _, ⟨l, h1, h2⟩ => ⟨l, hi _ _ h1, h2⟩
  | none, some _, h => h.elim
  | some _, none, h => h.elim

/-- A frame as the abstract run sees it. -/
structure FrOk (V : Env) (B0 : Nat) (s0 : Fr0) (n : Nat) (ro rr : Option Nat) (ι : Emb) (T : PTree Value) (H : AH) (a : Act) (w : World) : Prop where
  tr : TRel ι T a.tmps
  sz : a.tmps.size = n
  mks : Marks s0 ι H w a.defers
  g : GOk ι V.nG
  rel : HRel V.P B0 ι H w
  ro : RoOk ι ro rr
  s0 : s0.n ≤ w.heap.size

theorem FrOk.next {s0 : Fr0} {n : Nat} {ro rr : Option Nat} {ι ι' : Emb} {T T' : PTree Value} {H H' : AH} {a a' : Act} {w w' : World} (h : FrOk V B0 s0 n ro rr ι T H a w) (hT : TRel ι' T' a'.tmps) (hn : a'.tmps.size = n) (hd : a'.defers = a.defers) (hs : Step V.P B0 ι H w ι' H' w') :
    FrOk V B0 s0 n ro rr ι' T' H' a' w' :=
  ⟨hT, hn, hd ▸ h.mks.step hs, h.g.mono hs.le, hs.rel, h.ro.mono hs.le, Nat.le_trans h.s0 hs.size⟩

/-- The record of a loop turns. -/
theorem HRel.loopPut {P : Program} (h : HRel P B0 ι H w) {b : Nat} {l : ILoc} (hb : ι b = some l) {st st' : LoopState} {pe pe' : Option Code} {n : Nat} {T : PTree Value} {ps : Array Tmp} {x y : Code} (ho : H.obj b = .loop st pe n T ps x y) :
    ∃ r : Loop, w.heap[l.blk]? = some (.loop r) ∧ r.state = st ∧ r.pending = pe ∧ r.params = ps ∧ r.assign = x ∧ r.body = y ∧ r.tmps.size = n ∧ TRel ι T r.tmps ∧
      Step P B0 ι H w ι (H.put b (.loop st' pe' n T ps x y)) (w.putObj l.blk (.loop { r with state := st', pending := pe' })) ∧
      Step P B0 ι H w ι (H.put b .dead) (w.putObj l.blk (.loop { r with state := st' })) := by
  have ha : H.alive (H.obj b) = true := by rw [ho]; rfl
  have hO := h.obj b l hb ha
  rw [ho] at hO
  obtain ⟨hB, fn, tmps, defers, hw, hsz, hT⟩ := hO
  have hlt : l.blk < w.heap.size := (Array.getElem?_eq_some_iff.1 hw).1
  refine ⟨_, hw, rfl, rfl, rfl, rfl, rfl, hsz, hT, ?_, ?_⟩
  · refine h.write hb ha hB (fun c e => by simp [e]) rfl (fun c l' e hc hac => ?_) ?_ (fun c l' et cells st g v hc hoc => ?_) (fun k hk => World.putObj_heap_other hk) (by simp) rfl rfl rfl
    · have hac' : H.alive (H.obj c) = true := by cases hoc : H.obj c <;> rw [hoc] at hac <;> exact hac
      refine ⟨hac', fun e' => ?_⟩
      have := h.sep b c l l' (Ne.symm e) hb hc ha hac' e'.symm
      rw [ho] at this
      cases hoc : H.obj c <;> rw [hoc] at this <;> simp [Share] at this
    · simp only [AH.obj_put, if_true]
      exact ⟨hB, fn, tmps, defers, World.putObj_heap_same hlt, hsz, hT⟩
    · by_cases e : c = b
      · subst e; simp at hoc
      · simp [e] at hoc; simpa using h.grp c l' et cells st g v hc hoc
  · refine h.write hb ha hB (fun c e => by simp [e]) rfl (fun c l' e hc hac => ?_) ?_ (fun c l' et cells st g v hc hoc => ?_) (fun k hk => World.putObj_heap_other hk) (by simp) rfl rfl rfl
    · have hac' : H.alive (H.obj c) = true := by cases hoc : H.obj c <;> rw [hoc] at hac <;> exact hac
      refine ⟨hac', fun e' => ?_⟩
      have := h.sep b c l l' (Ne.symm e) hb hc ha hac' e'.symm
      rw [ho] at this
      cases hoc : H.obj c <;> rw [hoc] at this <;> simp [Share] at this
    · simp only [AH.obj_put, if_true]
      trivial
    · by_cases e : c = b
      · subst e; simp at hoc
      · simp [e] at hoc; simpa using h.grp c l' et cells st g v hc hoc

theorem ofJump_code {pend : Option Code} {e : Ex} (h : ofJump pend = some e) : (pend = none ∧ e = .normal) ∨ (pend = some .ret ∧ e = .ret) ∨ ∃ id, pend = some (.exit id) ∧ e = .exit id := by
  cases pend with
  | none => simp [ofJump] at h; exact .inl ⟨rfl, h.symm⟩
  | some c => cases c <;> simp [ofJump] at h
              · exact .inr (.inr ⟨_, rfl, h.symm⟩)
              · exact .inr (.inl ⟨rfl, h.symm⟩)

theorem enter_ok {s0 : Fr0} {n : Nat} {ro rr : Option Nat} {a : Act} {ps : Array Tmp} {x y : Code} (hf : FrOk V B0 s0 n ro rr ι T H a w) (hrok : roAlive H ro = true) (fid : FuncId) :
    ∃ (l : Nat) (mark : List Deferred) (wA : World) (dfr : Nat), (Instr.enterLoop fid a.tmps ps x y (Wd rr).round).run V.P w = .ok (l, mark) (wA.alloc (.loop ⟨.ready, none, fid, a.tmps, ps, x, y, dfr⟩)) ∧ l = wA.heap.size ∧
      Step V.P B0 ι H w ι H wA ∧ Marks s0 ι H wA (mark ++ a.defers) := by
  cases ro with
  | none =>
    cases rr with
    | some r => exact hf.ro.elim
    | none =>
      have hst0 : Step V.P B0 ι H w ι H (w.alloc (.deferred (some []))) :=
        { le := Emb.le_refl _, new := fun _ _ h => .inl h, next := Nat.le_refl _
          rel := { base := by have := hf.rel.base; simp; omega, dom := hf.rel.dom, obj := fun b l hb ha => (hf.rel.obj b l hb ha).carry (Emb.le_refl _) (Below.heap_alloc _ _ _ ((hf.rel.obj b l hb ha).lt ha)), sep := hf.rel.sep, grp := hf.rel.grp }
          size := by simp, frame := fun c hc _ => Below.heap_alloc _ _ _ hc, low := fun c hc => Below.heap_alloc _ _ _ (by have := hf.rel.base; omega)
          fresh := fun b l hb hn _ => by rw [hn] at hb; cases hb
          old := fun _ _ _ h => h, loc := fun _ _ _ => rfl, os := rfl, tape := rfl, output := rfl }
      refine ⟨_, _, w.alloc (.deferred (some [])), w.heap.size, run_enterLoop_outer fid a.tmps ps x y, by simp, hst0, ?_⟩
      obtain ⟨rs, ss, m1, m2, m3⟩ := hf.mks
      refine ⟨w.heap.size :: rs, ss, List.nodup_cons.2 ⟨fun hr => ?_, m1⟩, by simp [m2], fun r hr => ?_⟩
      · have := (Array.getElem?_eq_some_iff.1 (m3 _ hr).2.1).1
        omega
      · rcases List.mem_cons.1 hr with rfl | hr
        · refine ⟨hf.s0, World.alloc_heap_new _ _, fun b l hb ha e => ?_⟩
          have := (hf.rel.obj b l hb ha).lt ha
          omega
        · obtain ⟨k1, k2, k3⟩ := m3 r hr
          exact ⟨k1, hst0.unheld k2 k3⟩
  | some b =>
    cases rr with
    | none => exact hf.ro.elim
    | some r =>
      obtain ⟨l, hb, hr⟩ := hf.ro
      subst hr
      simp only [roAlive] at hrok
      split at hrok
      · rename_i hob0
        obtain ⟨rec, k1, _⟩ := hf.rel.loopPut hb (st' := .ready) (pe' := none) hob0
        refine ⟨w.heap.size, [], w, rec.defers, ?_, rfl, Step.refl hf.rel, by simpa using hf.mks⟩
        simp [Instr.enterLoop, Wd, Sem.run_bind, run_getLoop k1, Result.andThen]
      · cases hrok

theorem evC_wp (draw : DrawFn) (hE : TOk V.E V.P) (hF : FOk V.F V.P) (hc : CallOk V call) (hdr : DrawOk V draw) {s0 : Fr0} {n lf : Nat} {ro rr : Option Nat} : ∀ (c : Code) {ι : Emb} {T : PTree Value} {H : AH} {a : Act} {w : World},
    FrOk V B0 s0 n ro rr ι T H a w → ∀ {e : Ex} {T' : PTree Value} {H' : AH}, evC V draw call ro n lf c T H = some (e, T', H') → ∀ {Q : Exit → Act → World → Prop},
    (∀ ι' a' w', FrOk V B0 s0 n ro rr ι' T' H' a' w' → Step V.P B0 ι H w ι' H' w' → Q e.to a' w') → c.wpIn (Wd rr) 0 V.P Q a w := by
  intro c
  induction c with
  | skip =>
    intro ι T H a w hf e T' H' he Q hQ
    simp only [evC] at he; cases he
    exact wpIn_skip (hQ ι a w hf (Step.refl hf.rel))
  | region id ops dr =>
    intro ι T H a w hf e T' H' he Q hQ
    cases dr with
    | false =>
      simp only [evC] at he
      obtain ⟨⟨T1, H1⟩, h1, h2⟩ := map_some he
      cases h2
      refine wpIn_region ?_
      have hl := evOps_wp (Q := Q) (ro := rr) hE hF hc (all := ops) ops.toList 0 (fun j hj => by simp) hf.tr hf.sz rfl hf.g hf.rel h1 fun ι' a' w' g1 g2 g3 g4 => hQ ι' a' w' (hf.next g1 g2 g3 g4) g4
      simpa [List.range_eq_range'] using hl
    | true =>
      simp only [evC] at he
      obtain ⟨⟨T1, H1⟩, h1, h2⟩ := map_some he
      cases h2
      exact hdr call hc rr n _ ops id B0 ι T H a w T1 H1 hf.tr hf.sz rfl hf.g hf.rel h1 Q fun ι' a' w' g1 g2 g3 g4 => hQ ι' a' w' (hf.next g1 g2 g3 g4) g4
  | seq x y ihx ihy =>
    intro ι T H a w hf e T' H' he Q hQ
    simp only [evC] at he
    split at he
    · rename_i T1 H1 h1
      refine wpIn_seq (ihx hf h1 fun ι1 a1 w1 g1 g4 => ?_)
      exact ihy g1 he fun ι2 a2 w2 k1 k4 => hQ ι2 a2 w2 k1 (g4.trans k4)
    · rename_i hno
      refine wpIn_seq (ihx hf he fun ι1 a1 w1 g1 g4 => ?_)
      have hq := hQ ι1 a1 w1 g1 g4
      cases e with
      | normal => exact absurd he (hno _ _)
      | exit id => exact hq
      | ret => exact hq
  | cond x y z ihy ihz =>
    intro ι T H a w hf e T' H' he Q hQ
    simp only [evC] at he
    split at he
    · rename_i hb
      exact wpIn_cond_true ((oval_ok hf.tr hf.g hb).plain_eq rfl) (ihy hf he hQ)
    · rename_i hb
      exact wpIn_cond_false ((oval_ok hf.tr hf.g hb).plain_eq rfl) (ihz hf he hQ)
    · cases he
  | block id x ih =>
    intro ι T H a w hf e T' H' he Q hQ
    simp only [evC] at he
    split at he
    · rename_i id' T1 H1 h1
      refine wpIn_block (ih hf h1 fun ι1 a1 w1 g1 g4 => ?_)
      simp only [Ex.to, Exit.inBlock]
      split at he
      · rename_i hid; cases he
        rw [if_pos hid]; exact hQ ι1 a1 w1 g1 g4
      · rename_i hid; cases he
        rw [if_neg hid]; exact hQ ι1 a1 w1 g1 g4
    · rename_i hno
      refine wpIn_block (ih hf he fun ι1 a1 w1 g1 g4 => ?_)
      have hq := hQ ι1 a1 w1 g1 g4
      cases e with
      | normal => exact hq
      | exit id' => exact absurd he (hno _ _ _)
      | ret => exact hq
  | loop x ih =>
    intro ι T H a w hf e T' H' he Q hQ
    simp only [evC] at he
    refine wpIn_loop_rounds lf ?_
    have key : ∀ (k : Nat) {ι : Emb} {T : PTree Value} {H : AH} {a : Act} {w : World}, FrOk V B0 s0 n ro rr ι T H a w →
        loopN (fun T H => evC V draw call ro n lf x T H) k T H = some (e, T', H') → (∀ ι' a' w', FrOk V B0 s0 n ro rr ι' T' H' a' w' → Step V.P B0 ι H w ι' H' w' → Q e.to a' w') → Code.roundsIn (Wd rr) 0 V.P x Q k a w := by
      intro k
      induction k with
      | zero => intro ι T H a w _ hl; simp [loopN] at hl
      | succ k ihk =>
        intro ι T H a w hf hl hQ
        simp only [loopN] at hl
        rw [roundsIn_succ]
        split at hl
        · rename_i T1 H1 h1
          refine ih hf h1 fun ι1 a1 w1 g1 g4 => ?_
          exact ihk g1 hl fun ι2 a2 w2 k1 k4 => hQ ι2 a2 w2 k1 (g4.trans k4)
        · rename_i hno
          refine ih hf hl fun ι1 a1 w1 g1 g4 => ?_
          have hq := hQ ι1 a1 w1 g1 g4
          cases e with
          | normal => exact absurd hl (hno _ _)
          | exit id => exact hq
          | ret => exact hq
    exact key lf hf he hQ
  | exit id =>
    intro ι T H a w hf e T' H' he Q hQ
    simp only [evC] at he; cases he
    exact wpIn_exit (hQ ι a w hf (Step.refl hf.rel))
  | label l =>
    intro ι T H a w hf e T' H' he Q hQ
    simp only [evC] at he; cases he
    exact wpIn_label (hQ ι a w hf (Step.refl hf.rel))
  | ret =>
    intro ι T H a w hf e T' H' he Q hQ
    simp only [evC] at he; cases he
    exact wpIn_ret (hQ ι a w hf (Step.refl hf.rel))
  | rangeFunc f ps x y =>
    intro ι T H a w hf e T' H' he Q hQ
    simp only [evC] at he
    split at he
    · rename_i g first cap hrok hfo
      split at he
      · rename_i fn hfn
        split at he
        · rename_i v1 H1 hcall
          obtain ⟨h1, h2, h3⟩ := hF g fn hfn
          have hfv := oval_ok hf.tr hf.g hfo
          generalize hfe : a.eval f = fv at hfv
          cases hfv with
          | func q1 q2 q3 q4 =>
            rename_i first' cap'
            refine wpIn_rangeFunc fun fid _ => ?_
            obtain ⟨l, mark, wA, dfr, he1, hlA, hsA, hmA⟩ := enter_ok (x := x) (y := y) (ps := ps) hf hrok fid
            have hrA := hsA.rel
            have hsB : Step V.P B0 ι H wA (ι.ext H.next ⟨wA.heap.size, 0, 0, 0⟩) (H.alloc (.loop .ready none n T ps x y)) (wA.alloc (.loop ⟨.ready, none, fid, a.tmps, ps, x, y, dfr⟩)) :=
              hrA.alloc _ _ _ rfl ⟨hrA.base, fid, a.tmps, dfr, World.alloc_heap_new _ _, hf.sz, hf.tr.mono (Emb.le_ext (hrA.outside (Nat.le_refl _)))⟩ (fun _ _ _ _ _ e => (nomatch e))
            have hsAB := hsA.trans hsB
            have hyv : VRel (ι.ext H.next ⟨wA.heap.size, 0, 0, 0⟩) (.func (.yield H.next) #[] #[]) (.func (.yield wA.heap.size) #[] #[]) := .yield (Emb.ext_same ι H.next ⟨wA.heap.size, 0, 0, 0⟩)
            have hL := (((LRel.of_array q1 q3).mono hsAB.le).append (.cons hyv .nil)).append ((LRel.of_array q2 q4).mono hsAB.le)
            have hcalls := hc.fn _ _ _ _ _ hcall B0 _ _ _ (hf.g.mono hsAB.le) hsB.rel hL
            have hb : fn.body ≠ none := fun hb => by rw [hb] at h2; cases h2
            have hnm : fn.name ≠ "runtime.NumGoroutine" := by simpa using h3
            have harr : first' ++ #[Value.func (.yield l) #[] #[]] ++ cap' = (first'.toList ++ [Value.func (.yield wA.heap.size) #[] #[]] ++ cap'.toList).toArray := by apply Array.ext'; simp [hlA]
            refine ⟨l, mark, wA.alloc (.loop ⟨.ready, none, fid, a.tmps, ps, x, y, dfr⟩), { target := .fn (.func g) cap', args := first' ++ #[.func (.yield l) #[] #[]] }, wA.alloc (.loop ⟨.ready, none, fid, a.tmps, ps, x, y, dfr⟩), g, (first' ++ #[Value.func (.yield l) #[] #[]]) ++ cap', wA.alloc (.loop ⟨.ready, none, fid, a.tmps, ps, x, y, dfr⟩), he1, ?_, fun _ _ => trivial, ?_, fun e => (nomatch e), ?_⟩
            · have hk : ∀ u, a.eval (.const u) = u := fun _ => rfl
              simp [resolve, hfe, Deferred.ofValue, hk]
            · simp [invoke, callFunc, h1, hb, hnm]
            · rw [harr]
              refine (Wd.calls hcalls).mono fun e0 w0 ⟨v', ι0, he0, hv0, hs0⟩ => ?_
              subst he0
              unfold loopEnd at he
              split at he
              · rename_i st pend n1 T1 ps1 x1 y1 hob
                split at he
                · cases he
                · rename_i hst
                  obtain ⟨ex, hj, hx⟩ := map_some he
                  cases hx
                  obtain ⟨rec, r1, r2, r3, r4, r5, r6, r7, r8, r9, r10⟩ := hs0.rel.loopPut (hs0.le _ _ (Emb.ext_same ι H.next ⟨wA.heap.size, 0, 0, 0⟩)) (st' := .exhausted) (pe' := none) hob
                  have hend := run_endLoop (P := V.P) r1 (by rw [r2]; exact hst)
                  have hfin := (hsAB.trans hs0).trans r10
                  have hmk := hmA.step ((hsB.trans hs0).trans r10)
                  refine ⟨rec.pending, _, by rw [hlA]; exact hend, ?_⟩
                  have hfo' : FrOk V B0 s0 n ro rr ι0 T (H1.put H.next .dead) { a with defers := mark ++ a.defers } (w0.putObj wA.heap.size (.loop { rec with state := .exhausted })) :=
                    ⟨hf.tr.mono hfin.le, hf.sz, hmk, hf.g.mono hfin.le, hfin.rel, hf.ro.mono hfin.le, Nat.le_trans hf.s0 hfin.size⟩
                  have hq := hQ _ _ _ hfo' hfin
                  have hj' : ofJump rec.pending = some e := by rw [r3]; exact hj
                  rcases ofJump_code hj' with ⟨hp, rfl⟩ | ⟨hp, rfl⟩ | ⟨id, hp, rfl⟩
                  · split
                    · exact hq
                    · rename_i hcc; rw [hp] at hcc; cases hcc
                  · split
                    · rename_i hcc; rw [hp] at hcc; cases hcc
                    · rename_i hcc; rw [hp] at hcc; cases hcc
                      exact wpIn_ret hq
                  · split
                    · rename_i hcc; rw [hp] at hcc; cases hcc
                    · rename_i hcc; rw [hp] at hcc; cases hcc
                      exact wpIn_exit hq
              · cases he
        · cases he
      · cases he
    · cases he
  | _ => intro ι T H a w hf e T' H' he; simp [evC] at he

theorem initT_get : ∀ (vs : List Value) (i : Nat) (T : PTree Value) (t : Nat), (initT vs i T).get t = if i ≤ t ∧ t < i + vs.length then vs[t - i]? else T.get t
  | [], i, T, t => by simp [initT]; omega
  | v :: vs, i, T, t => by
    simp only [initT, initT_get vs (i + 1) (T.set i v) t, PTree.get_set, List.length_cons]
    by_cases e : t = i
    · subst e
      rw [if_neg (by omega), if_pos rfl, if_pos (by omega)]
      simp
    · by_cases h : i + 1 ≤ t ∧ t < i + 1 + vs.length
      · rw [if_pos h, if_pos (by omega), show t - i = (t - (i + 1)) + 1 by omega]
        simp
      · rw [if_neg h, if_neg e, if_neg (by omega)]

theorem initT_ok {vs vs' : List Value} (h : LRel ι vs vs') (n : Nat) : TRel ι (initT vs 0 .leaf) (vs'.toArray ++ Array.replicate (n - vs'.length) undef) := fun t u hu => by
  rw [initT_get] at hu
  by_cases ht : t < vs.length
  · rw [if_pos (by omega)] at hu
    obtain ⟨y, hy, hr⟩ := h.get (i := t) (x := u) (by simpa using hu)
    have ht' : t < vs'.length := by rw [← h.length]; exact ht
    have hy' : vs'[t] = y := by simpa [ht'] using hy
    have e1 : (vs'.toArray ++ Array.replicate (n - vs'.length) undef).getD t undef = y := by
      rw [Array.getD_eq_getD_getElem?, Array.getElem?_append_left (by simpa using ht')]
      simp [ht', hy']
    rw [e1]
    exact hr
  · rw [if_neg (by omega)] at hu
    simp at hu

def resF (tmps : Array Value) : ResultVar → Sem Value
  | .tmp t => pure (tmps.getD t undef)
  | .cell x t => do loadVar t (← asAddr (tmps.getD x undef))

theorem results_eq (fn : Func) (tmps : Array Value) : results fn tmps = (do let vs ← fn.results.mapM (resF tmps); pure (if h : vs.size = 1 then vs[0] else .tuple vs)) := by
  unfold results
  congr 1

theorem aResults_ok (hE : TOk V.E V.P) {a : Act} (hT : TRel ι T a.tmps) (h : HRel V.P B0 ι H w) : ∀ {rs : List ResultVar} {vs : List Value}, aResults V T H rs = some vs →
    ∃ vs', LRel ι vs vs' ∧ (rs.mapM (resF a.tmps)).run V.P w = .ok vs' w
  | [], vs, hr => by simp [aResults] at hr; subst hr; exact ⟨[], .nil, by simp⟩
  | .tmp t :: rs, vs, hr => by
    simp only [aResults] at hr
    split at hr
    · rename_i u us h0 h1
      cases hr
      obtain ⟨us', k1, k2⟩ := aResults_ok hE hT h h1
      refine ⟨_ :: us', .cons (hT t u h0) k1, ?_⟩
      simp only [List.mapM_cons, resF, Sem.run_bind, Sem.run_pure, Result.andThen_ok, k2]
    · cases hr
  | .cell x t :: rs, vs, hr => by
    simp only [aResults] at hr
    split at hr
    case h_2 => cases hr
    rename_i xp hxp
    split at hr
    · rename_i v us h1 h2
      cases hr
      obtain ⟨us', k1, k2⟩ := aResults_ok hE hT h h2
      have hx := hT x xp hxp
      obtain ⟨v', hrun, hv⟩ := aLoad_ok hE h hx h1
      refine ⟨v' :: us', .cons hv k1, ?_⟩
      -- the address
      unfold aLoad at h1
      split at h1
      · rename_i b off
        generalize hp : a.tmps.getD x undef = p at hx hrun
        cases hx with
        | ptr hb' =>
          rename_i l
          have : (loadVar t ⟨l.blk, l.base + off, none⟩).run V.P w = .ok v' w := by simpa [Instr.loadAt, Instr.sureAddr] using hrun
          simp only [List.mapM_cons, resF, Sem.run_bind, hp, asAddr, Sem.run_pure, Result.andThen_ok, k2, this]
      · cases h1
    · cases hr

theorem setPs_ok {n : Nat} : ∀ {ps : List Tmp} {vs vs' : List Value} {T T1 : PTree Value} {tmps : Array Value}, LRel ι vs vs' → TRel ι T tmps → tmps.size = n → setPs n ps vs T = some T1 →
    vs'.length = ps.length ∧ TRel ι T1 ((ps.zip vs').foldl (fun tmps (t, a) => tmps.setIfInBounds t a) tmps) ∧ ((ps.zip vs').foldl (fun tmps (t, a) => tmps.setIfInBounds t a) tmps).size = n
  | [], [], _, T, T1, tmps, .nil, hT, hn, h => by simp [setPs] at h; subst h; exact ⟨rfl, hT, hn⟩
  | [], _ :: _, _, T, T1, tmps, _, hT, hn, h => by simp [setPs] at h
  | _ :: _, [], _, T, T1, tmps, _, hT, hn, h => by simp [setPs] at h
  | t :: ps, v :: vs, _, T, T1, tmps, .cons hv hl, hT, hn, h => by
    simp only [setPs] at h
    split at h
    · rename_i ht
      rename_i v' vs'
      have hp := put_ok (a := ⟨tmps, []⟩) (d := some t) (T' := T.set t v) hT hn hv (by simp [put, ht])
      obtain ⟨k1, k2, k3⟩ := setPs_ok (ps := ps) (tmps := tmps.setIfInBounds t v') hl hp.1 hp.2.1 h
      exact ⟨by simp [k1], by simpa using k2, by simpa using k3⟩
    · cases h

theorem Ex.jump_none {e : Ex} : e.jump.isNone = true ↔ e = .normal := by cases e <;> simp [Ex.jump]

theorem evRound_ok (draw : DrawFn) (hE : TOk V.E V.P) (hF : FOk V.F V.P) (hc : CallOk V call) (hdr : DrawOk V draw) (lf : Nat) {b : Nat} {vs : List Value} {v : Value} (h : evRound V draw call lf b vs H = some (v, H')) {vs' : List Value} {l : ILoc} (hG : GOk ι V.nG) (hR : HRel V.P B0 ι H w) (hL : LRel ι vs vs') (hb : ι b = some l) :
    ∃ f tmps x y, (Instr.yield l.blk vs'.toArray).run V.P w = .ok (.round l.blk f tmps x y) w ∧
      RoundIn Fence.wide 0 V.P l.blk f tmps x y w fun e w' => ∃ v' ι', e = .returned v' ∧ VRel ι' v v' ∧ Step V.P B0 ι H w ι' H' w' := by
  unfold evRound at h
  split at h
  · rename_i st0 pe0 n T ps x y hob
    split at h
    · rename_i T1 hps
      split at h
      · rename_i T2 H2 hx
        split at h
        · rename_i pe n' T' ps' x' y' hob2
          split at h
          · rename_i e T3 H4 hy
            split at h
            · rename_i st4 pe4 n'' T'' ps'' x'' y'' hob4
              cases h
              obtain ⟨rec, r1, r2, r3, r4, r5, r6, r7, r8, _⟩ := hR.loopPut hb (st' := .ready) (pe' := none) hob
              obtain ⟨k1, k2, k3⟩ := setPs_ok hL r8 r7 hps
              have hz : (rec.params.zip vs'.toArray).foldl (fun tmps (t, a) => tmps.setIfInBounds t a) rec.tmps = (ps.toList.zip vs').foldl (fun tmps (t, a) => tmps.setIfInBounds t a) rec.tmps := by
                rw [r4, ← Array.foldl_toList]
                simp
              refine ⟨rec.fn, _, rec.assign, rec.body, run_yield r1 (by rw [r4]; simpa using k1), ?_⟩
              refine roundIn_of_wpIn trivial ?_
              rw [Wd.some, hz, r5, r6]
              have hf0 : FrOk V B0 ⟨w.heap.size, []⟩ n (some b) (some l.blk) ι T1 H { tmps := (ps.toList.zip vs').foldl (fun tmps (t, a) => tmps.setIfInBounds t a) rec.tmps, defers := [] } w :=
                ⟨k2, k3, Marks.nil, hG, hR, ⟨l, hb, rfl⟩, Nat.le_refl _⟩
              refine evC_wp draw hE hF hc hdr x hf0 hx fun ι2 a2 w2 g1 g2 => ?_
              simp only [Ex.to, Exit.then]
              obtain ⟨rec2, q1, q2, q3, q4, q5, q6, q7, q8, q9, _⟩ := g1.rel.loopPut (g2.le _ _ hb) (st' := .busy) (pe' := pe) hob2
              have hbr := run_beginRound (P := V.P) q1 q2
              have hrec2 : ({ rec2 with state := LoopState.busy, pending := pe } : Loop) = { rec2 with state := .busy } := by rw [← q3]
              rw [hrec2] at q9
              refine ⟨_, hbr, ?_⟩
              have g3 : FrOk V B0 ⟨w.heap.size, []⟩ n (some b) (some l.blk) ι2 T2 (H2.put b (.loop .busy pe n' T' ps' x' y')) a2 (w2.putObj l.blk (.loop { rec2 with state := .busy })) := g1.next g1.tr g1.sz rfl q9
              refine evC_wp draw hE hF hc hdr y g3 hy fun ι4 a4 w4 m1 m2 => ?_
              have hst4 := (g2.trans q9).trans m2
              obtain ⟨rec4, p1, p2, p3, p4, p5, p6, p7, p8, p9, _⟩ := m1.rel.loopPut (hst4.le _ _ hb) (st' := if e.jump.isNone then .ready else .done) (pe' := e.jump) hob4
              have hend := run_endRound (P := V.P) e.jump p1
              have hfin := hst4.trans p9
              cases e with
              | normal => exact ⟨_, _, hend, _, ι4, rfl, .bool _, hfin⟩
              | exit id => exact ⟨_, _, hend, _, ι4, rfl, .bool _, hfin⟩
              | ret => exact ⟨_, _, hend, _, ι4, rfl, .bool _, hfin⟩
            · cases h
          · cases h
        · cases h
      · cases h
    · cases h
  · cases h

/-- What is known of marks. -/
def MarksAt (k : Nat) (ι : Emb) (H : AH) (w : World) (rs : List Nat) : Prop :=
  rs.Nodup ∧ ∀ r, r ∈ rs → k ≤ r ∧ w.heap[r]? = some (.deferred (some [])) ∧ ∀ b l, ι b = some l → H.alive (H.obj b) = true → l.blk ≠ r
theorem MarksAt.step {P : Program} {k : Nat} {ι ι' : Emb} {H H' : AH} {w w' : World} {rs : List Nat} (h : MarksAt k ι H w rs) (hs : Step P B0 ι H w ι' H' w') : MarksAt k ι' H' w' rs :=
  ⟨h.1, fun r hr => let ⟨k1, k2, k3⟩ := h.2 r hr; ⟨k1, hs.unheld k2 k3⟩⟩

theorem leaves_m {P : Program} {fn : Func} {tmps : Array Value} {R : Ending → World → Prop} (w0 : World) (H0 : AH) (ι0 : Emb) (ι : Emb) (H : AH) (hB : B0 ≤ w0.heap.size) {tl : List Deferred} : ∀ (rs : List Nat) (w : World), MarksAt w0.heap.size ι H w rs → Step P B0 ι0 H0 w0 ι H w →
    (∀ w', Step P B0 ι0 H0 w0 ι H w' → LeavesInM (Wd none) 0 P fn tmps R tl .returning w') → LeavesInM (Wd none) 0 P fn tmps R (rs.map (fun r => ⟨.collected r, #[]⟩) ++ tl) .returning w
  | [], w, _, hs, hR => hR w hs
  | r :: rs, w, ⟨m1, m3⟩, hs, hR => by
    obtain ⟨k1, k2, k3⟩ := m3 r (by simp)
    obtain ⟨hr, hnd⟩ := List.nodup_cons.1 m1
    refine ⟨by simp, .inl ⟨r, w.putObj r (.deferred none), rfl, run_takeDeferred k2, ?_⟩⟩
    refine leaves_m w0 H0 ι0 ι H hB rs _ ⟨hnd, fun r' hr' => ?_⟩ (hs.turn k1 k3 _ hB) hR
    obtain ⟨j1, j2, j3⟩ := m3 r' (by simp [hr'])
    exact ⟨j1, (World.putObj_heap_other (fun e => by subst e; exact hr hr')).trans j2, j3⟩

theorem leaves_marks {P : Program} {fn : Func} {tmps : Array Value} {R : Ending → World → Prop} (w0 : World) (H0 : AH) (ι0 : Emb) (ι : Emb) (H : AH) (hB : B0 ≤ w0.heap.size) (ds : List Deferred) (w : World) (hm : Marks ⟨w0.heap.size, []⟩ ι H w ds) (hs : Step P B0 ι0 H0 w0 ι H w)
    (hR : ∀ w', Step P B0 ι0 H0 w0 ι H w' → ∃ v, (results fn tmps).run P w' = .ok v w' ∧ R (.returned v) w') : LeavesInM (Wd none) 0 P fn tmps R ds .returning w := by
  obtain ⟨rs, ss, m1, rfl, m3⟩ := hm
  have := leaves_m (tl := []) (fn := fn) (tmps := tmps) (R := R) w0 H0 ι0 ι H hB (rs ++ ss) w ⟨m1, m3⟩ hs fun w' hs' => hR w' hs'
  simpa using this

/-- As 'leaves_marks', one deferred call among the marks. -/
theorem leaves_marks1 {P : Program} {fn : Func} {tmps : Array Value} {R : Ending → World → Prop} (w0 : World) (H0 : AH) (ι0 : Emb) (ι : Emb) (H : AH) (hB : B0 ≤ w0.heap.size) {d : Deferred} (ds : List Deferred) (w : World) (hm : Marks ⟨w0.heap.size, [d]⟩ ι H w ds) (hs : Step P B0 ι0 H0 w0 ι H w)
    (hR : ∀ w' ss, MarksAt w0.heap.size ι H w' ss → Step P B0 ι0 H0 w0 ι H w' → LeavesInM (Wd none) 0 P fn tmps R (d :: ss.map (fun r => ⟨.collected r, #[]⟩)) .returning w') : LeavesInM (Wd none) 0 P fn tmps R ds .returning w := by
  obtain ⟨rs, ss, m1, rfl, m3⟩ := hm
  obtain ⟨n1, n2, n3⟩ := List.nodup_append.1 m1
  have key : ∀ (rs : List Nat) (w : World), rs.Nodup → (∀ r ∈ rs, r ∉ ss) → (∀ r, r ∈ rs ++ ss → w0.heap.size ≤ r ∧ w.heap[r]? = some (.deferred (some [])) ∧ ∀ b l, ι b = some l → H.alive (H.obj b) = true → l.blk ≠ r) → Step P B0 ι0 H0 w0 ι H w →
      LeavesInM (Wd none) 0 P fn tmps R (rs.map (fun r => ⟨.collected r, #[]⟩) ++ (d :: ss.map (fun r => ⟨.collected r, #[]⟩))) .returning w := by
    intro rs
    induction rs with
    | nil => intro w _ _ m3 hs; exact hR w ss ⟨n2, fun r hr => m3 r (by simpa using hr)⟩ hs
    | cons r rs ih =>
      intro w hnd hns m3 hs
      obtain ⟨k1, k2, k3⟩ := m3 r (by simp)
      obtain ⟨hr, hnd⟩ := List.nodup_cons.1 hnd
      refine ⟨by simp, .inl ⟨r, w.putObj r (.deferred none), rfl, run_takeDeferred k2, ?_⟩⟩
      refine ih _ hnd (fun q hq => hns q (by simp [hq])) (fun r' hr' => ?_) (hs.turn k1 k3 _ hB)
      obtain ⟨j1, j2, j3⟩ := m3 r' (by simp at hr' ⊢; exact .inr hr')
      refine ⟨j1, (World.putObj_heap_other (fun e => ?_)).trans j2, j3⟩
      subst e
      rcases List.mem_append.1 hr' with h | h
      · exact hr h
      · exact hns _ (by simp) h
  have := key rs w n1 (fun r hr hs => n3 r hr r hs rfl) m3 hs
  simpa using this

theorem evF_ok (draw : DrawFn) (hE : TOk V.E V.P) (hF : FOk V.F V.P) (hdr : DrawOk V draw) (lf : Nat) : ∀ d, CallOk V (evF V draw lf d)
  | 0 => ⟨fun f vs H v H' h => by simp [evF] at h, fun b vs H v H' h => by simp [evF] at h⟩
  | d + 1 => by
    have ih := evF_ok draw hE hF hdr lf d
    refine ⟨fun f vs H v H' h B0 ι w vs' hG hR hL => ?_, fun b vs H v H' h B0 ι w vs' l hG hR hL hb => evRound_ok draw hE hF ih hdr lf (by simpa only [evF] using h) hG hR hL hb⟩
    simp only [evF] at h
    split at h
    · rename_i fn hfn
      obtain ⟨h1, h2, h3⟩ := hF f fn hfn
      split at h
      · rename_i c hb
        split at h
        · rename_i hlen
          have hn : (vs'.toArray ++ Array.replicate (fn.ntmps - vs'.toArray.size) undef).size = fn.ntmps := by
            have := hL.length
            simp; omega
          have hT := initT_ok hL fn.ntmps
          refine (callsIn_wide (n := 0)).1 (callsIn_of_wp_marks (F := Wd none) h1 hb trivial ?_)
          have fin : ∀ (e : Ex) (T : PTree Value) (H1 : AH), (e = .normal ∨ e = .ret) → evC V draw (evF V draw lf d) none fn.ntmps lf c (initT vs 0 .leaf) H = some (e, T, H1) → (aResults V T H1 fn.results.toList).map (fun vs => (resOf vs, H1)) = some (v, H') →
              c.wpIn (Wd none) 0 V.P (bodyPostM (Wd none) 0 V.P fn fun e w' => ∃ v' ι', e = .returned v' ∧ VRel ι' v v' ∧ Step V.P B0 ι H w ι' H' w') { tmps := vs'.toArray ++ Array.replicate (fn.ntmps - vs'.toArray.size) undef, defers := [] } w := fun e T H1 he hev hres => by
            obtain ⟨rs, hrs, hv⟩ := map_some hres
            cases hv
            have hf0 : FrOk V B0 ⟨w.heap.size, []⟩ fn.ntmps none none ι (initT vs 0 .leaf) H { tmps := vs'.toArray ++ Array.replicate (fn.ntmps - vs'.toArray.size) undef, defers := [] } w :=
              ⟨by simpa using hT, by simpa using hn, Marks.nil, hG, hR, trivial, Nat.le_refl _⟩
            refine evC_wp draw hE hF ih hdr c hf0 hev fun ι' a' w' g1 g4 => ?_
            have hl : LeavesInM (Wd none) 0 V.P fn a'.tmps (fun e w' => ∃ v' ι', e = .returned v' ∧ VRel ι' (resOf rs) v' ∧ Step V.P B0 ι H w ι' H' w') a'.defers .returning w' := by
              refine leaves_marks w H ι ι' H' hR.base a'.defers w' g1.mks g4 fun w2 hs2 => ?_
              obtain ⟨rs', k1, k2⟩ := aResults_ok hE (a := a') g1.tr hs2.rel hrs
              have hrun : (results fn a'.tmps).run V.P w2 = .ok (if h : rs'.toArray.size = 1 then rs'.toArray[0] else .tuple rs'.toArray) w2 := by
                rw [results_eq, Array.mapM_eq_mapM_toList]
                simp only [Sem.run_bind, Sem.run_map]
                rw [k2]
                rfl
              have hvr : VRel ι' (resOf rs) (if h : rs'.toArray.size = 1 then rs'.toArray[0] else .tuple rs'.toArray) := by
                cases k1 with
                | nil => exact VRel.tuple' .nil
                | cons hv ht => cases ht with
                  | nil => exact hv
                  | cons hv2 ht2 => simpa [resOf] using VRel.tuple' (.cons hv (.cons hv2 ht2))
              exact ⟨_, hrun, _, ι', rfl, hvr, hs2⟩
            rcases he with rfl | rfl
            · exact hl
            · exact hl
          split at h
          · rename_i T H1 hev; exact fin .normal T H1 (.inl rfl) hev h
          · rename_i T H1 hev; exact fin .ret T H1 (.inr rfl) hev h
          · cases h
        · cases h
      · cases h
    · cases h
end Go.Ev
