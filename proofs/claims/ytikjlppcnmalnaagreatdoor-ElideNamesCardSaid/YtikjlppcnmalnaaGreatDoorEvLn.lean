/-
  EV, part Ln: functions that defer a closure which recovers, where nobody panics.
-/
import Derived.Test.YtikjlppcnmalnaaGreatDoorEvLd
import Derived.RecoverIn
namespace Go.Ev
open Go.RowKit

variable {V : Env} {call : CallFn} {B0 : Nat} {ι : Emb} {H H' : AH} {w : World} {T T' : PTree Value}

/-! ### The first region of a closure that recovers -/
def isRec : Op → Bool
  | .call ⟨.builtin .recover, args, _⟩ => args.isEmpty
  | _ => false

/-- An operation of such a region: recover hands over nil. -/
def recOp (V : Env) (T : PTree Value) (H : AH) (o : Op) : Option (Value × AH) := if isRec o then some (.nilIface, H) else aop V T H o

def recOps (V : Env) (n : Nat) (all : Array Oper) : List Oper → PTree Value → AH → Option (PTree Value × AH)
  | [], T, H => some (T, H)
  | o :: os, T, H =>
    if aSeen all T o then
      if aWanted all T o then
        match recOp V T H o.op with
        | some (v, H') => match put n T o.dst v with
          | some T' => recOps V n all os T' H'
          | none => none
        | none => none
      else match put n T o.dst undef with
        | some T' => recOps V n all os T' H
        | none => none
    else none

theorem run_recover {a : Act} {o : Oper} (h : isRec o.op = true) (P : Program) (w : World) : (execOp a.eval o).run P w = .ok .recover w := by
  unfold isRec at h
  split at h
  · rename_i args ts ho
    unfold execOp
    rw [ho]
    have : args = #[] := by simpa using h
    subst this
    simp [resolve, invoke, builtin]
  · cases h

theorem recOps_wpS (hE : TOk V.E V.P) {n : Nat} {all : Array Oper} {Q : Exit → Act → List Frame → World → Prop} {cs : List Frame} (hcs : recoverD cs = none) : ∀ (l : List Oper) (k : Nat), (∀ j, j < l.length → all[k + j]? = l[j]?) → ∀ {ι : Emb} {T : PTree Value} {H : AH} {a : Act} {w : World},
    TRel ι T a.tmps → a.tmps.size = n → GOk ι V.nG → HRel V.P B0 ι H w → ∀ {T' : PTree Value} {H' : AH}, recOps V n all l T H = some (T', H') →
    (∀ ι' a' w', TRel ι' T' a'.tmps → a'.tmps.size = n → a'.defers = a.defers → Step V.P B0 ι H w ι' H' w' → Q .normal a' cs w') → wpOpsSIn (Wd none) 0 V.P all Q (List.range' k l.length) a cs w
  | [], k, hk, ι, T, H, a, w, hT, hn, hG, h, T', H', he, hQ => by
    simp only [recOps] at he; cases he
    exact hQ ι a w hT hn rfl (Step.refl h)
  | o :: l, k, hk, ι, T, H, a, w, hT, hn, hG, h, T', H', he, hQ => by
    simp only [recOps] at he
    have ho : all[k]? = some o := by simpa using hk 0 (by simp)
    have hk' : ∀ j, j < l.length → all[k + 1 + j]? = l[j]? := fun j hj => by
      have := hk (j + 1) (by simpa using hj)
      rw [show k + 1 + j = k + (j + 1) by omega]; simpa using this
    rw [List.length_cons, List.range'_succ]
    simp only [wpOpsSIn, ho]
    refine ⟨fun _ _ => trivial, ?_⟩
    split at he
    case isFalse => cases he
    rename_i hseen
    rw [aWanted_ok hT o hseen]
    by_cases hw : aWanted all T o = true
    · rw [if_pos hw] at he ⊢
      unfold recOp at he
      by_cases hr : isRec o.op = true
      · rw [if_pos hr] at he
        rw [run_recover hr]
        simp only [hcs] at he ⊢
        split at he
        · rename_i T1 hp
          obtain ⟨k1, k2, k3⟩ := put_ok hT hn VRel.nilIface hp
          exact recOps_wpS hE hcs l (k + 1) hk' k1 k2 hG h he fun ι2 a2 w2 g1 g2 g3 g4 => hQ ι2 a2 w2 g1 g2 (g3.trans k3) g4
        · cases he
      · rw [if_neg hr] at he
        split at he
        · rename_i v H1 hev
          split at he
          · rename_i T1 hp
            obtain ⟨nx, v', w', ι', hrun, hnx, hv, hs⟩ := aop_ok V hE hT hG h hev
            rw [hrun]
            rcases hnx with rfl | ⟨rfl, rfl⟩
            · obtain ⟨k1, k2, k3⟩ := put_ok (hT.mono hs.le) hn hv hp
              exact recOps_wpS hE hcs l (k + 1) hk' k1 k2 (hG.mono hs.le) hs.rel he fun ι2 a2 w2 g1 g2 g3 g4 => hQ ι2 a2 w2 g1 g2 (g3.trans k3) (hs.trans g4)
            · obtain ⟨k1, k2, k3⟩ := put_ok (hT.mono hs.le) hn hv hp
              exact recOps_wpS hE hcs l (k + 1) hk' k1 k2 (hG.mono hs.le) hs.rel he fun ι2 a2 w2 g1 g2 g3 g4 => hQ ι2 a2 w2 g1 g2 (g3.trans k3) (hs.trans g4)
          · cases he
        · cases he
    · rw [if_neg hw] at he ⊢
      split at he
      · rename_i T1 hp
        obtain ⟨k1, k2, k3⟩ := put_ok hT hn VRel.undef hp
        exact recOps_wpS hE hcs l (k + 1) hk' k1 k2 hG h he fun ι2 a2 w2 g1 g2 g3 g4 => hQ ι2 a2 w2 g1 g2 (g3.trans k3) g4
      · cases he

/-- Code without calls and loops. -/
def calmC (V : Env) (n : Nat) : Code → PTree Value → AH → Option (Ex × PTree Value × AH)
  | .skip, T, H => some (.normal, T, H)
  | .region _ ops false, T, H => (evOps V noCall n ops ops.toList T H).map fun (T', H') => (.normal, T', H')
  | .seq a b, T, H => match calmC V n a T H with
    | some (.normal, T', H') => calmC V n b T' H'
    | r => r
  | .cond c a b, T, H => match oval V.nG T c with
    | some (.bool true) => calmC V n a T H
    | some (.bool false) => calmC V n b T H
    | _ => none
  | .block id c, T, H => match calmC V n c T H with
    | some (.exit id', T', H') => if id' = id then some (.normal, T', H') else some (.exit id', T', H')
    | r => r
  | .exit id, T, H => some (.exit id, T, H)
  | .label _, T, H => some (.normal, T, H)
  | .ret, T, H => some (.ret, T, H)
  | _, _, _ => none

theorem calmC_wp (hE : TOk V.E V.P) (hF : FOk V.F V.P) {n : Nat} : ∀ (c : Code) {ι : Emb} {T : PTree Value} {H : AH} {a : Act} {w : World} {e : Ex} {T' : PTree Value} {H' : AH},
    TRel ι T a.tmps → a.tmps.size = n → GOk ι V.nG → HRel V.P B0 ι H w → calmC V n c T H = some (e, T', H') → ∀ {Q : Exit → Act → World → Prop},
    (∀ ι' a' w', TRel ι' T' a'.tmps → a'.tmps.size = n → a'.defers = a.defers → Step V.P B0 ι H w ι' H' w' → Q e.to a' w') → c.wpIn (Wd none) 0 V.P Q a w := by
  intro c
  induction c with
  | skip =>
    intro ι T H a w e T' H' hT hn hG hR h Q hQ
    simp only [calmC] at h; cases h
    exact wpIn_skip (hQ ι a w hT hn rfl (Step.refl hR))
  | region id ops d =>
    intro ι T H a w e T' H' hT hn hG hR h Q hQ
    cases d with
    | true => simp [calmC] at h
    | false =>
      simp only [calmC] at h
      obtain ⟨⟨T1, H1⟩, h1, h2⟩ := map_some h
      cases h2
      refine wpIn_region ?_
      have hl := evOps_wp (Q := Q) (ro := none) hE hF noCall_ok (all := ops) ops.toList 0 (fun j hj => by simp) hT hn rfl hG hR h1 fun ι' a' w' g1 g2 g3 g4 => hQ ι' a' w' g1 g2 g3 g4
      simpa [List.range_eq_range'] using hl
  | seq x y ihx ihy =>
    intro ι T H a w e T' H' hT hn hG hR h Q hQ
    simp only [calmC] at h
    split at h
    · rename_i T1 H1 h1
      refine wpIn_seq (ihx hT hn hG hR h1 fun ι1 a1 w1 g1 g2 g3 g4 => ?_)
      exact ihy g1 g2 (hG.mono g4.le) g4.rel h fun ι2 a2 w2 k1 k2 k3 k4 => hQ ι2 a2 w2 k1 k2 (k3.trans g3) (g4.trans k4)
    · rename_i hno
      refine wpIn_seq (ihx hT hn hG hR h fun ι1 a1 w1 g1 g2 g3 g4 => ?_)
      have hq := hQ ι1 a1 w1 g1 g2 g3 g4
      cases e with
      | normal => exact absurd h (hno _ _)
      | exit id => exact hq
      | ret => exact hq
  | cond x y z ihy ihz =>
    intro ι T H a w e T' H' hT hn hG hR h Q hQ
    simp only [calmC] at h
    split at h
    · rename_i hb
      exact wpIn_cond_true ((oval_ok hT hG hb).plain_eq rfl) (ihy hT hn hG hR h hQ)
    · rename_i hb
      exact wpIn_cond_false ((oval_ok hT hG hb).plain_eq rfl) (ihz hT hn hG hR h hQ)
    · cases h
  | block id c ih =>
    intro ι T H a w e T' H' hT hn hG hR h Q hQ
    simp only [calmC] at h
    split at h
    · rename_i id' T1 H1 h1
      split at h
      · rename_i e'
        cases h
        refine wpIn_block (ih hT hn hG hR h1 fun ι1 a1 w1 g1 g2 g3 g4 => ?_)
        have hq := hQ ι1 a1 w1 g1 g2 g3 g4
        subst e'
        simpa [Ex.to, Exit.inBlock] using hq
      · rename_i e'
        cases h
        refine wpIn_block (ih hT hn hG hR h1 fun ι1 a1 w1 g1 g2 g3 g4 => ?_)
        have hq := hQ ι1 a1 w1 g1 g2 g3 g4
        simpa [Ex.to, Exit.inBlock, e'] using hq
    · rename_i hno
      refine wpIn_block (ih hT hn hG hR h fun ι1 a1 w1 g1 g2 g3 g4 => ?_)
      have hq := hQ ι1 a1 w1 g1 g2 g3 g4
      cases e with
      | exit id' => exact absurd h (hno _ _ _)
      | normal => exact hq
      | ret => exact hq
  | exit id =>
    intro ι T H a w e T' H' hT hn hG hR h Q hQ
    simp only [calmC] at h; cases h
    exact wpIn_exit (hQ ι a w hT hn rfl (Step.refl hR))
  | label l =>
    intro ι T H a w e T' H' hT hn hG hR h Q hQ
    simp only [calmC] at h; cases h
    exact wpIn_label (hQ ι a w hT hn rfl (Step.refl hR))
  | ret =>
    intro ι T H a w e T' H' hT hn hG hR h Q hQ
    simp only [calmC] at h; cases h
    exact wpIn_ret (hQ ι a w hT hn rfl (Step.refl hR))
  | _ => intro ι T H a w e T' H' hT hn hG hR h; simp [calmC] at h

/-- A closure that recovers, called by a frame that returns: its first region, then the rest. -/
def recL (V : Env) (g : FuncId) (vs : List Value) (H : AH) : Option AH :=
  match V.F g with
  | some fn => match fn.body with
    | some (.seq (.region _ ops false) c) => if vs.length ≤ fn.ntmps ∧ fn.results.isEmpty = true then
        match recOps V fn.ntmps ops ops.toList (initT vs 0 .leaf) H with
        | some (T1, H1) => match calmC V fn.ntmps c T1 H1 with
          | some (.normal, _, H2) | some (.ret, _, H2) => some H2
          | _ => none
        | none => none
      else none
    | _ => none
  | none => none

theorem recL_ok (hE : TOk V.E V.P) (hF : FOk V.F V.P) {g : FuncId} {vs vs' : List Value} (hG : GOk ι V.nG) (hR : HRel V.P B0 ι H w) (hL : LRel ι vs vs') (h : recL V g vs H = some H') :
    CallsDIn (Wd none) 0 V.P g vs'.toArray .returning w fun e u' w' => e = .returned (.tuple #[]) ∧ u' = .returning ∧ ∃ ι', ι.le ι' ∧ Step V.P B0 ι H w ι' H' w' := by
  unfold recL at h
  split at h
  · rename_i fn hfn
    obtain ⟨h1, h2, h3⟩ := hF g fn hfn
    split at h
    · rename_i id ops c hb
      split at h
      · rename_i hlen
        obtain ⟨hlen, hres⟩ := hlen
        have hres' : fn.results = #[] := by simpa using hres
        split at h
        · rename_i T1 H1 hrec
          have hn : (vs'.toArray ++ Array.replicate (fn.ntmps - vs'.toArray.size) undef).size = fn.ntmps := by
            have := hL.length
            simp; omega
          have hT := initT_ok hL fn.ntmps
          have fin : ∀ (e : Ex) (T2 : PTree Value), (e = .normal ∨ e = .ret) → calmC V fn.ntmps c T1 H1 = some (e, T2, H') → CallsDIn (Wd none) 0 V.P g vs'.toArray .returning w fun e u' w' => e = .returned (.tuple #[]) ∧ u' = .returning ∧ ∃ ι', ι.le ι' ∧ Step V.P B0 ι H w ι' H' w' := fun e T2 he hcode => by
            refine callsDIn_of_wpSIn h1 hb trivial fun c₀ cs hu => ?_
            have hcs : recoverD (c₀ :: cs) = none := by simp [recoverD, hu]
            refine wpSIn_seq (wpSIn_region ?_)
            have key := recOps_wpS (B0 := B0) (Q := Exit.thenS (c.wpSIn (Wd none) 0 V.P (bodyPostS V.P fn c₀ cs fun e u' w' => e = .returned (.tuple #[]) ∧ u' = .returning ∧ ∃ ι', ι.le ι' ∧ Step V.P B0 ι H w ι' H' w')) (bodyPostS V.P fn c₀ cs fun e u' w' => e = .returned (.tuple #[]) ∧ u' = .returning ∧ ∃ ι', ι.le ι' ∧ Step V.P B0 ι H w ι' H' w'))
              hE hcs ops.toList 0 (fun j hj => by simp) (a := { tmps := vs'.toArray ++ Array.replicate (fn.ntmps - vs'.toArray.size) undef, defers := [] }) (w := w) (by simpa using hT) (by simpa using hn) hG hR hrec fun ι1 a1 w1 g1 g2 g3 g4 => ?_
            · simpa [List.range_eq_range'] using key
            · refine wpSIn_of_wpIn rfl ?_
              refine calmC_wp hE hF c g1 g2 (hG.mono g4.le) g4.rel hcode fun ι2 a2 w2 k1 k2 k3 k4 => ?_
              have hend : a2.defers = [] ∧ ∃ u', c₀ :: cs = { c₀ with mode := u' } :: cs ∧ ∃ v, (results fn a2.tmps).run V.P w2 = .ok v w2 ∧ (Ending.returned v = .returned (.tuple #[]) ∧ u' = .returning ∧ ∃ ι', ι.le ι' ∧ Step V.P B0 ι H w ι' H' w2) := by
                refine ⟨k3.trans g3, .returning, by rw [← hu], .tuple #[], ?_, rfl, rfl, ι2, (g4.trans k4).le, g4.trans k4⟩
                rw [results_eq, hres']
                simp
              rcases he with rfl | rfl
              · exact hend
              · exact hend
          split at h
          · rename_i T2 H2 hcode; cases h; exact fin .normal T2 (.inl rfl) hcode
          · rename_i T2 H2 hcode; cases h; exact fin .ret T2 (.inr rfl) hcode
          · cases h
        · cases h
      · cases h
    · cases h
  · cases h

/-! ### Functions that defer one closure -/
/-- Operations one behind the other, then what is listed behind them. -/
theorem evOps_wpK (hE : TOk V.E V.P) (hF : FOk V.F V.P) (hc : CallOk V call) {ro : Option Nat} {n : Nat} {all : Array Oper} {Q : Exit → Act → World → Prop} {rest : List Nat} : ∀ (l : List Oper) (k : Nat), (∀ j, j < l.length → all[k + j]? = l[j]?) → ∀ {ι : Emb} {T : PTree Value} {H : AH} {a : Act} {w : World},
    TRel ι T a.tmps → a.tmps.size = n → GOk ι V.nG → HRel V.P B0 ι H w → ∀ {T' : PTree Value} {H' : AH}, evOps V call n all l T H = some (T', H') →
    (∀ ι' a' w', TRel ι' T' a'.tmps → a'.tmps.size = n → a'.defers = a.defers → Step V.P B0 ι H w ι' H' w' → wpOpsIn (Wd ro) 0 V.P all Q rest a' w') → wpOpsIn (Wd ro) 0 V.P all Q (List.range' k l.length ++ rest) a w
  | [], k, hk, ι, T, H, a, w, hT, hn, hG, h, T', H', he, hQ => by
    simp only [evOps] at he; cases he
    exact hQ ι a w hT hn rfl (Step.refl h)
  | o :: l, k, hk, ι, T, H, a, w, hT, hn, hG, h, T', H', he, hQ => by
    simp only [evOps] at he
    have ho : all[k]? = some o := by simpa using hk 0 (by simp)
    have hk' : ∀ j, j < l.length → all[k + 1 + j]? = l[j]? := fun j hj => by
      have := hk (j + 1) (by simpa using hj)
      rw [show k + 1 + j = k + (j + 1) by omega]; simpa using this
    rw [List.length_cons, List.range'_succ, List.cons_append, wpOpsIn_cons]
    unfold wpOpIn
    simp only [ho]
    split at he
    case isFalse => cases he
    rename_i hseen
    rw [aWanted_ok hT o hseen]
    by_cases hw : aWanted all T o = true
    · rw [if_pos hw] at he ⊢
      split at he
      · rename_i v H1 hev
        split at he
        · rename_i T1 hp
          refine evOp_wp hE hF hc hT hG h hev fun v' w' ι' hv hs => ?_
          obtain ⟨k1, k2, k3⟩ := put_ok (hT.mono hs.le) hn hv hp
          exact evOps_wpK hE hF hc l (k + 1) hk' k1 k2 (hG.mono hs.le) hs.rel he fun ι2 a2 w2 g1 g2 g3 g4 => hQ ι2 a2 w2 g1 g2 (g3.trans k3) (hs.trans g4)
        · cases he
      · cases he
    · rw [if_neg hw] at he ⊢
      split at he
      · rename_i T1 hp
        obtain ⟨k1, k2, k3⟩ := put_ok hT hn VRel.undef hp
        exact ⟨fun _ _ => trivial, evOps_wpK hE hF hc l (k + 1) hk' k1 k2 (hG) h he fun ι2 a2 w2 g1 g2 g3 g4 => hQ ι2 a2 w2 g1 g2 (g3.trans k3) g4⟩
      · cases he

/-- A region's operations up to the one that defers, that one, and those behind it. -/
def cutDefer : List Oper → Option (List Oper × Oper × List Oper)
  | [] => none
  | o :: os => match o.op with
    | .defer _ => some ([], o, os)
    | _ => (cutDefer os).map fun (a, b, c) => (o :: a, b, c)
theorem cutDefer_ok : ∀ {l a c : List Oper} {b : Oper}, cutDefer l = some (a, b, c) → l = a ++ b :: c
  | [], a, c, b, h => by cases h
  | o :: os, a, c, b, h => by
    unfold cutDefer at h
    split at h
    · cases h; rfl
    · obtain ⟨⟨x, y, z⟩, h1, h2⟩ := map_some h
      cases h2
      rw [cutDefer_ok h1]; rfl

/-- What a deferred call means. -/
def deferTo (V : Env) (T : PTree Value) (o : Oper) : Option (FuncId × Array Value × List Value) :=
  match o.op, o.guard with
  | .defer ⟨.value x, args, _⟩, none => match oval V.nG T x, ovals V.nG T args.toList with
    | some (.func (.func g) first cap), some vs => match V.F g with
      | some _ => some (g, cap, first.toList ++ vs)
      | none => none
    | _, _ => none
  | _, _ => none

/-- A region that defers. -/
def pref : Code → Option (Array Oper × List Oper × Oper × List Oper)
  | .region _ ops false => (cutDefer ops.toList).map fun p => (ops, p)
  | _ => none

def endL (V : Env) (fn : Func) (T : PTree Value) (H : AH) : Option (Value × AH) := (aResults V T H fn.results.toList).map fun vs => (resOf vs, H)

/-- Code up to the region that defers, and on to the end. -/
def deferC (V : Env) (call : CallFn) (lf : Nat) (fn : Func) : Code → PTree Value → AH → Option (Value × AH)
  | .seq a c, T, H => match pref a with
    | some (ops, pre, o, post) => match evOps V call fn.ntmps ops pre T H with
      | some (T1, H1) => match deferTo V T1 o, put fn.ntmps T1 o.dst undef with
        | some (g, cap, us), some T2 => match evOps V call fn.ntmps ops post T2 H1 with
          | some (T3, H3) => match codeL V call none none fn.ntmps lf c T3 H3 with
            | some (.normal, T4, H4) | some (.ret, T4, H4) => match recL V g (us ++ cap.toList) H4 with
              | some H5 => endL V fn T4 H5
              | none => none
            | _ => none
          | none => none
        | _, _ => none
      | none => none
    | none => match codeL V call none none fn.ntmps lf a T H with
      | some (.normal, T1, H1) => deferC V call lf fn c T1 H1
      | some (.ret, T1, H1) => endL V fn T1 H1
      | _ => none
  | _, _, _ => none

def deferL (V : Env) (call : CallFn) (lf : Nat) (fn : Func) (vs : List Value) (H : AH) : Option (Value × AH) :=
  match fn.body with
  | some c => if vs.length ≤ fn.ntmps then deferC V call lf fn c (initT vs 0 .leaf) H else none
  | none => none

theorem end_run (hE : TOk V.E V.P) {fn : Func} {a : Act} {T : PTree Value} {H1 : AH} {w1 : World} {v : Value} (hT : TRel ι T a.tmps) (hR : HRel V.P B0 ι H1 w1) (h : endL V fn T H1 = some (v, H')) : H1 = H' ∧ ∃ v', (results fn a.tmps).run V.P w1 = .ok v' w1 ∧ VRel ι v v' := by
  unfold endL at h
  obtain ⟨rs, hrs, hv⟩ := map_some h
  simp only [Prod.mk.injEq] at hv
  obtain ⟨rfl, rfl⟩ := hv
  obtain ⟨rs', z1, z2⟩ := aResults_ok hE (a := a) hT hR hrs
  refine ⟨rfl, (if h : rs'.toArray.size = 1 then rs'.toArray[0] else .tuple rs'.toArray), ?_, ?_⟩
  · rw [results_eq, Array.mapM_eq_mapM_toList]
    simp only [Sem.run_bind, Sem.run_map]
    rw [z2]
    rfl
  · cases z1 with
    | nil => exact VRel.tuple' .nil
    | cons hv ht => cases ht with
      | nil => exact hv
      | cons hv2 ht2 => simpa [resOf] using VRel.tuple' (.cons hv (.cons hv2 ht2))

theorem deferC_ok (hE : TOk V.E V.P) (hF : FOk V.F V.P) (hm : V.P.follows .mixedOrders = true) (hc : CallOk V call) {lf : Nat} {fn : Func} {v : Value} {ι0 : Emb} {H0 : AH} {w0 : World} (hG0 : GOk ι0 V.nG) (hB : B0 ≤ w0.heap.size) : ∀ (c : Code) {ι : Emb} {T : PTree Value} {H : AH} {a : Act} {w : World},
    FrOk V B0 ⟨w0.heap.size, []⟩ fn.ntmps none none ι T H a w → Step V.P B0 ι0 H0 w0 ι H w → deferC V call lf fn c T H = some (v, H') →
    c.wpIn (Wd none) 0 V.P (bodyPostM (Wd none) 0 V.P fn fun e w' => ∃ v' ι', e = .returned v' ∧ VRel ι' v v' ∧ Step V.P B0 ι0 H0 w0 ι' H' w') a w := by
  intro c
  induction c with
  | seq b c _ ih =>
    intro ι T H a w hf hst h
    simp only [deferC] at h
    split at h
    · rename_i ops pre o post hpref
      obtain ⟨id, rfl, hcut⟩ : ∃ id, b = .region id ops false ∧ cutDefer ops.toList = some (pre, o, post) := by
        unfold pref at hpref
        split at hpref
        · obtain ⟨p, h1, h2⟩ := map_some hpref
          simp only [Prod.mk.injEq] at h2
          obtain ⟨rfl, rfl⟩ := h2
          exact ⟨_, rfl, h1⟩
        · cases hpref
      split at h
      case h_2 => cases h
      rename_i T1 H1 hpre
      split at h
      case h_2 => cases h
      rename_i g cap us T2 hto hput
      split at h
      case h_2 => cases h
      rename_i T3 H3 hpost
      have hops := cutDefer_ok hcut
      have hG := hG0.mono hst.le
      have fin : ∀ (e : Ex) (T4 : PTree Value) (H4 H5 : AH), (e = .normal ∨ e = .ret) → codeL V call none none fn.ntmps lf c T3 H3 = some (e, T4, H4) → recL V g (us ++ cap.toList) H4 = some H5 → endL V fn T4 H5 = some (v, H') →
          (Code.seq (.region id ops false) c).wpIn (Wd none) 0 V.P (bodyPostM (Wd none) 0 V.P fn fun e w' => ∃ v' ι', e = .returned v' ∧ VRel ι' v v' ∧ Step V.P B0 ι0 H0 w0 ι' H' w') a w := fun e T4 H4 H5 he hcode hrec hres => by
        refine wpIn_seq (wpIn_region ?_)
        have hsz : List.range ops.size = List.range' 0 pre.length ++ (pre.length :: List.range' (pre.length + 1) post.length) := by
          have : ops.size = pre.length + (1 + post.length) := by rw [← Array.length_toList, hops]; simp; omega
          rw [this, List.range_eq_range', List.range'_append_1.symm, Nat.add_comm 1 post.length, List.range'_succ]
          simp
        have hget : ∀ j, ops[j]? = (pre ++ o :: post)[j]? := fun j => by rw [← Array.getElem?_toList, hops]
        rw [hsz]
        refine evOps_wpK (B0 := B0) hE hF hc pre 0 (fun j hj => by rw [Nat.zero_add, hget, List.getElem?_append_left hj]) hf.tr hf.sz hG hf.rel hpre fun ι1 a1 w1 g1 g2 g3 g4 => ?_
        have hdel : ∃ x args ts first, o.op = .defer ⟨.value x, args, ts⟩ ∧ o.guard = none ∧ oval V.nG T1 x = some (.func (.func g) first cap) ∧ ∃ vs1, ovals V.nG T1 args.toList = some vs1 ∧ us = first.toList ++ vs1 ∧ (V.F g).isSome = true := by
          unfold deferTo at hto
          split at hto
          · rename_i x args ts ho hg
            split at hto
            · rename_i g' first cap' vs1 hx hvs1
              split at hto
              · rename_i fng hfg
                cases hto
                exact ⟨x, args, ts, first, ho, hg, hx, vs1, hvs1, rfl, by rw [hfg]; rfl⟩
              · cases hto
            · cases hto
          · cases hto
        obtain ⟨x, args, ts, first, ho, hgd, hx, vs1, hvs1, rfl, hFg⟩ := hdel
        rw [wpOpsIn_cons]
        unfold wpOpIn
        have hok : ops[pre.length]? = some o := by rw [hget]; simp
        simp only [hok]
        have hwant : Region.wanted o (yielded ops a1.tmps) = true := by unfold Region.wanted; rw [hgd]
        rw [if_pos hwant]
        have hfv := oval_ok g1 (hG.mono g4.le) hx
        have hl1 := ovals_ok g1 (hG.mono g4.le) hvs1
        generalize hfe : a1.eval x = fv at hfv
        cases hfv with
        | func q1 q2 q3 q4 =>
          rename_i first' cap'
          refine ⟨fun _ _ => trivial, ?_⟩
          have hrun : (Oper.semAt (Wd none).round a1.eval o).run V.P w1 = .ok (.defer ⟨.fn (.func g) cap', first' ++ args.map a1.eval⟩) w1 := by
            show (Oper.semAt none a1.eval o).run V.P w1 = _
            rw [Oper.semAt_none]
            unfold execOp
            rw [ho]
            simp only [resolve, hfe, Deferred.ofValue]
            simp
          rw [hrun, Oper.uponIn_defer]
          obtain ⟨p1, p2, p3⟩ := put_ok (a := { a1 with defers := ⟨.fn (.func g) cap', first' ++ args.map a1.eval⟩ :: a1.defers }) g1 g2 VRel.undef hput
          have hk' : ∀ j, j < post.length → ops[pre.length + 1 + j]? = post[j]? := fun j hj => by
            rw [hget, List.getElem?_append_right (by omega), show pre.length + 1 + j - pre.length = j + 1 by omega]; simp
          have := evOps_wpK (B0 := B0) (ro := none) (rest := []) (Q := Exit.then (c.wpIn (Wd none) 0 V.P (bodyPostM (Wd none) 0 V.P fn fun e w' => ∃ v' ι', e = .returned v' ∧ VRel ι' v v' ∧ Step V.P B0 ι0 H0 w0 ι' H' w')) (bodyPostM (Wd none) 0 V.P fn fun e w' => ∃ v' ι', e = .returned v' ∧ VRel ι' v v' ∧ Step V.P B0 ι0 H0 w0 ι' H' w')) hE hF hc post (pre.length + 1) hk' p1 p2 (hG.mono g4.le) g4.rel hpost fun ι3 a3 w3 k1 k2 k3 k4 => ?_
          · simpa using this
          · show c.wpIn _ _ _ _ a3 w3
            have hst1 := hst.trans g4
            have hst3 := hst1.trans k4
            have hmk : Marks ⟨w0.heap.size, [⟨.fn (.func g) cap', first' ++ args.map a1.eval⟩]⟩ ι3 H3 w3 a3.defers := by
              rw [k3, p3]
              show Marks _ _ _ _ (_ :: a1.defers)
              rw [g3]
              exact (hf.mks.step (g4.trans k4)).defer _
            have hf0 : FrOk V B0 ⟨w0.heap.size, [⟨.fn (.func g) cap', first' ++ args.map a1.eval⟩]⟩ fn.ntmps none none ι3 T3 H3 a3 w3 := ⟨k1, k2, hmk, hG0.mono hst3.le, hst3.rel, trivial, hst3.size⟩
            refine (codeL_runs hE hF hm hc none lf c (dom_none T3) hcode).1 B0 _ none ι3 a3 w3 hf0 _ fun ι4 a4 w4 m1 m2 => ?_
            have hst4 := hst3.trans m2
            have hl : LeavesInM (Wd none) 0 V.P fn a4.tmps (fun e w' => ∃ v' ι', e = .returned v' ∧ VRel ι' v v' ∧ Step V.P B0 ι0 H0 w0 ι' H' w') a4.defers .returning w4 := by
              refine leaves_marks1 w0 H0 ι0 ι4 H4 hB a4.defers w4 m1.mks hst4 fun w5 ss hss hs5 => ?_
              have hLg : LRel ι4 (first.toList ++ vs1 ++ cap.toList) (first'.toList ++ args.toList.map a1.eval ++ cap'.toList) :=
                (((LRel.of_array q1 q3).append hl1).append (LRel.of_array q2 q4)).mono (k4.trans m2).le
              obtain ⟨fng, hfg⟩ := Option.isSome_iff_exists.1 hFg
              obtain ⟨r1, r2, r3⟩ := hF g fng hfg
              have hinv : (invoke (.fn (.func g) cap') (first' ++ args.map a1.eval)).run V.P w5 = .ok (.enter g (first'.toList ++ args.toList.map a1.eval ++ cap'.toList).toArray) w5 := by
                have hb' : fng.body ≠ none := fun hb => by rw [hb] at r2; cases r2
                have hnm : fng.name ≠ "runtime.NumGoroutine" := by simpa using r3
                have harr : first' ++ args.map a1.eval ++ cap' = (first'.toList ++ args.toList.map a1.eval ++ cap'.toList).toArray := by apply Array.ext'; simp
                rw [← harr]
                simp [invoke, callFunc, r1, hb', hnm]
              refine ⟨by simp, .inr ⟨fun e => (nomatch e), .func g, cap', g, (first'.toList ++ args.toList.map a1.eval ++ cap'.toList).toArray, rfl, hinv, fun _ _ => trivial, ?_⟩⟩
              refine (recL_ok (B0 := B0) hE hF (hG0.mono hs5.le) hs5.rel hLg hrec).mono fun e u' w6 ⟨x1, x2, ι6, _, x3⟩ => ?_
              subst x1; subst x2
              show LeavesInM (Wd none) 0 V.P fn a4.tmps _ (ss.map _) (settle .returning) w6
              have hs6 := hs5.trans x3
              have := leaves_m (tl := []) (fn := fn) (tmps := a4.tmps) (R := fun e w' => ∃ v' ι', e = .returned v' ∧ VRel ι' v v' ∧ Step V.P B0 ι0 H0 w0 ι' H' w') w0 H0 ι0 ι6 H5 hB ss w6 (hss.step x3) hs6 fun w7 hs7 => ?_
              · rw [List.append_nil] at this
                exact this
              · obtain ⟨rfl, v', z1, z2⟩ := end_run hE (a := a4) (m1.tr.mono x3.le) hs7.rel hres
                exact ⟨v', z1, v', ι6, rfl, z2, hs7⟩
            rcases he with rfl | rfl
            · exact hl
            · exact hl
      split at h
      · rename_i T4 H4 hcode
        split at h
        · rename_i H5 hrec; exact fin .normal T4 H4 H5 (.inl rfl) hcode hrec h
        · cases h
      · rename_i T4 H4 hcode
        split at h
        · rename_i H5 hrec; exact fin .ret T4 H4 H5 (.inr rfl) hcode hrec h
        · cases h
      · cases h
    · split at h
      · rename_i T1 H1 hcode
        refine wpIn_seq ((codeL_runs hE hF hm hc none lf b (dom_none T) hcode).1 B0 _ none ι a w hf _ fun ι1 a1 w1 g1 g4 => ?_)
        exact ih g1 (hst.trans g4) h
      · rename_i T1 H1 hcode
        refine wpIn_seq ((codeL_runs hE hF hm hc none lf b (dom_none T) hcode).1 B0 _ none ι a w hf _ fun ι1 a1 w1 g1 g4 => ?_)
        have hl : LeavesInM (Wd none) 0 V.P fn a1.tmps (fun e w' => ∃ v' ι', e = .returned v' ∧ VRel ι' v v' ∧ Step V.P B0 ι0 H0 w0 ι' H' w') a1.defers .returning w1 := by
          refine leaves_marks w0 H0 ι0 ι1 H1 hB a1.defers w1 g1.mks (hst.trans g4) fun w2 hs2 => ?_
          obtain ⟨rfl, v', z1, z2⟩ := end_run hE (a := a1) g1.tr hs2.rel h
          exact ⟨v', z1, v', ι1, rfl, z2, hs2⟩
        exact hl
      · cases h
  | _ => intro ι T H a w _ _ h; simp [deferC] at h

theorem deferL_ok (hE : TOk V.E V.P) (hF : FOk V.F V.P) (hm : V.P.follows .mixedOrders = true) (hc : CallOk V call) {lf : Nat} {f : FuncId} {fn : Func} (hfn : V.F f = some fn) {vs : List Value} {v : Value} (h : deferL V call lf fn vs H = some (v, H')) : Sound V (.fn f) vs H v H' := by
  intro B0 ι w vs' hG hR hL
  obtain ⟨h1, h2, h3⟩ := hF f fn hfn
  unfold deferL at h
  split at h
  · rename_i c hb
    split at h
    · rename_i hlen
      have hn : (vs'.toArray ++ Array.replicate (fn.ntmps - vs'.toArray.size) undef).size = fn.ntmps := by
        have := hL.length
        simp; omega
      have hT := initT_ok hL fn.ntmps
      refine (callsIn_wide (n := 0)).1 (callsIn_of_wp_marks (F := Wd none) h1 hb trivial ?_)
      exact deferC_ok hE hF hm hc hG hR.base c ⟨by simpa using hT, by simpa using hn, Marks.nil, hG, hR, trivial, Nat.le_refl _⟩ (Step.refl hR) h
    · cases h
  · cases h
end Go.Ev
