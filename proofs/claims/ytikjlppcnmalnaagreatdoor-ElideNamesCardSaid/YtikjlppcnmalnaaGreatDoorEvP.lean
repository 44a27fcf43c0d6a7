/-
  EV, part P: rows of operations, calls.
-/
import Derived.Test.YtikjlppcnmalnaaGreatDoorEvO
import Derived.OrdersIn
import Derived.RangeFuncRecord
import Derived.LoopNIn
namespace Go.Ev
open Go.RowKit

/-- Whom a call means: a function, or the yield of a range over a function (by its record's block). -/
inductive Tgt where
  | fn (f : FuncId)
  | yld (b : Nat)
abbrev CallFn := Tgt → List Value → AH → Option (Value × AH)

/-- Every frame that is in no round ('none'), or in a round of the record l. -/
def Wd (ro : Option Nat) : Fence := { Fence.wide with round := ro }
theorem Wd.none : Wd Option.none = Fence.wide := rfl
theorem Wd.some (l : Nat) : Fence.wide.inRound l = Wd (Option.some l) := rfl
theorem Wd.calls {ro : Option Nat} {n : Nat} {P : Program} {f : FuncId} {args : Array Value} {w : World} {R : Ending → World → Prop} (h : Calls P f args w R) : CallsIn (Wd ro) n P f args w R :=
  (callsIn_wide (n := n)).2 h
theorem Wd.round {ro : Option Nat} {n : Nat} {P : Program} {l : Nat} {f : FuncId} {tmps : Array Value} {x y : Code} {w : World} {R : Ending → World → Prop} (h : RoundIn Fence.wide n P l f tmps x y w R) : RoundIn (Wd ro) n P l f tmps x y w R := h

/-- What is known of a function table. -/
def FOk (F : FuncId → Option Func) (P : Program) : Prop := ∀ f fn, F f = some fn → P.funcs[f]? = some fn ∧ fn.body.isSome = true ∧ (fn.name == "runtime.NumGoroutine") = false

structure CallOk (V : Env) (call : CallFn) : Prop where
  fn : ∀ f vs H v H', call (.fn f) vs H = some (v, H') → ∀ B0 ι w vs', GOk ι V.nG → HRel V.P B0 ι H w → LRel ι vs vs' →
    Calls V.P f vs'.toArray w fun e w' => ∃ v' ι', e = .returned v' ∧ VRel ι' v v' ∧ Step V.P B0 ι H w ι' H' w'
  yld : ∀ b vs H v H', call (.yld b) vs H = some (v, H') → ∀ B0 ι w vs' l, GOk ι V.nG → HRel V.P B0 ι H w → LRel ι vs vs' → ι b = some l →
    ∃ f tmps x y, (Instr.yield l.blk vs'.toArray).run V.P w = .ok (.round l.blk f tmps x y) w ∧
      RoundIn Fence.wide 0 V.P l.blk f tmps x y w fun e w' => ∃ v' ι', e = .returned v' ∧ VRel ι' v v' ∧ Step V.P B0 ι H w ι' H' w'

/-! ### maps.clone, for which the model stands in -/
def cloneFn (fn : Func) : Bool := fn.body.isNone && fn.name == "maps.clone" && (Extern.allNextRows.lookup fn.origin).isNone

def aExt (P : Program) (g : FuncId) (vs : List Value) (H : AH) : Option (Value × AH) :=
  match vs with
  | [.iface t (.map (some b))] => match P.funcs[g]? with
    | some fn => if cloneFn fn then match H.obj b with
        | .map es bs ck => some (.iface t (.map (some H.next)), H.alloc (.map es bs ck))
        | _ => none
      else none
    | none => none
  | _ => none

theorem cloneFn_ok {fn : Func} (h : cloneFn fn = true) : fn.body = none ∧ (fn.name == "runtime.NumGoroutine") = false ∧ Extern.findNext fn = none ∧ Extern.find fn = some Extern.MapsClone.clone := by
  unfold cloneFn at h
  simp only [Bool.and_eq_true, beq_iff_eq] at h
  obtain ⟨⟨h1, h2⟩, h3⟩ := h
  refine ⟨by simpa using h1, by rw [h2]; decide, ?_, ?_⟩
  · have e : Extern.allNextRows.lookup "maps.clone" = none := by kernel_rfl
    have h3' : Extern.allNextRows.lookup fn.origin = none := by simpa using h3
    unfold Extern.findNext
    simp only [h2, e, h3']
    rfl
  · have e1 : Extern.allGenericRows.lookup "maps.clone" = none := by kernel_rfl
    have e2 : Extern.allTypedRows.lookup "maps.clone" = none := by kernel_rfl
    have e3 : Extern.allRows.lookup "maps.clone" = some Extern.MapsClone.clone := by kernel_rfl
    unfold Extern.find
    simp only [h2, e1, e2, e3]
    rfl

theorem aExt_ok {P : Program} {B0 : Nat} {ι : Emb} {H H' : AH} {w : World} (h : HRel P B0 ι H w) {g : FuncId} {vs vs' : List Value} {v : Value} (hl : LRel ι vs vs') (ha : aExt P g vs H = some (v, H')) :
    ∃ v' w' ι', (callFunc g vs'.toArray).run P w = .ok (.value v') w' ∧ VRel ι' v v' ∧ Step P B0 ι H w ι' H' w' := by
  unfold aExt at ha
  split at ha
  · rename_i t b
    split at ha
    · rename_i fn hfn
      split at ha
      · rename_i hc
        split at ha
        · rename_i es bs ck ho
          cases ha
          obtain ⟨h1, h2, h3, h4⟩ := cloneFn_ok hc
          cases hl with
          | cons hx ht =>
            cases ht
            cases hx with
            | iface hm =>
              cases hm with
              | map hb =>
                rename_i l
                have hO := h.obj b l hb (by rw [ho]; rfl)
                rw [ho] at hO
                obtain ⟨⟨mes, clock, g1, g2, g3, g4, rfl⟩, _⟩ := hO
                have hs := h.alloc (.map es bs clock) (.map mes clock) ⟨w.heap.size, 0, 0, 0⟩ rfl ⟨⟨mes, clock, heap_new w _, g2, fun i k v hx => by
                  obtain ⟨e, a, b', c, d⟩ := g3 i k v hx
                  exact ⟨e, a, b', c, d.mono (Emb.le_ext (h.outside (Nat.le_refl _)))⟩, g4, rfl⟩, h.base⟩ (fun _ _ _ _ _ e => (nomatch e))
                refine ⟨_, _, _, ?_, .iface (.map (Emb.ext_same ι H.next ⟨w.heap.size, 0, 0, 0⟩)), hs⟩
                have hrun : (Extern.MapsClone.clone #[.iface t (.map (some l.blk))]).run P w = .ok (.iface t (.map (some w.heap.size))) (w.alloc (.map mes clock)) := by
                  have e : Extern.MapsClone.clone #[.iface t (.map (some l.blk))] = (getObj l.blk >>= fun o => match o with
                      | .map entries clock => (newObj (.map entries clock) >>= fun n => pure (.iface t (.map (some n))))
                      | _ => stuck "maps.clone: a map expected") := rfl
                  rw [e]
                  simp [getObj, Sem.run, g1]
                have h2' : fn.name ≠ "runtime.NumGoroutine" := by simpa using h2
                simp [callFunc, hfn, h1, h2', h3, h4, mark, Sem.run, hrun]
        · cases ha
      · cases ha
    · cases ha
  · cases ha

/-- An operation, a call or not. -/
def evOp (V : Env) (call : CallFn) (T : PTree Value) (H : AH) (o : Op) : Option (Value × AH) :=
  match o with
  | .call ⟨.value f, args, _⟩ => match oval V.nG T f, ovals V.nG T args.toList with
    | some (.func (.func g) first cap), some vs => match V.F g with
      | some _ => call (.fn g) (first.toList ++ vs ++ cap.toList) H
      | none => aExt V.P g (first.toList ++ vs ++ cap.toList) H
    | some (.func (.yield b) _ _), some vs => call (.yld b) vs H
    | _, _ => none
  | o => aop V T H o

def aYielded (all : Array Oper) (T : PTree Value) (j : Nat) : Option Bool :=
  match (all[j]?).bind (·.dst) with
  | some d => match T.get d with
    | some (.bool b) => some b
    | _ => none
  | none => none

def aWanted (all : Array Oper) (T : PTree Value) (o : Oper) : Bool :=
  match o.guard with
  | none => true
  | some (j, want) => aYielded all T j == some want

/-- Is it known whether an operation is wanted? -/
def aSeen (all : Array Oper) (T : PTree Value) (o : Oper) : Bool :=
  match o.guard with
  | none => true
  | some (j, _) => match (all[j]?).bind (·.dst) with
    | some d => (T.get d).isSome
    | none => true

def put (n : Nat) (T : PTree Value) (d : Option Tmp) (v : Value) : Option (PTree Value) :=
  match d with
  | none => some T
  | some d => if d < n then some (T.set d v) else none

/-- Operations one behind the other. -/
def evOps (V : Env) (call : CallFn) (n : Nat) (all : Array Oper) : List Oper → PTree Value → AH → Option (PTree Value × AH)
  | [], T, H => some (T, H)
  | o :: os, T, H =>
    if aSeen all T o then
      if aWanted all T o then
        match evOp V call T H o.op with
        | some (v, H') => match put n T o.dst v with
          | some T' => evOps V call n all os T' H'
          | none => none
        | none => none
      else match put n T o.dst undef with
        | some T' => evOps V call n all os T' H
        | none => none
    else none

variable {B0 : Nat} {ι : Emb} {H H' : AH} {w : World} {T T' : PTree Value} {V : Env} {call : CallFn}

theorem aYielded_ok {all : Array Oper} {tmps : Array Value} (hT : TRel ι T tmps) (j : Nat) (hs : ∀ d, (all[j]?).bind (·.dst) = some d → (T.get d).isSome = true) : yielded all tmps j = aYielded all T j := by
  unfold yielded aYielded
  cases hd : (all[j]?).bind (·.dst) with
  | none => rfl
  | some d =>
    have hp := hs d hd
    simp only [Option.bind_some]
    cases ht : T.get d with
    | none => rw [ht] at hp; cases hp
    | some v =>
      have h := hT d v ht
      cases hx : tmps[d]? with
      | none =>
        have : tmps.getD d undef = undef := by simp [Array.getD_eq_getD_getElem?, hx]
        rw [this] at h
        unfold undef at h
        cases h; rfl
      | some x =>
        have : tmps.getD d undef = x := by simp [Array.getD_eq_getD_getElem?, hx]
        rw [this] at h
        cases h <;> rfl

theorem aWanted_ok {all : Array Oper} {tmps : Array Value} (hT : TRel ι T tmps) (o : Oper) (hs : aSeen all T o = true) : Region.wanted o (yielded all tmps) = aWanted all T o := by
  unfold Region.wanted aWanted
  unfold aSeen at hs
  cases hg : o.guard with
  | none => rfl
  | some g =>
    obtain ⟨j, b⟩ := g
    rw [hg] at hs
    simp only at hs ⊢
    rw [aYielded_ok hT j fun d hd => by rw [hd] at hs; exact hs]

theorem put_ok {n : Nat} {d : Option Tmp} {v v' : Value} {a : Act} (hT : TRel ι T a.tmps) (hn : a.tmps.size = n) (hv : VRel ι v v') (hp : put n T d v = some T') : TRel ι T' (a.put d v').tmps ∧ (a.put d v').tmps.size = n ∧ (a.put d v').defers = a.defers := by
  unfold put at hp
  cases d with
  | none => cases hp; exact ⟨hT, hn, rfl⟩
  | some d =>
    simp only at hp
    split at hp
    · rename_i hd
      cases hp
      refine ⟨fun t u hu => ?_, by simp [Act.put, hn], rfl⟩
      simp only [PTree.get_set] at hu
      simp only [Act.put]
      by_cases e : t = d
      · subst e
        have hlt : t < a.tmps.size := by rw [hn]; exact hd
        rw [if_pos rfl] at hu
        cases hu
        simp [hlt, hv]
      · rw [if_neg e] at hu
        have := hT t u hu
        simpa [Array.getD_eq_getD_getElem?, Array.getElem?_setIfInBounds, Ne.symm e] using this
    · cases hp

/-- What an operation's run owes: 'next' behind it. -/
theorem evOp_wp (hE : TOk V.E V.P) (hF : FOk V.F V.P) (hc : CallOk V call) {ro : Option Nat} {a : Act} (hT : TRel ι T a.tmps) (hG : GOk ι V.nG) (h : HRel V.P B0 ι H w) {o : Oper} {v : Value} (ha : evOp V call T H o.op = some (v, H'))
    {K : Act → World → Prop} {Q : Exit → Act → World → Prop} (hK : ∀ v' w' ι', VRel ι' v v' → Step V.P B0 ι H w ι' H' w' → K (a.put o.dst v') w') : o.wpIn (Wd ro) 0 V.P a w K Q := by
  have hnd : ∀ c, o.op ≠ .defer c := fun c e => by rw [e] at ha; simp [evOp, aop] at ha
  unfold Oper.wpIn
  refine ⟨fun _ _ => trivial, ?_⟩
  rw [Oper.semAt_eq _ _ _ hnd]
  unfold evOp at ha
  split at ha
  · rename_i f args ts ho
    split at ha
    · rename_i g first cap vs hf hvs
      split at ha
      · rename_i fn hfn
        obtain ⟨h1, h2, h3⟩ := hF g fn hfn
        have hfv := oval_ok hT hG hf
        have hl := ovals_ok hT hG hvs
        generalize hfe : a.eval f = fv at hfv
        cases hfv with
        | func q1 q2 q3 q4 =>
          rename_i first' cap'
          have hL := ((LRel.of_array q1 q3).append hl).append (LRel.of_array q2 q4)
          have hcall := hc.fn _ _ _ _ _ ha B0 ι w _ hG h hL
          have hrun : (execOp a.eval o).run V.P w = .ok (.enter g (first'.toList ++ args.toList.map a.eval ++ cap'.toList).toArray) w := by
            have hb : fn.body ≠ none := fun hb => by rw [hb] at h2; cases h2
            have hnm : fn.name ≠ "runtime.NumGoroutine" := by simpa using h3
            have harr : first' ++ args.map a.eval ++ cap' = (first'.toList ++ args.toList.map a.eval ++ cap'.toList).toArray := by apply Array.ext'; simp
            rw [← harr]
            unfold execOp
            rw [ho]
            simp only [resolve, hfe, Deferred.ofValue]
            simp [invoke, callFunc, h1, hb, hnm]
          rw [hrun]
          simp only [Oper.uponIn]
          refine ⟨fun e => (nomatch e), ?_⟩
          refine (Wd.calls hcall).mono fun e w' ⟨v', ι', he, hv, hs⟩ => ?_
          subst he
          exact hK v' w' ι' hv hs
      · have hfv := oval_ok hT hG hf
        have hl := ovals_ok hT hG hvs
        generalize hfe : a.eval f = fv at hfv
        cases hfv with
        | func q1 q2 q3 q4 =>
          rename_i first' cap'
          have hL := ((LRel.of_array q1 q3).append hl).append (LRel.of_array q2 q4)
          obtain ⟨v', w', ι', hr, hv, hs⟩ := aExt_ok h hL ha
          have hrun : (execOp a.eval o).run V.P w = .ok (.value v') w' := by
            have harr : first' ++ args.map a.eval ++ cap' = (first'.toList ++ args.toList.map a.eval ++ cap'.toList).toArray := by apply Array.ext'; simp
            rw [← harr] at hr
            unfold execOp
            rw [ho]
            simp only [resolve, hfe, Deferred.ofValue]
            simpa [invoke] using hr
          rw [hrun]
          exact hK v' w' ι' hv hs
    · rename_i b first cap vs hf hvs
      have hfv := oval_ok hT hG hf
      have hl := ovals_ok hT hG hvs
      generalize hfe : a.eval f = fv at hfv
      cases hfv with
      | yield hb =>
        rename_i l
        obtain ⟨f', tmps, x, y, hrun, hround⟩ := hc.yld _ _ _ _ _ ha B0 ι w _ l hG h hl hb
        have hrun' : (execOp a.eval o).run V.P w = .ok (.round l.blk f' tmps x y) w := by
          unfold execOp
          rw [ho]
          simp only [resolve, hfe, Deferred.ofValue]
          have harr : args.map a.eval = (args.toList.map a.eval).toArray := by apply Array.ext'; simp
          simp [invoke, callFunc]
          rw [harr]; simpa using hrun
        rw [hrun']
        simp only [Oper.uponIn]
        refine ⟨fun e => (nomatch e), ?_⟩
        refine (Wd.round hround).mono fun e w' ⟨v', ι', he, hv, hs⟩ => ?_
        subst he
        exact hK v' w' ι' hv hs
    · cases ha
  · obtain ⟨n, v', w', ι', hr, hn, hv, hs⟩ := aop_ok V hE hT hG h ha
    rw [hr]
    rcases hn with rfl | ⟨rfl, rfl⟩
    · exact hK v' w' ι' hv hs
    · exact hK undef w' ι' hv hs

theorem evOps_wp (hE : TOk V.E V.P) (hF : FOk V.F V.P) (hc : CallOk V call) {ro : Option Nat} {n : Nat} {ds : List Deferred} {all : Array Oper} {Q : Exit → Act → World → Prop} : ∀ (l : List Oper) (k : Nat), (∀ j, j < l.length → all[k + j]? = l[j]?) → ∀ {ι : Emb} {T : PTree Value} {H : AH} {a : Act} {w : World},
    TRel ι T a.tmps → a.tmps.size = n → a.defers = ds → GOk ι V.nG → HRel V.P B0 ι H w → ∀ {T' : PTree Value} {H' : AH}, evOps V call n all l T H = some (T', H') →
    (∀ ι' a' w', TRel ι' T' a'.tmps → a'.tmps.size = n → a'.defers = ds → Step V.P B0 ι H w ι' H' w' → Q .normal a' w') → wpOpsIn (Wd ro) 0 V.P all Q (List.range' k l.length) a w
  | [], k, hk, ι, T, H, a, w, hT, hn, hd, hG, h, T', H', he, hQ => by
    simp only [evOps] at he; cases he
    exact hQ ι a w hT hn hd (Step.refl h)
  | o :: l, k, hk, ι, T, H, a, w, hT, hn, hd, hG, h, T', H', he, hQ => by
    simp only [evOps] at he
    have ho : all[k]? = some o := by simpa using hk 0 (by simp)
    have hk' : ∀ j, j < l.length → all[k + 1 + j]? = l[j]? := fun j hj => by
      have := hk (j + 1) (by simpa using hj)
      rw [show k + 1 + j = k + (j + 1) by omega]; simpa using this
    rw [List.length_cons, List.range'_succ, wpOpsIn_cons]
    unfold wpOpIn
    simp only [ho]
    split at he
    case isFalse => cases he
    rename_i hseen
    rw [aWanted_ok hT o hseen]
    by_cases hw : aWanted all T o = true
    · rw [if_pos hw] at he ⊢
      split at he
      · rename_i v H1 hev
        split at he
        · rename_i T1 hp
          refine evOp_wp hE hF hc hT hG h hev fun v' w' ι' hv hs => ?_
          obtain ⟨k1, k2, k3⟩ := put_ok (hT.mono hs.le) hn hv hp
          exact evOps_wp hE hF hc l (k + 1) hk' k1 k2 (k3.trans hd) (hG.mono hs.le) hs.rel he fun ι2 a2 w2 g1 g2 g3 g4 => hQ ι2 a2 w2 g1 g2 g3 (hs.trans g4)
        · cases he
      · cases he
    · rw [if_neg hw] at he ⊢
      split at he
      · rename_i T1 hp
        obtain ⟨k1, k2, k3⟩ := put_ok hT hn VRel.undef hp
        exact ⟨fun _ _ => trivial, evOps_wp hE hF hc l (k + 1) hk' k1 k2 (k3.trans hd) hG h he hQ⟩
      · cases he
end Go.Ev
