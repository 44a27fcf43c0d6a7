/-
  EV, part H: what single operations do in the abstract run.
-/
import Derived.Test.YtikjlppcnmalnaaGreatDoorEvG
namespace Go.Ev
open Go.RowKit


def oval (nG : Nat) (T : PTree Value) : Operand → Option Value
  | .tmp t => T.get t
  | .const v => if constOk v then some v else none
  | .global g => if g < nG then some (.pointer (some ⟨g, 0, none⟩)) else none
  | .func f => some (.func (.func f) #[] #[])

def ovals (nG : Nat) (T : PTree Value) : List Operand → Option (List Value)
  | [] => some []
  | x :: xs => match oval nG T x, ovals nG T xs with
    | some v, some vs => some (v :: vs)
    | _, _ => none

def GOk (ι : Emb) (nG : Nat) : Prop := ∀ g, g < nG → ∃ l, ι g = some l ∧ l.blk = g ∧ l.base = 0

theorem GOk.mono {ι ι' : Emb} (hi : ι.le ι') {nG : Nat} (h : GOk ι nG) : GOk ι' nG := fun g hg => let ⟨l, a, b, c⟩ := h g hg; ⟨l, hi _ _ a, b, c⟩

theorem VRel.of_constOk {ι : Emb} {v : Value} (h : constOk v = true) : VRel ι v v := by
  unfold constOk at h
  by_cases hp : plain v = true
  · exact VRel.of_plain hp
  · simp [hp] at h
    cases v with
    | agg cs => exact VRel.agg' (xs := cs.toList) (ys := cs.toList) (LRel.of_plain fun v hv => by simp at h; obtain ⟨i, hi, e⟩ := List.mem_iff_getElem.1 hv; subst e; simpa using h i (by simpa using hi))
    | tuple cs => exact VRel.tuple' (xs := cs.toList) (ys := cs.toList) (LRel.of_plain fun v hv => by simp at h; obtain ⟨i, hi, e⟩ := List.mem_iff_getElem.1 hv; subst e; simpa using h i (by simpa using hi))
    | iface t v => simp at h; exact .iface (VRel.of_plain h)
    | _ => simp at h

theorem oval_ok {ι : Emb} {nG : Nat} {T : PTree Value} {a : Act} (hT : TRel ι T a.tmps) (hG : GOk ι nG) {x : Operand} {v : Value} (h : oval nG T x = some v) : VRel ι v (a.eval x) := by
  cases x with
  | tmp t => exact hT t v h
  | const c =>
    simp only [oval] at h
    split at h
    · rename_i hc; cases h; exact VRel.of_constOk hc
    · cases h
  | global g =>
    simp only [oval] at h
    split at h
    · rename_i hg
      cases h
      obtain ⟨l, h1, h2, h3⟩ := hG g hg
      have := VRel.ptr (off := 0) h1
      rw [h2, h3] at this
      exact this
    · cases h
  | func f => simp [oval] at h; subst h; exact .func rfl rfl (fun i h _ => by simp at h) (fun i h _ => by simp at h)

theorem ovals_ok {ι : Emb} {nG : Nat} {T : PTree Value} {a : Act} (hT : TRel ι T a.tmps) (hG : GOk ι nG) : ∀ {xs : List Operand} {vs : List Value}, ovals nG T xs = some vs → LRel ι vs (xs.map a.eval)
  | [], vs, h => by simp [ovals] at h; subst h; exact .nil
  | x :: xs, vs, h => by
    simp only [ovals] at h
    split at h
    · rename_i v vs' h1 h2
      cases h
      exact .cons (oval_ok hT hG h1) (ovals_ok hT hG h2)
    · cases h

def Desc.agg : TypeDesc → Bool
  | .struct _ | .array _ _ => true
  | _ => false

/-! ### Loads and stores -/
def aLoad (E : TypeId → Option TI) (H : AH) (t : TypeId) : Value → Option Value
  | .pointer (some ⟨b, off, none⟩) => match E t with
    | some ti => if Desc.agg ti.desc then (H.rd b off ti.size).map fun vs => .agg vs.toArray else match H.rd b off 1 with
      | some [v] => some v
      | _ => none
    | none => none
  | _ => none

def aStore (E : TypeId → Option TI) (H : AH) (t : TypeId) (p v : Value) : Option AH :=
  match p with
  | .pointer (some ⟨b, off, none⟩) => match E t with
    | some ti => if v.cells.size = ti.size ∧ v.cells.toList.all Value.oneCell' = true then H.wr b off v.cells.toList else none
    | none => none
  | _ => none

variable {P : Program} {B0 : Nat} {ι : Emb} {H H' : AH} {w : World} {E : TypeId → Option TI}

theorem run_isAgg {t : TypeId} {d : TypeDesc} (h : P.underlying t = some d) (w : World) : (isAgg t).run P w = .ok (Desc.agg d) w := by
  unfold isAgg
  simp only [Sem.run_bind, run_underlying' h, Result.andThen_ok]
  cases d <;> rfl

theorem run_sizeOf {t : TypeId} {ti : TI} {i : TypeInfo} (h : TIs P t ti i) (w : World) : (sizeOf t).run P w = .ok ti.size w := by
  simp [sizeOf, typeInfo, h.info, h.size]

theorem run_zeroValue {t : TypeId} {ti : TI} {i : TypeInfo} (h : TIs P t ti i) (w : World) : (zeroValue t).run P w = .ok ti.zv w := by
  simp [zeroValue, typeInfo, h.info, h.zero]

theorem aLoad_ok (hE : TOk E P) (h : HRel P B0 ι H w) {t : TypeId} {p p' v : Value} (hp : VRel ι p p') (ha : aLoad E H t p = some v) : ∃ v', (Instr.loadAt t p').run P w = .ok v' w ∧ VRel ι v v' := by
  unfold aLoad at ha
  split at ha
  · rename_i b off
    cases hp with
    | ptr hb =>
      rename_i l
      split at ha
      · rename_i ti hti
        obtain ⟨i, hT⟩ := hE.get hti
        split at ha
        · rename_i hagg
          cases hr : H.rd b off ti.size with
          | none => rw [hr] at ha; cases ha
          | some vs =>
            rw [hr] at ha; cases ha
            obtain ⟨vs', hv, hrun⟩ := h.loadCells hb hr
            refine ⟨.agg vs'.toArray, ?_, VRel.agg' hv⟩
            simp [Instr.loadAt, Instr.sureAddr, loadVar, run_isAgg hT.u, run_sizeOf hT, hagg, hrun]
        · rename_i hagg
          split at ha
          · rename_i v0 hr
            cases ha
            obtain ⟨hl, vs', hv, hc⟩ := h.rd hb hr
            cases hv with
            | cons hv ht =>
              cases ht
              have := hc 0 _ (by simp; rfl)
              simp only [Nat.add_zero] at this
              refine ⟨_, ?_, hv⟩
              simp [Instr.loadAt, Instr.sureAddr, loadVar, run_isAgg hT.u, hagg, this]
          · cases ha
      · cases ha
  · cases ha

theorem aStore_ok (hE : TOk E P) (h : HRel P B0 ι H w) {t : TypeId} {p p' v v' : Value} (hp : VRel ι p p') (hv : VRel ι v v') (ha : aStore E H t p v = some H') : ∃ w', (Instr.storeAt t p' v').run P w = .ok () w' ∧ Step P B0 ι H w ι H' w' := by
  unfold aStore at ha
  split at ha
  · rename_i b off
    cases hp with
    | ptr hb =>
      rename_i l
      split at ha
      · rename_i ti hti
        obtain ⟨i, hT⟩ := hE.get hti
        split at ha
        · rename_i hc
          have hcv := hv.cells
          obtain ⟨w', hr, hst⟩ := h.storeCells hb hcv (fun x hx => List.all_eq_true.1 hc.2 x hx) ha
          refine ⟨w', ?_, hst⟩
          have hsz : v'.cells.size = ti.size := by
            have := hcv.length; simp at this; omega
          simp [Instr.storeAt, Instr.sureAddr, storeVar, run_sizeOf hT, hsz, hr]
        · cases ha
      · cases ha
  · cases ha

/-! ### Addresses -/
def aField (E : TypeId → Option TI) (s : TypeId) (f : Nat) : Value → Option Value
  | .pointer (some ⟨b, off, none⟩) => match E s with
    | some ⟨.struct fs, _, _, _⟩ => match fs[f]? with
      | some fd => match E fd.type with
        | some tf => if tf.size = 0 then none else some (.pointer (some ⟨b, off + fd.offset, none⟩))
        | none => none
      | none => none
    | _ => none
  | _ => none

theorem aField_ok (hE : TOk E P) {s : TypeId} {f : Nat} {p p' v : Value} (hp : VRel ι p p') (ha : aField E s f p = some v) : ∃ v', (Instr.fieldAt s p' f).run P w = .ok v' w ∧ VRel ι v v' := by
  unfold aField at ha
  split at ha
  · cases hp with
    | ptr hb =>
      split at ha
      · rename_i fs sz by_ zv hti
        obtain ⟨i, hT⟩ := hE.get hti
        have hu : P.underlying s = some (.struct fs) := hT.u
        split at ha
        · rename_i fd hfd
          split at ha
          · rename_i tf htf
            obtain ⟨j, hTf⟩ := hE.get htf
            split at ha
            · cases ha
            · rename_i hz
              cases ha
              refine ⟨_, ?_, .ptr hb⟩
              simp [Instr.fieldAt, run_underlying' hu, hfd, Instr.sureAddr, fieldPlace, run_sizeOf hTf, hz, Addr.add_plain, Nat.add_assoc]
          · cases ha
        · cases ha
      · cases ha
  · cases ha

def aIndex (E : TypeId → Option TI) (t : TypeId) (x i : Value) : Option Value :=
  match i with
  | .int _ n => match E t with
    | some ⟨.slice e, _, _, _⟩ => match x with
      | .slice (some ⟨b, off, none⟩) len _ => match E e with
        | some te => if 0 ≤ n ∧ n < len then some (.pointer (some ⟨b, off + n.toNat * te.size, none⟩)) else none
        | none => none
      | _ => none
    | some ⟨.array len e, _, _, _⟩ => match x with
      | .pointer (some ⟨b, off, none⟩) => match E e with
        | some te => if 0 ≤ n ∧ n < len then some (.pointer (some ⟨b, off + n.toNat * te.size, none⟩)) else none
        | none => none
      | _ => none
    | _ => none
  | _ => none

theorem aIndex_ok (hE : TOk E P) {t : TypeId} {x x' i i' v : Value} (hx : VRel ι x x') (hi : VRel ι i i') (ha : aIndex E t x i = some v) : ∃ v', (Instr.indexAt t x' i').run P w = .ok v' w ∧ VRel ι v v' := by
  unfold aIndex at ha
  split at ha
  · rename_i k n
    cases hi
    split at ha
    · rename_i e sz by_ zv hti
      obtain ⟨j, hT⟩ := hE.get hti
      have hu : P.underlying t = some (.slice e) := hT.u
      split at ha
      · rename_i b off len cap
        split at ha
        · rename_i te hte
          obtain ⟨je, hTe⟩ := hE.get hte
          split at ha
          · rename_i hr
            cases ha
            cases hx with
            | slice hb hc hl =>
              refine ⟨_, ?_, .ptr hb⟩
              simp [Instr.indexAt, asIntOf, run_underlying' hu, run_sizeOf hTe, hr.1, hr.2, Addr.add_plain, Nat.add_assoc]
            | sliceUnk hb hl hs he =>
              refine ⟨_, ?_, .ptr hb⟩
              simp [Instr.indexAt, asIntOf, run_underlying' hu, run_sizeOf hTe, hr.1, hr.2, Addr.add_plain, Nat.add_assoc]
            | sliceEnd a hb hs => exact absurd hr.2 (by simp; omega)
            | sliceZ a => exact absurd hr.2 (by simp; omega)
          · cases ha
        · cases ha
      · cases ha
    · rename_i len e sz by_ zv hti
      obtain ⟨j, hT⟩ := hE.get hti
      have hu : P.underlying t = some (.array len e) := hT.u
      split at ha
      · split at ha
        · rename_i te hte
          obtain ⟨je, hTe⟩ := hE.get hte
          split at ha
          · rename_i hr
            cases ha
            cases hx with
            | ptr hb =>
              refine ⟨_, ?_, .ptr hb⟩
              simp [Instr.indexAt, Instr.sureAddr, asIntOf, run_underlying' hu, run_sizeOf hTe, hr.1, hr.2, Addr.add_plain, Nat.add_assoc]
          · cases ha
        · cases ha
      · cases ha
    · cases ha
  · cases ha
end Go.Ev
