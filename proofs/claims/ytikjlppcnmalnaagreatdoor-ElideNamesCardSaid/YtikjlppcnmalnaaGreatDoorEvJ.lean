/-
  EV, part J: building, making, lengths, copying.
-/
import Derived.Test.YtikjlppcnmalnaaGreatDoorEvI
import Derived.Laws.Tables
namespace Go.Ev
open Go.RowKit

variable {P : Program} {B0 : Nat} {ι : Emb} {H H' : AH} {w : World} {E : TypeId → Option TI}

/-! ### Building -/
inductive PRel (ι : Emb) : List (Nat × Value) → List (Nat × Value) → Prop
  | nil : PRel ι [] []
  | cons {i : Nat} {v v' : Value} {ps ps' : List (Nat × Value)} (h : VRel ι v v') (t : PRel ι ps ps') : PRel ι ((i, v) :: ps) ((i, v') :: ps')

def afill (place : Nat → Option (Nat × Nat)) (cells : List Value) : List (Nat × Value) → Option (List Value)
  | [] => some cells
  | (i, v) :: rest => match place i with
    | none => none
    | some (off, size) => if v.cells.size ≠ size ∨ cells.length < off + v.cells.size then none else afill place (splice cells off v.cells.toList) rest

theorem foldl_set : ∀ (vs : List Value) (k off : Nat) (cs : Array Value), off + k + vs.length ≤ cs.size →
    ((vs.zipIdx k).foldl (fun cs (c, j) => cs.setIfInBounds (off + j) c) cs).toList = splice cs.toList (off + k) vs
  | [], k, off, cs, h => by simp [splice]
  | v :: vs, k, off, cs, h => by
    simp only [List.zipIdx_cons, List.foldl_cons]
    simp only [List.length_cons] at h
    rw [foldl_set vs (k + 1) off (cs.setIfInBounds (off + k) v) (by simp; omega)]
    apply List.ext_getElem?
    intro j
    rw [splice_get (by simp; omega), splice_get (by simp; omega)]
    simp only [List.length_cons]
    by_cases h1 : j = off + k
    · subst h1
      rw [if_neg (by omega), if_pos (by omega)]
      simp
      rw [List.getElem?_set_self (by simpa using (by omega : off + k < cs.size))]
    · by_cases h2 : off + (k + 1) ≤ j ∧ j < off + (k + 1) + vs.length
      · rw [if_pos h2, if_pos (by omega), show j - (off + k) = (j - (off + (k + 1))) + 1 by omega]
        simp
      · rw [if_neg h2, if_neg (by omega)]
        simp [Ne.symm h1]

theorem foldl_arr (vs : Array Value) (off : Nat) (cs : Array Value) (h : off + vs.size ≤ cs.size) :
    (vs.zipIdx.foldl (fun cs (c, j) => cs.setIfInBounds (off + j) c) cs).toList = splice cs.toList off vs.toList := by
  have := foldl_set vs.toList 0 off cs (by simpa using h)
  rw [← Array.foldl_toList, Array.toList_zipIdx]
  simpa using this

theorem LRel.splice {cells cells' vs vs' : List Value} (h : LRel ι cells cells') (k : LRel ι vs vs') (off : Nat) : LRel ι (splice cells off vs) (splice cells' off vs') := by
  unfold Go.Ev.splice
  rw [k.length]
  exact ((h.take off).append k).append (h.drop _)

theorem afill_ok (place : Nat → Option (Nat × Nat)) : ∀ {ps ps' : List (Nat × Value)}, PRel ι ps ps' → ∀ {cells : List Value} {cells' : Array Value} {r : List Value}, LRel ι cells cells'.toList → afill place cells ps = some r →
    ∃ r', Instr.fill place cells' ps' = some r' ∧ LRel ι r r'.toList := by
  intro ps ps' hp
  induction hp with
  | nil => intro cells cells' r hc h; simp [afill] at h; subst h; exact ⟨cells', rfl, hc⟩
  | @cons i v v' ps ps' hv ht ih =>
    intro cells cells' r hc h
    simp only [afill] at h
    simp only [Instr.fill]
    split at h
    · cases h
    · rename_i off size hpl
      rw [hpl]
      split at h
      · cases h
      · rename_i hn
        rw [not_or, Decidable.not_not, Nat.not_lt] at hn
        have hl : _ = _ := hv.cells.length
        simp only [Array.length_toList] at hl
        have hcl : cells.length = cells'.size := by simpa using hc.length
        have h1 : ¬ ((decide (¬ v'.cells.size = size) || decide (cells'.size < off + v'.cells.size)) = true) := by
          simp only [Bool.or_eq_true, decide_eq_true_eq, not_or, Decidable.not_not, Nat.not_lt]
          exact ⟨hl ▸ hn.1, hcl ▸ hl ▸ hn.2⟩
        simp only [gt_iff_lt, ne_eq]
        rw [if_neg h1]
        exact ih (by rw [foldl_arr _ _ _ (by omega)]; exact hc.splice hv.cells off) h

def aPlaces (E : TypeId → Option TI) : List Field → Option (List (Nat × Nat))
  | [] => some []
  | f :: fs => match E f.type, aPlaces E fs with
    | some ti, some ps => some ((f.offset, ti.size) :: ps)
    | _, _ => none

theorem aPlaces_ok (hE : TOk E P) : ∀ {fs : List Field} {ps : List (Nat × Nat)}, aPlaces E fs = some ps → fs.mapM (fun f => (P.info? f.type).map fun i => (f.offset, i.size)) = some ps
  | [], ps, h => by simp [aPlaces] at h; subst h; simp
  | f :: fs, ps, h => by
    simp only [aPlaces] at h
    split at h
    · rename_i ti ps' h1 h2
      cases h
      obtain ⟨i, hT⟩ := hE.get h1
      simp [List.mapM_cons, hT.info, hT.size, aPlaces_ok hE h2]
    · cases h

def aBuild (E : TypeId → Option TI) (t : TypeId) (parts : List (Nat × Value)) : Option Value :=
  match E t with
  | some ⟨.struct fs, _, _, zv⟩ => match aPlaces E fs.toList with
    | some ps => (afill (ps[·]?) zv.cells.toList parts).map fun cs => .agg cs.toArray
    | none => none
  | some ⟨.array _ e, _, _, zv⟩ => match E e with
    | some te => (afill (fun i => some (i * te.size, te.size)) zv.cells.toList parts).map fun cs => .agg cs.toArray
    | none => none
  | _ => none

theorem aBuild_ok (hE : TOk E P) {t : TypeId} {ps : List (Nat × Value)} {ps' : Array (Nat × Value)} {v : Value} (hp : PRel ι ps ps'.toList) (ha : aBuild E t ps = some v) : ∃ v', (Instr.build t ps').run P w = .ok v' w ∧ VRel ι v v' := by
  unfold aBuild at ha
  split at ha
  · rename_i fs sz by_ zv hti
    obtain ⟨i, hT⟩ := hE.get hti
    have hu : P.underlying t = some (.struct fs) := hT.u
    have hz : i.zero = some zv := hT.zero
    split at ha
    · rename_i pl hpl
      cases hf : afill (pl[·]?) zv.cells.toList ps with
      | none => rw [hf] at ha; cases ha
      | some r =>
        rw [hf] at ha; cases ha
        obtain ⟨r', h1, h2⟩ := afill_ok (ι := ι) (pl[·]?) hp (LRel.of_plain fun x hx => hT.zplain x hx) hf
        refine ⟨.agg r', run_build w t ps' r' ?_, by simpa using VRel.agg' h2⟩
        unfold Program.built
        rw [hT.info, hu]
        simp only [hz, aPlaces_ok hE hpl]
        simpa using h1
    · cases ha
  · rename_i n e sz by_ zv hti
    obtain ⟨i, hT⟩ := hE.get hti
    have hu : P.underlying t = some (.array n e) := hT.u
    have hz : i.zero = some zv := hT.zero
    split at ha
    · rename_i te hte
      obtain ⟨je, hTe⟩ := hE.get hte
      cases hf : afill (fun i => some (i * te.size, te.size)) zv.cells.toList ps with
      | none => rw [hf] at ha; cases ha
      | some r =>
        rw [hf] at ha; cases ha
        obtain ⟨r', h1, h2⟩ := afill_ok (ι := ι) _ hp (LRel.of_plain fun x hx => hT.zplain x hx) hf
        refine ⟨.agg r', run_build w t ps' r' ?_, by simpa using VRel.agg' h2⟩
        unfold Program.built
        rw [hT.info, hu]
        simp only [hz, hTe.info, hTe.size]
        exact h1
    · cases ha
  · cases ha

/-- Zero cells of n elements. -/
def azeros (z : List Value) (n : Nat) : List Value := (List.range (n * z.length)).map fun i => z[i % z.length]!
theorem azeros_eq (z : Array Value) (n : Nat) : (Builtin.zeroCells z n).toList = azeros z.toList n := by
  simp only [Builtin.zeroCells, azeros, Array.toList_map, Array.toList_range, Array.length_toList]
  apply List.map_congr_left
  intro a _
  simp [getElem!_def]
theorem azeros_plain {z : List Value} (hz : ∀ v, v ∈ z → plain v = true) (n : Nat) : ∀ v, v ∈ azeros z n → plain v = true := fun v hv => by
  simp only [azeros, List.mem_map, List.mem_range] at hv
  obtain ⟨i, hi, rfl⟩ := hv
  have hpos : 0 < z.length := by
    rcases Nat.eq_zero_or_pos z.length with e | e
    · rw [e] at hi; simp at hi
    · exact e
  have hlt : i % z.length < z.length := Nat.mod_lt _ hpos
  rw [getElem!_pos z _ hlt]
  exact hz _ (List.getElem_mem hlt)
theorem azeros_length (z : List Value) (n : Nat) : (azeros z n).length = n * z.length := by simp [azeros]

def aBuildSlice (E : TypeId → Option TI) (H : AH) (t : TypeId) (len : Nat) (parts : List (Nat × Value)) : Option (Value × AH) :=
  match E t with
  | some ⟨.slice e, _, _, _⟩ => match E e with
    | some te => if 16777216 < len * te.size ∨ unk ≤ len then none else
      match afill (fun i => some (i * te.size, te.size)) (azeros te.zv.cells.toList len) parts with
      | some cs => some (.slice (some ⟨H.next, 0, none⟩) len len, H.alloc (.row e cs .exact 0 0))
      | none => none
    | none => none
  | _ => none

theorem aBuildSlice_ok (hE : TOk E P) (h : HRel P B0 ι H w) {t : TypeId} {len : Nat} {ps : List (Nat × Value)} {ps' : Array (Nat × Value)} {v : Value} (hp : PRel ι ps ps'.toList) (ha : aBuildSlice E H t len ps = some (v, H')) :
    ∃ v' w' ι', (Instr.buildSlice t len ps').run P w = .ok v' w' ∧ VRel ι' v v' ∧ Step P B0 ι H w ι' H' w' := by
  unfold aBuildSlice at ha
  split at ha
  · rename_i e sz by_ zv hti
    obtain ⟨i, hT⟩ := hE.get hti
    have hu : P.underlying t = some (.slice e) := hT.u
    split at ha
    · rename_i te hte
      obtain ⟨je, hTe⟩ := hE.get hte
      split at ha
      · cases ha
      · rename_i hn
        rw [not_or] at hn
        split at ha
        · rename_i cs hf
          cases ha
          have hzl : te.zv.cells.toList.length = te.size := by simpa using hTe.zsize
          have hz0 : LRel ι (azeros te.zv.cells.toList len) (Builtin.zeroCells te.zv.cells len).toList := by
            rw [azeros_eq]; exact LRel.of_plain (azeros_plain hTe.zplain len)
          obtain ⟨r', h1, h2⟩ := afill_ok (ι := ι) _ hp hz0 hf
          have hst := h.newRow e e h2
          refine ⟨.slice (some ⟨w.heap.size, 0, none⟩) len len, _, _, ?_, ?_, hst⟩
          rotate_left
          · have := VRel.slice (len := len) (cap := len) (off := 0) (Emb.ext_same ι H.next ⟨w.heap.size, 0, cs.length, P.cellsOf e⟩) (by omega) (Nat.le_refl _)
            simpa using this
          · have hlim : ¬ (len * te.size > 2 ^ 24) := by omega
            have hcells : ∀ z : Array Value, (len * te.size ≠ 0 → z = te.zv.cells) → (Array.range (len * te.size)).map (z[· % z.size]!) = Builtin.zeroCells te.zv.cells len := fun z hz => by
              unfold Builtin.zeroCells
              rw [hTe.zsize]
              by_cases h0 : len * te.size = 0
              · rw [h0]; simp
              · rw [hz h0, hTe.zsize]
            unfold Instr.buildSlice
            simp only [Sem.run_bind, run_underlying' hu, Result.andThen_ok, run_sizeOf hTe]
            rw [if_neg hlim]
            by_cases h0 : len * te.size = 0
            · rw [if_pos h0]
              simp only [Sem.run_pure, Sem.run_bind, Result.andThen_ok]
              rw [hcells #[] (fun e => absurd h0 e), h1]
              simp [newRow]
            · rw [if_neg h0]
              simp only [Sem.run_pure, Sem.run_bind, Result.andThen_ok, run_zeroValue hTe]
              rw [hcells te.zv.cells (fun _ => rfl), h1]
              simp [newRow]
        · cases ha
    · cases ha
  · cases ha
end Go.Ev
