/-
  EV, part Na: more of maps: delete, range and next where nothing is left to draw, keys that are structs; type assertions.
-/
import Derived.Test.YtikjlppcnmalnaaGreatDoorEvN
namespace Go.Ev
open Go.RowKit

variable {P : Program} {B0 : Nat} {ι : Emb} {H H' : AH} {w : World} {E : TypeId → Option TI}

/-! ### delete -/
def aDelete (E : TypeId → Option TI) (H : AH) (t : TypeId) (m k : Value) : Option AH :=
  match E t, m with
  | some ⟨.map kt _, _, _, _⟩, .map none => match E kt with
    | some tk => if keyOk tk.desc k then some H else none
    | none => none
  | some ⟨.map kt _, _, _, _⟩, .map (some b) => match E kt, H.obj b with
    | some tk, .map es bs ck => if keyOk tk.desc k && entriesOk tk.desc es then
        match findA k es 0 with
        | some (j, _) => some (H.put b (.map (es.eraseIdx j) (bs.eraseIdx j) ck))
        | none => some (H.put b (.map es bs ck))
      else none
    | _, _ => none
  | _, _ => none

theorem ERel.erase {es : List (Value × Value)} {mes : List MapEntry} (h : ERel ι es mes) (j : Nat) : ERel ι (es.eraseIdx j) (mes.eraseIdx j) where
  len := by rw [List.length_eraseIdx, List.length_eraseIdx, h.len]
  get i k v hx := by
    rw [List.getElem?_eraseIdx] at hx ⊢
    split at hx <;> rename_i hlt
    · rw [if_pos hlt]; exact h.get i k v hx
    · rw [if_neg hlt]; exact h.get (i + 1) k v hx

theorem aDelete_ok (hE : TOk E P) (h : HRel P B0 ι H w) {t u ty : TypeId} {m m' k k' : Value} (hm : VRel ι m m') (hk : VRel ι k k') (ha : aDelete E H t m k = some H') :
    ∃ w', (Builtin.delete_ #[t, u] ty #[m', k']).run P w = .ok (.tuple #[]) w' ∧ Step P B0 ι H w ι H' w' := by
  unfold aDelete at ha
  split at ha
  · rename_i kt et sz by_ zv hti
    obtain ⟨i, hT⟩ := hE.get hti
    have hu : P.underlying t = some (.map kt et) := hT.u
    split at ha
    · rename_i tk htk
      obtain ⟨ik, hTk⟩ := hE.get htk
      split at ha
      · rename_i hkey
        cases ha
        have hk' : k' = k := hk.plain_eq (keyOk_plain hkey)
        subst hk'
        cases hm
        exact ⟨w, by simp [Builtin.delete_, run_underlying' hu, run_checkKey hTk.u hkey], Step.refl h⟩
      · cases ha
    · cases ha
  · rename_i kt et sz by_ zv b hti
    obtain ⟨i, hT⟩ := hE.get hti
    have hu : P.underlying t = some (.map kt et) := hT.u
    split at ha
    · rename_i tk es bs ck htk ho
      obtain ⟨ik, hTk⟩ := hE.get htk
      split at ha
      · rename_i hc
        rw [Bool.and_eq_true] at hc
        obtain ⟨hkey, heok⟩ := hc
        have hk' : k' = k := hk.plain_eq (keyOk_plain hkey)
        subst hk'
        cases hm with
        | map hb =>
          rename_i l
          have hO := h.obj b _ hb (by rw [ho]; rfl)
          rw [ho] at hO
          obtain ⟨⟨mes, clock, h1, h2, h3, h4, rfl⟩, _⟩ := hO
          have hER : ERel ι es mes.toList := ⟨by simpa using h2, fun i k v hx => by simpa using h3 i k v hx⟩
          obtain ⟨f1, f2⟩ := findA_ok (ι := ι) hkey es mes.toList 0 hER heok
          split at ha
          · rename_i j v0 hf
            cases ha
            obtain ⟨v1, g1, _, _, _⟩ := f2 j v0 hf
            have he : (mes.eraseIdxIfInBounds j).toList = mes.toList.eraseIdx j := by simp
            refine ⟨_, ?_, h.mapPut hb ho (mes' := mes.eraseIdxIfInBounds j) (ck' := clock) h1 (he ▸ hER.erase j) ?_⟩
            · simp [Builtin.delete_, run_underlying' hu, getObj, setObj, Sem.run, h1, run_checkKey hTk.u hkey, Instr.findKey, run_underlying' hTk.u, g1]
            · rw [he, ← h4]
              apply List.ext_getElem?
              intro i
              simp only [List.getElem?_map, List.getElem?_eraseIdx]
              split <;> rfl
          · rename_i hf
            cases ha
            refine ⟨_, ?_, h.mapPut hb ho (mes' := mes) (ck' := clock) h1 hER h4⟩
            simp [Builtin.delete_, run_underlying' hu, getObj, setObj, Sem.run, h1, run_checkKey hTk.u hkey, Instr.findKey, run_underlying' hTk.u, f1 hf]
      · cases ha
    · cases ha
  · cases ha

/-! ### Ranges over maps, where nothing is to be drawn -/
def aRange (E : TypeId → Option TI) (H : AH) (t : TypeId) (x : Value) : Option (Value × AH) :=
  match E t, x with
  | some ⟨.map _ _, _, _, _⟩, .map none => some (.pointer (some ⟨H.next, 0, none⟩), H.alloc (.mapIter none 0 [] 0))
  | some ⟨.map _ _, _, _, _⟩, .map (some b) => match H.obj b with
    | .map _ _ ck => some (.pointer (some ⟨H.next, 0, none⟩), H.alloc (.mapIter (some b) ck [] ck))
    | _ => none
  | _, _ => none

theorem ptr_new' {ι : Emb} {b : Nat} {l : ILoc} (h0 : l.base = 0) : VRel (ι.ext b l) (.pointer (some ⟨b, 0, none⟩)) (.pointer (some ⟨l.blk, 0, none⟩)) := by
  have := VRel.ptr (off := 0) (Emb.ext_same ι b l)
  simpa [h0] using this

theorem aRange_ok (hE : TOk E P) (h : HRel P B0 ι H w) {t : TypeId} {x x' v : Value} (hx : VRel ι x x') (ha : aRange E H t x = some (v, H')) :
    ∃ v' w' ι', (Instr.range t x').run P w = .ok v' w' ∧ VRel ι' v v' ∧ Step P B0 ι H w ι' H' w' := by
  unfold aRange at ha
  split at ha
  · rename_i kt et sz by_ zv hti
    obtain ⟨i, hT⟩ := hE.get hti
    have hu : P.underlying t = some (.map kt et) := hT.u
    cases ha; cases hx
    have hs := h.alloc (.mapIter none 0 [] 0) (.mapIter none 0 #[] 0) ⟨w.heap.size, 0, 0, 0⟩ rfl ⟨h.base, rfl, none, heap_new w _, rfl⟩ (fun _ _ _ _ _ e => (nomatch e))
    refine ⟨.pointer (some ⟨w.heap.size, 0, none⟩), _, _, ?_, ptr_new' rfl, hs⟩
    simp [Instr.range, run_underlying' hu]
  · rename_i kt et sz by_ zv b hti
    obtain ⟨i, hT⟩ := hE.get hti
    have hu : P.underlying t = some (.map kt et) := hT.u
    split at ha
    · rename_i es bs ck ho
      cases ha
      cases hx with
      | map hb =>
        rename_i l
        have hO := h.obj b _ hb (by rw [ho]; rfl)
        rw [ho] at hO
        obtain ⟨⟨mes, clock, h1, h2, h3, h4, rfl⟩, _⟩ := hO
        have hbn : b ≠ H.next := fun e => by have := h.dom b _ hb; omega
        have hs := h.alloc (.mapIter (some b) clock [] clock) (.mapIter (some l.blk) clock #[] clock) ⟨w.heap.size, 0, 0, 0⟩ rfl ⟨h.base, rfl, some l.blk, heap_new w _, l, by simp [Emb.ext, hbn, hb], rfl⟩ (fun _ _ _ _ _ e => (nomatch e))
        refine ⟨.pointer (some ⟨w.heap.size, 0, none⟩), _, _, ?_, ptr_new' rfl, hs⟩
        simp [Instr.range, run_underlying' hu, getObj, Sem.run, h1]
    · cases ha
  · cases ha

/-- An iterator turned. -/
theorem HRel.iterPut (h : HRel P B0 ι H w) {b : Nat} {l : ILoc} (hb : ι b = some l) {mb : Option Nat} {since last last' : Nat} {seen seen' : List Nat} (ho : H.obj b = .mapIter mb since seen last) {m' : Option Nat}
    (hw : w.heap[l.blk]? = some (.mapIter m' since seen.toArray last)) : Step P B0 ι H w ι (H.put b (.mapIter mb since seen' last')) { w with heap := w.heap.setIfInBounds l.blk (.mapIter m' since seen'.toArray last') } := by
  have ha : H.alive (H.obj b) = true := by rw [ho]; rfl
  have hO := h.obj b l hb ha
  rw [ho] at hO
  obtain ⟨hB, h0, m2, k1, k2⟩ := hO
  have hlt : l.blk < w.heap.size := (Array.getElem?_eq_some_iff.1 hw).1
  rw [hw] at k1
  cases k1
  refine h.write hb ha hB (fun c e => by simp [e]) rfl (fun c l' e hc hac => ?_) ?_ (fun c l' et cells st g v hc hoc => ?_) (fun k hk => by simp [Ne.symm hk]) (by simp) rfl rfl rfl
  · have hac' : H.alive (H.obj c) = true := by cases hoc : H.obj c <;> rw [hoc] at hac <;> exact hac
    refine ⟨hac', fun e' => ?_⟩
    have := h.sep b c l l' (Ne.symm e) hb hc ha hac' e'.symm
    rw [ho] at this
    cases hoc : H.obj c <;> rw [hoc] at this <;> simp [Share] at this
  · simp only [AH.obj_put, if_true]
    exact ⟨hB, h0, m', by simp [hlt], k2⟩
  · by_cases e : c = b
    · subst e; simp at hoc
    · simp [e] at hoc; simpa using h.grp c l' et cells st g v hc hoc

/-- Entries with their births. -/
inductive MRel (ι : Emb) : List ((Value × Value) × Nat) → List MapEntry → Prop
  | nil : MRel ι [] []
  | cons {k v : Value} {n : Nat} {e : MapEntry} {xs : List ((Value × Value) × Nat)} {mes : List MapEntry} (hc : constOk k = true) (hk : e.key = k) (hv : VRel ι v e.val) (hn : e.born = n) (t : MRel ι xs mes) : MRel ι (((k, v), n) :: xs) (e :: mes)

theorem MRel.of : ∀ {es : List (Value × Value)} {mes : List MapEntry} {bs : List Nat}, ERel ι es mes → mes.map (·.born) = bs → MRel ι (es.zip bs) mes
  | [], mes, bs, h, hb => by
    have : mes = [] := List.length_eq_zero_iff.1 (by simpa using h.len)
    subst this; subst hb; exact .nil
  | (k, v) :: es, [], bs, h, _ => by have := h.len; simp at this
  | (k, v) :: es, e :: mes, bs, h, hb => by
    obtain ⟨e0, he, hc, hke, hv⟩ := h.get 0 k v (by simp)
    simp at he; subst he
    subst hb
    exact .cons hc hke hv rfl (MRel.of ⟨by have := h.len; simpa using this, fun j a b hab => by
      have := h.get (j + 1) a b (by simpa using hab)
      simpa using this⟩ rfl)

theorem MRel.filter (p : Nat → Bool) {xs : List ((Value × Value) × Nat)} {mes : List MapEntry} (h : MRel ι xs mes) : MRel ι (xs.filter fun x => p x.2) (mes.filter fun e => p e.born) := by
  induction h with
  | nil => exact .nil
  | cons hc hk hv hn t ih =>
    subst hn
    simp only [List.filter_cons]
    split
    · exact .cons hc hk hv rfl ih
    · exact ih

theorem MRel.nil_inv {mes : List MapEntry} (h : MRel ι [] mes) : mes = [] := by cases h; rfl
theorem MRel.one_inv {k v : Value} {n : Nat} {mes : List MapEntry} (h : MRel ι [((k, v), n)] mes) : ∃ e, mes = [e] ∧ constOk k = true ∧ e.key = k ∧ VRel ι v e.val ∧ e.born = n := by
  cases h with
  | cons hc hk hv hn t => cases t; exact ⟨_, rfl, hc, hk, hv, hn⟩

def leftOf (es : List (Value × Value)) (bs seen : List Nat) : List ((Value × Value) × Nat) := (es.zip bs).filter fun x => !seen.contains x.2

/-- The entry that comes next, if nothing is to be drawn. -/
def nextSel (es : List (Value × Value)) (bs seen : List Nat) (since last : Nat) : Option (Option ((Value × Value) × Nat)) :=
  if (!seen.isEmpty && !es.isEmpty && bs.all fun x => decide (x ≥ last)) = true then none else
  match (leftOf es bs seen).filter (fun x => decide (x.2 < since)), (leftOf es bs seen).filter (fun x => decide (x.2 ≥ since)) with
  | [], [] => some none
  | [x], [] => some (some x)
  | _, _ => none

theorem nextSel_ok {es : List (Value × Value)} {bs seen : List Nat} {since last : Nat} {r : Option ((Value × Value) × Nat)} (h : nextSel es bs seen since last = some r) :
    (!seen.isEmpty && !es.isEmpty && bs.all fun x => decide (x ≥ last)) = false ∧ (leftOf es bs seen).filter (fun x => decide (x.2 < since)) = r.toList ∧ (leftOf es bs seen).filter (fun x => decide (x.2 ≥ since)) = [] := by
  unfold nextSel at h
  split at h
  · cases h
  · rename_i hs
    refine ⟨by simpa using hs, ?_⟩
    split at h
    · rename_i a1 a2; cases h; exact ⟨a1, a2⟩
    · rename_i a1 a2; cases h; exact ⟨a1, a2⟩
    · cases h

def aNext (H : AH) (it : Value) (isStr : Bool) : Option (Value × AH) :=
  match it, isStr with
  | .pointer (some ⟨r, 0, none⟩), false => match H.obj r with
    | .mapIter none _ _ _ => some (.tuple #[.bool false], H)
    | .mapIter (some b) since seen last => match H.obj b with
      | .map es bs ck => match nextSel es bs seen since last with
        | some none => some (.tuple #[.bool false], H)
        | some (some ((k, v), n)) => some (.tuple #[.bool true, k, v], H.put r (.mapIter (some b) since (seen ++ [n]) ck))
        | none => none
      | _ => none
    | _ => none
  | _, _ => none

theorem filter_arr (p : MapEntry → Bool) (a : Array MapEntry) : a.filter p = (a.toList.filter p).toArray := by
  apply Array.ext'; simp

theorem aNext_ok (h : HRel P B0 ι H w) {it it' v : Value} {b : Bool} {ty : TypeId} (hx : VRel ι it it') (ha : aNext H it b = some (v, H')) :
    ∃ v' w', (Instr.next it' b ty).run P w = .ok v' w' ∧ VRel ι v v' ∧ Step P B0 ι H w ι H' w' := by
  unfold aNext at ha
  split at ha
  · rename_i r
    cases hx with
    | ptr hr =>
      rename_i l
      split at ha
      · rename_i since seen last ho
        cases ha
        have hO := h.obj r l hr (by rw [ho]; rfl)
        rw [ho] at hO
        obtain ⟨hB, h0, m', k1, k2⟩ := hO
        simp only at k2
        subst k2
        refine ⟨_, w, ?_, .tuple' (xs := [_]) (ys := [_]) (.cons (.bool false) .nil), Step.refl h⟩
        simp [Instr.next, h0, getObj, Sem.run, k1]
      · rename_i bm since seen last ho
        have hO := h.obj r l hr (by rw [ho]; rfl)
        rw [ho] at hO
        obtain ⟨hB, h0, m', k1, lb, k2, k3⟩ := hO
        subst k3
        split at ha
        · rename_i es bs ck hom
          have hM := h.obj bm lb k2 (by rw [hom]; rfl)
          rw [hom] at hM
          obtain ⟨⟨mes, clock, g1, g2, g3, g4, rfl⟩, _⟩ := hM
          have hER : ERel ι es mes.toList := ⟨by simpa using g2, fun i k v hx => by simpa using g3 i k v hx⟩
          have hMR := (MRel.of hER g4).filter (fun n => !seen.contains n)
          have hold := hMR.filter (fun n => decide (n < since))
          have hnew := hMR.filter (fun n => decide (n ≥ since))
          have e1 : seen.toArray.isEmpty = seen.isEmpty := by cases seen <;> rfl
          have e2 : mes.isEmpty = es.isEmpty := by
            rw [Bool.eq_iff_iff]; simp [List.isEmpty_iff, ← List.length_eq_zero_iff, ← g2]
          have e3 : (mes.all fun x => decide (x.born ≥ last)) = bs.all fun x => decide (x ≥ last) := by
            rw [← g4, ← Array.all_toList, List.all_map]; rfl
          have ef : (mes.filter fun e => !seen.toArray.contains e.born) = (mes.toList.filter fun e => !seen.contains e.born).toArray := by
            rw [filter_arr]; simp
          split at ha
          · rename_i hsel
            cases ha
            obtain ⟨hsafe, ho1, hn1⟩ := nextSel_ok hsel
            rw [← e1, ← e2, ← e3] at hsafe
            unfold leftOf at ho1 hn1
            rw [ho1] at hold
            rw [hn1] at hnew
            have p1 := hold.nil_inv
            have p2 := hnew.nil_inv
            refine ⟨_, w, ?_, .tuple' (xs := [_]) (ys := [_]) (.cons (.bool false) .nil), Step.refl h⟩
            have q1 : (mes.filter fun e => !seen.toArray.contains e.born).filter (fun e => decide (e.born < since)) = #[] := by rw [ef, filter_arr]; exact congrArg List.toArray p1
            have q2 : (mes.filter fun e => !seen.toArray.contains e.born).filter (fun e => decide (e.born ≥ since)) = #[] := by rw [ef, filter_arr]; exact congrArg List.toArray p2
            simp only [Instr.next, h0, Nat.zero_add, getObj, Sem.run_bind, Sem.run, k1, g1, Result.andThen_ok, hsafe, Bool.false_eq_true, if_false, q1, q2]
            simp [Question.forced]
          · rename_i k v n hsel
            cases ha
            obtain ⟨hsafe, ho1, hn1⟩ := nextSel_ok hsel
            rw [← e1, ← e2, ← e3] at hsafe
            unfold leftOf at ho1 hn1
            rw [ho1] at hold
            rw [hn1] at hnew
            obtain ⟨e, p1, c1, c2, c3, c4⟩ := hold.one_inv
            have p2 := hnew.nil_inv
            have q1 : (mes.filter fun e => !seen.toArray.contains e.born).filter (fun e => decide (e.born < since)) = #[e] := by rw [ef, filter_arr]; exact congrArg List.toArray p1
            have q2 : (mes.filter fun e => !seen.toArray.contains e.born).filter (fun e => decide (e.born ≥ since)) = #[] := by rw [ef, filter_arr]; exact congrArg List.toArray p2
            refine ⟨_, _, ?_, .tuple' (xs := [_, _, _]) (ys := [.bool true, e.key, e.val]) (.cons (.bool true) (.cons (by rw [c2]; exact VRel.of_constOk c1) (.cons c3 .nil))), h.iterPut hr ho k1⟩
            simp only [Instr.next, h0, Nat.zero_add, getObj, Sem.run_bind, Sem.run, k1, g1, Result.andThen_ok, hsafe, Bool.false_eq_true, if_false, q1, q2]
            simp [Question.forced, setObj, Sem.run, k1, c4]
          · cases ha
        · cases ha
      · cases ha
  · cases ha

/-- The entry at which an iterator stands. -/
def aEntry (H : AH) (it : Value) : Option Value :=
  match it with
  | .pointer (some ⟨r, 0, none⟩) => match H.obj r with
    | .mapIter (some b) _ seen last => match H.obj b, seen.getLast? with
      | .map es bs ck, some n => if ck = last then match (es.zip bs).find? (fun x => x.2 == n) with
          | some ((k, v), _) => some (.tuple #[k, v])
          | none => none
        else none
      | _, _ => none
    | _ => none
  | _ => none

theorem MRel.find {n : Nat} {xs : List ((Value × Value) × Nat)} {mes : List MapEntry} (h : MRel ι xs mes) {k v : Value} {m : Nat} (hf : xs.find? (fun x => x.2 == n) = some ((k, v), m)) : ∃ e, mes.find? (fun e => e.born == n) = some e ∧ constOk k = true ∧ e.key = k ∧ VRel ι v e.val := by
  induction h with
  | nil => cases hf
  | cons hc hk hv hn t ih =>
    subst hn
    simp only [List.find?_cons] at hf ⊢
    split at hf
    · rename_i hb
      cases hf
      exact ⟨_, rfl, hc, hk, hv⟩
    · exact ih hf

theorem aEntry_ok (h : HRel P B0 ι H w) {it it' v : Value} (hx : VRel ι it it') (ha : aEntry H it = some v) : ∃ v', (Instr.entry it').run P w = .ok v' w ∧ VRel ι v v' := by
  unfold aEntry at ha
  split at ha
  · rename_i r
    cases hx with
    | ptr hr =>
      rename_i l
      split at ha
      · rename_i bm since seen last ho
        have hO := h.obj r l hr (by rw [ho]; rfl)
        rw [ho] at hO
        obtain ⟨hB, h0, m', k1, lb, k2, k3⟩ := hO
        subst k3
        split at ha
        · rename_i es bs ck n hom hl
          have hM := h.obj bm lb k2 (by rw [hom]; rfl)
          rw [hom] at hM
          obtain ⟨⟨mes, clock, g1, g2, g3, g4, rfl⟩, _⟩ := hM
          have hER : ERel ι es mes.toList := ⟨by simpa using g2, fun i k v hx => by simpa using g3 i k v hx⟩
          split at ha
          · rename_i hcl
            split at ha
            · rename_i k v0 m hf
              cases ha
              obtain ⟨e, q1, q2, q3, q4⟩ := (MRel.of hER g4).find hf
              refine ⟨.tuple #[e.key, e.val], ?_, .tuple' (xs := [_, _]) (ys := [e.key, e.val]) (.cons (by rw [q3]; exact VRel.of_constOk q2) (.cons q4 .nil))⟩
              have hb : seen.toArray.back? = some n := by simpa using hl
              have q1' : mes.find? (fun e => e.born == n) = some e := by rw [← Array.find?_toList]; exact q1
              subst hcl
              simp [Instr.entry, h0, getObj, Sem.run, k1, g1, hl, q1']
            · cases ha
          · cases ha
        · cases ha
      · cases ha
  · cases ha

/-! ### Keys that are structs -/
def structKeyed (E : TypeId → Option TI) (t : TypeId) : Bool :=
  match E t with
  | some ⟨.map kt _, _, _, _⟩ => match E kt with
    | some ⟨.struct _, _, _, _⟩ => true
    | _ => false
  | _ => false

def findG (P : Program) (kt : TypeId) (k : Value) : List (Value × Value) → Nat → Option (Option (Nat × Value))
  | [], _ => some none
  | (k', v) :: es, i => match pureRun P (Op.equal kt k k') with
    | some true => if Instr.sameBits 10000 k' k then some (some (i, v)) else none
    | some false => findG P kt k es (i + 1)
    | none => none

theorem findG_ok {kt : TypeId} {k : Value} (w : World) : ∀ (es : List (Value × Value)) (mes : List MapEntry) (i : Nat) (r : Option (Nat × Value)), ERel ι es mes → findG P kt k es i = some r →
    (r = none → (Instr.findAsking kt k mes i).run P w = .ok none w) ∧ (∀ j v, r = some (j, v) → ∃ v', (Instr.findAsking kt k mes i).run P w = .ok (some (j, v')) w ∧ VRel ι v v' ∧ i ≤ j ∧ ∃ k0, (es[j - i]?).map (·.1) = some k0 ∧ Instr.sameBits 10000 k0 k = true)
  | [], mes, i, r, h, hf => by
    have : mes = [] := List.length_eq_zero_iff.1 (by simpa using h.len)
    subst this
    simp only [findG] at hf
    cases hf
    exact ⟨fun _ => by simp [Instr.findAsking], fun j v e => (nomatch e)⟩
  | (k', v') :: es, [], i, r, h, _ => by have := h.len; simp at this
  | (k', v') :: es, e :: mes, i, r, h, hf => by
    obtain ⟨e0, he, hc, hke, hv⟩ := h.get 0 k' v' (by simp)
    simp at he; subst he
    have ht : ERel ι es mes := ⟨by have := h.len; simpa using this, fun j a b hab => by
      have := h.get (j + 1) a b (by simpa using hab)
      simpa using this⟩
    simp only [findG] at hf
    split at hf
    · rename_i hp
      split at hf
      · rename_i hs
        cases hf
        have hr := pureRun_ok _ _ hp w
        refine ⟨fun e => (nomatch e), fun j v e1 => ?_⟩
        cases e1
        refine ⟨e.val, ?_, hv, Nat.le_refl _, k', by simp, hs⟩
        simp [Instr.findAsking, hke, hr]
      · cases hf
    · rename_i hp
      have hr := pureRun_ok _ _ hp w
      obtain ⟨f1, f2⟩ := findG_ok w es mes (i + 1) r ht hf
      refine ⟨fun e1 => ?_, fun j v e1 => ?_⟩
      · simp [Instr.findAsking, hke, hr, f1 e1]
      · obtain ⟨v1, g1, g2, g3, k0, g4, g5⟩ := f2 j v e1
        refine ⟨v1, by simp [Instr.findAsking, hke, hr, g1], g2, by omega, k0, ?_, g5⟩
        rw [show j - i = (j - (i + 1)) + 1 by omega]
        simpa using g4
    · cases hf

theorem run_findKeyS {kt : TypeId} {k : Value} {fs : Array Field} (hu : P.underlying kt = some (.struct fs)) (mes : List MapEntry) (w : World) : (Instr.findKey kt k mes).run P w = (Instr.findAsking kt k mes).run P w := by
  cases mes with
  | nil => simp [Instr.findKey, run_underlying' hu, Instr.findNow, Instr.findAsking]
  | cons e mes =>
    have : Instr.findNow (.struct fs) k (e :: mes) 0 = none := by
      simp only [Instr.findNow]
      have : Instr.sameNow (.struct fs) k e.key = none := by
        unfold Instr.sameNow
        split <;> simp_all
      rw [this]
    simp [Instr.findKey, run_underlying' hu, this]

def aLookupS (P : Program) (E : TypeId → Option TI) (H : AH) (t : TypeId) (m k : Value) (ok : Bool) : Option Value :=
  match E t with
  | some ⟨.map kt et, _, _, _⟩ => match E kt, E et with
    | some ⟨.struct _, _, _, _⟩, some te =>
      if constOk k = true then
        match (match m with
          | .map none => some []
          | .map (some b) => match H.lo b with
            | .map es _ _ => some es
            | _ => none
          | _ => none : Option (List (Value × Value))) with
        | some es => match pureRun P (Instr.checkKey es.isEmpty 10000 kt k), findG P kt k es 0 with
          | some _, some (some (_, v)) => some (if ok then .tuple #[v, .bool true] else v)
          | some _, some none => if constOk te.zv then some (if ok then .tuple #[te.zv, .bool false] else te.zv) else none
          | _, _ => none
        | none => none
      else none
    | _, _ => none
  | _ => none

theorem aLookupS_ok (hE : TOk E P) (h : HRel P B0 ι H w) {t : TypeId} {m m' k k' v : Value} {ok : Bool} (hm : VRel ι m m') (hk : VRel ι k k') (ha : aLookupS P E H t m k ok = some v) :
    ∃ v', (Instr.lookup t m' k' ok).run P w = .ok v' w ∧ VRel ι v v' := by
  unfold aLookupS at ha
  split at ha
  · rename_i kt et sz by_ zv hti
    obtain ⟨i, hT⟩ := hE.get hti
    have hu : P.underlying t = some (.map kt et) := hT.u
    split at ha
    · rename_i fs s1 b1 z1 te htk hte
      obtain ⟨ik, hTk⟩ := hE.get htk
      obtain ⟨ie, hTe⟩ := hE.get hte
      have huk : P.underlying kt = some (.struct fs) := hTk.u
      split at ha
      · rename_i hck
        have hk' : k' = k := hk.constOk_eq hck
        subst hk'
        split at ha
        · rename_i es hes
          have fin : ∀ mes : List MapEntry, ERel ι es mes → (Instr.checkKey es.isEmpty 10000 kt k').run P w = .ok () w ∧ ∃ r, (Instr.findKey kt k' mes).run P w = .ok r w ∧ ∃ v', VRel ι v v' ∧
              (match r with
                | some (_, v) => v' = (if ok then .tuple #[v, .bool true] else v)
                | none => v' = (if ok then .tuple #[te.zv, .bool false] else te.zv)) := fun mes hER => by
            split at ha
            · rename_i u j v0 hp hf
              cases ha
              obtain ⟨_, f2⟩ := findG_ok w es mes 0 _ hER hf
              obtain ⟨v1, g1, g2, _⟩ := f2 j v0 rfl
              refine ⟨pureRun_ok _ _ hp w, _, (run_findKeyS huk mes w).trans g1, _, ?_, rfl⟩
              cases ok
              · exact g2
              · exact VRel.tuple' (xs := [_, _]) (ys := [_, _]) (.cons g2 (.cons (.bool true) .nil))
            · rename_i u hp hf
              split at ha
              · rename_i hc
                cases ha
                obtain ⟨f1, _⟩ := findG_ok w es mes 0 _ hER hf
                refine ⟨pureRun_ok _ _ hp w, _, (run_findKeyS huk mes w).trans (f1 rfl), _, ?_, rfl⟩
                cases ok
                · exact VRel.of_constOk hc
                · exact VRel.tuple' (xs := [_, _]) (ys := [_, _]) (.cons (VRel.of_constOk hc) (.cons (.bool false) .nil))
              · cases ha
            · cases ha
          cases hm with
          | mapNil =>
            simp only [Option.some.injEq] at hes; subst hes
            obtain ⟨hchk, r, hr, v', hv, hm⟩ := fin [] ⟨rfl, fun i k v hx => by simp at hx⟩
            have hchk' : (Instr.checkKey true 10000 kt k').run P w = .ok () w := hchk
            refine ⟨v', ?_, hv⟩
            cases r with
            | none => simp only at hm; simp [Instr.lookup, run_underlying' hu, hchk', hr, run_zeroValue hTe, hm]
            | some r => simp only at hm; simp [Instr.lookup, run_underlying' hu, hchk', hr, hm]
          | map hb =>
            simp only at hes
            split at hes
            · rename_i b l _ es' bs ck ho
              cases hes
              have ho := AH.lo_map ho
              have hO := h.obj _ _ hb (by rw [ho]; rfl)
              rw [ho] at hO
              obtain ⟨⟨mes, clock, h1, h2, h3, _⟩, _⟩ := hO
              obtain ⟨hchk, r, hr, v', hv, hm⟩ := fin mes.toList ⟨by simpa using h2, fun i k v hx => by simpa using h3 i k v hx⟩
              have e2 : mes.isEmpty = es.isEmpty := by
                rw [Bool.eq_iff_iff]; simp [List.isEmpty_iff, ← List.length_eq_zero_iff, ← h2]
              rw [← e2] at hchk
              refine ⟨v', ?_, hv⟩
              cases r with
              | none => simp only at hm; simp only [Instr.lookup, run_underlying' hu, getObj, Sem.run, h1, hchk, hr, run_zeroValue hTe, hm, Sem.run_bind, Result.andThen_ok, Sem.run_pure]
              | some r => simp only at hm; simp only [Instr.lookup, run_underlying' hu, getObj, Sem.run, h1, hchk, hr, hm, Sem.run_bind, Result.andThen_ok, Sem.run_pure]
            · cases hes
          | _ => simp at hes
        · cases ha
      · cases ha
    · cases ha
  · cases ha

def aMapUpdateS (P : Program) (E : TypeId → Option TI) (H : AH) (t : TypeId) (m k v : Value) : Option AH :=
  match E t, m with
  | some ⟨.map kt _, _, _, _⟩, .map (some b) => match E kt, H.obj b with
    | some ⟨.struct _, _, _, _⟩, .map es bs ck => if constOk k = true then
        match pureRun P (Instr.checkKey false 10000 kt k), findG P kt k es 0 with
        | some _, some (some (j, _)) => some (H.put b (.map (es.set j (k, v)) bs ck))
        | some _, some none => some (H.put b (.map (es ++ [(k, v)]) (bs ++ [ck]) (ck + 1)))
        | _, _ => none
      else none
    | _, _ => none
  | _, _ => none

theorem aMapUpdateS_ok (hE : TOk E P) (h : HRel P B0 ι H w) {t : TypeId} {m m' k k' v v' : Value} (hm : VRel ι m m') (hk : VRel ι k k') (hv : VRel ι v v') (ha : aMapUpdateS P E H t m k v = some H') :
    ∃ w', (Instr.mapUpdate t m' k' v').run P w = .ok () w' ∧ Step P B0 ι H w ι H' w' := by
  unfold aMapUpdateS at ha
  split at ha
  · rename_i kt et sz by_ zv b hti
    obtain ⟨i, hT⟩ := hE.get hti
    have hu : P.underlying t = some (.map kt et) := hT.u
    split at ha
    · rename_i fs s1 b1 z1 es bs ck htk ho
      obtain ⟨ik, hTk⟩ := hE.get htk
      have huk : P.underlying kt = some (.struct fs) := hTk.u
      split at ha
      · rename_i hck
        have hk' : k' = k := hk.constOk_eq hck
        subst hk'
        cases hm with
        | map hb =>
          rename_i l
          have hO := h.obj b _ hb (by rw [ho]; rfl)
          rw [ho] at hO
          obtain ⟨⟨mes, clock, h1, h2, h3, h4, rfl⟩, _⟩ := hO
          have hER : ERel ι es mes.toList := ⟨by simpa using h2, fun i k v hx => by simpa using h3 i k v hx⟩
          split at ha
          · rename_i u j v0 hp hf
            cases ha
            have hchk := pureRun_ok _ _ hp w
            obtain ⟨_, f2⟩ := findG_ok w es mes.toList 0 _ hER hf
            obtain ⟨v1, g1, g2, _, k0, g4, g5⟩ := f2 j v0 rfl
            have g1' := (run_findKeyS huk mes.toList w).trans g1
            have hkold : ((mes[j]?).map (·.key)).getD k' = k0 := by
              simp only [Nat.sub_zero] at g4
              cases hes : es[j]? with
              | none => rw [hes] at g4; simp at g4
              | some kv =>
                rw [hes] at g4; simp at g4
                obtain ⟨e, he, _, hke, _⟩ := hER.get j kv.1 kv.2 hes
                simp at he
                rw [he]; simp [hke, g4]
            refine ⟨_, ?_, h.mapPut hb ho (mes' := mes.modify j fun e => { e with key := k', val := v' }) (ck' := clock) h1 ⟨by simpa using h2, fun i k v hx => ?_⟩ ?_⟩
            · have hst : (Instr.keyThatStays (((mes[j]?).map (·.key)).getD k') k').run P w = .ok k' w := by
                rw [hkold]; simp [Instr.keyThatStays, g5]
              simp [Instr.mapUpdate, run_underlying' hu, getObj, setObj, Sem.run, h1, hchk, g1', hst]
            · simp only [Array.getElem?_toList, Array.getElem?_modify]
              by_cases e : i = j
              · subst e
                have hlt : i < es.length := by
                  have := (List.getElem?_eq_some_iff.1 hx).1; simpa using this
                rw [List.getElem?_set_self hlt] at hx
                cases hx
                have hlt' : i < mes.size := by omega
                simp [hlt', hck]
                exact hv
              · rw [List.getElem?_set_ne (Ne.symm e)] at hx
                obtain ⟨en, a, b, c, d⟩ := hER.get i k v hx
                simp only [Array.getElem?_toList] at a
                refine ⟨en, ?_, b, c, d⟩
                simp [Ne.symm e, a]
            · rw [← h4]
              apply List.ext_getElem?
              intro i
              simp only [List.getElem?_map, Array.getElem?_toList, Array.getElem?_modify]
              split
              · cases mes[i]? <;> rfl
              · rfl
          · rename_i u hp hf
            cases ha
            have hchk := pureRun_ok _ _ hp w
            obtain ⟨f1, _⟩ := findG_ok w es mes.toList 0 _ hER hf
            have g1' := (run_findKeyS huk mes.toList w).trans (f1 rfl)
            refine ⟨_, ?_, h.mapPut hb ho (mes' := mes.push { key := k', val := v', born := clock }) (ck' := clock + 1) h1 ⟨by simpa using h2, fun i k v hx => ?_⟩ (by simp [h4])⟩
            · simp [Instr.mapUpdate, run_underlying' hu, getObj, setObj, Sem.run, h1, hchk, g1']
            · simp only [Array.getElem?_toList, Array.getElem?_push]
              by_cases e : i < es.length
              · rw [List.getElem?_append_left e] at hx
                obtain ⟨en, a, b, c, d⟩ := hER.get i k v hx
                simp only [Array.getElem?_toList] at a
                exact ⟨en, by rw [if_neg (by omega)]; exact a, b, c, d⟩
              · rw [List.getElem?_append_right (by omega)] at hx
                have hi : i = es.length := by
                  have := (List.getElem?_eq_some_iff.1 hx).1; simp at this; omega
                subst hi
                simp at hx
                obtain ⟨rfl, rfl⟩ := hx
                exact ⟨{ key := k', val := v', born := clock }, by rw [if_pos (by omega)], hck, rfl, hv⟩
          · cases ha
      · cases ha
    · cases ha
  · cases ha

def aDeleteS (P : Program) (E : TypeId → Option TI) (H : AH) (t : TypeId) (m k : Value) : Option AH :=
  match E t, m with
  | some ⟨.map kt _, _, _, _⟩, .map (some b) => match E kt, H.obj b with
    | some ⟨.struct _, _, _, _⟩, .map es bs ck => if constOk k = true then
        match pureRun P (Instr.checkKey es.isEmpty 10000 kt k), findG P kt k es 0 with
        | some _, some (some (j, _)) => some (H.put b (.map (es.eraseIdx j) (bs.eraseIdx j) ck))
        | some _, some none => some (H.put b (.map es bs ck))
        | _, _ => none
      else none
    | _, _ => none
  | _, _ => none

theorem aDeleteS_ok (hE : TOk E P) (h : HRel P B0 ι H w) {t u ty : TypeId} {m m' k k' : Value} (hm : VRel ι m m') (hk : VRel ι k k') (ha : aDeleteS P E H t m k = some H') :
    ∃ w', (Builtin.delete_ #[t, u] ty #[m', k']).run P w = .ok (.tuple #[]) w' ∧ Step P B0 ι H w ι H' w' := by
  unfold aDeleteS at ha
  split at ha
  · rename_i kt et sz by_ zv b hti
    obtain ⟨i, hT⟩ := hE.get hti
    have hu : P.underlying t = some (.map kt et) := hT.u
    split at ha
    · rename_i fs s1 b1 z1 es bs ck htk ho
      obtain ⟨ik, hTk⟩ := hE.get htk
      have huk : P.underlying kt = some (.struct fs) := hTk.u
      split at ha
      · rename_i hck
        have hk' : k' = k := hk.constOk_eq hck
        subst hk'
        cases hm with
        | map hb =>
          rename_i l
          have hO := h.obj b _ hb (by rw [ho]; rfl)
          rw [ho] at hO
          obtain ⟨⟨mes, clock, h1, h2, h3, h4, rfl⟩, _⟩ := hO
          have hER : ERel ι es mes.toList := ⟨by simpa using h2, fun i k v hx => by simpa using h3 i k v hx⟩
          have e2 : mes.isEmpty = es.isEmpty := by
            rw [Bool.eq_iff_iff]; simp [List.isEmpty_iff, ← List.length_eq_zero_iff, ← h2]
          split at ha
          · rename_i uu j v0 hp hf
            cases ha
            have hchk := pureRun_ok _ _ hp w
            rw [← e2] at hchk
            obtain ⟨_, f2⟩ := findG_ok w es mes.toList 0 _ hER hf
            obtain ⟨v1, g1, _⟩ := f2 j v0 rfl
            have g1' := (run_findKeyS huk mes.toList w).trans g1
            have he : (mes.eraseIdxIfInBounds j).toList = mes.toList.eraseIdx j := by simp
            refine ⟨_, ?_, h.mapPut hb ho (mes' := mes.eraseIdxIfInBounds j) (ck' := clock) h1 (he ▸ hER.erase j) ?_⟩
            · simp only [Builtin.delete_, run_underlying' hu, getObj, setObj, Sem.run, h1, hchk, g1', Sem.run_bind, Result.andThen_ok, Sem.run_pure, List.getElem?_toArray, List.getElem?_cons_zero, List.getElem?_cons_succ]
            · rw [he, ← h4]
              apply List.ext_getElem?
              intro i
              simp only [List.getElem?_map, List.getElem?_eraseIdx]
              split <;> rfl
          · rename_i uu hp hf
            cases ha
            have hchk := pureRun_ok _ _ hp w
            rw [← e2] at hchk
            obtain ⟨f1, _⟩ := findG_ok w es mes.toList 0 _ hER hf
            have g1' := (run_findKeyS huk mes.toList w).trans (f1 rfl)
            refine ⟨_, ?_, h.mapPut hb ho (mes' := mes) (ck' := clock) h1 hER h4⟩
            simp only [Builtin.delete_, run_underlying' hu, getObj, setObj, Sem.run, h1, hchk, g1', Sem.run_bind, Result.andThen_ok, Sem.run_pure, List.getElem?_toArray, List.getElem?_cons_zero, List.getElem?_cons_succ]
          · cases ha
      · cases ha
    · cases ha
  · cases ha

/-! ### Type assertions -/
def aAssert (E : TypeId → Option TI) (x : Value) (t : TypeId) (ok : Bool) : Option Value :=
  match E t with
  | some te => match te.desc, x with
    | .interface _, .nilIface => if ok && constOk te.zv then some (.tuple #[te.zv, .bool false]) else none
    | .interface _, _ => none
    | _, .nilIface => if ok && constOk te.zv then some (.tuple #[te.zv, .bool false]) else none
    | _, .iface u v => if u = t then some (if ok then .tuple #[v, .bool true] else v) else if ok && constOk te.zv then some (.tuple #[te.zv, .bool false]) else none
    | _, _ => none
  | none => none

theorem aAssert_ok (hE : TOk E P) {t xt : TypeId} {x x' v : Value} {ok : Bool} (hx : VRel ι x x') (ha : aAssert E x t ok = some v) :
    ∃ v', (Instr.typeAssert x' xt t ok).run P w = .ok v' w ∧ VRel ι v v' := by
  unfold aAssert at ha
  split at ha
  · rename_i te hte
    obtain ⟨i, hT⟩ := hE.get hte
    have hu := hT.u
    have zz : ∀ {b : Bool}, (if ok && constOk te.zv then some (.tuple #[te.zv, .bool false]) else none : Option Value) = some v → ok = true ∧ VRel ι v (.tuple #[te.zv, .bool false]) := fun {b} h => by
      split at h
      · rename_i hc
        rw [Bool.and_eq_true] at hc
        cases h
        exact ⟨hc.1, VRel.tuple' (xs := [_, _]) (ys := [_, _]) (.cons (VRel.of_constOk hc.2) (.cons (.bool false) .nil))⟩
      · cases h
    split at ha
    · rename_i ms hd
      cases hx
      obtain ⟨rfl, hv⟩ := zz (b := true) ha
      exact ⟨_, by simp [Instr.typeAssert, run_underlying' hu, hd, run_zeroValue hT], hv⟩
    · cases ha
    · rename_i hd
      cases hx
      obtain ⟨rfl, hv⟩ := zz (b := true) ha
      refine ⟨_, ?_, hv⟩
      cases hdd : te.desc <;> simp [Instr.typeAssert, run_underlying' hu, hdd, run_zeroValue hT]
    · rename_i u v0 hd
      cases hx with
      | iface hv0 =>
        rename_i v1
        split at ha
        · rename_i hut
          cases ha
          subst hut
          refine ⟨if ok then .tuple #[v1, .bool true] else v1, ?_, ?_⟩
          · cases hdd : te.desc <;> simp [Instr.typeAssert, run_underlying' hu, hdd]
            exact absurd hdd (hd _)
          · cases ok
            · exact hv0
            · exact VRel.tuple' (xs := [_, _]) (ys := [_, _]) (.cons hv0 (.cons (.bool true) .nil))
        · rename_i hut
          obtain ⟨rfl, hv⟩ := zz (b := true) ha
          refine ⟨_, ?_, hv⟩
          cases hdd : te.desc <;> simp [Instr.typeAssert, run_underlying' hu, hdd, run_zeroValue hT, hut]
          exact absurd hdd (hd _)
    · cases ha
  · cases ha

/-! ### Whichever keys -/
def aLookupX (P : Program) (E : TypeId → Option TI) (H : AH) (t : TypeId) (m k : Value) (ok : Bool) : Option Value :=
  if structKeyed E t then aLookupS P E H t m k ok else aLookup E H t m k ok
def aMapUpdateX (P : Program) (E : TypeId → Option TI) (H : AH) (t : TypeId) (m k v : Value) : Option AH :=
  if structKeyed E t then aMapUpdateS P E H t m k v else aMapUpdate E H t m k v
def aDeleteX (P : Program) (E : TypeId → Option TI) (H : AH) (t : TypeId) (m k : Value) : Option AH :=
  if structKeyed E t then aDeleteS P E H t m k else aDelete E H t m k
theorem aLookupX_ok (hE : TOk E P) (h : HRel P B0 ι H w) {t : TypeId} {m m' k k' v : Value} {ok : Bool} (hm : VRel ι m m') (hk : VRel ι k k') (ha : aLookupX P E H t m k ok = some v) :
    ∃ v', (Instr.lookup t m' k' ok).run P w = .ok v' w ∧ VRel ι v v' := by
  unfold aLookupX at ha
  split at ha
  · exact aLookupS_ok hE h hm hk ha
  · exact aLookup_ok hE h hm hk ha
theorem aMapUpdateX_ok (hE : TOk E P) (h : HRel P B0 ι H w) {t : TypeId} {m m' k k' v v' : Value} (hm : VRel ι m m') (hk : VRel ι k k') (hv : VRel ι v v') (ha : aMapUpdateX P E H t m k v = some H') :
    ∃ w', (Instr.mapUpdate t m' k' v').run P w = .ok () w' ∧ Step P B0 ι H w ι H' w' := by
  unfold aMapUpdateX at ha
  split at ha
  · exact aMapUpdateS_ok hE h hm hk hv ha
  · exact aMapUpdate_ok hE h hm hk hv ha
theorem aDeleteX_ok (hE : TOk E P) (h : HRel P B0 ι H w) {t u ty : TypeId} {m m' k k' : Value} (hm : VRel ι m m') (hk : VRel ι k k') (ha : aDeleteX P E H t m k = some H') :
    ∃ w', (Builtin.delete_ #[t, u] ty #[m', k']).run P w = .ok (.tuple #[]) w' ∧ Step P B0 ι H w ι H' w' := by
  unfold aDeleteX at ha
  split at ha
  · exact aDeleteS_ok hE h hm hk ha
  · exact aDelete_ok hE h hm hk ha
end Go.Ev
