/-
  EV, part C: writing a row, making one, and what these steps do.
-/
import Derived.Test.YtikjlppcnmalnaaGreatDoorEvB
namespace Go.Ev
open Go.RowKit

theorem VRel.oneCell {ι : Emb} {v v' : Value} (h : VRel ι v v') : v'.oneCell' = v.oneCell' := by cases h <;> rfl

def splice (cells : List Value) (off : Nat) (vs : List Value) : List Value := cells.take off ++ vs ++ cells.drop (off + vs.length)
theorem splice_length {cells vs : List Value} {off : Nat} (h : off + vs.length ≤ cells.length) : (splice cells off vs).length = cells.length := by
  simp [splice]; omega
theorem splice_get {cells vs : List Value} {off : Nat} (h : off + vs.length ≤ cells.length) (i : Nat) :
    (splice cells off vs)[i]? = if off ≤ i ∧ i < off + vs.length then vs[i - off]? else cells[i]? := by
  unfold splice
  rw [List.append_assoc]
  by_cases h1 : i < off
  · rw [List.getElem?_append_left (by simp; omega), if_neg (by omega), List.getElem?_take, if_pos h1]
  · rw [List.getElem?_append_right (by simp; omega)]
    simp only [List.length_take, Nat.min_eq_left (show off ≤ cells.length by omega)]
    by_cases h2 : i < off + vs.length
    · rw [List.getElem?_append_left (by omega), if_pos (by omega)]
    · rw [List.getElem?_append_right (by omega), if_neg (by omega), List.getElem?_drop]
      congr 1; omega

/-- What writing cells one behind the other does to the model's heap. -/
theorem run_storeCells {P : Program} {c : Nat} {t : TypeId} {fr : Nat × Nat} : ∀ (vs : List Value) (o i : Nat) (w : World) (cs : Array Value), w.heap[c]? = some (.cells cs t fr) →
    o + i + vs.length ≤ cs.size → (∀ j, j < cs.size → ¬ (fr.1 ≤ j ∧ j < fr.2)) → (∀ v, v ∈ vs → v.oneCell' = true) →
    ∃ w' cs', (storeCells ⟨c, o, none⟩ vs i).run P w = .ok () w' ∧ w'.heap[c]? = some (.cells cs' t fr) ∧ cs'.size = cs.size ∧
      (∀ j, cs'[j]? = if o + i ≤ j ∧ j < o + i + vs.length then vs[j - (o + i)]? else cs[j]?) ∧
      (∀ k, k ≠ c → w'.heap[k]? = w.heap[k]?) ∧ w'.heap.size = w.heap.size ∧ w'.os = w.os ∧ w'.tape = w.tape ∧ w'.output = w.output
  | [], o, i, w, cs, hc, _, _, _ => ⟨w, cs, by simp [storeCells], hc, rfl, fun j => by rw [if_neg (by simp)], fun _ _ => rfl, rfl, rfl, rfl, rfl⟩
  | v :: vs, o, i, w, cs, hc, hs, hf, h1 => by
    have hlt : o + i < cs.size := by simp at hs; omega
    have hcell : w.cell? ⟨c, o + i, none⟩ = some cs[o + i] := by simp [World.cell?, hc, hlt]
    have hfr : w.frozen? ⟨c, o + i, none⟩ = false := by
      have := hf (o + i) hlt
      simp only [World.frozen?, hc]
      cases hx : (decide (fr.1 ≤ o + i) && decide (o + i < fr.2)) with
      | false => rfl
      | true => simp at hx; exact absurd hx this
    have hc' : (w.setCell ⟨c, o + i, none⟩ v).heap[c]? = some (.cells (cs.setIfInBounds (o + i) v) t fr) := by
      simp [World.setCell, Array.getElem?_modify, hc]
    obtain ⟨w', cs', hr, h2, h3, h4, h5, h6, h7, h8, h9⟩ := run_storeCells (P := P) vs o (i + 1) (w.setCell ⟨c, o + i, none⟩ v) _ hc' (by simp at hs ⊢; omega) (by simpa using hf) (fun u hu => h1 u (by simp [hu]))
    refine ⟨w', cs', ?_, h2, by simpa using h3, fun j => ?_, fun k hk => (h5 k hk).trans (Below.heap_setCell _ _ _ k hk), by simpa using h6, h7, h8, h9⟩
    · simp only [storeCells, Sem.run_bind, Addr.add_plain]
      have : (store ⟨c, o + i, none⟩ v).run P w = .ok () (w.setCell ⟨c, o + i, none⟩ v) := by
        rw [run_store P w _ v .plain (h1 v (by simp))]
        simp [hcell, hfr]
      rw [this]
      exact hr
    · rw [h4 j]
      simp only [List.length_cons]
      by_cases e : j = o + i
      · subst e
        rw [if_neg (by omega), if_pos (by omega)]
        simp [hlt]
      · by_cases hj : o + (i + 1) ≤ j ∧ j < o + (i + 1) + vs.length
        · rw [if_pos hj, if_pos (by omega)]
          rw [show j - (o + i) = (j - (o + (i + 1))) + 1 by omega]
          simp
        · rw [if_neg hj, if_neg (by omega)]
          simp [Ne.symm e]

/-- An object that is written, in a block that no other living object holds any more. -/
theorem HRel.write {P : Program} {B0 : Nat} {ι : Emb} {H H' : AH} {w w' : World} (h : HRel P B0 ι H w) {b : Nat} {l : ILoc} (hb : ι b = some l) (ha : H.alive (H.obj b) = true) (hB : B0 ≤ l.blk)
    (hobj : ∀ c, c ≠ b → H'.obj c = H.obj c) (hnext : H'.next = H.next)
    (hal : ∀ c l', c ≠ b → ι c = some l' → H'.alive (H.obj c) = true → H.alive (H.obj c) = true ∧ l'.blk ≠ l.blk)
    (hok : OOk P B0 ι w' l (H'.obj b)) (hgrp : ∀ c l' et cells st g v, ι c = some l' → H'.obj c = .row et cells st g v → g < H'.next ∧ v ≤ H'.ver g)
    (hheap : ∀ k, k ≠ l.blk → w'.heap[k]? = w.heap[k]?) (hsize : w'.heap.size = w.heap.size) (hos : w'.os = w.os) (htape : w'.tape = w.tape) (hout : w'.output = w.output) :
    Step P B0 ι H w ι H' w' where
  le := Emb.le_refl _
  new _ _ h := .inl h
  next := by rw [hnext]; exact Nat.le_refl _
  rel :=
    { base := by rw [hsize]; exact h.base
      dom := fun c l' hc => by rw [hnext]; exact h.dom c l' hc
      obj := fun c l' hc hac => by
        by_cases e : c = b
        · subst e; rw [hb] at hc; cases hc; exact hok
        · rw [hobj c e] at hac ⊢
          obtain ⟨h1, h2⟩ := hal c l' e hc hac
          exact (h.obj c l' hc h1).carry (Emb.le_refl _) (hheap _ h2)
      sep := fun c c' lc lc' hne hc hc' hac hac' he => by
        by_cases e : c = b
        · subst e
          rw [hb] at hc; cases hc
          rw [hobj c' (Ne.symm hne)] at hac'
          exact absurd he.symm (hal c' lc' (Ne.symm hne) hc' hac').2
        · by_cases e' : c' = b
          · subst e'
            rw [hb] at hc'; cases hc'
            rw [hobj c e] at hac
            exact absurd he (hal c lc e hc hac).2
          · rw [hobj c e] at hac ⊢
            rw [hobj c' e'] at hac' ⊢
            exact h.sep c c' lc lc' hne hc hc' (hal c lc e hc hac).1 (hal c' lc' e' hc' hac').1 he
      grp := hgrp }
  size := by rw [hsize]; exact Nat.le_refl _
  frame c _ hn := hheap c (fun e => hn b l hb ha e.symm)
  low c hc := hheap c (by omega)
  fresh c l' hc hn _ := by rw [hn] at hc; cases hc
  old c l' hc hac := by
    by_cases e : c = b
    · subst e; exact ha
    · rw [hobj c e] at hac; exact (hal c l' e hc hac).1
  loc c _ hn := hobj c fun e => by subst e; rw [hb] at hn; cases hn
  os := hos
  tape := htape
  output := hout

/-- Writing values into a row. -/
def AH.wr (H : AH) (b off : Nat) (vs : List Value) : Option AH :=
  if vs.isEmpty then some H else
  match H.obj b with
  | .row et cells .exact g v => if off + vs.length ≤ cells.length then some (H.put b (.row et (splice cells off vs) .exact g v)) else none
  | .row et cells .loose g v => if H.ver g == v && decide (off + vs.length ≤ cells.length) then some ((H.put b (.row et (splice cells off vs) .loose g (v + 1))).bump g (v + 1)) else none
  | _ => none

theorem RowOk.spliced {P : Program} {B0 : Nat} {ι : Emb} {w w' : World} {l : ILoc} {et : TypeId} {cells : List Value} {st : RowSt} (h : RowOk P B0 ι w l et cells st) {off : Nat} {vs vs' : List Value}
    (hv : LRel ι vs vs') (hf : off + vs.length ≤ cells.length) {cs cs' : Array Value} {t : TypeId} {fr : Nat × Nat} (hc : w.heap[l.blk]? = some (.cells cs t fr)) (hc' : w'.heap[l.blk]? = some (.cells cs' t fr)) (hs : cs'.size = cs.size)
    (hg : ∀ j, cs'[j]? = if l.base + off ≤ j ∧ j < l.base + off + vs'.length then vs'[j - (l.base + off)]? else cs[j]?) : RowOk P B0 ι w' l et (splice cells off vs) st := by
  obtain ⟨⟨cs0, t0, fr0, h1, h2, h3, h4⟩, hfit, he, hb, hr, hx⟩ := h
  rw [hc] at h1; injection h1 with h1; injection h1 with e1 e2 e3; subst e1 e2 e3
  refine ⟨⟨cs', t, fr, hc', by omega, fun i x hx => ?_, h4⟩, by rw [splice_length hf]; exact hfit, he, hb, hr, fun e => by rw [splice_length hf]; exact hx e⟩
  rw [splice_get hf] at hx
  rw [hg, ← hv.length]
  by_cases hi : off ≤ i ∧ i < off + vs.length
  · rw [if_pos hi] at hx
    obtain ⟨y, hy, hr⟩ := hv.get hx
    exact ⟨y, by rw [if_pos (by omega), show l.base + i - (l.base + off) = i - off by omega]; exact hy, hr⟩
  · rw [if_neg hi] at hx
    rw [if_neg (by omega)]
    exact h3 i x hx

theorem HRel.storeCells {P : Program} {B0 : Nat} {ι : Emb} {H H' : AH} {w : World} (h : HRel P B0 ι H w) {b off : Nat} {l : ILoc} (hb : ι b = some l) {vs vs' : List Value} (hv : LRel ι vs vs') (h1 : ∀ v, v ∈ vs → v.oneCell' = true)
    (hw : H.wr b off vs = some H') : ∃ w', (Go.storeCells ⟨l.blk, l.base + off, none⟩ vs').run P w = .ok () w' ∧ Step P B0 ι H w ι H' w' := by
  have h1' : ∀ v', v' ∈ vs' → v'.oneCell' = true := fun v' hv' => by
    obtain ⟨i, hi, e⟩ := List.mem_iff_getElem.1 hv'
    have hi2 : i < vs.length := by rw [hv.length]; exact hi
    obtain ⟨y, hy, hr⟩ := hv.get (i := i) (x := vs[i]) (by simp [hi2])
    have : y = v' := by simp [hi] at hy; rw [← hy, e]
    subst this
    rw [hr.oneCell]; exact h1 _ (List.getElem_mem hi2)
  unfold AH.wr at hw
  by_cases hemp : vs.isEmpty = true
  · rw [if_pos hemp] at hw
    cases hw
    have hnil : vs = [] := by simpa using hemp
    subst hnil
    cases hv
    exact ⟨w, by simp [Go.storeCells], Step.refl h⟩
  · rw [if_neg hemp] at hw
    split at hw
    · rename_i et cells g v ho
      split at hw
      · rename_i hf
        cases hw
        have ha : H.alive (H.obj b) = true := by rw [ho]; rfl
        have hO := h.obj b l hb ha
        rw [ho] at hO
        have hO' : RowOk P B0 ι w l et cells .exact := hO
        obtain ⟨cs, t, fr, hc, hs, h3, h4⟩ := hO'.ex
        have hfit := hO'.fits
        obtain ⟨w', cs', hr, k1, k2, k3, k4, k5, k6, k7, k8⟩ := run_storeCells (P := P) (t := t) (fr := fr) vs' (l.base + off) 0 w cs hc (by rw [← hv.length, hs]; omega) (by rw [hs]; exact h4 rfl) h1'
        refine ⟨w', hr, h.write hb ha (hO'.own (by simp)) (fun c e => by simp [e]) (by simp) (fun c l' e hcl hac => ?_) ?_ (fun c l' et' cells' st g' v' hcl he => ?_) k4 k5 k6 k7 k8⟩
        · have hac' : H.alive (H.obj c) = true := by
            revert hac; cases H.obj c with
            | row => simp [AH.alive]
            | _ => simp [AH.alive]
          refine ⟨hac', fun e' => ?_⟩
          have := h.sep b c l l' (Ne.symm e) hb hcl ha hac' e'.symm
          rw [ho] at this
          revert this; cases H.obj c with
          | row => simp [Share]
          | _ => simp [Share]
        · simp only [AH.obj_put, if_true]
          exact hO'.spliced hv hf hc k1 k2 (by simpa using k3)
        · by_cases e : c = b
          · subst e
            simp at he
            obtain ⟨_, _, _, rfl, rfl⟩ := he
            simpa using h.grp c l et cells .exact g v hb ho
          · simp [e] at he
            simpa using h.grp c l' et' cells' st g' v' hcl he
      · cases hw
    · rename_i et cells g v ho
      split at hw
      · rename_i hf
        rw [Bool.and_eq_true, decide_eq_true_eq, beq_iff_eq] at hf
        cases hw
        have ha : H.alive (H.obj b) = true := by rw [ho]; simp [AH.alive, hf.1]
        have hO := h.obj b l hb ha
        rw [ho] at hO
        have hO' : RowOk P B0 ι w l et cells .loose := hO
        obtain ⟨cs, t, fr, hc, hs, h3, h4⟩ := hO'.ex
        have hfit := hO'.fits
        obtain ⟨w', cs', hr, k1, k2, k3, k4, k5, k6, k7, k8⟩ := run_storeCells (P := P) (t := t) (fr := fr) vs' (l.base + off) 0 w cs hc (by rw [← hv.length, hs]; omega) (by rw [hs]; exact h4 rfl) h1'
        have hver : ∀ c l' et' cells' st g' v', ι c = some l' → H.obj c = .row et' cells' st g' v' → g' < H.next ∧ v' ≤ (if g' = g then v + 1 else H.ver g') := fun c l' et' cells' st g' v' hcl he => by
          have := h.grp c l' et' cells' st g' v' hcl he
          refine ⟨this.1, ?_⟩
          split
          · rename_i e; subst e; omega
          · exact this.2
        refine ⟨w', hr, h.write hb ha (hO'.own (by simp)) (fun c e => by simp [e]) (by simp) (fun c l' e hcl hac => ?_) ?_ (fun c l' et' cells' st g' v' hcl he => ?_) k4 k5 k6 k7 k8⟩
        · cases hoc : H.obj c with
          | row et' cells' st g' v' =>
            rw [hoc] at hac
            have hg := h.grp c l' et' cells' st g' v' hcl hoc
            have hal : H.alive (H.obj c) = true ∧ (st = .shared ∨ st = .loose → g' ≠ g) := by
              rw [hoc]
              cases st <;> simp [AH.alive] at hac ⊢
              · by_cases e' : g' = g
                · rw [if_pos e'] at hac; subst e'; omega
                · rw [if_neg e'] at hac; exact ⟨hac, e'⟩
              · by_cases e' : g' = g
                · rw [if_pos e'] at hac; subst e'; omega
                · rw [if_neg e'] at hac; exact ⟨hac, e'⟩
            rw [← hoc]
            refine ⟨hal.1, fun e' => ?_⟩
            have := h.sep b c l l' (Ne.symm e) hb hcl ha hal.1 e'.symm
            rw [ho, hoc] at this
            cases st <;> simp [Share] at this
            exact hal.2 (.inl rfl) this.1.symm
          | map es bs ck =>
            refine ⟨by rfl, fun e' => ?_⟩
            have := h.sep b c l l' (Ne.symm e) hb hcl ha (by rw [hoc]; rfl) e'.symm
            rw [ho, hoc] at this; simp [Share] at this
          | strIter s p =>
            refine ⟨by rfl, fun e' => ?_⟩
            have := h.sep b c l l' (Ne.symm e) hb hcl ha (by rw [hoc]; rfl) e'.symm
            rw [ho, hoc] at this; simp [Share] at this
          | mapIter m si se la =>
            refine ⟨by rfl, fun e' => ?_⟩
            have := h.sep b c l l' (Ne.symm e) hb hcl ha (by rw [hoc]; rfl) e'.symm
            rw [ho, hoc] at this; simp [Share] at this
          | loop =>
            refine ⟨by rfl, fun e' => ?_⟩
            have := h.sep b c l l' (Ne.symm e) hb hcl ha (by rw [hoc]; rfl) e'.symm
            rw [ho, hoc] at this; simp [Share] at this
          | dead => rw [hoc] at hac; simp [AH.alive] at hac
        · simp only [AH.obj_bump, AH.obj_put, if_true]
          exact hO'.spliced hv hf.2 hc k1 k2 (by simpa using k3)
        · by_cases e : c = b
          · subst e
            simp at he
            obtain ⟨_, _, _, rfl, rfl⟩ := he
            have := h.grp c l et cells .loose g v hb ho
            simp; exact this.1
          · simp [e] at he
            simpa using hver c l' et' cells' st g' v' hcl he
      · cases hw
    · cases hw
end Go.Ev
