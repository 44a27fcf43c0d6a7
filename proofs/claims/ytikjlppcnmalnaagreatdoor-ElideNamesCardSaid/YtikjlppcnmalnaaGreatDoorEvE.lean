/-
  EV, part E: append, as the abstract run has it, is the model's.
-/
import Derived.Test.YtikjlppcnmalnaaGreatDoorEvD
namespace Go.Ev
open Go.RowKit

variable {P : Program} {B0 : Nat} {ι : Emb} {H H' : AH} {w : World}

theorem run_firstCells_ok (h : HRel P B0 ι H w) {b off m sz : Nat} {l : ILoc} (hb : ι b = some l) {vs : List Value} (hr : H.rd b off (m * sz) = some vs) (n c : Nat) :
    ∃ vs', LRel ι vs vs' ∧ ∀ w2 : World, w2.heap = w.heap → (Builtin.firstCells sz m (.slice (some ⟨l.blk, l.base + off, none⟩) n c)).run P w2 = .ok vs'.toArray w2 := by
  obtain ⟨hl, vs', hv, hc⟩ := h.rd hb hr
  refine ⟨vs', hv, fun w2 h2 => ?_⟩
  have := run_loadCellsFrom (P := P) (w := w2) (c := l.blk) (o := l.base + off) (m * sz) 0 #[] vs' (by rw [← hv.length, hl]) (fun j y hy => by
    rw [Nat.zero_add, ← hc j y hy]; simp [World.cell?, h2])
  simpa [Builtin.firstCells, Go.loadCells] using this

/-- Putting an old row down as shared (or dead) behind an append that moved on. -/
theorem HRel.retire (h : HRel P B0 ι H w) {b : Nat} {l : ILoc} (hb : ι b = some l) {et : TypeId} {cells : List Value} {g v : Nat} (ho : H.obj b = .row et cells .loose g v) : HRel P B0 ι (H.put b (.row et cells .shared g v)) w := by
  have hal : ∀ o, (H.put b (.row et cells .shared g v)).alive o = H.alive o := fun o => by cases o <;> rfl
  have hsame : ∀ c, (H.put b (.row et cells .shared g v)).alive ((H.put b (.row et cells .shared g v)).obj c) = H.alive (H.obj c) := fun c => by
    rw [hal, AH.obj_put]
    by_cases e : c = b
    · subst e; rw [if_pos rfl, ho]; rfl
    · rw [if_neg e]
  refine ⟨h.base, fun c l' hc => by simpa using h.dom c l' hc, fun c l' hc ha => ?_, fun c c' lc lc' hne hc hc' ha ha' he => ?_, fun c l' et' cells' st g' v' hc hoc => ?_⟩
  · rw [hsame] at ha
    have hO := h.obj c l' hc ha
    rw [AH.obj_put]
    by_cases e : c = b
    · subst e
      rw [if_pos rfl]
      rw [ho] at hO
      obtain ⟨⟨cs, t, fr, h1, h2, h3, h4⟩, hf, he, hbb, _, _⟩ := hO
      exact ⟨⟨cs, t, fr, h1, h2, h3, fun e => (nomatch e)⟩, hf, he, fun _ => hbb (by simp), fun e => (nomatch e), fun e => (nomatch e)⟩
    · rw [if_neg e]; exact hO
  · rw [hsame] at ha ha'
    have hS := h.sep c c' lc lc' hne hc hc' ha ha' he
    rw [AH.obj_put, AH.obj_put]
    by_cases e : c = b
    · subst e
      rw [if_pos rfl, if_neg (Ne.symm hne)]
      rw [ho] at hS
      cases hoc : H.obj c' with
      | row et' cells' st g' v' => rw [hoc] at hS; cases st <;> simp [Share] at hS ⊢; exact hS.1
      | _ => rw [hoc] at hS; simp [Share] at hS
    · rw [if_neg e]
      by_cases e' : c' = b
      · subst e'
        rw [if_pos rfl]
        rw [ho] at hS
        cases hoc : H.obj c with
        | row et' cells' st g' v' => rw [hoc] at hS; cases st <;> simp [Share] at hS ⊢; exact hS.1
        | _ => rw [hoc] at hS; simp [Share] at hS
      · rw [if_neg e']; exact hS
  · rw [AH.obj_put] at hoc
    by_cases e : c = b
    · subst e
      rw [if_pos rfl] at hoc
      cases hoc
      simpa using h.grp c l et cells .loose g v hb ho
    · rw [if_neg e] at hoc
      simpa using h.grp c l' et' cells' st g' v' hc hoc

/-- A loose row that dies, and all that share it. -/
theorem HRel.kill (h : HRel P B0 ι H w) {b : Nat} {l : ILoc} (hb : ι b = some l) {et : TypeId} {cells : List Value} {g v : Nat} (ho : H.obj b = .row et cells .loose g v) (hv : H.ver g = v) :
    HRel P B0 ι ((H.put b .dead).bump g (v + 1)) w ∧ (∀ c l', ι c = some l' → ((H.put b .dead).bump g (v + 1)).alive (((H.put b .dead).bump g (v + 1)).obj c) = true → c ≠ b ∧ H.alive (H.obj c) = true ∧ l'.blk ≠ l.blk) := by
  have hab : H.alive (H.obj b) = true := by rw [ho]; simp [AH.alive, hv]
  have key : ∀ c l', ι c = some l' → ((H.put b .dead).bump g (v + 1)).alive (((H.put b .dead).bump g (v + 1)).obj c) = true → c ≠ b ∧ H.alive (H.obj c) = true ∧ l'.blk ≠ l.blk := fun c l' hc ha => by
    rw [AH.obj_bump, AH.obj_put] at ha
    by_cases e : c = b
    · rw [if_pos e] at ha; simp [AH.alive] at ha
    · rw [if_neg e] at ha
      refine ⟨e, ?_⟩
      cases hoc : H.obj c with
      | row et' cells' st g' v' =>
        rw [hoc] at ha
        have hg := h.grp c l' et' cells' st g' v' hc hoc
        have hal : H.alive (.row et' cells' st g' v') = true ∧ (st = .shared ∨ st = .loose → g' ≠ g) := by
          cases st <;> simp [AH.alive] at ha ⊢
          · by_cases e' : g' = g
            · rw [if_pos e'] at ha; subst e'; omega
            · rw [if_neg e'] at ha; exact ⟨ha, e'⟩
          · by_cases e' : g' = g
            · rw [if_pos e'] at ha; subst e'; omega
            · rw [if_neg e'] at ha; exact ⟨ha, e'⟩
        refine ⟨hal.1, fun e' => ?_⟩
        have := h.sep b c l l' (Ne.symm e) hb hc hab (by rw [hoc]; exact hal.1) e'.symm
        rw [ho, hoc] at this
        cases st <;> simp [Share] at this
        exact hal.2 (.inl rfl) this.1.symm
      | map es bs ck =>
        refine ⟨by rfl, fun e' => ?_⟩
        have := h.sep b c l l' (Ne.symm e) hb hc hab (by rw [hoc]; rfl) e'.symm
        rw [ho, hoc] at this; simp [Share] at this
      | strIter s p =>
        refine ⟨by rfl, fun e' => ?_⟩
        have := h.sep b c l l' (Ne.symm e) hb hc hab (by rw [hoc]; rfl) e'.symm
        rw [ho, hoc] at this; simp [Share] at this
      | mapIter m si se la =>
        refine ⟨by rfl, fun e' => ?_⟩
        have := h.sep b c l l' (Ne.symm e) hb hc hab (by rw [hoc]; rfl) e'.symm
        rw [ho, hoc] at this; simp [Share] at this
      | loop =>
        refine ⟨by rfl, fun e' => ?_⟩
        have := h.sep b c l l' (Ne.symm e) hb hc hab (by rw [hoc]; rfl) e'.symm
        rw [ho, hoc] at this; simp [Share] at this
      | dead => rw [hoc] at ha; simp [AH.alive] at ha
  have hobj : ∀ c, c ≠ b → ((H.put b .dead).bump g (v + 1)).obj c = H.obj c := fun c e => by simp [e]
  refine ⟨⟨h.base, fun c l' hc => by simpa using h.dom c l' hc, fun c l' hc ha => ?_, fun c c' lc lc' hne hc hc' ha ha' he => ?_, fun c l' et' cells' st g' v' hc hoc => ?_⟩, key⟩
  · obtain ⟨e, h1, _⟩ := key c l' hc ha
    rw [hobj c e]
    exact h.obj c l' hc h1
  · obtain ⟨e, h1, _⟩ := key c lc hc ha
    obtain ⟨e', h1', _⟩ := key c' lc' hc' ha'
    rw [hobj c e, hobj c' e']
    exact h.sep c c' lc lc' hne hc hc' h1 h1' he
  · by_cases e : c = b
    · subst e; simp at hoc
    · rw [hobj c e] at hoc
      have := h.grp c l' et' cells' st g' v' hc hoc
      refine ⟨by simpa using this.1, ?_⟩
      simp only [AH.ver_bump, AH.ver_put]
      split
      · rename_i e'; subst e'; omega
      · exact this.2

/-- From a heap that stands for the world with less said of it: a step that goes on from there. -/
theorem Step.weaken {ι' : Emb} {H1 H2 : AH} {w' : World} (hn : H1.next = H.next) (hal : ∀ c l, ι c = some l → H1.alive (H1.obj c) = true → H.alive (H.obj c) = true) (hob : ∀ c, ι c = none → H1.obj c = H.obj c) (k : Step P B0 ι H1 w ι' H2 w') : Step P B0 ι H w ι' H2 w' where
  le := k.le
  new b l hb := by rw [← hn]; exact k.new b l hb
  next := by rw [← hn]; exact k.next
  rel := k.rel
  size := k.size
  frame c hc hf := k.frame c hc fun b l hb ha => hf b l hb (hal b l hb ha)
  low := k.low
  fresh b l hb hb' ha := by
    rcases k.fresh b l hb hb' ha with h1 | ⟨b0, l0, h1, h2, h3⟩
    · exact .inl h1
    · exact .inr ⟨b0, l0, h1, hal _ _ h1 h2, h3⟩
  old b l hb ha := hal b l hb (k.old b l hb ha)
  loc b hb hn' := (k.loc b (by omega) hn').trans (hob b hn')
  os := k.os
  tape := k.tape
  output := k.output
end Go.Ev
