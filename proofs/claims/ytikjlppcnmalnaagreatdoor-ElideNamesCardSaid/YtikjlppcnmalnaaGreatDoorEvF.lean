/-
  EV, part F: append at the end of a loose row, in place; append as a whole.
-/
import Derived.Test.YtikjlppcnmalnaaGreatDoorEvE
namespace Go.Ev
open Go.RowKit

variable {P : Program} {B0 : Nat} {ι : Emb} {H H' : AH} {w : World}

theorem HRel.tip (h : HRel P B0 ι H w) {b off : Nat} {l : ILoc} (hb : ι b = some l) {et : TypeId} {cells : List Value} {g v : Nat} (ho : H.obj b = .row et cells .loose g v) (hv : H.ver g = v) (hoff : off ≤ cells.length)
    {new new' : List Value} (hn : LRel ι new new') {cs cs' : Array Value} {t : TypeId} {fr : Nat × Nat} {w' : World} (hc : w.heap[l.blk]? = some (.cells cs t fr)) (hroom : l.base + cells.length + new.length ≤ l.size)
    (hc' : w'.heap[l.blk]? = some (.cells cs' t fr)) (hs : cs'.size = cs.size) (hg : ∀ j, cs'[j]? = if l.base + cells.length ≤ j ∧ j < l.base + cells.length + new'.length then new'[j - (l.base + cells.length)]? else cs[j]?)
    (hheap : ∀ k, k ≠ l.blk → w'.heap[k]? = w.heap[k]?) (hsize : w'.heap.size = w.heap.size) (hos : w'.os = w.os) (htape : w'.tape = w.tape) (hout : w'.output = w.output) :
    Step P B0 ι H w (ι.ext H.next ⟨l.blk, l.base + off, l.size, l.esz⟩) ((H.put b (.row et cells .shared g v)).alloc (.row et (cells.drop off ++ new) .loose g v)) w' := by
  have hab : H.alive (H.obj b) = true := by rw [ho]; simp [AH.alive, hv]
  have hOb := h.obj b l hb hab
  rw [ho] at hOb
  obtain ⟨⟨cs0, t0, fr0, h1, h2, h3, h4⟩, hf, he, hbb, _, _⟩ := hOb
  rw [hc] at h1; injection h1 with h1; injection h1 with e1 e2 e3; subst e1 e2 e3
  have hle : ι.le (ι.ext H.next ⟨l.blk, l.base + off, l.size, l.esz⟩) := Emb.le_ext (h.outside (Nat.le_refl _))
  have hB := hbb (by simp)
  have hbn : b ≠ H.next := fun e => by have := h.dom b l hb; omega
  let H1 := (H.put b (.row et cells .shared g v)).alloc (.row et (cells.drop off ++ new) .loose g v)
  have hal : ∀ o, H1.alive o = H.alive o := fun o => by cases o <;> rfl
  have hobj : ∀ c, c ≠ b → c ≠ H.next → H1.obj c = H.obj c := fun c e e' => by simp [H1, e, e']
  have hobn : H1.obj H.next = .row et (cells.drop off ++ new) .loose g v := by simp [H1]
  have hobb : H1.obj b = .row et cells .shared g v := by simp [H1, hbn]
  have hsame : ∀ c, c ≠ H.next → H1.alive (H1.obj c) = H.alive (H.obj c) := fun c e => by
    rw [hal]
    by_cases e' : c = b
    · subst e'; rw [hobb, ho]; rfl
    · rw [hobj c e' e]
  have key : ∀ c l', ι.ext H.next ⟨l.blk, l.base + off, l.size, l.esz⟩ c = some l' → (c = H.next ∧ l' = ⟨l.blk, l.base + off, l.size, l.esz⟩) ∨ (c ≠ H.next ∧ ι c = some l') := fun c l' hc => by
    unfold Emb.ext at hc
    by_cases e : c = H.next
    · rw [if_pos e] at hc; cases hc; exact .inl ⟨e, rfl⟩
    · rw [if_neg e] at hc; exact .inr ⟨e, hc⟩
  -- another living object in the same block: it shares the row, and ends where the row ended
  have hsh : ∀ c l', c ≠ b → ι c = some l' → H.alive (H.obj c) = true → l'.blk = l.blk → ∃ et' cells' v', H.obj c = .row et' cells' .shared g v' ∧ l'.base + cells'.length ≤ l.base + cells.length := fun c l' e hcl ha eb => by
    have hS := h.sep b c l l' (Ne.symm e) hb hcl hab ha eb.symm
    rw [ho] at hS
    cases hoc : H.obj c with
    | row et' cells' st g' v' =>
      rw [hoc] at hS
      cases st <;> simp [Share] at hS
      obtain ⟨rfl, hS⟩ := hS
      exact ⟨et', cells', v', rfl, hS⟩
    | _ => rw [hoc] at hS; simp [Share] at hS
  -- the old content of a row in that block that ends no later is as it was
  have hold : ∀ (l' : ILoc) et' cells' g' v', l'.blk = l.blk → RowOk P B0 ι w l' et' cells' .shared → l'.base + cells'.length ≤ l.base + cells.length → OOk P B0 (ι.ext H.next ⟨l.blk, l.base + off, l.size, l.esz⟩) w' l' (.row et' cells' .shared g' v') := fun l' et' cells' g' v' eb hR hx => by
    obtain ⟨⟨cs0, t0, fr0, k1, k2, k3, k4⟩, kf, ke, kb, _, _⟩ := hR
    rw [eb, hc] at k1; injection k1 with k1; injection k1 with e1 e2 e3; subst e1 e2 e3
    refine ⟨⟨cs', t, fr, by rw [eb]; exact hc', by omega, fun i x hx' => ?_, fun e => (nomatch e)⟩, kf, ke, kb, fun e => (nomatch e), fun e => (nomatch e)⟩
    obtain ⟨y, hy, hr⟩ := k3 i x hx'
    have : i < cells'.length := (List.getElem?_eq_some_iff.1 hx').1
    exact ⟨y, by rw [hg, if_neg (by omega)]; exact hy, hr.mono hle⟩
  refine ⟨hle, fun c l' hcl => ?_, by simp, ⟨by rw [hsize]; exact h.base, fun c l' hcl => ?_, fun c l' hcl ha => ?_, fun c c' lc lc' hne hcl hcl' ha ha' he' => ?_, fun c l' et' cells' st g' v' hcl hoc => ?_⟩, by omega, fun c _ hn' => hheap c fun e => hn' b l hb hab e.symm, fun c hcB => hheap c (by omega), fun c l' hcl hn' _ => ?_, fun c l' hcl ha => ?_, fun c hc hn' => hobj c (fun e => by subst e; rw [hb] at hn'; cases hn') (by omega), hos, htape, hout⟩
  · rcases key c l' hcl with ⟨rfl, rfl⟩ | ⟨_, k1⟩
    · exact .inr ⟨h.outside (Nat.le_refl _), Nat.le_refl _⟩
    · exact .inl k1
  · rcases key c l' hcl with ⟨rfl, rfl⟩ | ⟨_, k1⟩
    · simp
    · have := h.dom c l' k1; simp; omega
  · rcases key c l' hcl with ⟨rfl, rfl⟩ | ⟨hcn, k1⟩
    · show OOk P B0 _ w' _ (H1.obj H.next)
      rw [hobn]
      refine ⟨⟨cs', t, fr, hc', by simpa using hs.trans h2, fun i x hx => ?_, fun _ => h4 rfl⟩, by simp; omega, he, fun _ => hB, fun e => (nomatch e), fun e => (nomatch e)⟩
      have hlen : (cells.drop off).length = cells.length - off := by simp
      by_cases hi : i < cells.length - off
      · rw [List.getElem?_append_left (by omega), List.getElem?_drop] at hx
        obtain ⟨y, hy, hr⟩ := h3 _ _ hx
        refine ⟨y, ?_, hr.mono hle⟩
        show cs'[l.base + off + i]? = some y
        rw [hg, if_neg (by omega), show l.base + off + i = l.base + (off + i) by omega]
        exact hy
      · rw [List.getElem?_append_right (by omega), hlen] at hx
        obtain ⟨y, hy, hr⟩ := hn.get hx
        have hi2 : i - (cells.length - off) < new'.length := (List.getElem?_eq_some_iff.1 hy).1
        refine ⟨y, ?_, hr.mono hle⟩
        show cs'[l.base + off + i]? = some y
        rw [hg, if_pos (by omega), show l.base + off + i - (l.base + cells.length) = i - (cells.length - off) by omega]
        exact hy
    · have ha' := hsame c hcn
      rw [show ((H.put b (.row et cells .shared g v)).alloc (.row et (cells.drop off ++ new) .loose g v)).alive (((H.put b (.row et cells .shared g v)).alloc (.row et (cells.drop off ++ new) .loose g v)).obj c) = H.alive (H.obj c) from ha'] at ha
      show OOk P B0 _ w' l' (H1.obj c)
      by_cases e : c = b
      · subst e
        rw [hb] at k1; cases k1
        rw [hobb]
        exact hold l et cells g v rfl ⟨⟨cs, t, fr, hc, h2, h3, fun e => (nomatch e)⟩, hf, he, fun _ => hB, fun e => (nomatch e), fun e => (nomatch e)⟩ (Nat.le_refl _)
      · rw [hobj c e hcn]
        have hO := h.obj c l' k1 ha
        by_cases eb : l'.blk = l.blk
        · obtain ⟨et', cells', v', hoc, hx⟩ := hsh c l' e k1 ha eb
          rw [hoc] at hO ⊢
          exact hold l' et' cells' g v' eb hO hx
        · exact hO.carry hle (hheap _ eb)
  · have hA : ∀ c, c ≠ H.next → ((H.put b (.row et cells .shared g v)).alloc (.row et (cells.drop off ++ new) .loose g v)).alive (((H.put b (.row et cells .shared g v)).alloc (.row et (cells.drop off ++ new) .loose g v)).obj c) = H.alive (H.obj c) := hsame
    have hob : ∀ c, ((H.put b (.row et cells .shared g v)).alloc (.row et (cells.drop off ++ new) .loose g v)).obj c = H1.obj c := fun _ => rfl
    have side : ∀ c lc, c ≠ H.next → ι c = some lc → H.alive (H.obj c) = true → lc.blk = l.blk → ∃ et' cells' v', H1.obj c = .row et' cells' .shared g v' ∧ lc.base + cells'.length ≤ l.base + cells.length := fun c lc e1 e2 e3 e4 => by
      by_cases e : c = b
      · subst e; rw [hb] at e2; cases e2; exact ⟨et, cells, v, hobb, Nat.le_refl _⟩
      · rw [hobj c e e1]; exact hsh c lc e e2 e3 e4
    rw [hob, hob]
    rcases key c lc hcl with ⟨rfl, rfl⟩ | ⟨k0, k1⟩
    · rcases key c' lc' hcl' with ⟨rfl, rfl⟩ | ⟨k0', k1'⟩
      · exact absurd rfl hne
      · rw [hA c' k0'] at ha'
        obtain ⟨et', cells', v', q1, q2⟩ := side c' lc' k0' k1' ha' he'.symm
        rw [hobn, q1]
        refine ⟨rfl, ?_⟩
        simp; omega
    · rw [hA c k0] at ha
      rcases key c' lc' hcl' with ⟨rfl, rfl⟩ | ⟨k0', k1'⟩
      · obtain ⟨et', cells', v', q1, q2⟩ := side c lc k0 k1 ha he'
        rw [hobn, q1]
        refine ⟨rfl, ?_⟩
        simp; omega
      · rw [hA c' k0'] at ha'
        by_cases e : c = b
        · subst e
          rw [hb] at k1; cases k1
          obtain ⟨et', cells', v', q1, q2⟩ := side c' lc' k0' k1' ha' he'.symm
          rw [hobb, q1]; rfl
        · by_cases e' : c' = b
          · subst e'
            rw [hb] at k1'; cases k1'
            obtain ⟨et', cells', v', q1, q2⟩ := side c lc k0 k1 ha he'
            rw [hobb, q1]; rfl
          · rw [hobj c e k0, hobj c' e' k0']
            exact h.sep c c' lc lc' hne k1 k1' ha ha' he'
  · have hob : ((H.put b (.row et cells .shared g v)).alloc (.row et (cells.drop off ++ new) .loose g v)).obj c = H1.obj c := rfl
    rw [hob] at hoc
    have hgb := h.grp b l et cells .loose g v hb ho
    rcases key c l' hcl with ⟨rfl, rfl⟩ | ⟨k0, k1⟩
    · rw [hobn] at hoc; cases hoc; simp; omega
    · by_cases e : c = b
      · subst e; rw [hobb] at hoc; cases hoc; simp; omega
      · rw [hobj c e k0] at hoc
        have := h.grp c l' et' cells' st g' v' k1 hoc
        simp; omega
  · rcases key c l' hcl with ⟨rfl, rfl⟩ | ⟨k0, k1⟩
    · exact .inr ⟨b, l, hb, hab, rfl⟩
    · rw [hn'] at k1; cases k1
  · have hcn : c ≠ H.next := fun e => by have := h.dom c l' hcl; omega
    rw [show ((H.put b (.row et cells .shared g v)).alloc (.row et (cells.drop off ++ new) .loose g v)).alive (((H.put b (.row et cells .shared g v)).alloc (.row et (cells.drop off ++ new) .loose g v)).obj c) = H.alive (H.obj c) from hsame c hcn] at ha
    exact ha
end Go.Ev
