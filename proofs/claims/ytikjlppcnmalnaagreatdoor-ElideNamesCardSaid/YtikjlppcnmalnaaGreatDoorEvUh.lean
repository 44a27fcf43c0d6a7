/-
  EV, universal use, part h: closed calls that the kernel has run, known wherever the package-level variables are as laid.
-/
import Derived.Test.YtikjlppcnmalnaaGreatDoorEvUf
namespace Go.Ev
open Go.RowKit

/-- Rows that are only read, of values that lead nowhere. -/
def rowOk : AObj → Bool
  | .row _ cells .ro 0 0 => cells.all plain
  | .dead => true
  | _ => false

theorem plain_soundS {P : Program} {rows : List AObj} (hrows : rows.all rowOk = true) {f : FuncId} {vs : List Value} {v : Value} {H' : AH} (hvs : vs.all constOk = true) (hv : constOk v = true)
    (h1 : Sound (envOf P rows.length) (.fn f) vs (startH rows) v H') {H : AH} (hk : Kro (startH rows) H) : Sound (envOf P rows.length) (.fn f) vs H v H := by
  intro B0 ι w vs' hG hR hL
  obtain rfl := hL.constOk_eq hvs
  have hrow : ∀ b o, rows[b]? = some o → rowOk o = true := fun b o ho => List.all_eq_true.1 hrows o (List.mem_of_getElem? ho)
  let ι0 : Emb := fun b => if b < rows.length then ι b else none
  have hι0 : ∀ b l, ι0 b = some l → b < rows.length ∧ ι b = some l := fun b l hb => by
    simp only [ι0] at hb
    split at hb
    · rename_i hlt; exact ⟨hlt, hb⟩
    · cases hb
  have hobj : ∀ b, (startH rows).obj b = (rows[b]?).getD .dead := startH_obj rows
  have hRo : ∀ b, b < rows.length → (∃ et cells, (startH rows).obj b = .row et cells .ro 0 0 ∧ (∀ x ∈ cells, plain x = true)) ∨ (startH rows).obj b = .dead := fun b hb => by
    rw [hobj, show rows[b]? = some rows[b] by simp [hb]]
    have := hrow b rows[b] (by simp [hb])
    generalize rows[b] = o at this ⊢
    cases o with
    | row et cells st g v =>
      cases st <;> try cases this
      cases g with
      | succ g => cases this
      | zero => cases v with
        | succ v => cases this
        | zero => exact .inl ⟨et, cells, rfl, fun x hx => List.all_eq_true.1 this x hx⟩
    | dead => exact .inr rfl
    | map es bs ck => cases this
    | mapIter m si se la => cases this
    | strIter s p => cases this
    | loop => cases this
  have hR0 : HRel P w.heap.size ι0 (startH rows) w := by
    refine { base := Nat.le_refl _, dom := fun b l hb => (hι0 b l hb).1, obj := fun b l hb ha => ?_, sep := fun b b' l l' hne hb hb' ha ha' he => ?_, grp := fun b l et cells st g v hb ho => ?_ }
    · obtain ⟨hlt, hb'⟩ := hι0 b l hb
      rcases hRo b hlt with ⟨et, cells, e, hp⟩ | e
      · have e' := hk.2 b et cells 0 0 hlt e
        have ok := hR.obj b l hb' (by rw [e']; rfl)
        rw [e'] at ok
        rw [e]
        obtain ⟨⟨cs, t, fr, q1, q2, q3, q4⟩, hf, he, ho, hr, hx⟩ := ok
        have hlt2 : l.blk < w.heap.size := (Array.getElem?_eq_some_iff.1 q1).1
        exact ⟨⟨cs, t, fr, q1, q2, fun i x hx => by
          obtain ⟨y, r1, r2⟩ := q3 i x hx
          have hp' := hp x (List.mem_of_getElem? hx)
          have := r2.plain_eq hp'
          subst this
          exact ⟨_, r1, VRel.of_plain hp'⟩, q4⟩, hf, he, fun e => absurd rfl e, fun _ => hlt2, fun e => (nomatch e)⟩
      · rw [e] at ha; cases ha
    · rcases hRo b (hι0 b l hb).1 with ⟨et, cells, e, _⟩ | e
      · rcases hRo b' (hι0 b' l' hb').1 with ⟨et', cells', e', _⟩ | e'
        · rw [e, e']; trivial
        · rw [e'] at ha'; cases ha'
      · rw [e] at ha; cases ha
    · have hlt := (hι0 b l hb).1
      rcases hRo b hlt with ⟨et', cells', e, _⟩ | e
      · rw [e] at ho; cases ho
        exact ⟨by show 0 < rows.length; omega, Nat.zero_le _⟩
      · rw [e] at ho; cases ho
  have hG0 : GOk ι0 (envOf P rows.length).nG := fun g hg => by
    obtain ⟨l, a, b⟩ := hG g hg
    exact ⟨l, by simp only [ι0]; rw [if_pos (show g < rows.length from hg)]; exact a, b⟩
  have hL0 : ∀ {l : List Value}, l.all constOk = true → LRel ι0 l l := fun {l} hl => by
    induction l with
    | nil => exact .nil
    | cons a l ih =>
      simp only [List.all_cons, Bool.and_eq_true] at hl
      exact .cons (VRel.of_constOk hl.1) (ih hl.2)
  have := h1 w.heap.size ι0 w vs' hG0 hR0 (hL0 hvs)
  refine this.mono fun e w' ⟨v', ι', he, hr, hs⟩ => ⟨v, ι, by rw [he, hr.constOk_eq hv], VRel.of_constOk hv, ?_⟩
  have hsame : ∀ b l, ι b = some l → H.alive (H.obj b) = true → w'.heap[l.blk]? = w.heap[l.blk]? := fun b l hb ha => hs.low _ ((hR.obj b l hb ha).lt ha)
  have hrel : HRel P B0 ι H w' :=
    { base := Nat.le_trans hR.base hs.size, dom := hR.dom, obj := fun b l hb ha => (hR.obj b l hb ha).carry (Emb.le_refl _) (hsame b l hb ha), sep := hR.sep, grp := hR.grp }
  exact
    { le := Emb.le_refl _, new := fun _ _ h => .inl h, next := Nat.le_refl _, rel := hrel, size := hs.size, frame := fun c hc _ => hs.low c hc, low := fun c hc => hs.low c (Nat.lt_of_lt_of_le hc hR.base),
      fresh := fun b l h k => (by rw [h] at k; cases k), old := fun _ _ _ h => h, loc := fun _ _ _ => rfl, os := hs.os, tape := hs.tape, output := hs.output }

/-- The table of one closed call. -/
noncomputable def orcOne (rows : List AObj) (f : FuncId) (v : Value) : Orc := fun g vs H => by
  classical
  exact if g = f ∧ vs = [] ∧ Kro (startH rows) H then some (v, H) else none

theorem orcOne_ok {V : Env} {rows : List AObj} {f : FuncId} {v : Value} (h : ∀ H, Kro (startH rows) H → Sound V (.fn f) [] H v H) : OrcOk V (orcOne rows f v) := fun g vs H u H' hu => by
  unfold orcOne at hu
  split at hu
  · rename_i hc
    cases hu
    obtain ⟨rfl, rfl, hk⟩ := hc
    exact h H hk
  · cases hu
theorem orcOne_ne {rows : List AObj} {f : FuncId} {v : Value} {g : FuncId} (h : g ≠ f) (vs : List Value) (H : AH) : orcOne rows f v g vs H = none := by
  unfold orcOne
  rw [if_neg (fun e => h e.1)]
theorem orcOne_eq {rows : List AObj} {f : FuncId} {v : Value} {H : AH} (h : Kro (startH rows) H) : orcOne rows f v f [] H = some (v, H) := by
  unfold orcOne
  rw [if_pos ⟨rfl, rfl, h⟩]
end Go.Ev
