/-
  EV, part W: the run in the chosen order serves every order.
-/
import Derived.Test.YtikjlppcnmalnaaGreatDoorEvV
namespace Go.Ev
open Go.RowKit

variable {B0 : Nat} {V : Env} {call : CallFn} {n : Nat} {ds : List Deferred} {ops : Array Oper} {σ : List Nat} {T0 : PTree Value} {H0 : AH} {R : List Rec} {Tf : PTree Value} {Hf : AH}

def Listed (listed : Array Bool) (i : Nat) : Prop := listed.getD i false = true

/-- A new block that the operation at this place of the run makes. -/
def NewAt (V : Env) (ops : Array Oper) (R : List Rec) (k : Nat) (r : Rec) (ob : AObj) : Prop :=
  R[k]? = some r ∧ ∃ o mk, ops[r.i]? = some o ∧ cls o.op = .create ∧ aWanted ops r.T o = true ∧ aCreate V r.T o.op = some (mk, ob)

structure Inv (V : Env) (B0 : Nat) (n : Nat) (ds : List Deferred) (ops : Array Oper) (T0 : PTree Value) (H0 : AH) (R : List Rec) (Hf : AH) (ι0 : Emb) (w0 : World) (fuel : Nat) (listed : Array Bool) (a : Act) (w : World) (nb : Nat) (ι : Emb) (T : PTree Value) : Prop where
  sz : listed.size = ops.size
  cnt : listed.toList.count false = fuel
  closed : Closed ops (Listed listed)
  nbl : nb ≤ R.length
  nbbig : ∀ r : Rec, R[nb]? = some r → bigAt ops r = true
  before : ∀ (k : Nat) (r : Rec), k < nb → R[k]? = some r → bigAt ops r = true → Listed listed r.i
  after : ∀ (k : Nat) (r : Rec), nb ≤ k → R[k]? = some r → bigAt ops r = true → ¬ Listed listed r.i
  step : Step V.P B0 ι0 H0 w0 ι (Hat R Hf nb) w
  slots : ∀ t, (∃ (k : Nat) (r : Rec) (o : Oper), R[k]? = some r ∧ Listed listed r.i ∧ ops[r.i]? = some o ∧ o.dst = some t ∧ T.get t = some r.v) ∨ ((∀ (k : Nat) (r : Rec) (o : Oper), R[k]? = some r → Listed listed r.i → ops[r.i]? = some o → o.dst ≠ some t) ∧ T.get t = T0.get t)
  tr : TRel ι T a.tmps
  tsz : a.tmps.size = n
  td : a.defers = ds
  cr : ∀ (k : Nat) (r : Rec) (ob : AObj), k < nb → NewAt V ops R k r ob → ¬ Listed listed r.i → ι r.H.next = none ∧ H0.next ≤ r.H.next ∧ r.H.next < (Hat R Hf nb).next ∧ (Hat R Hf nb).obj r.H.next = ob
  crd : ∀ (k1 k2 : Nat) (r1 r2 : Rec) (o1 o2 : AObj), k1 < nb → k2 < nb → k1 ≠ k2 → NewAt V ops R k1 r1 o1 → NewAt V ops R k2 r2 o2 → ¬ Listed listed r1.i → ¬ Listed listed r2.i → r1.H.next ≠ r2.H.next

theorem listed_set {listed : Array Bool} {i j : Nat} (hi : i < listed.size) : Listed (listed.setIfInBounds i true) j ↔ j = i ∨ Listed listed j := by
  unfold Listed
  by_cases e : j = i
  · subst e; simp [hi]
  · simp [e, Array.getD_eq_getD_getElem?, Ne.symm e]

theorem count_set {listed : Array Bool} {i : Nat} {fuel : Nat} (hi : i < listed.size) (h0 : listed.getD i true = false) (hc : listed.toList.count false = fuel + 1) : (listed.setIfInBounds i true).toList.count false = fuel := by
  have hl : i < listed.toList.length := by simpa using hi
  rw [Array.toList_setIfInBounds, List.count_set hl]
  have : listed.toList[i] = false := by
    simp [Array.getD_eq_getD_getElem?, hi] at h0
    simpa using h0
  simp [this, hc]

/-- The temporaries that an operation looks at are, when its turn may come, what they were in the run. -/
theorem agree_at (h : Ran V call n ops σ T0 H0 R Tf Hf) {ι0 : Emb} {w0 : World} {fuel : Nat} {listed : Array Bool} {a : Act} {w : World} {nb : Nat} {ι : Emb} {T : PTree Value} (hI : Inv V B0 n ds ops T0 H0 R Hf ι0 w0 fuel listed a w nb ι T)
    {k : Nat} {r : Rec} {o : Oper} (hr : R[k]? = some r) (ho : ops[r.i]? = some o) (hun : ¬ Listed listed r.i) (hed : ∀ e ∈ o.after, Region.binds .any e = true → Listed listed e.on) : Agree ops o T r.T := by
  intro t ht
  have hk : k < R.length := (List.getElem?_eq_some_iff.1 hr).1
  have hT : r.T = Tat R Tf k := by simp [Tat, hr]
  rw [hT]
  rcases Tat_get h k (by omega) t with ⟨k1, r1, o1, q1, q2, q3, q4, q5⟩ | ⟨q1, q2⟩
  · rw [q5]
    have hne : r1.i ≠ r.i := fun e => by have := (h.uniq q2 hr e).1; omega
    rcases (h.ord.dst r1.i r.i o1 o t (h.mem q2) (h.mem hr) q3 ho hne q4).2 ht with ha | ha
    · have hL : Listed listed r1.i := anc_listed hI.closed r.i o ho hed r1.i ha
      rcases hI.slots t with ⟨k2, r2, o2, s1, s2, s3, s4, s5⟩ | ⟨s1, _⟩
      · by_cases e : r2.i = r1.i
        · obtain ⟨rfl, rfl⟩ := h.uniq s1 q2 e
          exact s5
        · exact absurd q4 (h.ord.dst r2.i r1.i o2 o1 t (h.mem s1) (h.mem q2) s3 q3 e s4).1
      · exact absurd q4 (s1 k1 r1 o1 q2 hL q3)
    · have := h.ord.anc_pos q3 ha
      rw [h.idx hr, h.idx q2] at this
      omega
  · rw [q2]
    rcases hI.slots t with ⟨k2, r2, o2, s1, s2, s3, s4, s5⟩ | ⟨_, s2⟩
    · have hk2 : ¬ k2 < k := fun hlt => q1 k2 r2 o2 hlt s1 s3 s4
      have hne : r2.i ≠ r.i := fun e => hun (e ▸ s2)
      rcases (h.ord.dst r2.i r.i o2 o t (h.mem s1) (h.mem hr) s3 ho hne s4).2 ht with ha | ha
      · have := h.ord.anc_pos ho ha
        rw [h.idx hr, h.idx s1] at this
        omega
      · exact absurd (anc_listed hI.closed r2.i o2 s3 (fun e he hb => hI.closed r2.i o2 s3 s2 e he hb) r.i ha) hun
    · exact s2

theorem Step.extend {P : Program} {ι ι' : Emb} {H H' K : AH} {w w' : World} (h : Step P B0 ι H w ι' H' w') (hn : H'.next ≤ K.next) (ho : ∀ b, b < H'.next → K.obj b = H'.obj b) (hv : ∀ g, K.ver g = H'.ver g) (hH : H.next ≤ H'.next) : Step P B0 ι H w ι' K w' := by
  have hal : ∀ o, K.alive o = H'.alive o := fun o => by cases o <;> simp [AH.alive, hv]
  have hdom : ∀ b l, ι' b = some l → K.obj b = H'.obj b := fun b l hb => ho b (h.rel.dom b l hb)
  exact
    { le := h.le, new := h.new, next := Nat.le_trans h.next hn
      rel := ⟨h.rel.base, fun b l hb => Nat.lt_of_lt_of_le (h.rel.dom b l hb) hn, fun b l hb ha => by
          rw [hdom b l hb] at ha ⊢; rw [hal] at ha; exact h.rel.obj b l hb ha, fun b b' l l' hne hb hb' ha ha' he => by
          rw [hdom b l hb] at ha ⊢; rw [hdom b' l' hb'] at ha' ⊢; rw [hal] at ha ha'; exact h.rel.sep b b' l l' hne hb hb' ha ha' he, fun b l et cells st g v hb hob => by
          rw [hdom b l hb] at hob
          have := h.rel.grp b l et cells st g v hb hob
          rw [hv]; omega⟩
      size := h.size, frame := h.frame, low := h.low
      fresh := fun b l hb hn' ha => by rw [hdom b l hb, hal] at ha; exact h.fresh b l hb hn' ha
      old := fun b l hb ha => by rw [hdom b l (h.le b l hb), hal] at ha; exact h.old b l hb ha
      loc := fun b hb hn' => (ho b (by omega)).trans (h.loc b hb hn')
      os := h.os, tape := h.tape, output := h.output }

theorem Step.adopt {P : Program} {ι0 ι : Emb} {H0 M : AH} {w0 w : World} (h : Step P B0 ι0 H0 w0 ι M w) {b : Nat} (hb0 : H0.next ≤ b) (hb : b < M.next) (hn : ι b = none) {ob : AObj} (ho : M.obj b = ob) (hl1 : ob.lone = true) {obj : Obj} {l : ILoc} (hl : l.blk = w.heap.size)
    (hok : OOk P B0 (ι.ext b l) (w.alloc obj) l ob) : Step P B0 ι0 H0 w0 (ι.ext b l) M (w.alloc obj) := by
  have hle : ι.le (ι.ext b l) := Emb.le_ext hn
  have key : ∀ c l', ι.ext b l c = some l' → (c = b ∧ l' = l) ∨ (c ≠ b ∧ ι c = some l') := fun c l' hc => by
    unfold Emb.ext at hc
    by_cases e : c = b
    · rw [if_pos e] at hc; cases hc; exact .inl ⟨e, rfl⟩
    · rw [if_neg e] at hc; exact .inr ⟨e, hc⟩
  refine
    { le := Emb.le_trans h.le hle
      new := fun c l' hc => ?_
      next := h.next
      rel := h.rel.adopt hb hn ho hl1 hl hok
      size := by have := h.size; simp; omega
      frame := fun c hc hf => (Below.heap_alloc _ _ _ (Nat.lt_of_lt_of_le hc h.size)).trans (h.frame c hc hf)
      low := fun c hc => (Below.heap_alloc _ _ _ (by have := h.rel.base; omega)).trans (h.low c hc)
      fresh := fun c l' hc hn' ha => ?_
      old := h.old, loc := h.loc, os := h.os, tape := h.tape, output := h.output }
  · rcases key c l' hc with ⟨rfl, rfl⟩ | ⟨_, h1⟩
    · refine .inr ⟨?_, hb0⟩
      cases e : ι0 c with
      | none => rfl
      | some l'' => rw [h.le c l'' e] at hn; cases hn
    · exact h.new c l' h1
  · rcases key c l' hc with ⟨rfl, rfl⟩ | ⟨_, h1⟩
    · exact .inl (by rw [hl]; exact h.size)
    · exact h.fresh c l' h1 hn' ha

/-- Where a step makes no new name, it knows no new name. -/
theorem Step.same_emb {P : Program} {ι ι' : Emb} {H : AH} {w w' : World} (h : Step P B0 ι H w ι' H w') : ι' = ι := by
  funext b
  cases e : ι' b with
  | none => cases e' : ι b with
    | none => rfl
    | some l => rw [h.le b l e'] at e; cases e
  | some l =>
    rcases h.new b l e with h1 | ⟨_, h1⟩
    · exact h1.symm
    · have := h.rel.dom b l e; omega
end Go.Ev
