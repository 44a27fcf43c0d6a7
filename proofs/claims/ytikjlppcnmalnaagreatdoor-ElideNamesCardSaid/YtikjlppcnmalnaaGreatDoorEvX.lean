/-
  EV, part X: regions that draw their order are run soundly.
-/
import Derived.Test.YtikjlppcnmalnaaGreatDoorEvW
import Derived.Test.YtikjlppcnmalnaaGreatDoorEvR
namespace Go.Ev
open Go.RowKit

variable {B0 : Nat} {V : Env} {call : CallFn} {n : Nat} {ds : List Deferred} {ops : Array Oper} {σ : List Nat} {T0 : PTree Value} {H0 : AH} {R : List Rec} {Tf : PTree Value} {Hf : AH} {ι0 : Emb} {w0 : World}

/-- What is made at a place of the run between big operations. -/
theorem new_chain (h : Ran V call n ops σ T0 H0 R Tf Hf) {p q k : Nat} (hpk : p ≤ k) (hkq : k < q) (hq : q ≤ R.length) (hno : ∀ m r, p ≤ m → m < q → R[m]? = some r → bigAt ops r = false) {r : Rec} {ob : AObj} (hn : NewAt V ops R k r ob) :
    (Hat R Hf p).next ≤ r.H.next ∧ r.H.next < (Hat R Hf q).next ∧ (Hat R Hf q).obj r.H.next = ob ∧ (Hat R Hf (k + 1)).next = r.H.next + 1 := by
  obtain ⟨hr, o, mk, ho, hc, hw, hcr⟩ := hn
  obtain ⟨o', ho', hs, _, hH⟩ := h.step k r hr
  rw [ho] at ho'; cases ho'
  have hHk : r.H = Hat R Hf k := by simp [Hat, hr]
  have hs' : r.H' = r.H.alloc ob := by
    have hsn := stepOp_seen hs
    unfold stepOp at hs
    rw [if_pos hsn] at hs
    rw [if_pos hw, hc] at hs
    simp only [hcr, Option.some.injEq, Prod.mk.injEq] at hs
    exact hs.2.symm
  have c1 := Hat_chain h p k hpk (by omega) (fun m r' h1 h2 => hno m r' h1 (by omega))
  have c2 := Hat_chain h (k + 1) q (by omega) hq (fun m r' h1 h2 => hno m r' (by omega) h2)
  rw [hH, hs'] at c2
  refine ⟨by rw [hHk]; exact c1.1, by have := c2.1; simp at this; omega, ?_, by rw [hH, hs']; rfl⟩
  rw [c2.2.1 r.H.next (by simp)]
  simp

theorem slots_step (h : Ran V call n ops σ T0 H0 R Tf Hf) {listed : Array Bool} {T T' : PTree Value} {k : Nat} {r : Rec} {o : Oper} (hr : R[k]? = some r) (ho : ops[r.i]? = some o) (hi : r.i < listed.size) (hp : put n T o.dst r.v = some T')
    (hs : ∀ t, (∃ (k : Nat) (r : Rec) (o : Oper), R[k]? = some r ∧ Listed listed r.i ∧ ops[r.i]? = some o ∧ o.dst = some t ∧ T.get t = some r.v) ∨ ((∀ (k : Nat) (r : Rec) (o : Oper), R[k]? = some r → Listed listed r.i → ops[r.i]? = some o → o.dst ≠ some t) ∧ T.get t = T0.get t)) :
    ∀ t, (∃ (k : Nat) (q : Rec) (o : Oper), R[k]? = some q ∧ Listed (listed.setIfInBounds r.i true) q.i ∧ ops[q.i]? = some o ∧ o.dst = some t ∧ T'.get t = some q.v) ∨ ((∀ (k : Nat) (q : Rec) (o : Oper), R[k]? = some q → Listed (listed.setIfInBounds r.i true) q.i → ops[q.i]? = some o → o.dst ≠ some t) ∧ T'.get t = T0.get t) := by
  intro t
  by_cases e : o.dst = some t
  · refine .inl ⟨k, r, o, hr, (listed_set hi).2 (.inl rfl), ho, e, ?_⟩
    rw [e] at hp
    simp only [put] at hp
    split at hp
    · cases hp; simp
    · cases hp
  · have hT : T'.get t = T.get t := by
      unfold put at hp
      cases hd : o.dst with
      | none => rw [hd] at hp; cases hp; rfl
      | some d =>
        rw [hd] at hp
        simp only at hp
        split at hp
        · cases hp
          exact PTree.get_set_ne _ _ (fun e' => e (by rw [hd, e']))
        · cases hp
    rw [hT]
    rcases hs t with ⟨k2, r2, o2, s1, s2, s3, s4, s5⟩ | ⟨s1, s2⟩
    · exact .inl ⟨k2, r2, o2, s1, (listed_set hi).2 (.inr s2), s3, s4, s5⟩
    · refine .inr ⟨fun k2 r2 o2 g1 g2 g3 => ?_, s2⟩
      rcases (listed_set hi).1 g2 with g | g
      · obtain ⟨rfl, rfl⟩ := h.uniq g1 hr g
        rw [ho] at g3; cases g3
        exact e
      · exact s1 k2 r2 o2 g1 g g3

theorem put_some {n : Nat} {T T2 T' : PTree Value} {d : Option Tmp} {v : Value} (h : put n T d v = some T') : ∃ T3, put n T2 d v = some T3 := by
  unfold put at h ⊢
  cases d with
  | none => exact ⟨T2, rfl⟩
  | some d =>
    simp only at h ⊢
    split at h
    · rename_i hd; exact ⟨_, by rw [if_pos hd]⟩
    · cases h

theorem closed_step {listed : Array Bool} {i : Nat} {o : Oper} (hc : Closed ops (Listed listed)) (ho : ops[i]? = some o) (hi : i < listed.size) (hed : ∀ e ∈ o.after, Region.binds .any e = true → Listed listed e.on) : Closed ops (Listed (listed.setIfInBounds i true)) := by
  intro j p hp hj e he hb
  rcases (listed_set hi).1 hj with rfl | hj
  · rw [ho] at hp; cases hp
    exact (listed_set hi).2 (.inr (hed e he hb))
  · exact (listed_set hi).2 (.inr (hc j p hp hj e he hb))

/-- A small operation has come up. -/
theorem Inv.small (h : Ran V call n ops σ T0 H0 R Tf Hf) {fuel : Nat} {listed : Array Bool} {a : Act} {w : World} {nb : Nat} {ι : Emb} {T : PTree Value} (hI : Inv V B0 n ds ops T0 H0 R Hf ι0 w0 (fuel + 1) listed a w nb ι T)
    {k : Nat} {r : Rec} {o : Oper} (hr : R[k]? = some r) (ho : ops[r.i]? = some o) (h0 : listed.getD r.i true = false) (hed : ∀ e ∈ o.after, Region.binds .any e = true → Listed listed e.on) (hk : k < nb) (hb : bigAt ops r = false)
    {ι' : Emb} {w' : World} {v' : Value} (hs : Step V.P B0 ι0 H0 w0 ι' (Hat R Hf nb) w') (hle : ι.le ι') (hv : VRel ι' r.v v') (hnew : ∀ k2 r2 ob2, k2 < nb → k2 ≠ k → NewAt V ops R k2 r2 ob2 → ¬ Listed listed r2.i → ι' r2.H.next = none) :
    ∃ T', Inv V B0 n ds ops T0 H0 R Hf ι0 w0 fuel (listed.setIfInBounds r.i true) (a.put o.dst v') w' nb ι' T' := by
  have hi : r.i < listed.size := by rw [hI.sz]; exact (Array.getElem?_eq_some_iff.1 ho).1
  obtain ⟨o', ho', _, hp, _⟩ := h.step k r hr
  rw [ho] at ho'; cases ho'
  obtain ⟨T', hp'⟩ := put_some (T2 := T) hp
  obtain ⟨g1, g2, g3⟩ := put_ok (hI.tr.mono hle) hI.tsz hv hp'
  have hLs : ∀ j, Listed (listed.setIfInBounds r.i true) j ↔ j = r.i ∨ Listed listed j := fun j => listed_set hi
  refine ⟨T', by simpa using hI.sz, count_set hi h0 hI.cnt, closed_step hI.closed ho hi hed, hI.nbl, hI.nbbig, fun k2 r2 q1 q2 q3 => (hLs _).2 (.inr (hI.before k2 r2 q1 q2 q3)), fun k2 r2 q1 q2 q3 q4 => ?_, hs, slots_step h hr ho hi hp' hI.slots, g1, g2, g3.trans hI.td, fun k2 r2 ob2 q1 q2 q3 => ?_, fun k1 k2 r1 r2 o1 o2 q1 q2 q3 q4 q5 q6 q7 => ?_⟩
  · rcases (hLs _).1 q4 with e | q
    · obtain ⟨rfl, rfl⟩ := h.uniq q2 hr e; rw [hb] at q3; cases q3
    · exact hI.after k2 r2 q1 q2 q3 q
  · have hn : ¬ Listed listed r2.i := fun q => q3 ((hLs _).2 (.inr q))
    have hne : k2 ≠ k := fun e => by
      subst e
      have : r2 = r := by have := q2.1; rw [hr] at this; simpa using this.symm
      subst this
      exact q3 ((hLs _).2 (.inl rfl))
    obtain ⟨_, c2, c3, c4⟩ := hI.cr k2 r2 ob2 q1 q2 hn
    exact ⟨hnew k2 r2 ob2 q1 hne q2 hn, c2, c3, c4⟩
  · exact hI.crd k1 k2 r1 r2 o1 o2 q1 q2 q3 q4 q5 (fun q => q6 ((hLs _).2 (.inr q))) (fun q => q7 ((hLs _).2 (.inr q)))

/-- A big operation has come up. -/
theorem Inv.big (h : Ran V call n ops σ T0 H0 R Tf Hf) {fuel : Nat} {listed : Array Bool} {a : Act} {w : World} {nb : Nat} {ι : Emb} {T : PTree Value} (hI : Inv V B0 n ds ops T0 H0 R Hf ι0 w0 (fuel + 1) listed a w nb ι T)
    {r : Rec} {o : Oper} (hr : R[nb]? = some r) (ho : ops[r.i]? = some o) (h0 : listed.getD r.i true = false) (hed : ∀ e ∈ o.after, Region.binds .any e = true → Listed listed e.on) (hb : bigAt ops r = true)
    {ι' : Emb} {w' : World} {v' : Value} (hs : Step V.P B0 ι (Hat R Hf nb) w ι' r.H' w') (hv : VRel ι' r.v v') :
    ∃ nb' T', Inv V B0 n ds ops T0 H0 R Hf ι0 w0 fuel (listed.setIfInBounds r.i true) (a.put o.dst v') w' nb' ι' T' := by
  have hi : r.i < listed.size := by rw [hI.sz]; exact (Array.getElem?_eq_some_iff.1 ho).1
  have hlt : nb < R.length := (List.getElem?_eq_some_iff.1 hr).1
  obtain ⟨o', ho', _, hp, hH⟩ := h.step nb r hr
  rw [ho] at ho'; cases ho'
  obtain ⟨T', hp'⟩ := put_some (T2 := T) hp
  obtain ⟨g1, g2, g3⟩ := put_ok (hI.tr.mono hs.le) hI.tsz hv hp'
  have hLs : ∀ j, Listed (listed.setIfInBounds r.i true) j ↔ j = r.i ∨ Listed listed j := fun j => listed_set hi
  obtain ⟨nb', n1, n2, n3, n4⟩ := next_big R ops (R.length - (nb + 1)) (nb + 1) rfl (by omega)
  have c := Hat_chain h (nb + 1) nb' n1 n2 n4
  rw [hH] at c
  have hst := hI.step.trans hs
  have hcb : cls o.op = .big := (bigAt_iff ho).1 hb
  have hsplit : ∀ k2 r2 ob2, k2 < nb' → NewAt V ops R k2 r2 ob2 → k2 < nb ∨ nb + 1 ≤ k2 := fun k2 r2 ob2 q1 q2 => by
    by_cases e : k2 = nb
    · subst e
      obtain ⟨q3, o2, mk, q4, q5, _⟩ := q2
      rw [hr] at q3; cases q3
      rw [ho] at q4; cases q4
      rw [hcb] at q5; cases q5
    · omega
  refine ⟨nb', T', by simpa using hI.sz, count_set hi h0 hI.cnt, closed_step hI.closed ho hi hed, n2, n3, fun k2 r2 q1 q2 q3 => ?_, fun k2 r2 q1 q2 q3 q4 => ?_, hst.extend c.1 c.2.1 c.2.2 hst.next, slots_step h hr ho hi hp' hI.slots, g1, g2, g3.trans hI.td, fun k2 r2 ob2 q1 q2 q3 => ?_, fun k1 k2 r1 r2 o1 o2 q1 q2 q3 q4 q5 q6 q7 => ?_⟩
  · by_cases e1 : k2 < nb
    · exact (hLs _).2 (.inr (hI.before k2 r2 e1 q2 q3))
    · by_cases e2 : k2 = nb
      · subst e2; rw [hr] at q2; cases q2; exact (hLs _).2 (.inl rfl)
      · have := n4 k2 r2 (by omega) q1 q2; rw [q3] at this; cases this
  · rcases (hLs _).1 q4 with e | q
    · have := (h.uniq q2 hr e).1; omega
    · exact hI.after k2 r2 (by omega) q2 q3 q
  · have hn : ¬ Listed listed r2.i := fun q => q3 ((hLs _).2 (.inr q))
    rcases hsplit k2 r2 ob2 q1 q2 with e | e
    · obtain ⟨c1, c2, c3, c4⟩ := hI.cr k2 r2 ob2 e q2 hn
      have hlt' : r2.H.next < r.H'.next := Nat.lt_of_lt_of_le c3 hs.next
      refine ⟨?_, c2, Nat.lt_of_lt_of_le hlt' c.1, ?_⟩
      · cases e' : ι' r2.H.next with
        | none => rfl
        | some l => rcases hs.new _ l e' with e'' | ⟨_, e''⟩
                    · rw [c1] at e''; cases e''
                    · omega
      · rw [c.2.1 _ hlt', hs.loc _ c3 c1, c4]
    · obtain ⟨d1, d2, d3, _⟩ := new_chain h e q1 n2 n4 q2
      rw [hH] at d1
      refine ⟨?_, Nat.le_trans hst.next d1, d2, d3⟩
      cases e' : ι' r2.H.next with
      | none => rfl
      | some l => have := hs.rel.dom _ l e'; omega
  · have hn1 : ¬ Listed listed r1.i := fun q => q6 ((hLs _).2 (.inr q))
    have hn2 : ¬ Listed listed r2.i := fun q => q7 ((hLs _).2 (.inr q))
    rcases hsplit k1 r1 o1 q1 q4 with e1 | e1
    · rcases hsplit k2 r2 o2 q2 q5 with e2 | e2
      · exact hI.crd k1 k2 r1 r2 o1 o2 e1 e2 q3 q4 q5 hn1 hn2
      · have a1 := (hI.cr k1 r1 o1 e1 q4 hn1).2.2.1
        have a2 := (new_chain h e2 q2 n2 n4 q5).1
        rw [hH] at a2
        have := hs.next
        omega
    · rcases hsplit k2 r2 o2 q2 q5 with e2 | e2
      · have a1 := (hI.cr k2 r2 o2 e2 q5 hn2).2.2.1
        have a2 := (new_chain h e1 q1 n2 n4 q4).1
        rw [hH] at a2
        have := hs.next
        omega
      · rcases Nat.lt_or_gt_of_ne q3 with hlt' | hlt'
        · have a1 := (new_chain h e1 q1 n2 n4 q4).2.2.2
          have a2 := (new_chain h (p := k1 + 1) (q := nb') hlt' q2 n2 (fun m r' m1 m2 => n4 m r' (by omega) m2) q5).1
          omega
        · have a1 := (new_chain h e2 q2 n2 n4 q5).2.2.2
          have a2 := (new_chain h (p := k2 + 1) (q := nb') hlt' q1 n2 (fun m r' m1 m2 => n4 m r' (by omega) m2) q4).1
          omega

theorem Inv.start (h : Ran V call n ops σ T0 H0 R Tf Hf) {a : Act} {w : World} (hT : TRel ι0 T0 a.tmps) (hn : a.tmps.size = n) (hd : a.defers = ds) (hR : HRel V.P B0 ι0 H0 w) :
    ∃ nb, Inv V B0 n ds ops T0 H0 R Hf ι0 w ops.size (Array.replicate ops.size false) a w nb ι0 T0 := by
  obtain ⟨nb, n1, n2, n3, n4⟩ := next_big R ops (R.length - 0) 0 rfl (by omega)
  have c := Hat_chain h 0 nb n1 n2 n4
  rw [h.zero.1] at c
  have hno : ∀ i, ¬ Listed (Array.replicate ops.size false) i := fun i hi => by
    unfold Listed at hi
    simp [Array.getD_eq_getD_getElem?, Array.getElem?_replicate] at hi
    split at hi <;> simp at hi
  have hst := (Step.refl hR).extend c.1 c.2.1 c.2.2 (Nat.le_refl _)
  refine ⟨nb, by simp, by simp, fun j o _ hj => absurd hj (hno j), n2, n3, fun k r q1 q2 q3 => ?_, fun k r _ _ _ => hno _, hst, fun t => .inr ⟨fun k r o _ hL => absurd hL (hno _), rfl⟩, hT, hn, hd, fun k r ob q1 q2 _ => ?_, fun k1 k2 r1 r2 o1 o2 q1 q2 q3 q4 q5 _ _ => ?_⟩
  · have := n4 k r (Nat.zero_le _) q1 q2; rw [q3] at this; cases this
  · obtain ⟨d1, d2, d3, _⟩ := new_chain h (Nat.zero_le k) q1 n2 n4 q2
    rw [h.zero.1] at d1
    refine ⟨?_, d1, d2, d3⟩
    cases e' : ι0 r.H.next with
    | none => rfl
    | some l => have := hR.dom _ l e'; omega
  · rcases Nat.lt_or_gt_of_ne q3 with hlt' | hlt'
    · have a1 := (new_chain h (Nat.zero_le k1) q1 n2 n4 q4).2.2.2
      have a2 := (new_chain h (p := k1 + 1) (q := nb) hlt' q2 n2 (fun m r' m1 m2 => n4 m r' (by omega) m2) q5).1
      omega
    · have a1 := (new_chain h (Nat.zero_le k2) q2 n2 n4 q5).2.2.2
      have a2 := (new_chain h (p := k2 + 1) (q := nb) hlt' q1 n2 (fun m r' m1 m2 => n4 m r' (by omega) m2) q4).1
      omega
end Go.Ev
