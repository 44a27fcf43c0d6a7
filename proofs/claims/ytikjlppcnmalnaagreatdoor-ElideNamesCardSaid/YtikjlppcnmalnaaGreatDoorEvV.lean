/-
  EV, part V: facts of the chosen order and of its run.
-/
import Derived.Test.YtikjlppcnmalnaaGreatDoorEvU
namespace Go.Ev
open Go.RowKit

variable {B0 : Nat} {V : Env} {call : CallFn}

structure Ord (ops : Array Oper) (σ : List Nat) : Prop where
  nodup : σ.Nodup
  lt : ∀ i, i ∈ σ → i < ops.size
  mem : ∀ i, i < ops.size → i ∈ σ
  topo : ∀ j o, ops[j]? = some o → ∀ e ∈ o.after, Region.binds .any e = true → σ.idxOf e.on < σ.idxOf j
  big : ∀ i j o, i ∈ σ → j ∈ σ → ops[i]? = some o → cls o.op = .big → σ.idxOf i < σ.idxOf j → anc (masks ops.toList []) i j = true
  dst : ∀ i j o p t, i ∈ σ → j ∈ σ → ops[i]? = some o → ops[j]? = some p → i ≠ j → o.dst = some t → p.dst ≠ some t ∧ (t ∈ p.looksAt ops → anc (masks ops.toList []) i j = true ∨ anc (masks ops.toList []) j i = true)

theorem orderOk_ord {ops : Array Oper} {σ : List Nat} (h : orderOk ops σ = true) : Ord ops σ := by
  unfold orderOk at h
  simp only [Bool.and_eq_true, decide_eq_true_eq, List.all_eq_true, List.mem_range] at h
  obtain ⟨⟨⟨⟨⟨h1, h2⟩, h3⟩, h4⟩, h5⟩, h6⟩ := h
  refine ⟨h1, h2, fun i hi => by simpa using h3 i hi, fun j o ho e he hb => ?_, fun i j o hi hj ho hc hlt => ?_, fun i j o p t hi hj ho hp hne hd => ?_⟩
  · have := h4 j (Array.getElem?_eq_some_iff.1 ho).1
    rw [ho] at this
    simp only [List.all_eq_true, Bool.or_eq_true, Bool.not_eq_true', decide_eq_true_eq] at this
    rcases this e (by simpa using he) with h | h
    · rw [hb] at h; cases h
    · exact h
  · have := h5 j hj i hi
    rw [ho] at this
    simp only [Bool.or_eq_true, Bool.not_eq_true', Bool.and_eq_false_iff, decide_eq_false_iff_not] at this
    rcases this with (h | h) | h
    · simp [hc] at h
    · exact absurd hlt h
    · exact h
  · have := h6 i hi
    rw [ho] at this
    simp only [hd, List.all_eq_true] at this
    have := this j hj
    rw [hp] at this
    simp only [Bool.or_eq_true, beq_iff_eq, Bool.and_eq_true, bne_iff_ne, Bool.not_eq_true', ne_eq] at this
    rcases this with h | ⟨h, k⟩
    · exact absurd h hne
    · refine ⟨h, fun ht => ?_⟩
      rcases k with (k | k) | k
      · simp at k; exact absurd ht k
      · exact .inl k
      · exact .inr k

theorem idxOf_at : ∀ {l : List Nat} (_ : l.Nodup) {k x : Nat}, l[k]? = some x → l.idxOf x = k
  | [], _, k, x, h => by simp at h
  | y :: l, hn, 0, x, h => by simp at h; subst h; simp
  | y :: l, hn, k + 1, x, h => by
    rw [List.nodup_cons] at hn
    have hx : l[k]? = some x := by simpa using h
    have hne : y ≠ x := fun e => hn.1 (by rw [e]; exact List.mem_of_getElem? hx)
    rw [List.idxOf_cons, idxOf_at hn.2 hx]
    have : (y == x) = false := by simpa using hne
    rw [this]; rfl

/-- Everything that is known of a region's run in its chosen order. -/
structure Ran (V : Env) (call : CallFn) (n : Nat) (ops : Array Oper) (σ : List Nat) (T0 : PTree Value) (H0 : AH) (R : List Rec) (Tf : PTree Value) (Hf : AH) : Prop where
  ord : Ord ops σ
  ids : R.map (·.i) = σ
  zero : Hat R Hf 0 = H0 ∧ Tat R Tf 0 = T0
  step : ∀ (k : Nat) (r : Rec), R[k]? = some r → ∃ o, ops[r.i]? = some o ∧ stepOp V call ops r.T r.H o = some (r.v, r.H') ∧ put n r.T o.dst r.v = some (Tat R Tf (k + 1)) ∧ Hat R Hf (k + 1) = r.H'
  looks : ∀ (k nb : Nat) (r : Rec) (o : Oper), R[k]? = some r → ops[r.i]? = some o → cls o.op = .look → aWanted ops r.T o = true → k < nb → nb ≤ R.length →
    (∀ q, R[nb]? = some q → bigAt ops q = true) → (∀ m q, k < m → m < nb → R[m]? = some q → bigAt ops q = true → anc (masks ops.toList []) r.i q.i = false) → aop V r.T (Hat R Hf nb) o.op = some (r.v, Hat R Hf nb)

section
variable {n : Nat} {ops : Array Oper} {σ : List Nat} {T0 : PTree Value} {H0 : AH} {R : List Rec} {Tf : PTree Value} {Hf : AH}

theorem Ran.at (h : Ran V call n ops σ T0 H0 R Tf Hf) {k : Nat} {r : Rec} (hr : R[k]? = some r) : σ[k]? = some r.i := by
  rw [← h.ids]; simp [hr]
theorem Ran.idx (h : Ran V call n ops σ T0 H0 R Tf Hf) {k : Nat} {r : Rec} (hr : R[k]? = some r) : σ.idxOf r.i = k := idxOf_at h.ord.nodup (h.at hr)
theorem Ran.mem (h : Ran V call n ops σ T0 H0 R Tf Hf) {k : Nat} {r : Rec} (hr : R[k]? = some r) : r.i ∈ σ := List.mem_of_getElem? (h.at hr)
theorem Ran.find (h : Ran V call n ops σ T0 H0 R Tf Hf) {i : Nat} (hi : i < ops.size) : ∃ (k : Nat) (r : Rec), R[k]? = some r ∧ r.i = i := by
  obtain ⟨k, hk, e⟩ := List.mem_iff_getElem.1 (h.ord.mem i hi)
  have hl : R.length = σ.length := by rw [← h.ids]; simp
  have hk' : k < R.length := by omega
  refine ⟨k, R[k], by simp [hk'], ?_⟩
  have := h.at (k := k) (r := R[k]) (by simp [hk'])
  simp [hk] at this
  rw [← this, e]
theorem Ran.uniq (h : Ran V call n ops σ T0 H0 R Tf Hf) {k k' : Nat} {r r' : Rec} (hr : R[k]? = some r) (hr' : R[k']? = some r') (e : r.i = r'.i) : k = k' ∧ r = r' := by
  have h1 := h.idx hr
  have h2 := h.idx hr'
  rw [e, h2] at h1
  subst h1
  rw [hr] at hr'
  exact ⟨rfl, by simpa using hr'⟩

theorem Ord.anc_pos (h : Ord ops σ) {i j : Nat} {o : Oper} (ho : ops[j]? = some o) (ha : anc (masks ops.toList []) i j = true) : σ.idxOf i < σ.idxOf j :=
  anc_listed (L := fun x => σ.idxOf x < σ.idxOf j) (fun x p hp hx e he hb => Nat.lt_trans (h.topo x p hp e he hb) hx) j o ho (fun e he hb => h.topo j o ho e he hb) i ha

theorem Tat_get (h : Ran V call n ops σ T0 H0 R Tf Hf) : ∀ (k : Nat), k ≤ R.length → ∀ t,
    (∃ k' r o, k' < k ∧ R[k']? = some r ∧ ops[r.i]? = some o ∧ o.dst = some t ∧ (Tat R Tf k).get t = some r.v) ∨ ((∀ k' r o, k' < k → R[k']? = some r → ops[r.i]? = some o → o.dst ≠ some t) ∧ (Tat R Tf k).get t = T0.get t)
  | 0, _, t => .inr ⟨fun k' r o hk => absurd hk (Nat.not_lt_zero _), by rw [h.zero.2]⟩
  | k + 1, hk, t => by
    have hk' : k < R.length := by omega
    obtain ⟨o, ho, _, hp, _⟩ := h.step k R[k] (by simp [hk'])
    have hT : (R[k]).T = Tat R Tf k := by simp [Tat, hk']
    rw [hT] at hp
    have ih := Tat_get h k (by omega) t
    unfold put at hp
    cases hd : o.dst with
    | none =>
      rw [hd] at hp
      simp only [Option.some.injEq] at hp
      rw [← hp]
      rcases ih with ⟨k', r, o', h1, h2, h3, h4, h5⟩ | ⟨h1, h2⟩
      · exact .inl ⟨k', r, o', by omega, h2, h3, h4, h5⟩
      · refine .inr ⟨fun k' r o' hlt hr ho' => ?_, h2⟩
        by_cases e : k' = k
        · subst e
          have : r = R[k'] := by simpa [hk'] using hr.symm
          subst this
          rw [ho] at ho'; cases ho'
          rw [hd]; simp
        · exact h1 k' r o' (by omega) hr ho'
    | some d =>
      rw [hd] at hp
      simp only at hp
      split at hp
      · simp only [Option.some.injEq] at hp
        rw [← hp]
        by_cases e : t = d
        · subst e
          exact .inl ⟨k, R[k], o, by omega, by simp [hk'], ho, hd, by simp⟩
        · rw [PTree.get_set_ne _ _ e]
          rcases ih with ⟨k', r, o', h1, h2, h3, h4, h5⟩ | ⟨h1, h2⟩
          · exact .inl ⟨k', r, o', by omega, h2, h3, h4, h5⟩
          · refine .inr ⟨fun k' r o' hlt hr ho' => ?_, h2⟩
            by_cases e' : k' = k
            · subst e'
              have : r = R[k'] := by simpa [hk'] using hr.symm
              subst this
              rw [ho] at ho'; cases ho'
              rw [hd]; simp [Ne.symm e]
            · exact h1 k' r o' (by omega) hr ho'
      · cases hp

/-- What a small operation does to the heap. -/
theorem small_step {ops : Array Oper} {T : PTree Value} {H H' : AH} {o : Oper} {v : Value} (hc : cls o.op ≠ .big) (h : stepOp V call ops T H o = some (v, H')) :
    H' = H ∨ ∃ mk ob, cls o.op = .create ∧ aWanted ops T o = true ∧ aCreate V T o.op = some (mk, ob) ∧ v = mk H.next ∧ H' = H.alloc ob := by
  unfold stepOp at h
  split at h
  case isFalse => cases h
  split at h
  · rename_i hw
    split at h
    · rename_i hl
      split at h
      · rename_i hn; exact .inl (look_same hl hn h)
      · cases h
    · rename_i hl
      split at h
      · rename_i mk ob hcr
        cases h
        exact .inr ⟨mk, ob, hl, hw, hcr, rfl, rfl⟩
      · cases h
    · rename_i hl; exact absurd hl hc
  · cases h; exact .inl rfl

theorem bigAt_iff {ops : Array Oper} {r : Rec} {o : Oper} (ho : ops[r.i]? = some o) : bigAt ops r = true ↔ cls o.op = .big := by
  unfold bigAt; rw [ho]; simp

/-- Between big operations the heap only grows. -/
theorem Hat_chain (h : Ran V call n ops σ T0 H0 R Tf Hf) (p : Nat) : ∀ (q : Nat), p ≤ q → q ≤ R.length → (∀ m r, p ≤ m → m < q → R[m]? = some r → bigAt ops r = false) →
    (Hat R Hf p).next ≤ (Hat R Hf q).next ∧ (∀ b, b < (Hat R Hf p).next → (Hat R Hf q).obj b = (Hat R Hf p).obj b) ∧ (∀ g, (Hat R Hf q).ver g = (Hat R Hf p).ver g)
  | q, hpq, hq, hno => by
    rcases Nat.eq_or_lt_of_le hpq with e | hlt
    · subst e; exact ⟨Nat.le_refl _, fun _ _ => rfl, fun _ => rfl⟩
    · obtain ⟨q, rfl⟩ : ∃ m, q = m + 1 := ⟨q - 1, by omega⟩
      obtain ⟨i1, i2, i3⟩ := Hat_chain h p q (by omega) (by omega) (fun m r h1 h2 => hno m r h1 (by omega))
      have hq' : q < R.length := by omega
      obtain ⟨o, ho, hs, _, hH⟩ := h.step q R[q] (by simp [hq'])
      have hHq : (R[q]).H = Hat R Hf q := by simp [Hat, hq']
      have hb := hno q R[q] (by omega) (by omega) (by simp [hq'])
      have hc : cls o.op ≠ .big := fun e => by rw [(bigAt_iff ho).2 e] at hb; cases hb
      rw [hH]
      rcases small_step hc hs with e | ⟨mk, ob, _, _, _, _, e⟩
      · rw [e, hHq]; exact ⟨i1, i2, i3⟩
      · rw [e, hHq]
        refine ⟨by simp; omega, fun b hb => ?_, fun g => by simpa using i3 g⟩
        rw [AH.obj_alloc, if_neg (by omega)]; exact i2 b hb

theorem lookWin_ok {ms : List Nat} {r : Rec} {o : Op} : ∀ {rs : List Rec}, lookWin V ops ms Hf r o rs = true → ∀ nb, nb ≤ rs.length → (∀ q, rs[nb]? = some q → bigAt ops q = true) → (∀ m q, m < nb → rs[m]? = some q → bigAt ops q = true → anc ms r.i q.i = false) →
    ∃ H', aop V r.T (Hat rs Hf nb) o = some (r.v, H')
  | [], h, nb, hle, _, _ => by
    have : nb = 0 := by simpa using hle
    subst this
    simp only [lookWin] at h
    split at h
    · rename_i v H' ha
      exact ⟨H', by rw [← sameV_eq h]; exact ha⟩
    · cases h
  | q :: rs, h, nb, hle, hbig, hno => by
    simp only [lookWin] at h
    cases nb with
    | zero =>
      have hb := hbig q (by simp)
      rw [if_pos hb, Bool.and_eq_true] at h
      have h := h.1
      split at h
      · rename_i v H' ha
        exact ⟨H', by rw [← sameV_eq h]; exact ha⟩
      · cases h
    | succ nb =>
      have rest : lookWin V ops ms Hf r o rs = true := by
        split at h
        · rename_i hb
          rw [Bool.and_eq_true, Bool.or_eq_true] at h
          rcases h.2 with h2 | h2
          · have := hno 0 q (by omega) (by simp) hb
            rw [this] at h2; cases h2
          · exact h2
        · exact h
      have := lookWin_ok rest nb (by simpa using hle) (fun q' hq' => hbig q' (by simpa using hq')) (fun m q' hm hq' => hno (m + 1) q' (by omega) (by simpa using hq'))
      simpa [Hat] using this

theorem lookAll_ok {ms : List Nat} : ∀ {R : List Rec}, lookAll V ops ms Hf R = true → ∀ k r o, R[k]? = some r → ops[r.i]? = some o → cls o.op = .look → aWanted ops r.T o = true → lookWin V ops ms Hf r o.op (R.drop (k + 1)) = true
  | [], _, k, r, o, hr, _, _, _ => by simp at hr
  | q :: R, h, 0, r, o, hr, ho, hc, hw => by
    simp at hr; subst hr
    simp only [lookAll, Bool.and_eq_true] at h
    have h := h.1
    rw [ho] at h
    simp only [hc, hw, and_self, if_true] at h
    simpa using h
  | q :: R, h, k + 1, r, o, hr, ho, hc, hw => by
    simp only [lookAll, Bool.and_eq_true] at h
    simpa using lookAll_ok h.2 k r o (by simpa using hr) ho hc hw

theorem looks_of_all (hall : lookAll V ops (masks ops.toList []) Hf R = true) (k nb : Nat) (r : Rec) (o : Oper) (hr : R[k]? = some r) (ho : ops[r.i]? = some o) (hc : cls o.op = .look) (hn : noAlloc V o.op = true) (hw : aWanted ops r.T o = true) (hlt : k < nb) (hle : nb ≤ R.length)
    (hbig : ∀ q, R[nb]? = some q → bigAt ops q = true) (hno : ∀ m q, k < m → m < nb → R[m]? = some q → bigAt ops q = true → anc (masks ops.toList []) r.i q.i = false) : aop V r.T (Hat R Hf nb) o.op = some (r.v, Hat R Hf nb) := by
  have hl := lookAll_ok hall k r o hr ho hc hw
  obtain ⟨H', hH⟩ := lookWin_ok hl (nb - (k + 1)) (by simp; omega) (fun q hq => hbig q (by simpa [show k + 1 + (nb - (k + 1)) = nb by omega] using hq)) (fun m q hm hq => hno (k + 1 + m) q (by omega) (by omega) (by simpa using hq))
  have e : Hat (R.drop (k + 1)) Hf (nb - (k + 1)) = Hat R Hf nb := by
    simp [Hat, show k + 1 + (nb - (k + 1)) = nb by omega]
  rw [e] at hH
  rw [hH, look_same hc hn hH]

theorem next_big (R : List Rec) (ops : Array Oper) : ∀ (d p : Nat), R.length - p = d → p ≤ R.length → ∃ q, p ≤ q ∧ q ≤ R.length ∧ (∀ r, R[q]? = some r → bigAt ops r = true) ∧ (∀ m r, p ≤ m → m < q → R[m]? = some r → bigAt ops r = false)
  | 0, p, hd, hp => ⟨p, Nat.le_refl _, hp, fun r hr => by have := (List.getElem?_eq_some_iff.1 hr).1; omega, fun m r h1 h2 => by omega⟩
  | d + 1, p, hd, hp => by
    have hlt : p < R.length := by omega
    cases hb : bigAt ops R[p] with
    | true => exact ⟨p, Nat.le_refl _, hp, fun r hr => by simp [hlt] at hr; subst hr; exact hb, fun m r h1 h2 => by omega⟩
    | false =>
      obtain ⟨q, h1, h2, h3, h4⟩ := next_big R ops d (p + 1) (by omega) (by omega)
      refine ⟨q, by omega, h2, h3, fun m r hm hm' hr => ?_⟩
      by_cases e : m = p
      · subst e; simp [hlt] at hr; subst hr; exact hb
      · exact h4 m r (by omega) hm' hr
end
end Go.Ev
