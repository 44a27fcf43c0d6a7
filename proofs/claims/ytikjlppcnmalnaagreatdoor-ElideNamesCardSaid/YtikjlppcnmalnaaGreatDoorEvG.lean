/-
  EV, part G: append as a whole.
-/
import Derived.Test.YtikjlppcnmalnaaGreatDoorEvF
namespace Go.Ev
open Go.RowKit

variable {P : Program} {B0 : Nat} {ι : Emb} {H H' : AH} {w : World}

/-- append into the middle of a loose row, in place: all that shared it dies. -/
theorem HRel.cut (h : HRel P B0 ι H w) {b off k : Nat} {l : ILoc} (hb : ι b = some l) {et : TypeId} {cells : List Value} {g v : Nat} (ho : H.obj b = .row et cells .loose g v) (hv : H.ver g = v) (hoff : off + k ≤ cells.length)
    {new new' : List Value} (hn : LRel ι new new') {cs cs' : Array Value} {t : TypeId} {fr : Nat × Nat} {w' : World} (hc : w.heap[l.blk]? = some (.cells cs t fr)) (hroom : l.base + off + k + new.length ≤ l.size)
    (hc' : w'.heap[l.blk]? = some (.cells cs' t fr)) (hs : cs'.size = cs.size) (hg : ∀ j, cs'[j]? = if l.base + off + k ≤ j ∧ j < l.base + off + k + new'.length then new'[j - (l.base + off + k)]? else cs[j]?)
    (hheap : ∀ k, k ≠ l.blk → w'.heap[k]? = w.heap[k]?) (hsize : w'.heap.size = w.heap.size) (hos : w'.os = w.os) (htape : w'.tape = w.tape) (hout : w'.output = w.output) :
    Step P B0 ι H w (ι.ext H.next ⟨l.blk, l.base + off, l.size, l.esz⟩) (((H.put b .dead).bump g (v + 1)).alloc (.row et ((cells.drop off).take k ++ new) .loose g (v + 1))) w' := by
  obtain ⟨hk, key⟩ := h.kill hb ho hv
  have hab : H.alive (H.obj b) = true := by rw [ho]; simp [AH.alive, hv]
  have hOb := h.obj b l hb hab
  rw [ho] at hOb
  obtain ⟨⟨cs0, t0, fr0, h1, h2, h3, h4⟩, hf, he, hbb, _, _⟩ := hOb
  rw [hc] at h1; injection h1 with h1; injection h1 with e1 e2 e3; subst e1 e2 e3
  have hle : ι.le (ι.ext H.next ⟨l.blk, l.base + off, l.size, l.esz⟩) := Emb.le_ext (h.outside (Nat.le_refl _))
  have hB := hbb (by simp)
  generalize hK : (H.put b .dead).bump g (v + 1) = K at hk key ⊢
  have hKn : K.next = H.next := by rw [← hK]; rfl
  have hKv : K.ver g = v + 1 := by rw [← hK]; simp
  have hal : ∀ (o o' : AObj), (K.alloc o).alive o' = K.alive o' := fun o o' => by cases o' <;> rfl
  have sp : ∀ c l', ι.ext H.next ⟨l.blk, l.base + off, l.size, l.esz⟩ c = some l' → (c = H.next ∧ l' = ⟨l.blk, l.base + off, l.size, l.esz⟩) ∨ (c ≠ H.next ∧ ι c = some l') := fun c l' hc => by
    unfold Emb.ext at hc
    by_cases e : c = H.next
    · rw [if_pos e] at hc; cases hc; exact .inl ⟨e, rfl⟩
    · rw [if_neg e] at hc; exact .inr ⟨e, hc⟩
  refine ⟨hle, fun c l' hcl => ?_, by simp [hKn], ⟨by rw [hsize]; exact h.base, fun c l' hcl => ?_, fun c l' hcl ha => ?_, fun c c' lc lc' hne hcl hcl' ha ha' he' => ?_, fun c l' et' cells' st g' v' hcl hoc => ?_⟩, by omega, fun c _ hn' => hheap c fun e => hn' b l hb hab e.symm, fun c hcB => hheap c (by omega), fun c l' hcl hn' _ => ?_, fun c l' hcl ha => ?_, fun c hc hn' => by rw [AH.obj_alloc, hKn, if_neg (by omega), ← hK]; simp [show c ≠ b from fun e => by subst e; rw [hb] at hn'; cases hn'], hos, htape, hout⟩
  · rcases sp c l' hcl with ⟨rfl, rfl⟩ | ⟨_, k1⟩
    · exact .inr ⟨h.outside (Nat.le_refl _), Nat.le_refl _⟩
    · exact .inl k1
  · rcases sp c l' hcl with ⟨rfl, rfl⟩ | ⟨_, k1⟩
    · simp [hKn]
    · have := h.dom c l' k1; simp [hKn]; omega
  · rw [hal] at ha
    rw [AH.obj_alloc, hKn] at ha ⊢
    rcases sp c l' hcl with ⟨rfl, rfl⟩ | ⟨hcn, k1⟩
    · rw [if_pos rfl]
      have hlen : ((cells.drop off).take k).length = k := by simp; omega
      refine ⟨⟨cs', t, fr, hc', by simpa using hs.trans h2, fun i x hx => ?_, fun _ => h4 rfl⟩, by simp; omega, he, fun _ => hB, fun e => (nomatch e), fun e => (nomatch e)⟩
      by_cases hi : i < k
      · rw [List.getElem?_append_left (by omega), List.getElem?_take, if_pos hi, List.getElem?_drop] at hx
        obtain ⟨y, hy, hr⟩ := h3 _ _ hx
        refine ⟨y, ?_, hr.mono hle⟩
        show cs'[l.base + off + i]? = some y
        rw [hg, if_neg (by omega), show l.base + off + i = l.base + (off + i) by omega]
        exact hy
      · rw [List.getElem?_append_right (by omega), hlen] at hx
        obtain ⟨y, hy, hr⟩ := hn.get hx
        have hi2 : i - k < new'.length := (List.getElem?_eq_some_iff.1 hy).1
        refine ⟨y, ?_, hr.mono hle⟩
        show cs'[l.base + off + i]? = some y
        rw [hg, if_pos (by omega), show l.base + off + i - (l.base + off + k) = i - k by omega]
        exact hy
    · rw [if_neg hcn] at ha ⊢
      obtain ⟨q1, q2, q3⟩ := key c l' k1 ha
      exact (hk.obj c l' k1 ha).carry hle (hheap _ q3)
  · rw [hal] at ha ha'
    rw [AH.obj_alloc, hKn] at ha ha' ⊢
    rw [AH.obj_alloc, hKn]
    rcases sp c lc hcl with ⟨rfl, rfl⟩ | ⟨k0, k1⟩
    · rcases sp c' lc' hcl' with ⟨rfl, rfl⟩ | ⟨k0', k1'⟩
      · exact absurd rfl hne
      · rw [if_neg k0'] at ha'
        exact absurd he'.symm (key c' lc' k1' ha').2.2
    · rw [if_neg k0] at ha
      rcases sp c' lc' hcl' with ⟨rfl, rfl⟩ | ⟨k0', k1'⟩
      · exact absurd he' (key c lc k1 ha).2.2
      · rw [if_neg k0'] at ha'
        rw [if_neg k0, if_neg k0']
        exact hk.sep c c' lc lc' hne k1 k1' ha ha' he'
  · rw [AH.obj_alloc, hKn] at hoc
    have hgb := h.grp b l et cells .loose g v hb ho
    rcases sp c l' hcl with ⟨rfl, rfl⟩ | ⟨k0, k1⟩
    · rw [if_pos rfl] at hoc; cases hoc; simp [hKn, hKv]; omega
    · rw [if_neg k0] at hoc
      have := hk.grp c l' et' cells' st g' v' k1 hoc
      simp [hKn] at this ⊢; omega
  · rcases sp c l' hcl with ⟨rfl, rfl⟩ | ⟨k0, k1⟩
    · exact .inr ⟨b, l, hb, hab, rfl⟩
    · rw [hn'] at k1; cases k1
  · rw [hal] at ha
    have hcn : c ≠ H.next := fun e => by have := h.dom c l' hcl; omega
    rw [AH.obj_alloc, hKn, if_neg hcn] at ha
    exact (key c l' hcl ha).2.1

theorem LRel.oneCell {vs vs' : List Value} (hv : LRel ι vs vs') (h1 : ∀ v, v ∈ vs → v.oneCell' = true) : ∀ v', v' ∈ vs' → v'.oneCell' = true := fun v' hv' => by
  obtain ⟨i, hi, e⟩ := List.mem_iff_getElem.1 hv'
  have hi2 : i < vs.length := by rw [hv.length]; exact hi
  obtain ⟨y, hy, hr⟩ := hv.get (i := i) (x := vs[i]) (by simp [hi2])
  have : y = v' := by simp [hi] at hy; rw [← hy, e]
  subst this
  rw [hr.oneCell]; exact h1 _ (List.getElem_mem hi2)

theorem AH.rd_full {b : Nat} {et : TypeId} {cells : List Value} {g v : Nat} (hb : b < H.next) (ho : H.obj b = .row et cells .loose g v) (hv : H.ver g = v) (off n : Nat) (hle : off + n ≤ cells.length) : H.rd b off n = some ((cells.drop off).take n) := by
  simp [AH.rd, AH.lo_lt hb, ho, AH.alive, hv, hle]

theorem HRel.appendK (h : HRel P B0 ι H w) {t u ty e : TypeId} {ti : TI} {i : TypeInfo} (hT : TIs P e ti i)
    {s s' x : Value} (hs : VRel ι s s') {n : Nat} {new new' : List Value} (hn : LRel ι new new') (h1 : ∀ v, v ∈ new → v.oneCell' = true) (hnl : new.length = n * ti.size)
    (fits : ∀ (base : Option Addr) (sLen sCap : Nat), sLen + n ≤ sCap → (Builtin.append_ #[t, u] ty #[.slice base sLen sCap, x]).run P w = ((match base with | some a => Go.storeCells (a.add (sLen * ti.size)) new' | none => pure () : Sem Unit).run P w).andThen fun _ w' => .ok (.slice base (sLen + n) sCap) w')
    (grows : ∀ (base : Option Addr) (sLen sCap : Nat) (olds : List Value), (Builtin.firstCells ti.size sLen (.slice base sLen sCap)).run P w.drew = .ok olds.toArray w.drew → sCap < sLen + n → sLen + n < 4611686018427387904 → (sLen + n) * ti.bytes ≤ 140737488355328 →
      ∃ c, sLen + n ≤ c ∧ (Builtin.append_ #[t, u] ty #[.slice base sLen sCap, x]).run P w = .ok (.slice (some ⟨w.heap.size, 0, none⟩) (sLen + n) c) (w.drew.alloc (.cells ((olds ++ new').toArray ++ Builtin.zeroCells ti.zv.cells (c - (sLen + n))) e)))
    {v : Value} (ha : H.app e ti.size ti.bytes s n new = some (v, H')) :
    ∃ v' w' ι', (Builtin.append_ #[t, u] ty #[s', x]).run P w = .ok v' w' ∧ VRel ι' v v' ∧ Step P B0 ι H w ι' H' w' := by
  have hn1 := hn.oneCell h1
  have hnl' : new'.length = n * ti.size := by rw [← hn.length]; exact hnl
  unfold AH.app at ha
  cases hs with
  | sliceNil =>
    simp only at ha
    by_cases h0 : n = 0
    · rw [if_pos h0] at ha; cases ha
      subst h0
      refine ⟨_, w, ι, ?_, .sliceNil, Step.refl h⟩
      rw [fits none 0 0 (by omega)]
      simp
    · rw [if_neg h0] at ha
      split at ha
      · rename_i hb
        cases ha
        obtain ⟨c, hc, hr⟩ := grows none 0 0 [] (by simp [Builtin.firstCells]) (by omega) (by omega) (by simpa using hb.1)
        have hst := (h.drewN w.drew rfl).newLoose e e hn (Builtin.zeroCells ti.zv.cells (c - n))
        have hz := zeroCells_size ti.zv.cells (c - n)
        refine ⟨_, _, _, hr, ?_, (Step.drew h).trans (by simpa using hst)⟩
        rw [Nat.zero_add] at hc ⊢
        have := VRel.sliceUnk (ι := ι.ext H.next ⟨w.heap.size, 0, new.length + (Builtin.zeroCells ti.zv.cells (c - n)).size, P.cellsOf e⟩) (b := H.next) (off := 0) (len := n) (cap := c) (Emb.ext_same _ _ _) hc
          (by simp only [hz, hT.zsize, hnl, hT.cellsOf, Nat.zero_add]; rw [← Nat.add_mul]; congr 1; omega) (by simp only [hT.cellsOf]; exact hb.2.2)
        simpa using this
      · cases ha
  | slice hb hcu hl =>
    rename_i b off len cap l
    simp only at ha
    by_cases h0 : n = 0
    · rw [if_pos h0] at ha; cases ha
      subst h0
      have hnil : new' = [] := List.length_eq_zero_iff.1 (by simpa using hnl')
      subst hnil
      refine ⟨_, w, ι, ?_, .slice hb hcu hl, Step.refl h⟩
      rw [fits _ len cap (by omega)]
      simp [Go.storeCells]
    · rw [if_neg h0] at ha
      split at ha
      · cases ha
      · rename_i hbd
        rw [Decidable.not_not] at hbd
        rw [if_neg (Nat.ne_of_lt hcu)] at ha
        split at ha
        · rename_i hfit
          cases hw : H.wr b (off + len * ti.size) new with
          | none => rw [hw] at ha; cases ha
          | some H1 =>
            rw [hw] at ha; cases ha
            obtain ⟨w', hr, hst⟩ := h.storeCells hb hn h1 hw
            refine ⟨_, w', ι, ?_, .slice hb hcu hfit, hst⟩
            rw [fits _ len cap hfit]; simp only [Addr.add_plain]; rw [Nat.add_assoc, hr]; rfl
        · rename_i hfit
          cases hrd : H.rd b off (len * ti.size) with
          | none => rw [hrd] at ha; cases ha
          | some old =>
            rw [hrd] at ha; cases ha
            obtain ⟨olds', ho', hof⟩ := run_firstCells_ok h hb hrd len cap
            obtain ⟨c, hc, hr⟩ := grows _ len cap olds' (hof w.drew rfl) (by omega) (by omega) hbd.1
            have hst := (h.drewN w.drew rfl).newLoose e e (ho'.append hn) (Builtin.zeroCells ti.zv.cells (c - (len + n)))
            have hz := zeroCells_size ti.zv.cells (c - (len + n))
            have hol : old.length = len * ti.size := (h.rd hb hrd).1
            refine ⟨_, _, _, hr, ?_, (Step.drew h).trans (by simpa using hst)⟩
            have := VRel.sliceUnk (ι := ι.ext H.next ⟨w.heap.size, 0, (old ++ new).length + (Builtin.zeroCells ti.zv.cells (c - (len + n))).size, P.cellsOf e⟩) (b := H.next) (off := 0) (len := len + n) (cap := c) (Emb.ext_same _ _ _) hc
              (by simp only [hz, hT.zsize, hnl, hol, hT.cellsOf, Nat.zero_add, List.length_append]; rw [← Nat.add_mul, ← Nat.add_mul]; congr 1; omega) (by simp only [hT.cellsOf]; exact hbd.2.2)
            simpa using this
  | sliceUnk hb hl hsz hez =>
    rename_i b off len cap l
    simp only at ha
    by_cases h0 : n = 0
    · rw [if_pos h0] at ha; cases ha
      subst h0
      have hnil : new' = [] := List.length_eq_zero_iff.1 (by simpa using hnl')
      subst hnil
      refine ⟨_, w, ι, ?_, .sliceUnk hb hl hsz hez, Step.refl h⟩
      rw [fits _ len cap (by omega)]
      simp [Go.storeCells]
    · rw [if_neg h0] at ha
      split at ha
      · cases ha
      · rename_i hbd
        rw [Decidable.not_not] at hbd
        rw [if_pos trivial] at ha
        split at ha
        · rename_i et' cells g ve ho
          split at ha
          · rename_i hev
            obtain ⟨rfl, hve⟩ := hev
            have hab : H.alive (H.obj b) = true := by rw [ho]; simp [AH.alive, hve]
            have hOb := h.obj b l hb hab
            rw [ho] at hOb
            have hOb' : RowOk P B0 ι w l et' cells .loose := hOb
            have hesz : l.esz = ti.size := by rw [← hOb'.esz, hT.cellsOf]
            rw [hesz] at hsz
            have hfitb := hOb'.fits
            split at ha
            · rename_i hfit
              cases hw : H.wr b (off + len * ti.size) new with
              | none => rw [hw] at ha; cases ha
              | some H1 =>
                rw [hw] at ha; cases ha
                obtain ⟨w', hr, hst⟩ := h.storeCells hb hn h1 hw
                have hcap : len + n ≤ cap := by
                  have : (len + n) * ti.size ≤ cap * ti.size := by rw [Nat.add_mul]; omega
                  exact Nat.le_of_mul_le_mul_right this hbd.2.2
                refine ⟨_, w', ι, ?_, .sliceUnk hb hcap (by rw [hesz]; exact hsz) hez, hst⟩
                rw [fits _ len cap hcap]; simp only [Addr.add_plain]; rw [Nat.add_assoc, hr]; rfl
            · rename_i hnf
              obtain ⟨cs, t0, fr, hcs, hcsz, h3, h4⟩ := hOb'.ex
              by_cases hcap : len + n ≤ cap
              · have hmul : (len + n) * ti.size ≤ cap * ti.size := Nat.mul_le_mul_right _ hcap
                rw [Nat.add_mul] at hmul
                obtain ⟨w', cs', hr, k1, k2, k3, k4, k5, k6, k7, k8⟩ := run_storeCells (P := P) (t := t0) (fr := fr) new' (l.base + off + len * ti.size) 0 w cs hcs (by rw [hnl', hcsz]; omega) (by rw [hcsz]; exact h4 rfl) hn1
                simp only [Nat.add_zero] at k3
                have hrun : (Builtin.append_ #[t, u] ty #[.slice (some ⟨l.blk, l.base + off, none⟩) len cap, x]).run P w = .ok (.slice (some ⟨l.blk, l.base + off, none⟩) (len + n) cap) w' := by
                  rw [fits _ len cap hcap]; simp only [Addr.add_plain]; rw [hr]; rfl
                split at ha
                · rename_i hend
                  cases ha
                  have hst := h.tip hb ho hve (by omega : off ≤ cells.length) hn hcs (by rw [hnl]; omega) k1 k2 (fun j => by rw [k3 j, ← hend, ← Nat.add_assoc]) k4 k5 k6 k7 k8
                  exact ⟨_, w', _, hrun, by simpa using VRel.sliceUnk (b := H.next) (off := 0) (Emb.ext_same ι H.next ⟨l.blk, l.base + off, l.size, l.esz⟩) hcap (by simp only [hesz, Nat.add_zero]; exact hsz) hez, hst⟩
                · split at ha
                  · rename_i hlt
                    cases ha
                    have hst := h.cut hb ho hve (by omega : off + len * ti.size ≤ cells.length) hn hcs (by rw [hnl]; omega) k1 k2 k3 k4 k5 k6 k7 k8
                    exact ⟨_, w', _, hrun, by simpa using VRel.sliceUnk (b := H.next) (off := 0) (Emb.ext_same ι H.next ⟨l.blk, l.base + off, l.size, l.esz⟩) hcap (by simp only [hesz, Nat.add_zero]; exact hsz) hez, hst⟩
                  · cases ha
              · split at ha
                · rename_i hend
                  cases ha
                  have hrd := AH.rd_full (h.dom _ _ hb) ho hve off (len * ti.size) (by omega)
                  have htk : (cells.drop off).take (len * ti.size) = cells.drop off := List.take_of_length_le (by simp; omega)
                  rw [htk] at hrd
                  obtain ⟨olds', ho', hof⟩ := run_firstCells_ok h hb hrd len cap
                  obtain ⟨c, hc, hr⟩ := grows _ len cap olds' (hof w.drew rfl) (by omega) (by omega) hbd.1
                  have hret := (h.drewN w.drew rfl).retire hb ho
                  have hz := zeroCells_size ti.zv.cells (c - (len + n))
                  have hdl : (cells.drop off).length = len * ti.size := by simp; omega
                  have hst := hret.alloc (.row et' (cells.drop off ++ new) .loose g ve) (.cells ((olds' ++ new').toArray ++ Builtin.zeroCells ti.zv.cells (c - (len + n))) et')
                    ⟨w.heap.size, 0, (cells.drop off ++ new).length + (Builtin.zeroCells ti.zv.cells (c - (len + n))).size, P.cellsOf et'⟩ rfl
                    ⟨⟨_, _, _, heap_new w.drew _, by simp [ho'.length, hn.length], fun j x hx => by
                      obtain ⟨y, hy, hrr⟩ := (ho'.append hn).get hx
                      refine ⟨y, ?_, hrr.mono (Emb.le_ext (h.outside (Nat.le_refl _)))⟩
                      have : j < (olds' ++ new').length := (List.getElem?_eq_some_iff.1 hy).1
                      simp only [Nat.zero_add]
                      rw [Array.getElem?_append_left (by simpa using this)]
                      simpa using hy, fun _ j _ => by simp⟩, by simp, rfl, fun _ => h.base, fun e => (nomatch e), fun e => (nomatch e)⟩
                    (fun _ _ _ _ _ e => by cases e; have := h.grp b l et' cells .loose g ve hb ho; simp; omega)
                  refine ⟨_, _, _, hr, ?_, (Step.drew h).trans (hst.weaken (by rfl) (fun c' l' hc' ha' => ?_) (fun c' hc' => by simp [show c' ≠ b from fun e => by subst e; rw [hb] at hc'; cases hc']))⟩
                  · have := VRel.sliceUnk (ι := ι.ext H.next ⟨w.heap.size, 0, (cells.drop off ++ new).length + (Builtin.zeroCells ti.zv.cells (c - (len + n))).size, P.cellsOf et'⟩) (b := H.next) (off := 0) (len := len + n) (cap := c) (Emb.ext_same _ _ _) hc
                      (by simp only [hz, hT.zsize, hnl, hdl, hT.cellsOf, Nat.zero_add, List.length_append]; rw [← Nat.add_mul, ← Nat.add_mul]; congr 1; omega) (by simp only [hT.cellsOf]; exact hbd.2.2)
                    simpa using this
                  · by_cases e : c' = b
                    · subst e; exact hab
                    · rw [AH.obj_put, if_neg e] at ha'; cases hoc : H.obj c' <;> rw [hoc] at ha' <;> exact ha'
                · split at ha
                  · rename_i hlt
                    cases ha
                    have hrd := AH.rd_full (h.dom _ _ hb) ho hve off (len * ti.size) (by omega)
                    obtain ⟨olds', ho', hof⟩ := run_firstCells_ok h hb hrd len cap
                    obtain ⟨c, hc, hr⟩ := grows _ len cap olds' (hof w.drew rfl) (by omega) (by omega) hbd.1
                    obtain ⟨hkl, key⟩ := (h.drewN w.drew rfl).kill hb ho hve
                    have hz := zeroCells_size ti.zv.cells (c - (len + n))
                    have hdl : ((cells.drop off).take (len * ti.size)).length = len * ti.size := by simp; omega
                    have hst := hkl.alloc (.row et' ((cells.drop off).take (len * ti.size) ++ new) .loose g (ve + 1)) (.cells ((olds' ++ new').toArray ++ Builtin.zeroCells ti.zv.cells (c - (len + n))) et')
                      ⟨w.heap.size, 0, ((cells.drop off).take (len * ti.size) ++ new).length + (Builtin.zeroCells ti.zv.cells (c - (len + n))).size, P.cellsOf et'⟩ rfl
                      ⟨⟨_, _, _, heap_new w.drew _, by simp only [Array.size_append, List.size_toArray, List.length_append]; rw [← ho'.length, hn.length], fun j x hx => by
                        obtain ⟨y, hy, hrr⟩ := (ho'.append hn).get hx
                        refine ⟨y, ?_, hrr.mono (Emb.le_ext (h.outside (Nat.le_refl _)))⟩
                        have : j < (olds' ++ new').length := (List.getElem?_eq_some_iff.1 hy).1
                        simp only [Nat.zero_add]
                        rw [Array.getElem?_append_left (by simpa using this)]
                        simpa using hy, fun _ j _ => by simp⟩, by simp only [Nat.zero_add]; omega, rfl, fun _ => h.base, fun e => (nomatch e), fun e => (nomatch e)⟩
                      (fun _ _ _ _ _ e => by cases e; have := h.grp b l et' cells .loose g ve hb ho; simp; omega)
                    refine ⟨_, _, _, hr, ?_, (Step.drew h).trans (hst.weaken (by rfl) (fun c' l' hc' ha' => (key c' l' hc' ha').2.1) (fun c' hc' => by simp [show c' ≠ b from fun e => by subst e; rw [hb] at hc'; cases hc']))⟩
                    have := VRel.sliceUnk (ι := ι.ext H.next ⟨w.heap.size, 0, ((cells.drop off).take (len * ti.size) ++ new).length + (Builtin.zeroCells ti.zv.cells (c - (len + n))).size, P.cellsOf et'⟩) (b := H.next) (off := 0) (len := len + n) (cap := c) (Emb.ext_same _ _ _) hc
                        (by simp only [hz, hT.zsize, hnl, hdl, hT.cellsOf, Nat.zero_add, List.length_append]; rw [← Nat.add_mul, ← Nat.add_mul]; congr 1; omega) (by simp only [hT.cellsOf]; exact hbd.2.2)
                    simpa using this
                  · cases ha
          · cases ha
        · cases ha
  | sliceZ a =>
    rename_i b off
    simp only at ha
    by_cases h0 : n = 0
    · rw [if_pos h0] at ha; cases ha
      subst h0
      have hnil : new' = [] := List.length_eq_zero_iff.1 (by simpa using hnl')
      subst hnil
      refine ⟨_, w, ι, ?_, .sliceZ a, Step.refl h⟩
      rw [fits _ 0 0 (by omega)]
      simp [Go.storeCells]
    · rw [if_neg h0] at ha
      split at ha
      · cases ha
      · rename_i hbd
        rw [Decidable.not_not] at hbd
        rw [if_neg (show ¬ (0 = unk) by decide), if_neg (show ¬ (0 + n ≤ 0) by omega)] at ha
        split at ha
        · rename_i old hold
          have ho0 : old = [] := by
            unfold AH.rd at hold
            split at hold
            · split at hold
              · cases hold; simp
              · cases hold
            · cases hold
          subst ho0
          cases ha
          obtain ⟨c, hc, hr⟩ := grows (some a) 0 0 [] (by simp [Builtin.firstCells, Go.loadCells, loadCellsFrom]) (by omega) (by omega) hbd.1
          have hst := (h.drewN w.drew rfl).newLoose e e hn (Builtin.zeroCells ti.zv.cells (c - n))
          have hz := zeroCells_size ti.zv.cells (c - n)
          refine ⟨_, _, _, hr, ?_, (Step.drew h).trans (by simpa using hst)⟩
          rw [Nat.zero_add] at hc ⊢
          have := VRel.sliceUnk (ι := ι.ext H.next ⟨w.heap.size, 0, new.length + (Builtin.zeroCells ti.zv.cells (c - n)).size, P.cellsOf e⟩) (b := H.next) (off := 0) (len := n) (cap := c) (Emb.ext_same _ _ _) hc
            (by simp only [hz, hT.zsize, hnl, hT.cellsOf, Nat.zero_add]; rw [← Nat.add_mul]; congr 1; omega) (by simp only [hT.cellsOf]; exact hbd.2.2)
          simpa using this
        · cases ha
  | sliceEnd a hb hsz =>
    rename_i b off l
    simp only at ha
    by_cases h0 : n = 0
    · rw [if_pos h0] at ha; cases ha
      subst h0
      have hnil : new' = [] := List.length_eq_zero_iff.1 (by simpa using hnl')
      subst hnil
      refine ⟨_, w, ι, ?_, .sliceEnd a hb hsz, Step.refl h⟩
      rw [fits _ 0 0 (by omega)]
      simp [Go.storeCells]
    · rw [if_neg h0] at ha
      split at ha
      · cases ha
      · rename_i hbd
        rw [Decidable.not_not] at hbd
        rw [if_pos trivial] at ha
        split at ha
        · rename_i et' cells g ve ho
          split at ha
          · rename_i hev
            obtain ⟨rfl, hve⟩ := hev
            have hab : H.alive (H.obj b) = true := by rw [ho]; simp [AH.alive, hve]
            have hOb := h.obj b l hb hab
            rw [ho] at hOb
            have hOb' : RowOk P B0 ι w l et' cells .loose := hOb
            have hfitb := hOb'.fits
            have hpos : 0 < n * ti.size := Nat.mul_pos (by omega) hbd.2.2
            have hno : ¬ (off + 0 * ti.size + n * ti.size ≤ cells.length) := by omega
            rw [if_neg hno] at ha
            split at ha
            · rename_i hend
              cases ha
              have hdn : cells.drop off = [] := List.drop_of_length_le (by omega)
              obtain ⟨c, hc, hr⟩ := grows (some a) 0 0 [] (by simp [Builtin.firstCells, Go.loadCells, loadCellsFrom]) (by omega) (by omega) hbd.1
              have hret := (h.drewN w.drew rfl).retire hb ho
              have hst := hret.alloc (.row et' (cells.drop off ++ new) .loose g ve) (.cells (([] ++ new').toArray ++ Builtin.zeroCells ti.zv.cells (c - (0 + n))) et')
                ⟨w.heap.size, 0, (cells.drop off ++ new).length + (Builtin.zeroCells ti.zv.cells (c - (0 + n))).size, P.cellsOf et'⟩ rfl
                ⟨⟨_, _, _, heap_new w.drew _, by simp [hdn, hn.length], fun j x hx => by
                  rw [hdn] at hx
                  obtain ⟨y, hy, hrr⟩ := hn.get (by simpa using hx)
                  refine ⟨y, ?_, hrr.mono (Emb.le_ext (h.outside (Nat.le_refl _)))⟩
                  have : j < new'.length := (List.getElem?_eq_some_iff.1 hy).1
                  simp only [Nat.zero_add]
                  rw [Array.getElem?_append_left (by simpa using this)]
                  simpa using hy, fun _ j _ => by simp⟩, by simp, rfl, fun _ => h.base, fun e => (nomatch e), fun e => (nomatch e)⟩
                (fun _ _ _ _ _ e => by cases e; have := h.grp b l et' cells .loose g ve hb ho; simp; omega)
              refine ⟨_, _, _, hr, ?_, (Step.drew h).trans (hst.weaken (by rfl) (fun c' l' hc' ha' => ?_) (fun c' hc' => by simp [show c' ≠ b from fun e => by subst e; rw [hb] at hc'; cases hc']))⟩
              · have := VRel.sliceUnk (ι := ι.ext H.next ⟨w.heap.size, 0, (cells.drop off ++ new).length + (Builtin.zeroCells ti.zv.cells (c - (0 + n))).size, P.cellsOf et'⟩) (b := H.next) (off := 0) (len := 0 + n) (cap := c) (Emb.ext_same _ _ _) hc
                  (by simp only [hnl, hdn, hT.cellsOf, Nat.zero_add, List.length_append, List.length_nil, zeroCells_size, hT.zsize]; rw [← Nat.add_mul]; congr 1; omega) (by simp only [hT.cellsOf]; exact hbd.2.2)
                simpa using this
              · by_cases e : c' = b
                · subst e; exact hab
                · rw [AH.obj_put, if_neg e] at ha'; cases hoc : H.obj c' <;> rw [hoc] at ha' <;> exact ha'
            · rw [if_neg (by omega)] at ha
              cases ha
          · cases ha
        · cases ha
  | _ => simp at ha

theorem HRel.append (h : HRel P B0 ι H w) {t u ty e : TypeId} {ti : TI} {i : TypeInfo} (ht : P.underlying t = some (.slice e)) (hT : TIs P e ti i) {d : TypeDesc} (hu : P.underlying u = some d) (hd : ∀ k, d ≠ .int k)
    {s s' x : Value} (hs : VRel ι s s') {n : Nat} {new new' : List Value} (hn : LRel ι new new') (h1 : ∀ v, v ∈ new → v.oneCell' = true) (hnl : new.length = n * ti.size) (hlen : (Builtin.lenOf x).run P w = .ok n w)
    (hnew : ∀ w2 : World, w2.heap = w.heap → (Builtin.firstCells ti.size n x).run P w2 = .ok new'.toArray w2) {v : Value} (ha : H.app e ti.size ti.bytes s n new = some (v, H')) :
    ∃ v' w' ι', (Builtin.append_ #[t, u] ty #[s', x]).run P w = .ok v' w' ∧ VRel ι' v v' ∧ Step P B0 ι H w ι' H' w' :=
  h.appendK hT hs hn h1 hnl (fun base sLen sCap hg => run_append_fits (P := P) (w := w) t u ty e ti i ht hT hu hd base sLen sCap new' x n hlen (hnew w rfl) hg)
    (fun base sLen sCap olds ho hg => run_append_grows (P := P) (w := w) t u ty e ti i ht hT hu hd base sLen sCap olds new' x n hlen ho (hnew w.drew rfl) hg) ha

/-- So many zeros are appended. -/
theorem HRel.append0 (h : HRel P B0 ι H w) {t u ty e : TypeId} {ti : TI} {i : TypeInfo} (ht : P.underlying t = some (.slice e)) (hT : TIs P e ti i) {k kk : IntKind} (hu : P.underlying u = some (.int k))
    {s s' : Value} (hs : VRel ι s s') {n : Nat} (hn62 : n < 4611686018427387904) (hfit : n * ti.bytes ≤ 140737488355328) (hp : ∀ v, v ∈ (Builtin.zeroCells ti.zv.cells n).toList → plain v = true ∧ v.oneCell' = true) {v : Value} (ha : H.app e ti.size ti.bytes s n (Builtin.zeroCells ti.zv.cells n).toList = some (v, H')) :
    ∃ v' w' ι', (Builtin.append_ #[t, u] ty #[s', .int kk n]).run P w = .ok v' w' ∧ VRel ι' v v' ∧ Step P B0 ι H w ι' H' w' :=
  h.appendK hT hs (LRel.of_plain fun v hv => (hp v hv).1) (fun v hv => (hp v hv).2) (by rw [Array.length_toList, zeroCells_size, hT.zsize]) (fun base sLen sCap hg => run_append_fits0 (P := P) (w := w) t u ty e ti i ht hT hu base sLen sCap n hn62 hfit hg)
    (fun base sLen sCap olds ho hg => run_append_grows0 (P := P) (w := w) t u ty e ti i ht hT hu base sLen sCap olds n ho hg) ha
end Go.Ev
