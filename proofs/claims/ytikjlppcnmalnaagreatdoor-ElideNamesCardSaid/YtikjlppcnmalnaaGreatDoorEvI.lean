/-
  EV, part I: more single operations: slices, making, building, lengths.
-/
import Derived.Test.YtikjlppcnmalnaaGreatDoorEvH
namespace Go.Ev
open Go.RowKit

variable {P : Program} {B0 : Nat} {ι : Emb} {H H' : AH} {w : World} {E : TypeId → Option TI}

/-! ### Slice expressions -/
/-- A bound: a number from 0 to y. -/
def bound (v : Value) (y : Nat) : Option Nat :=
  match v with
  | .int _ n => if 0 ≤ n ∧ n ≤ y then some n.toNat else none
  | _ => none

def optBound (v : Option Value) (d y : Nat) : Option Nat :=
  match v with
  | some v => bound v y
  | none => some d

/-- A living row's cells. -/
def AH.rowOf (H : AH) (b : Nat) (e : TypeId) : Option (List Value) :=
  match H.lo b with
  | .row et cells st g v => if H.alive (.row et cells st g v) && decide (et = e) then some cells else none
  | _ => none

/-- How far a slice whose capacity is not known reaches for sure. -/
def reach (cells : List Value) (off sz len : Nat) : Nat := max len ((cells.length - off) / sz)

def aSlice (E : TypeId → Option TI) (H : AH) (t : TypeId) (x : Value) (lo hi mx : Option Value) : Option Value :=
  match E t with
  | some ⟨.string, _, _, _⟩ => match x, mx with
    | .string s, none => match optBound hi s.size s.size with
      | some h => match optBound lo 0 h with
        | some l => some (.string (s.extract l h))
        | none => none
      | none => none
    | _, _ => none
  | some ⟨.slice e, _, _, _⟩ => match E e with
    | none => none
    | some te => match x with
      | .slice none 0 0 => match optBound mx 0 0, optBound hi 0 0, optBound lo 0 0 with
        | some _, some _, some _ => if mx.isSome && hi.isNone then none else some (.slice none 0 0)
        | _, _, _ => none
      | .slice (some ⟨b, off, none⟩) len cap =>
        if mx.isSome && hi.isNone then none else
        if cap = unk then
          if te.size = 0 then none else
          match H.rowOf b e with
          | none => none
          | some cells => match mx with
            | none => match optBound hi len (reach cells off te.size len) with
              | some h => match optBound lo 0 h with
                | some l => if l = 0 then some (.slice (some ⟨b, off, none⟩) h unk) else some (.slice (some ⟨b, off + l * te.size, none⟩) (h - l) unk)
                | none => none
              | none => none
            | some m => match bound m (reach cells off te.size len) with
              | some m => if (m = 0 ∧ len = 0) ∨ unk ≤ m then none else match optBound hi len m with
                | some h => match optBound lo 0 h with
                  | some l => some (.slice (some ⟨b, if m = l then off else off + l * te.size, none⟩) (h - l) (m - l))
                  | none => none
                | none => none
              | none => none
        else match optBound mx cap cap with
          | some m => match optBound hi len m with
            | some h => match optBound lo 0 h with
              | some l => some (.slice (some ⟨b, if m = l then off else off + l * te.size, none⟩) (h - l) (m - l))
              | none => none
            | none => none
          | none => none
      | _ => none
  | some ⟨.array n e, _, _, _⟩ => match E e with
    | none => none
    | some te => match x with
      | .pointer (some ⟨b, off, none⟩) => if (mx.isSome && hi.isNone) || decide (unk ≤ n) then none else match optBound mx n n with
        | some m => match optBound hi n m with
          | some h => match optBound lo 0 h with
            | some l => some (.slice (some ⟨b, if m = l then off else off + l * te.size, none⟩) (h - l) (m - l))
            | none => none
          | none => none
        | none => none
      | _ => none
  | _ => none

theorem bound_mono {v : Value} {y y' n : Nat} (h : bound v y = some n) (hy : y ≤ y') : bound v y' = some n := by
  unfold bound at *
  split at h
  · split at h
    · rename_i hc; cases h; rw [if_pos ⟨hc.1, by omega⟩]
    · cases h
  · cases h
theorem bound_le {v : Value} {y n : Nat} (h : bound v y = some n) : n ≤ y := by
  unfold bound at h
  split at h
  · split at h
    · rename_i hc; cases h; omega
    · cases h
  · cases h
theorem bound_run {v v' : Value} {y n : Nat} (hv : VRel ι v v') (h : bound v y = some n) (c : BoundsCode) : (Instr.sliceBound v' y c).run P w = .ok n w := by
  unfold bound at h
  split at h
  · cases hv
    split at h
    · rename_i hc; cases h; simp [Instr.sliceBound, asIntOf, hc]
    · cases h
  · cases h
theorem optBound_le {v : Option Value} {d y n : Nat} (h : optBound v d y = some n) (hd : d ≤ y) : n ≤ y := by
  cases v with
  | none => simp [optBound] at h; omega
  | some v => exact bound_le h

inductive ORel (ι : Emb) : Option Value → Option Value → Prop
  | none : ORel ι none none
  | some {v v' : Value} (h : VRel ι v v') : ORel ι (some v) (some v')

theorem bounds_run {lo hi mx lo' hi' mx' : Option Value} (hlo : ORel ι lo lo') (hhi : ORel ι hi hi') (hmx : ORel ι mx mx') {isSlice : Bool} {len cap l h m : Nat} (h0 : (mx.isSome && hi.isNone) = false)
    (h1 : optBound mx cap cap = some m) (h2 : optBound hi len m = some h) (h3 : optBound lo 0 h = some l) : (Instr.sliceBounds isSlice len cap lo' hi' mx').run P w = .ok (l, h, m) w := by
  cases hmx with
  | none =>
    simp only [optBound, Option.some.injEq] at h1; subst h1
    cases hhi with
    | none =>
      simp only [optBound, Option.some.injEq] at h2; subst h2
      cases hlo with
      | none => simp only [optBound, Option.some.injEq] at h3; subst h3; simp [Instr.sliceBounds]
      | some hl => simp only [optBound] at h3; simp [Instr.sliceBounds, bound_run hl h3]
    | some hh =>
      simp only [optBound] at h2
      cases hlo with
      | none => simp only [optBound, Option.some.injEq] at h3; subst h3; simp [Instr.sliceBounds, bound_run hh h2]
      | some hl => simp only [optBound] at h3; simp [Instr.sliceBounds, bound_run hh h2, bound_run hl h3]
  | some hm =>
    simp only [optBound] at h1
    cases hhi with
    | none => simp at h0
    | some hh =>
      simp only [optBound] at h2
      cases hlo with
      | none => simp only [optBound, Option.some.injEq] at h3; subst h3; simp [Instr.sliceBounds, bound_run hm h1, bound_run hh h2]
      | some hl => simp only [optBound] at h3; simp [Instr.sliceBounds, bound_run hm h1, bound_run hh h2, bound_run hl h3]

theorem rowOf_ok (h : HRel P B0 ι H w) {b : Nat} {e : TypeId} {l : ILoc} (hb : ι b = some l) {cells : List Value} (hr : H.rowOf b e = some cells) : ∃ st, RowOk P B0 ι w l e cells st := by
  unfold AH.rowOf at hr
  split at hr
  · rename_i et cells' st g v ho
    have ho := AH.lo_row ho
    split at hr
    · rename_i hc
      simp only [Bool.and_eq_true, decide_eq_true_eq] at hc
      cases hr
      have hO := h.obj b l hb (by rw [ho]; exact hc.1)
      rw [ho] at hO
      rw [← hc.2]
      exact ⟨st, hO⟩
    · cases hr
  · cases hr

theorem reach_ok {cells : List Value} {off len cap sz : Nat} {l : ILoc} (hl : len ≤ cap) (hz : 0 < sz) (hs : l.base + off + cap * sz = l.size) (hf : l.base + cells.length ≤ l.size) : reach cells off sz len ≤ cap := by
  unfold reach
  have : (cells.length - off) / sz ≤ cap := by
    have h1 : cells.length - off ≤ cap * sz := by omega
    calc (cells.length - off) / sz ≤ (cap * sz) / sz := Nat.div_le_div_right h1
      _ = cap := Nat.mul_div_cancel _ hz
  omega

theorem isSome_not {mx hi : Option Value} (h : ¬ (mx.isSome && hi.isNone) = true) : (mx.isSome && hi.isNone) = false := by
  cases e : (mx.isSome && hi.isNone) with
  | false => rfl
  | true => exact absurd e h

theorem aSlice_ok (hE : TOk E P) (h : HRel P B0 ι H w) {t : TypeId} {x x' v : Value} {lo hi mx lo' hi' mx' : Option Value} (hx : VRel ι x x') (hlo : ORel ι lo lo') (hhi : ORel ι hi hi') (hmx : ORel ι mx mx')
    (ha : aSlice E H t x lo hi mx = some v) : ∃ v', (Instr.sliceAt t x' lo' hi' mx').run P w = .ok v' w ∧ VRel ι v v' := by
  unfold aSlice at ha
  split at ha
  · rename_i sz by_ zv hti
    obtain ⟨j, hT⟩ := hE.get hti
    have hu : P.underlying t = some .string := hT.u
    split at ha
    · rename_i s
      split at ha
      · rename_i h' hh
        split at ha
        · rename_i l hl
          cases ha
          cases hx
          cases hmx
          have := bounds_run (P := P) (w := w) hlo hhi (.none (ι := ι)) (isSlice := false) (len := s.size) (cap := s.size) (by simp) rfl hh hl
          refine ⟨_, ?_, .string _⟩
          simp [Instr.sliceAt, Instr.slice, run_underlying' hu, this]
        · cases ha
      · cases ha
    · cases ha
  · rename_i e sz by_ zv hti
    obtain ⟨j, hT⟩ := hE.get hti
    have hu : P.underlying t = some (.slice e) := hT.u
    split at ha
    · cases ha
    · rename_i te hte
      obtain ⟨je, hTe⟩ := hE.get hte
      have run : ∀ (a : Option Addr) (len cap l h m : Nat), (Instr.sliceBounds true len cap lo' hi' mx').run P w = .ok (l, h, m) w →
          (Instr.sliceAt t (.slice a len cap) lo' hi' mx').run P w = .ok (.slice (if m = l then a else a.map (·.add (l * te.size))) (h - l) (m - l)) w := fun a len cap l h m hb => by
        simp [Instr.sliceAt, Instr.slice, run_underlying' hu, hb, run_sizeOf hTe]
      split at ha
      · split at ha
        · rename_i m h' l q1 q2 q3
          split at ha
          · cases ha
          · rename_i hn
            cases ha
            cases hx
            have e1 := optBound_le q1 (Nat.le_refl 0)
            have e2 := optBound_le q2 (Nat.le_refl 0)
            have e3 := optBound_le q3 (Nat.le_refl 0)
            obtain rfl : m = 0 := by omega
            obtain rfl : h' = 0 := by omega
            obtain rfl : l = 0 := by omega
            have := bounds_run (P := P) (w := w) hlo hhi hmx (isSlice := true) (len := 0) (cap := 0) (isSome_not hn) q1 q2 q3
            exact ⟨_, run _ _ _ _ _ _ this, by simpa using VRel.sliceNil⟩
        · cases ha
      · rename_i b off len cap
        split at ha
        · cases ha
        · rename_i hn
          have hn' := isSome_not hn
          split at ha
          · rename_i hcap
            subst hcap
            split at ha
            · cases ha
            · rename_i hpos
              split at ha
              · cases ha
              · rename_i cells hro
                cases hx with
                | slice hb hc hl => exact absurd hc (Nat.lt_irrefl _)
                | sliceUnk hb hl hs he =>
                  rename_i cap' lo_
                  obtain ⟨st, hR⟩ := rowOf_ok h hb hro
                  have hz : lo_.esz = te.size := by rw [← hR.esz, hTe.cellsOf]
                  rw [hz] at hs he
                  have hre := reach_ok (cells := cells) hl (by omega) hs hR.fits
                  split at ha
                  · -- no third bound
                    cases hmx
                    split at ha
                    · rename_i h' q2
                      split at ha
                      · rename_i l q3
                        have hh : optBound hi len cap' = some h' := by
                          cases hi with
                          | none => simpa [optBound] using q2
                          | some v => exact bound_mono (by simpa [optBound] using q2) hre
                        have hle : h' ≤ cap' := optBound_le hh hl
                        have hb3 := bounds_run (P := P) (w := w) hlo hhi (.none (ι := ι)) (isSlice := true) (by simp) rfl hh q3
                        have hlh : l ≤ h' := optBound_le q3 (Nat.zero_le _)
                        refine ⟨_, run _ _ _ _ _ _ hb3, ?_⟩
                        by_cases hl0 : l = 0
                        · subst hl0
                          rw [if_pos rfl] at ha; cases ha
                          simp only [Nat.zero_mul, Nat.sub_zero, Option.map_some, Addr.add_plain, Nat.add_zero, ite_self]
                          exact .sliceUnk hb hle (by rw [hz]; exact hs) (by rw [hz]; exact he)
                        · rw [if_neg hl0] at ha; cases ha
                          by_cases hml : cap' = l
                          · subst hml
                            obtain rfl : h' = cap' := by omega
                            rw [if_pos rfl, Nat.sub_self]
                            exact .sliceEnd _ hb (by omega)
                          · rw [if_neg hml]
                            simp only [Option.map_some, Addr.add_plain, Nat.add_assoc]
                            refine .sliceUnk hb (by omega) ?_ (by rw [hz]; exact he)
                            rw [hz, Nat.sub_mul]
                            have : l * te.size ≤ cap' * te.size := Nat.mul_le_mul_right _ (by omega)
                            omega
                      · cases ha
                    · cases ha
                  · -- a third bound
                    rename_i vm
                    split at ha
                    · rename_i m qm
                      split at ha
                      · cases ha
                      · rename_i hm0
                        split at ha
                        · rename_i h' q2
                          split at ha
                          · rename_i l q3
                            cases ha
                            have hm : optBound (some vm) cap' cap' = some m := bound_mono qm hre
                            have hb3 := bounds_run (P := P) (w := w) hlo hhi hmx (isSlice := true) (len := len) (cap := cap') hn' hm q2 q3
                            have hmc : m ≤ cap' := optBound_le hm (Nat.le_refl _)
                            have hhm : h' ≤ m := by
                              cases hi with
                              | none => simp at hn'
                              | some v => exact bound_le q2
                            have hlh : l ≤ h' := optBound_le q3 (Nat.zero_le _)
                            refine ⟨_, run _ _ _ _ _ _ hb3, ?_⟩
                            by_cases hml : m = l
                            · rw [if_pos hml, if_pos hml]
                              exact .slice hb (by omega) (by omega)
                            · rw [if_neg hml, if_neg hml]
                              simp only [Option.map_some, Addr.add_plain, Nat.add_assoc]
                              exact .slice hb (by omega) (by omega)
                          · cases ha
                        · cases ha
                    · cases ha
                | sliceEnd a hb hs =>
                  rename_i lo_
                  obtain ⟨st, hR⟩ := rowOf_ok h hb hro
                  have hf := hR.fits
                  have hr0 : reach cells off te.size 0 = 0 := by
                    unfold reach
                    rw [show cells.length - off = 0 by omega]
                    simp
                  rw [hr0] at ha
                  split at ha
                  · cases hmx
                    split at ha
                    · rename_i h' q2
                      split at ha
                      · rename_i l q3
                        have e2 := optBound_le q2 (Nat.le_refl 0)
                        obtain rfl : h' = 0 := by omega
                        have e3 := optBound_le q3 (Nat.le_refl 0)
                        obtain rfl : l = 0 := by omega
                        have hb3 := bounds_run (P := P) (w := w) hlo hhi (.none (ι := ι)) (isSlice := true) (len := 0) (cap := 0) (by simp) rfl q2 q3
                        rw [if_pos rfl] at ha; cases ha
                        exact ⟨_, run _ _ _ _ _ _ hb3, by simpa using VRel.sliceEnd a hb hs⟩
                      · cases ha
                    · cases ha
                  · split at ha
                    · rename_i m qm
                      have := bound_le qm
                      rw [if_pos (.inl ⟨by omega, rfl⟩)] at ha
                      cases ha
                    · cases ha
          · rename_i hcap
            split at ha
            · rename_i m q1
              split at ha
              · rename_i h' q2
                split at ha
                · rename_i l q3
                  cases ha
                  cases hx with
                  | slice hb hc hl =>
                    have hb3 := bounds_run (P := P) (w := w) hlo hhi hmx (isSlice := true) (len := len) (cap := cap) hn' q1 q2 q3
                    have hmc : m ≤ cap := optBound_le q1 (Nat.le_refl _)
                    have hhm : h' ≤ m := by
                      cases hi with
                      | none =>
                        cases mx with
                        | none => simp only [optBound, Option.some.injEq] at q1 q2; omega
                        | some v => simp at hn'
                      | some v => exact bound_le q2
                    have hlh : l ≤ h' := optBound_le q3 (Nat.zero_le _)
                    refine ⟨_, run _ _ _ _ _ _ hb3, ?_⟩
                    by_cases hml : m = l
                    · rw [if_pos hml, if_pos hml]
                      exact .slice hb (by omega) (by omega)
                    · rw [if_neg hml, if_neg hml]
                      simp only [Option.map_some, Addr.add_plain, Nat.add_assoc]
                      exact .slice hb (by omega) (by omega)
                  | sliceUnk => exact absurd rfl hcap
                  | sliceEnd => exact absurd rfl hcap
                  | sliceZ a =>
                    have hb3 := bounds_run (P := P) (w := w) hlo hhi hmx (isSlice := true) (len := 0) (cap := 0) hn' q1 q2 q3
                    have e1 := optBound_le q1 (Nat.le_refl 0)
                    obtain rfl : m = 0 := by omega
                    have e2 := optBound_le q2 (Nat.le_refl 0)
                    obtain rfl : h' = 0 := by omega
                    have e3 := optBound_le q3 (Nat.le_refl 0)
                    obtain rfl : l = 0 := by omega
                    refine ⟨_, run _ _ _ _ _ _ hb3, ?_⟩
                    simp only [Option.map_some, if_true, Nat.sub_self]
                    exact .sliceZ _
                · cases ha
              · cases ha
            · cases ha
      · cases ha
  · rename_i n e sz by_ zv hti
    obtain ⟨j, hT⟩ := hE.get hti
    have hu : P.underlying t = some (.array n e) := hT.u
    split at ha
    · cases ha
    · rename_i te hte
      obtain ⟨je, hTe⟩ := hE.get hte
      split at ha
      · rename_i b off
        split at ha
        · cases ha
        · rename_i hn0
          simp only [Bool.or_eq_true, decide_eq_true_eq, not_or] at hn0
          have hn' := isSome_not hn0.1
          split at ha
          · rename_i m q1
            split at ha
            · rename_i h' q2
              split at ha
              · rename_i l q3
                cases ha
                cases hx with
                | ptr hb =>
                  have hb3 := bounds_run (P := P) (w := w) hlo hhi hmx (isSlice := false) (len := n) (cap := n) hn' q1 q2 q3
                  have hmc : m ≤ n := optBound_le q1 (Nat.le_refl _)
                  have hhm : h' ≤ m := by
                    cases hi with
                    | none =>
                      cases mx with
                      | none => simp only [optBound, Option.some.injEq] at q1 q2; omega
                      | some v => simp at hn'
                    | some v => exact bound_le q2
                  have hlh : l ≤ h' := optBound_le q3 (Nat.zero_le _)
                  refine ⟨_, by simp only [Instr.sliceAt, Instr.sureAddr, Sem.run_bind, run_underlying' hu, Result.andThen_ok, Sem.run_pure, hb3, run_sizeOf hTe]; rfl, ?_⟩
                  by_cases hml : m = l
                  · rw [if_pos hml, if_pos hml]
                    exact .slice hb (by omega) (by omega)
                  · rw [if_neg hml, if_neg hml]
                    simp only [Addr.add_plain, Nat.add_assoc]
                    exact .slice hb (by omega) (by omega)
              · cases ha
            · cases ha
          · cases ha
      · cases ha
  · cases ha
end Go.Ev
