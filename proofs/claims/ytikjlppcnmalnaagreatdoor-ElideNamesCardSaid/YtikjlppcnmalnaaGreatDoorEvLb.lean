/-
  EV, kernel, part Lb: regions prepared: temporaries of a region lie in a row of their own; what is read later alone is put back.
-/
import Derived.Test.YtikjlppcnmalnaaGreatDoorEvLa
import Derived.Test.YtikjlppcnmalnaaGreatDoorEvSa
namespace Go.Ev
open Go.RowKit

variable {V : Env} {call : CallFn} {n : Nat} {ro : Option Nat}

/-- From this number on a '.tmp' names a temporary of the frame; below it a place in the region's own row, the newest first. -/
def far : Nat := 1048576

/-- How a prepared region fetches. -/
def gL (nG : Nat) (E : List Value) (T : PTree Value) : Ft
  | .tmp k => if k < far then E[k]? else T.get (k - far)
  | x => oval nG T x

inductive LI where
  | get (t : Tmp)
  | run (o : Op) (guard : Option (Operand × Bool))

def findR (ρ : List (Tmp × Nat)) (t : Tmp) : Option Nat :=
  match ρ with
  | [] => none
  | (u, p) :: ρ => match Nat.beq u t with
    | true => some p
    | false => findR ρ t

/-- Where an operand is found when c places are filled. -/
def resv (ρ : List (Tmp × Nat)) (c : Nat) : Operand → Operand
  | .tmp t => match findR ρ t with
    | some p => .tmp (c - 1 - p)
    | none => .tmp (far + t)
  | x => x

theorem resv_tame (ρ : List (Tmp × Nat)) (c : Nat) : Tame (resv ρ c) := fun x => by
  cases x with
  | tmp t => simp only [resv]; split <;> rfl
  | _ => rfl

/-- The place of a move's source, if it is in the row. -/
def srcOf (ρ : List (Tmp × Nat)) : Operand → Option Nat
  | .tmp t => findR ρ t
  | _ => none

def guardOf (all : Array Oper) (ρ : List (Tmp × Nat)) (c : Nat) : Option (Nat × Bool) → Option (Option (Operand × Bool))
  | none => some none
  | some (j, w) => match (all[j]?).bind (·.dst) with
    | some d => some (some (resv ρ c (.tmp d), w))
    | none => none

/-- A move of the region's own that is not done: the name alone is taken over. -/
def freeMove (ρ : List (Tmp × Nat)) (o : Oper) : Option (Tmp × Nat) :=
  match o.op, o.guard, o.dst with
  | .move x, none, some d => (srcOf ρ x).map (d, ·)
  | .assign x, none, some d => (srcOf ρ x).map (d, ·)
  | _, _, _ => none

def addR (d : Option Tmp) (c : Nat) (ρ : List (Tmp × Nat)) : List (Tmp × Nat) :=
  match d with
  | some d => (d, c) :: ρ
  | none => ρ

def dOk (n c : Nat) (o : Oper) : Bool := Nat.blt c far && (match o.dst with | some d => Nat.blt d n | none => true)

/-- Preparing a region's operations: what is to be done, where each temporary lies at the end, how many places are filled. -/
def comp (n : Nat) (all : Array Oper) : List Oper → List (Tmp × Nat) → Nat → Option (List LI × List (Tmp × Nat) × Nat)
  | [], ρ, c => some ([], ρ, c)
  | o :: os, ρ, c =>
    if dOk n c o then
      match freeMove ρ o with
      | some (d, p) => comp n all os ((d, p) :: ρ) c
      | none => match guardOf all ρ c o.guard with
        | none => none
        | some g =>
          let i : LI := match o.op, g with
            | .move (.tmp t), none => if (findR ρ t).isNone then .get t else .run (ren (resv ρ c) o.op) g
            | _, _ => .run (ren (resv ρ c) o.op) g
          match comp n all os (addR o.dst c ρ) (c + 1) with
          | some (is, r) => some (i :: is, r)
          | none => none
    else none

def wantL (g : Ft) : Option (Operand × Bool) → Option Bool
  | none => some true
  | some (x, w) => match g x with
    | some (.bool b) => some (b == w)
    | some _ => some false
    | none => none

def runLI (V : Env) (call : CallFn) : List LI → List Value → PTree Value → AH → Option (List Value × AH)
  | [], E, _, H => some (E, H)
  | .get t :: is, E, T, H => match T.get t with
    | some v => runLI V call is (v :: E) T H
    | none => none
  | .run o gd :: is, E, T, H => match wantL (gL V.nG E T) gd with
    | some true => match evOpG V call (gL V.nG E T) H o with
      | some (v, H') => runLI V call is (v :: E) T H'
      | none => none
    | some false => runLI V call is (undef :: E) T H
    | none => none

/-- What stands in the row of places, told from the oldest. -/
def atP (E : List Value) (c p : Nat) : Option Value := if p < c then E[c - 1 - p]? else none

theorem atP_cons {E : List Value} {c p : Nat} {v : Value} (hl : E.length = c) : atP (v :: E) (c + 1) p = if p = c then some v else atP E c p := by
  unfold atP
  by_cases h : p = c
  · subst h; simp
  · rw [if_neg h]
    by_cases h2 : p < c
    · rw [if_pos (show p < c + 1 by omega), if_pos h2, show c + 1 - 1 - p = (c - 1 - p) + 1 by omega]; simp
    · rw [if_neg (show ¬ p < c + 1 by omega), if_neg h2]

structure InvL (ρ : List (Tmp × Nat)) (c : Nat) (E : List Value) (T0 T : PTree Value) : Prop where
  len : E.length = c
  lim : c ≤ far
  pos : ∀ t p, findR ρ t = some p → p < c ∧ T.get t = atP E c p
  old : ∀ t, findR ρ t = none → T.get t = T0.get t

theorem findR_cons (d p t : Nat) (ρ : List (Tmp × Nat)) : findR ((d, p) :: ρ) t = if d = t then some p else findR ρ t := by
  simp only [findR]
  cases h : Nat.beq d t with
  | true => rw [if_pos (Nat.eq_of_beq_eq_true h)]
  | false => rw [if_neg (Nat.ne_of_beq_eq_false h)]

theorem InvL.fetch {ρ : List (Tmp × Nat)} {c : Nat} {E : List Value} {T0 T : PTree Value} (h : InvL ρ c E T0 T) (nG : Nat) : Ft.le (fun x => gL nG E T0 (resv ρ c x)) (oval nG T) := by
  intro x v hv
  cases x with
  | tmp t =>
    simp only [resv] at hv
    cases hf : findR ρ t with
    | none =>
      rw [hf] at hv
      simp only [gL] at hv
      rw [if_neg (show ¬ far + t < far by omega), Nat.add_sub_cancel_left] at hv
      simp only [oval]
      rw [h.old t hf]; exact hv
    | some p =>
      rw [hf] at hv
      obtain ⟨h1, h2⟩ := h.pos t p hf
      have := h.lim
      simp only [gL] at hv
      rw [if_pos (show c - 1 - p < far by omega)] at hv
      simp only [oval, h2, atP, if_pos h1]
      exact hv
  | const c => exact hv
  | global g => exact hv
  | func f => exact hv

theorem InvL.push {ρ : List (Tmp × Nat)} {c : Nat} {E : List Value} {T0 T T' : PTree Value} (h : InvL ρ c E T0 T) (hc : c < far) {d : Option Tmp} {v : Value} (hp : put n T d v = some T') :
    InvL (addR d c ρ) (c + 1) (v :: E) T0 T' := by
  have hold : ∀ t p, findR ρ t = some p → p < c + 1 ∧ T.get t = atP (v :: E) (c + 1) p := fun t p hf => by
    obtain ⟨h1, h2⟩ := h.pos t p hf
    rw [atP_cons h.len, if_neg (by omega)]
    exact ⟨by omega, h2⟩
  cases d with
  | none =>
    cases hp
    exact ⟨by simp [h.len], by omega, hold, h.old⟩
  | some d =>
    simp only [put] at hp
    split at hp
    · cases hp
      refine ⟨by simp [h.len], by omega, fun t p hf => ?_, fun t hf => ?_⟩
      · simp only [addR] at hf
        rw [findR_cons] at hf
        split at hf
        · rename_i e; subst e
          cases hf
          rw [atP_cons h.len, if_pos rfl, PTree.get_set_same]
          exact ⟨by omega, rfl⟩
        · rename_i e
          rw [PTree.get_set_ne _ _ (Ne.symm e)]
          exact hold t p hf
      · simp only [addR] at hf
        rw [findR_cons] at hf
        split at hf
        · cases hf
        · rename_i e
          rw [PTree.get_set_ne _ _ (Ne.symm e)]
          exact h.old t hf
    · cases hp

theorem put_lt {T : PTree Value} {d : Option Tmp} (h : (match d with | some d => Nat.blt d n | none => true) = true) (v : Value) : ∃ T', put n T d v = some T' := by
  cases d with
  | none => exact ⟨T, rfl⟩
  | some d => exact ⟨T.set d v, by simp only [put]; rw [if_pos (Nat.blt_eq.mp h)]⟩

theorem freeMove_ok {ρ : List (Tmp × Nat)} {o : Oper} {d p : Nat} (h : freeMove ρ o = some (d, p)) : ∃ t, (o.op = .move (.tmp t) ∨ o.op = .assign (.tmp t)) ∧ o.guard = none ∧ o.dst = some d ∧ findR ρ t = some p := by
  have key : ∀ x, (srcOf ρ x).map (d, ·) = some (d, p) → ∃ t, x = .tmp t ∧ findR ρ t = some p := fun x hx => by
    cases x with
    | tmp t =>
      simp only [srcOf] at hx
      obtain ⟨q, h1, h2⟩ := map_some hx
      cases h2
      exact ⟨t, rfl, h1⟩
    | _ => cases hx
  unfold freeMove at h
  split at h
  · rename_i x d' ho hg hd
    obtain ⟨q, h1, h2⟩ := map_some h
    cases h2
    obtain ⟨t, rfl, ht⟩ := key x (by rw [h1]; rfl)
    exact ⟨t, .inl ho, hg, hd, ht⟩
  · rename_i x d' ho hg hd
    obtain ⟨q, h1, h2⟩ := map_some h
    cases h2
    obtain ⟨t, rfl, ht⟩ := key x (by rw [h1]; rfl)
    exact ⟨t, .inr ho, hg, hd, ht⟩
  · cases h

theorem atP_some {E : List Value} {c p : Nat} (hl : E.length = c) (hp : p < c) : ∃ v, atP E c p = some v := by
  unfold atP
  rw [if_pos hp]
  exact ⟨_, List.getElem?_eq_getElem (by omega)⟩

theorem want_le {all : Array Oper} {ρ : List (Tmp × Nat)} {c : Nat} {E : List Value} {T0 T : PTree Value} {nG : Nat} (h : Ft.le (fun x => gL nG E T0 (resv ρ c x)) (oval nG T)) {o : Oper} {g : Option (Operand × Bool)} (hg : guardOf all ρ c o.guard = some g) {b : Bool} (hw : wantL (gL nG E T0) g = some b) :
    aSeen all T o = true ∧ aWanted all T o = b := by
  unfold guardOf at hg
  unfold aSeen aWanted
  split at hg
  · rename_i h0
    cases hg
    rw [h0]
    simp only [wantL, Option.some.injEq] at hw
    exact ⟨rfl, hw⟩
  · rename_i j w h0
    rw [h0]
    split at hg
    · rename_i d hd
      cases hg
      simp only [hd, aYielded]
      simp only [wantL] at hw
      split at hw
      · rename_i b' hb
        have := h _ _ hb
        simp only [oval] at this
        rw [this]
        cases hw
        refine ⟨rfl, ?_⟩
        simp only
        cases b' <;> cases w <;> rfl
      · rename_i v hne hb
        have := h _ _ hb
        simp only [oval] at this
        rw [this]
        cases hw
        refine ⟨rfl, ?_⟩
        cases v <;> first | rfl | exact absurd rfl (hne _)
      · cases hw
    · cases hg

theorem want_ok {all : Array Oper} {ρ : List (Tmp × Nat)} {c : Nat} {E : List Value} {T0 T : PTree Value} (h : InvL ρ c E T0 T) {o : Oper} {g : Option (Operand × Bool)} (hg : guardOf all ρ c o.guard = some g) {b : Bool} {nG : Nat} (hw : wantL (gL nG E T0) g = some b) :
    aSeen all T o = true ∧ aWanted all T o = b := want_le (h.fetch nG) hg hw

theorem comp_ok {all : Array Oper} : ∀ {l : List Oper} {ρ : List (Tmp × Nat)} {c : Nat} {is : List LI} {ρ' : List (Tmp × Nat)} {c' : Nat}, comp n all l ρ c = some (is, ρ', c') →
    ∀ {E E' : List Value} {T0 T : PTree Value} {H H' : AH}, InvL ρ c E T0 T → runLI V call is E T0 H = some (E', H') → ∃ T', evOps V call n all l T H = some (T', H') ∧ InvL ρ' c' E' T0 T'
  | [], ρ, c, is, ρ', c', hc, E, E', T0, T, H, H', hI, hr => by
    simp only [comp, Option.some.injEq, Prod.mk.injEq] at hc
    obtain ⟨rfl, rfl, rfl⟩ := hc
    simp only [runLI, Option.some.injEq, Prod.mk.injEq] at hr
    obtain ⟨rfl, rfl⟩ := hr
    exact ⟨T, rfl, hI⟩
  | o :: os, ρ, c, is, ρ', c', hc, E, E', T0, T, H, H', hI, hr => by
    simp only [comp] at hc
    split at hc
    case isFalse => cases hc
    rename_i hd
    unfold dOk at hd
    rw [Bool.and_eq_true] at hd
    have hcf : c < far := Nat.blt_eq.mp hd.1
    simp only [evOps]
    split at hc
    · rename_i d p hf
      obtain ⟨t, ho, hg, hdst, ht⟩ := freeMove_ok hf
      obtain ⟨hp, hT⟩ := hI.pos t p ht
      obtain ⟨v, hv⟩ := atP_some hI.len hp
      have hs : aSeen all T o = true := by unfold aSeen; rw [hg]
      have hw : aWanted all T o = true := by unfold aWanted; rw [hg]
      have hev : evOp V call T H o.op = some (v, H) := by
        rcases ho with ho | ho <;> rw [ho] <;> simp only [evOp, aop, oval, hT, hv, Option.map_some]
      rw [if_pos hs, if_pos hw, hev]
      simp only
      have hdn : d < n := by have := hd.2; rw [hdst] at this; exact Nat.blt_eq.mp this
      rw [hdst]
      simp only [put, if_pos hdn]
      refine comp_ok hc ⟨hI.len, hI.lim, fun u q hu => ?_, fun u hu => ?_⟩ hr
      · rw [findR_cons] at hu
        split at hu
        · rename_i e; subst e; cases hu
          exact ⟨hp, by rw [PTree.get_set_same, hv]⟩
        · rename_i e
          rw [PTree.get_set_ne _ _ (Ne.symm e)]; exact hI.pos u q hu
      · rw [findR_cons] at hu
        split at hu
        · cases hu
        · rename_i e
          rw [PTree.get_set_ne _ _ (Ne.symm e)]; exact hI.old u hu
    · split at hc
      · cases hc
      · rename_i g hgd
        split at hc
        · rename_i is' r hrec
          obtain ⟨ρ2, c2⟩ := r
          simp only [Option.some.injEq, Prod.mk.injEq] at hc
          obtain ⟨rfl, rfl, rfl⟩ := hc
          -- what is done
          have run : ∀ gd, guardOf all ρ c o.guard = some gd → runLI V call (.run (ren (resv ρ c) o.op) gd :: is') E T0 H = some (E', H') →
              ∃ T', (if aSeen all T o = true then (if aWanted all T o = true then (match evOp V call T H o.op with
                | some (v, H1) => (match put n T o.dst v with
                  | some T1 => evOps V call n all os T1 H1
                  | none => none)
                | none => none) else (match put n T o.dst undef with
                  | some T1 => evOps V call n all os T1 H
                  | none => none)) else none) = some (T', H') ∧ InvL ρ2 c2 E' T0 T' := fun gd hgd hr => by
            simp only [runLI] at hr
            split at hr
            · rename_i hw
              obtain ⟨w1, w2⟩ := want_ok hI hgd hw
              rw [if_pos w1, if_pos w2]
              split at hr
              · rename_i v H1 hev
                have h1 := evOpG_mono (hI.fetch V.nG) (evOpG_ren (resv_tame ρ c) hev)
                rw [← evOp_G] at h1
                rw [h1]
                simp only
                obtain ⟨T1, hT1⟩ := put_lt (T := T) hd.2 v
                rw [hT1]
                exact comp_ok hrec (hI.push hcf hT1) hr
              · cases hr
            · rename_i hw
              obtain ⟨w1, w2⟩ := want_ok hI hgd hw
              rw [if_pos w1, if_neg (by rw [w2]; simp)]
              obtain ⟨T1, hT1⟩ := put_lt (T := T) hd.2 undef
              rw [hT1]
              exact comp_ok hrec (hI.push hcf hT1) hr
            · cases hr
          split at hr
          · rename_i t ho
            split at hr
            · rename_i hn
              simp only [runLI] at hr
              split at hr
              · rename_i v hv
                have hg : o.guard = none := by
                  unfold guardOf at hgd
                  split at hgd
                  · assumption
                  · split at hgd <;> cases hgd
                have hs : aSeen all T o = true := by unfold aSeen; rw [hg]
                have hw : aWanted all T o = true := by unfold aWanted; rw [hg]
                have hfn : findR ρ t = none := by simpa using hn
                have hev : evOp V call T H o.op = some (v, H) := by
                  rw [ho]; simp only [evOp, aop, oval, hI.old t hfn, hv, Option.map_some]
                rw [if_pos hs, if_pos hw, hev]
                simp only
                obtain ⟨T1, hT1⟩ := put_lt (T := T) hd.2 v
                rw [hT1]
                exact comp_ok hrec (hI.push hcf hT1) hr
              · cases hr
            · exact run _ hgd hr
          · exact run _ hgd hr
        · cases hc
end Go.Ev
