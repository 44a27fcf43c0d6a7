/-
  EV, part U: regions that draw their order: the run in the chosen order serves every order.
-/
import Derived.Test.YtikjlppcnmalnaaGreatDoorEvT
namespace Go.Ev
open Go.RowKit

variable {B0 : Nat} {V : Env} {call : CallFn}

/-! ### The same value? -/
def same0 : Value → Value → Bool
  | .bool a, .bool b => a == b
  | .int j a, .int k b => decide (j = k) && decide (a = b)
  | .string a, .string b => decide (a = b)
  | .pointer a, .pointer b => decide (a = b)
  | .slice a n c, .slice b m d => decide (a = b) && decide (n = m) && decide (c = d)
  | .map a, .map b => decide (a = b)
  | .nilFunc, .nilFunc => true
  | .nilIface, .nilIface => true
  | _, _ => false
theorem same0_eq {a b : Value} (h : same0 a b = true) : a = b := by
  unfold same0 at h
  split at h <;> simp at h <;> first | (obtain ⟨⟨rfl, rfl⟩, rfl⟩ := h; rfl) | (obtain ⟨rfl, rfl⟩ := h; rfl) | (subst h; rfl) | rfl
def sameL : List Value → List Value → Bool
  | [], [] => true
  | a :: as, b :: bs => same0 a b && sameL as bs
  | _, _ => false
theorem sameL_eq : ∀ {a b : List Value}, sameL a b = true → a = b
  | [], [], _ => rfl
  | a :: as, b :: bs, h => by simp [sameL] at h; rw [same0_eq h.1, sameL_eq h.2]
  | [], _ :: _, h => by simp [sameL] at h
  | _ :: _, [], h => by simp [sameL] at h
def sameV : Value → Value → Bool
  | .agg a, .agg b => sameL a.toList b.toList
  | .tuple a, .tuple b => sameL a.toList b.toList
  | .iface t v, .iface u x => decide (t = u) && same0 v x
  | .func f a b, .func g c d => decide (f = g) && sameL a.toList c.toList && sameL b.toList d.toList
  | a, b => same0 a b
theorem sameV_eq {a b : Value} (h : sameV a b = true) : a = b := by
  unfold sameV at h
  split at h
  · rw [Array.ext' (sameL_eq h)]
  · rw [Array.ext' (sameL_eq h)]
  · simp at h; rw [h.1, same0_eq h.2]
  · simp at h; rw [h.1.1, Array.ext' (sameL_eq h.1.2), Array.ext' (sameL_eq h.2)]
  · exact same0_eq h

/-! ### The checks of the run -/
def bigAt (ops : Array Oper) (r : Rec) : Bool :=
  match ops[r.i]? with
  | some o => cls o.op == .big
  | none => false

def lookWin (V : Env) (ops : Array Oper) (ms : List Nat) (Hf : AH) (r : Rec) (o : Op) : List Rec → Bool
  | [] => match aop V r.T Hf o with
    | some (v, _) => sameV v r.v
    | none => false
  | q :: rs => if bigAt ops q then (match aop V r.T q.H o with
      | some (v, _) => sameV v r.v
      | none => false) && (anc ms r.i q.i || lookWin V ops ms Hf r o rs)
    else lookWin V ops ms Hf r o rs

def lookAll (V : Env) (ops : Array Oper) (ms : List Nat) (Hf : AH) : List Rec → Bool
  | [] => true
  | r :: rs => (match ops[r.i]? with
      | some o => if cls o.op = .look ∧ aWanted ops r.T o = true then lookWin V ops ms Hf r o.op rs else true
      | none => false) && lookAll V ops ms Hf rs

/-- A region that draws its order. -/
def drawEv (V : Env) : CallFn → Nat → Array Oper → PTree Value → AH → Option (PTree Value × AH) := fun call n ops T H =>
  if orderOk ops (orderOf ops) then
    match runSeq V call n ops (orderOf ops) T H with
    | some (rs, Tf, Hf) => if lookAll V ops (masks ops.toList []) Hf rs then some (Tf, Hf) else none
    | none => none
  else none

def Hat (R : List Rec) (Hf : AH) (k : Nat) : AH := ((R[k]?).map (·.H)).getD Hf
def Tat (R : List Rec) (Tf : PTree Value) (k : Nat) : PTree Value := ((R[k]?).map (·.T)).getD Tf

theorem runSeq_len {n : Nat} {ops : Array Oper} : ∀ {σ : List Nat} {T : PTree Value} {H : AH} {R : List Rec} {Tf : PTree Value} {Hf : AH}, runSeq V call n ops σ T H = some (R, Tf, Hf) → R.map (·.i) = σ
  | [], T, H, R, Tf, Hf, h => by simp [runSeq] at h; obtain ⟨rfl, _⟩ := h; rfl
  | i :: σ, T, H, R, Tf, Hf, h => by
    simp only [runSeq] at h
    split at h
    · split at h
      · split at h
        · split at h
          · rename_i rs Tf' Hf' hr
            cases h
            simp [runSeq_len hr]
          · cases h
        · cases h
      · cases h
    · cases h

theorem runSeq_zero {n : Nat} {ops : Array Oper} {σ : List Nat} {T : PTree Value} {H : AH} {R : List Rec} {Tf : PTree Value} {Hf : AH} (h : runSeq V call n ops σ T H = some (R, Tf, Hf)) : Hat R Hf 0 = H ∧ Tat R Tf 0 = T := by
  cases σ with
  | nil => simp [runSeq] at h; obtain ⟨rfl, rfl, rfl⟩ := h; exact ⟨rfl, rfl⟩
  | cons i σ =>
    simp only [runSeq] at h
    split at h
    · split at h
      · split at h
        · split at h
          · cases h; exact ⟨rfl, rfl⟩
          · cases h
        · cases h
      · cases h
    · cases h

theorem runSeq_step {n : Nat} {ops : Array Oper} : ∀ {σ : List Nat} {T : PTree Value} {H : AH} {R : List Rec} {Tf : PTree Value} {Hf : AH}, runSeq V call n ops σ T H = some (R, Tf, Hf) → ∀ (k : Nat) (r : Rec), R[k]? = some r →
    ∃ o, ops[r.i]? = some o ∧ stepOp V call ops r.T r.H o = some (r.v, r.H') ∧ put n r.T o.dst r.v = some (Tat R Tf (k + 1)) ∧ Hat R Hf (k + 1) = r.H'
  | [], T, H, R, Tf, Hf, h => by simp [runSeq] at h; obtain ⟨rfl, _⟩ := h; intro k r hk; simp at hk
  | i :: σ, T, H, R, Tf, Hf, h => by
    simp only [runSeq] at h
    split at h
    · rename_i o ho
      split at h
      · rename_i v H' hs
        split at h
        · rename_i T' hp
          split at h
          · rename_i rs Tf' Hf' hr
            cases h
            intro k r hk
            cases k with
            | zero =>
              simp at hk; subst hk
              obtain ⟨z1, z2⟩ := runSeq_zero hr
              refine ⟨o, ho, hs, ?_, ?_⟩
              · rw [hp]; congr 1
                rw [← z2]; simp [Tat]
              · rw [← z1]; simp [Hat]
            | succ k =>
              obtain ⟨o', a, b, c, d⟩ := runSeq_step hr k r (by simpa using hk)
              exact ⟨o', a, b, by rw [c]; simp [Tat], by rw [← d]; simp [Hat]⟩
          · cases h
        · cases h
      · cases h
    · cases h
end Go.Ev
