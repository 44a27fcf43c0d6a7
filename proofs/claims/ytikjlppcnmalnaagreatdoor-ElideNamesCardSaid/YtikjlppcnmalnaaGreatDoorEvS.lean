/-
  EV, part S: regions that draw their order: the run in one chosen order, and what is asked of it.
-/
import Derived.Test.YtikjlppcnmalnaaGreatDoorEvQ
namespace Go.Ev
open Go.RowKit

inductive Cls where
  | look | create | big
  deriving DecidableEq

def cls : Op → Cls
  | .move _ | .assign _ | .pick .. | .build .. | .nilCheck _ | .binOp .. | .unOp .. | .makeInterface .. | .makeFunc .. | .fieldAddr .. | .field .. | .indexAddr .. | .index .. | .extract .. => .look
  | .load .. | .lookup .. | .slice .. | .convert .. => .look
  | .call ⟨.builtin .len, _, _⟩ | .call ⟨.builtin .max, _, _⟩ | .call ⟨.builtin .min, _, _⟩ | .call ⟨.builtin .cap, _, _⟩ => .look
  | .alloc _ | .box .. | .buildSlice .. | .makeSlice .. | .makeMap _ none => .create
  | _ => .big

/-! ### Who waits for whom -/
def maskOf (acc : List Nat) (o : Oper) : Nat := o.after.toList.foldl (fun s e => if Region.binds .any e then s ||| (2 ^ e.on ||| acc.getD e.on 0) else s) 0
def masks : List Oper → List Nat → List Nat
  | [], acc => acc
  | o :: os, acc => masks os (acc ++ [maskOf acc o])

theorem masks_length : ∀ (os : List Oper) (acc : List Nat), (masks os acc).length = acc.length + os.length
  | [], acc => by simp [masks]
  | o :: os, acc => by simp [masks, masks_length os]; omega

theorem masks_old : ∀ (os : List Oper) (acc : List Nat) (j : Nat), j < acc.length → (masks os acc).getD j 0 = acc.getD j 0
  | [], acc, j, _ => rfl
  | o :: os, acc, j, h => by
    rw [masks, masks_old os _ j (by simp; omega)]
    simp [List.getD_eq_getElem?_getD, List.getElem?_append_left h]

theorem masks_new : ∀ (os : List Oper) (acc : List Nat) (j : Nat) (o : Oper), os[j]? = some o → ∃ acc', acc'.length = acc.length + j ∧ (∀ i, i < acc.length + j → acc'.getD i 0 = (masks os acc).getD i 0) ∧ (masks os acc).getD (acc.length + j) 0 = maskOf acc' o
  | [], acc, j, o, h => by simp at h
  | p :: os, acc, 0, o, h => by
    simp at h; subst h
    refine ⟨acc, rfl, fun i hi => ?_, ?_⟩
    · rw [masks, masks_old os _ i (by simp; omega)]
      simp [List.getD_eq_getElem?_getD, List.getElem?_append_left (show i < acc.length by omega)]
    · rw [masks, masks_old os _ _ (by simp)]
      simp [List.getD_eq_getElem?_getD]
  | p :: os, acc, j + 1, o, h => by
    obtain ⟨acc', h1, h2, h3⟩ := masks_new os (acc ++ [maskOf acc p]) j o (by simpa using h)
    simp only [List.length_append, List.length_singleton] at h1 h2 h3
    refine ⟨acc', by omega, fun i hi => ?_, ?_⟩
    · rw [masks]; exact h2 i (by omega)
    · rw [masks, show acc.length + (j + 1) = acc.length + 1 + j by omega]; exact h3

def Closed (ops : Array Oper) (L : Nat → Prop) : Prop := ∀ j o, ops[j]? = some o → L j → ∀ e ∈ o.after, Region.binds .any e = true → L e.on

theorem mask_foldl (acc : List Nat) (i : Nat) : ∀ (es : List Edge) (s : Nat), (es.foldl (fun s e => if Region.binds .any e then s ||| (2 ^ e.on ||| acc.getD e.on 0) else s) s).testBit i = true →
    s.testBit i = true ∨ ∃ e, e ∈ es ∧ Region.binds .any e = true ∧ (e.on = i ∨ (acc.getD e.on 0).testBit i = true)
  | [], s, h => .inl h
  | e :: es, s, h => by
    simp only [List.foldl_cons] at h
    rcases mask_foldl acc i es _ h with h1 | ⟨e', h1, h2, h3⟩
    · by_cases hb : Region.binds .any e = true
      · rw [if_pos hb] at h1
        simp only [Nat.testBit_or, Bool.or_eq_true] at h1
        rcases h1 with h1 | h1 | h1
        · exact .inl h1
        · exact .inr ⟨e, by simp, hb, .inl (by rw [Nat.testBit_two_pow] at h1; simpa using h1)⟩
        · exact .inr ⟨e, by simp, hb, .inr h1⟩
      · rw [if_neg hb] at h1; exact .inl h1
    · exact .inr ⟨e', by simp [h1], h2, h3⟩

/-- Does i come ahead of j, whatever is drawn? -/
def anc (ms : List Nat) (i j : Nat) : Bool := (ms.getD j 0).testBit i

theorem anc_listed {ops : Array Oper} {L : Nat → Prop} (hcl : Closed ops L) : ∀ (j : Nat) (o : Oper), ops[j]? = some o → (∀ e ∈ o.after, Region.binds .any e = true → L e.on) → ∀ i, anc (masks ops.toList []) i j = true → L i := by
  intro j
  induction j using Nat.strongRecOn with
  | _ j ih =>
    intro o ho hL i hi
    obtain ⟨acc', h1, h2, h3⟩ := masks_new ops.toList [] j o (by simpa using ho)
    simp only [List.length_nil, Nat.zero_add] at h1 h2 h3
    unfold anc at hi
    rw [h3] at hi
    unfold maskOf at hi
    rcases mask_foldl acc' i _ _ hi with h | ⟨e, he, hb, h⟩
    · simp at h
    · have hLe := hL e (by simpa using he) hb
      rcases h with rfl | h
      · exact hLe
      · by_cases hlt : e.on < j
        · rw [h2 e.on hlt] at h
          cases hoe : ops[e.on]? with
          | none =>
            have hge : ops.size ≤ e.on := by
              rcases Nat.lt_or_ge e.on ops.size with h' | h'
              · rw [Array.getElem?_eq_getElem h'] at hoe; cases hoe
              · exact h'
            have := (Array.getElem?_eq_some_iff.1 ho).1
            omega
          | some oe => exact ih e.on hlt oe hoe (fun e' he' hb' => hcl e.on oe hoe hLe e' he' hb') i h
        · rw [List.getD_eq_getElem?_getD, List.getElem?_eq_none (by omega)] at h
          simp at h

/-! ### The order -/
/-- Whom an operation waits for, itself. -/
def waits (o : Oper) : Nat := o.after.toList.foldl (fun s e => if Region.binds .any e then s ||| 2 ^ e.on else s) 0
def rowsOf : List Oper → Nat → List (Nat × Nat × Bool)
  | [], _ => []
  | o :: os, i => (i, waits o, cls o.op == .big) :: rowsOf os (i + 1)

def smallPass : List (Nat × Nat × Bool) → Nat → List Nat → Nat × List Nat
  | [], done, acc => (done, acc)
  | (i, em, big) :: os, done, acc => if !big && !done.testBit i && Nat.beq (Nat.land done em) em then smallPass os (done ||| 2 ^ i) (i :: acc) else smallPass os done acc

def nextBig : List (Nat × Nat × Bool) → Nat → Option Nat
  | [], _ => none
  | (i, em, big) :: os, d => if big && !d.testBit i && Nat.beq (Nat.land d em) em then some i else nextBig os d

def greedy (ops : List (Nat × Nat × Bool)) : Nat → Nat → List Nat → List Nat
  | 0, _, acc => acc.reverse
  | f + 1, done, acc =>
    match smallPass ops done acc with
    | (d, l) => match nextBig ops d with
      | some i => greedy ops f (d ||| 2 ^ i) (i :: l)
      | none => l.reverse

/-- A region's order. -/
def orderOf (ops : Array Oper) : List Nat := greedy (rowsOf ops.toList 0) (ops.size + 1) 0 []

def temps (ops : Array Oper) (o : Oper) : List Tmp := o.looksAt ops

/-- What is asked of the order: all operations, once each; nobody ahead of whom he waits for; a big one comes ahead of all that stand behind it, whatever is drawn; temporaries. -/
def orderOk (ops : Array Oper) (σ : List Nat) : Bool :=
  let ms := masks ops.toList []
  decide σ.Nodup && σ.all (fun i => decide (i < ops.size)) && (List.range ops.size).all (fun j => σ.contains j) &&
  ((List.range ops.size).all fun j => match ops[j]? with
    | some o => o.after.toList.all fun e => !Region.binds .any e || decide (σ.idxOf e.on < σ.idxOf j)
    | none => false) &&
  (σ.all fun j => σ.all fun i => match ops[i]? with
    | some o => !(cls o.op == .big && decide (σ.idxOf i < σ.idxOf j)) || anc ms i j
    | none => false) &&
  (σ.all fun i => match ops[i]? with
    | some o => match o.dst with
      | some t => σ.all fun j => i == j || match ops[j]? with
        | some p => (p.dst != some t) && (!(p.looksAt ops).contains t || anc ms i j || anc ms j i)
        | none => false
      | none => true
    | none => false)
end Go.Ev
