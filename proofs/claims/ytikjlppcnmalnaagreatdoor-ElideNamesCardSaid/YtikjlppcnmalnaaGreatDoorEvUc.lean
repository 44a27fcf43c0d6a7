/-
  EV, universal use, part c: slices that are read.
-/
import Derived.Test.YtikjlppcnmalnaaGreatDoorEvUb
namespace Go.Ev
open Go.RowKit

variable {V : Env} {O : Orc} {H : AH}

/-- A slice of elements of one cell each, that holds these. -/
def OneAt (H : AH) (v : Value) (cs : List Value) : Prop :=
  cs.length < 4611686018427387904 ∧ ((v = .slice none 0 0 ∧ cs = []) ∨ ∃ b off cap, v = .slice (some ⟨b, off, none⟩) cs.length cap ∧ (cs ≠ [] → H.rd b off cs.length = some cs))

theorem rd_get {b off n : Nat} {cs : List Value} (h : H.rd b off n = some cs) {i : Nat} {c : Value} (hi : cs[i]? = some c) : H.rd b (off + i) 1 = some [c] := by
  unfold AH.rd at h ⊢
  split at h
  · rename_i et cells st g v ho
    split at h
    · rename_i hc
      rw [Bool.and_eq_true, decide_eq_true_eq] at hc
      cases h
      have hlt := (List.getElem?_eq_some_iff.1 hi).1
      simp only [List.length_take, List.length_drop] at hlt
      rw [if_pos (by rw [Bool.and_eq_true, decide_eq_true_eq]; exact ⟨hc.1, by omega⟩)]
      rw [List.getElem?_take, if_pos (by omega), List.getElem?_drop] at hi
      have hlt2 := (List.getElem?_eq_some_iff.1 hi).1
      have hd := List.drop_eq_getElem_cons hlt2
      rw [hd]
      have e : cells[off + i] = c := by
        have := (List.getElem?_eq_some_iff.1 hi).2
        exact this
      rw [e]; rfl
    · cases h
  · cases h

theorem OneAt.len {v : Value} {cs : List Value} (h : OneAt H v cs) {t e : TypeId} {s b : Nat} {z : Value} (ht : V.E t = some ⟨.slice e, s, b, z⟩) : aLen V.E H t v = some (.int .i64 cs.length) := by
  unfold aLen
  rw [ht]
  rcases h.2 with ⟨rfl, rfl⟩ | ⟨b, off, cap, rfl, _⟩ <;> rfl

theorem OneAt.idx {v : Value} {cs : List Value} (h : OneAt H v cs) {t e : TypeId} {s b : Nat} {z : Value} (ht : V.E t = some ⟨.slice e, s, b, z⟩) {te : TI} (he : V.E e = some te) (hz : te.size = 1) (ha : Desc.agg te.desc = false) {kd : IntKind} {i : Int} {c : Value} (h0 : 0 ≤ i) (hc : cs[i.toNat]? = some c) :
    ∃ p, aIndex V.E t v (.int kd i) = some p ∧ aLoad V.E H e p = some c := by
  have hlt := (List.getElem?_eq_some_iff.1 hc).1
  rcases h.2 with ⟨rfl, rfl⟩ | ⟨b, off, cap, rfl, hr⟩
  · simp at hlt
  · have hne : cs ≠ [] := fun e => by subst e; simp at hlt
    refine ⟨.pointer (some ⟨b, off + i.toNat * te.size, none⟩), ?_, ?_⟩
    · simp only [aIndex, ht, he]
      rw [if_pos ⟨h0, by omega⟩]
    · simp only [aLoad, he, ha]
      rw [hz, Nat.mul_one, rd_get (hr hne) hc]
      rfl

/-! ### Operations, one by one -/
variable {g : Ft}
theorem op_len {x : Operand} {t : TypeId} {u v : Value} (hx : g x = some u) (h : aLen V.E H t u = some v) : aopG V g H (.call ⟨.builtin .len, #[x], #[t]⟩) = some (v, H) := by
  simp only [aopG, gvals, hx, aBuiltin, h, Option.map_some]
theorem op_indexAddr {t : TypeId} {x i : Operand} {u v p : Value} (hx : g x = some u) (hi : g i = some v) (h : aIndex V.E t u v = some p) : aopG V g H (.indexAddr t x i) = some (p, H) := by
  simp only [aopG, hx, hi, h, Option.map_some]
theorem op_load {t : TypeId} {a : Operand} {p v : Value} (ha : g a = some p) (h : aLoad V.E H t p = some v) : aopG V g H (.load t a) = some (v, H) := by
  simp only [aopG, ha, h, Option.map_some]
theorem op_fieldAddr {t : TypeId} {a : Operand} {f : Nat} {p v : Value} (ha : g a = some p) (h : aField V.E t f p = some v) : aopG V g H (.fieldAddr t a f) = some (v, H) := by
  simp only [aopG, ha, h, Option.map_some]
theorem op_int {op : BinOp} {t u : TypeId} {x y : Operand} {k : IntKind} {a b : Int} {v : Value} (hx : g x = some (.int k a)) (hy : g y = some (.int k b)) (h : aInt V.P op t k a k b = some v) : aopG V g H (.binOp op t x y u) = some (v, H) := by
  simp only [aopG, hx, hy, aBin, h, Option.map_some]

theorem aInt_add (P : Program) (t : TypeId) {a b : Int} (h1 : -9223372036854775808 ≤ a + b) (h2 : a + b ≤ 9223372036854775807) : aInt P .add t .i64 a .i64 b = some (.int .i64 (a + b)) := by
  simp only [aInt, if_true, wr]
  rw [if_pos ⟨trivial, h1, h2⟩]
theorem aInt_sub (P : Program) (t : TypeId) {a b : Int} (h1 : -9223372036854775808 ≤ a - b) (h2 : a - b ≤ 9223372036854775807) : aInt P .sub t .i64 a .i64 b = some (.int .i64 (a - b)) := by
  simp only [aInt, if_true, wr]
  rw [if_pos ⟨trivial, h1, h2⟩]
end Go.Ev
