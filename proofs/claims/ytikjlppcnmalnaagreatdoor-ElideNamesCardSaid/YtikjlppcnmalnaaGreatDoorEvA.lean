/-
  EV, part A: maps keyed by numbers (PTree), the abstract heap, and how abstract values and heaps stand to the model's own.
-/
import Derived.Orders
import Derived.Below
import Derived.Laws.Sem
import Derived.Laws.World
import Derived.Laws.Tables
import Derived.WalkKit
namespace Go.Ev
open Go.RowKit

/-! ### Maps keyed by numbers -/
inductive PTree (α : Type) where
  | leaf
  | node (l : PTree α) (o : Option α) (r : PTree α)

namespace PTree
variable {α : Type}
def getS : PTree α → Nat → Option α
  | leaf, _ => none
  | node l o r, n => if n = 0 then o else if n % 2 = 1 then getS l (n / 2) else getS r ((n - 1) / 2)

def setFS (v : α) : Nat → Nat → PTree α → PTree α
  | 0, _, t => t
  | f + 1, n, leaf => if n = 0 then node leaf (some v) leaf else if n % 2 = 1 then node (setFS v f (n / 2) leaf) none leaf else node leaf none (setFS v f ((n - 1) / 2) leaf)
  | f + 1, n, node l o r => if n = 0 then node l (some v) r else if n % 2 = 1 then node (setFS v f (n / 2) l) o r else node l o (setFS v f ((n - 1) / 2) r)

theorem getS_setFS (v : α) : ∀ (f n m : Nat) (t : PTree α), n < f → (setFS v f n t).getS m = if m = n then some v else t.getS m
  | 0, _, _, _, h => absurd h (Nat.not_lt_zero _)
  | f + 1, n, m, leaf, h => by
    unfold setFS
    by_cases h0 : n = 0
    · subst h0
      by_cases hm : m = 0
      · simp [getS, hm]
      · simp [getS, hm]
    · rw [if_neg h0]
      by_cases ho : n % 2 = 1
      · rw [if_pos ho]
        simp only [getS]
        by_cases hm : m = 0
        · rw [if_pos hm, if_neg (by omega)]
        · rw [if_neg hm]
          by_cases hmo : m % 2 = 1
          · rw [if_pos hmo, getS_setFS v f (n / 2) (m / 2) leaf (by omega)]
            by_cases e : m = n
            · subst e; simp
            · rw [if_neg (by omega), if_neg e]; rfl
          · rw [if_neg hmo, if_neg (by omega)]
      · rw [if_neg ho]
        simp only [getS]
        by_cases hm : m = 0
        · rw [if_pos hm, if_neg (by omega)]
        · rw [if_neg hm]
          by_cases hmo : m % 2 = 1
          · rw [if_pos hmo, if_neg (by omega)]
          · rw [if_neg hmo, getS_setFS v f ((n - 1) / 2) ((m - 1) / 2) leaf (by omega)]
            by_cases e : m = n
            · subst e; simp
            · rw [if_neg (by omega), if_neg e]; rfl
  | f + 1, n, m, node l o r, h => by
    unfold setFS
    by_cases h0 : n = 0
    · subst h0
      rw [if_pos rfl]
      simp only [getS]
      by_cases hm : m = 0
      · simp [hm]
      · simp [hm]
    · rw [if_neg h0]
      by_cases ho : n % 2 = 1
      · rw [if_pos ho]
        simp only [getS]
        by_cases hm : m = 0
        · rw [if_pos hm, if_neg (by omega), if_pos hm]
        · rw [if_neg hm, if_neg hm]
          by_cases hmo : m % 2 = 1
          · rw [if_pos hmo, if_pos hmo, getS_setFS v f (n / 2) (m / 2) l (by omega)]
            by_cases e : m = n
            · subst e; simp
            · rw [if_neg (by omega), if_neg e]
          · rw [if_neg hmo, if_neg hmo, if_neg (by omega)]
      · rw [if_neg ho]
        simp only [getS]
        by_cases hm : m = 0
        · rw [if_pos hm, if_neg (by omega), if_pos hm]
        · rw [if_neg hm, if_neg hm]
          by_cases hmo : m % 2 = 1
          · rw [if_pos hmo, if_pos hmo, if_neg (by omega)]
          · rw [if_neg hmo, if_neg hmo, getS_setFS v f ((n - 1) / 2) ((m - 1) / 2) r (by omega)]
            by_cases e : m = n
            · subst e; simp
            · rw [if_neg (by omega), if_neg e]


/-- As 'getS', in a form that a kernel runs quickly. -/
def get : PTree α → Nat → Option α
  | leaf, _ => none
  | node _ o _, 0 => o
  | node l _ r, n + 1 => match Nat.beq (n % 2) 0 with
    | true => get l ((n + 1) / 2)
    | false => get r (n / 2)

def setF (v : α) : Nat → Nat → PTree α → PTree α
  | 0, _, t => t
  | _ + 1, 0, leaf => node leaf (some v) leaf
  | _ + 1, 0, node l _ r => node l (some v) r
  | f + 1, n + 1, leaf => match Nat.beq (n % 2) 0 with
    | true => node (setF v f ((n + 1) / 2) leaf) none leaf
    | false => node leaf none (setF v f (n / 2) leaf)
  | f + 1, n + 1, node l o r => match Nat.beq (n % 2) 0 with
    | true => node (setF v f ((n + 1) / 2) l) o r
    | false => node l o (setF v f (n / 2) r)

def set (t : PTree α) (n : Nat) (v : α) : PTree α := setF v (n + 1) n t

theorem get_eq : ∀ (t : PTree α) (n : Nat), t.get n = t.getS n
  | leaf, _ => rfl
  | node l o r, 0 => rfl
  | node l o r, n + 1 => by
    unfold get getS
    rw [if_neg (Nat.succ_ne_zero n)]
    cases h : Nat.beq (n % 2) 0 with
    | true =>
      have := Nat.eq_of_beq_eq_true h
      rw [if_pos (by omega)]
      exact get_eq l _
    | false =>
      have := Nat.ne_of_beq_eq_false h
      rw [if_neg (by omega)]
      exact get_eq r _

theorem setF_eq (v : α) : ∀ (f n : Nat) (t : PTree α), setF v f n t = setFS v f n t
  | 0, _, _ => by unfold setF setFS; rfl
  | f + 1, 0, leaf => by unfold setF setFS; rfl
  | f + 1, 0, node l o r => by unfold setF setFS; rfl
  | f + 1, n + 1, leaf => by
    unfold setF setFS
    rw [if_neg (Nat.succ_ne_zero n)]
    cases h : Nat.beq (n % 2) 0 with
    | true =>
      have := Nat.eq_of_beq_eq_true h
      rw [if_pos (by omega)]
      simp only [setF_eq v f]
    | false =>
      have := Nat.ne_of_beq_eq_false h
      rw [if_neg (by omega)]
      simp only [setF_eq v f, Nat.add_sub_cancel]
  | f + 1, n + 1, node l o r => by
    unfold setF setFS
    rw [if_neg (Nat.succ_ne_zero n)]
    cases h : Nat.beq (n % 2) 0 with
    | true =>
      have := Nat.eq_of_beq_eq_true h
      rw [if_pos (by omega)]
      simp only [setF_eq v f]
    | false =>
      have := Nat.ne_of_beq_eq_false h
      rw [if_neg (by omega)]
      simp only [setF_eq v f, Nat.add_sub_cancel]

@[simp] theorem get_leaf (n : Nat) : (leaf : PTree α).get n = none := rfl
@[simp] theorem get_set (t : PTree α) (n m : Nat) (v : α) : (t.set n v).get m = if m = n then some v else t.get m := by
  unfold set
  rw [get_eq, setF_eq, getS_setFS v (n + 1) n m t (Nat.lt_succ_self n), get_eq]
theorem get_set_same (t : PTree α) (n : Nat) (v : α) : (t.set n v).get n = some v := by simp
theorem get_set_ne (t : PTree α) {n m : Nat} (v : α) (h : m ≠ n) : (t.set n v).get m = t.get m := by simp [h]
end PTree

/-! ### The abstract heap -/
/-- What a row of cells may serve for: 'exact': a row of a known length, nobody else's; 'loose': a slice's row that may have room behind its end (unknown how much), its last holder; 'shared': an elder holder of such a row; 'ro': memory that is only read. -/
inductive RowSt where
  | exact | loose | shared | ro
  deriving DecidableEq

/-- The capacity that is not known. -/
def unk : Nat := 18446744073709551616

inductive AObj where
  | row (et : TypeId) (cells : List Value) (st : RowSt) (grp ver : Nat)
  | map (es : List (Value × Value)) (bs : List Nat) (ck : Nat)
  | mapIter (m : Option Nat) (since : Nat) (seen : List Nat) (last : Nat)
  | strIter (s : ByteArray) (pos : Nat)
  | loop (st : LoopState) (pend : Option Code) (n : Nat) (T : PTree Value) (ps : Array Tmp) (assign body : Code)
  | dead

structure AH where
  tree : PTree AObj
  next : Nat
  wv : PTree Nat

namespace AH
def obj (H : AH) (b : Nat) : AObj := (H.tree.get b).getD .dead
def ver (H : AH) (g : Nat) : Nat := (H.wv.get g).getD 0
def put (H : AH) (b : Nat) (o : AObj) : AH := { H with tree := H.tree.set b o }
def alloc (H : AH) (o : AObj) : AH := { H with tree := H.tree.set H.next o, next := H.next + 1 }
def bump (H : AH) (g v : Nat) : AH := { H with wv := H.wv.set g v }
@[simp] theorem obj_put (H : AH) (b c : Nat) (o : AObj) : (H.put b o).obj c = if c = b then o else H.obj c := by
  unfold put obj; simp only [PTree.get_set]; split <;> rfl
@[simp] theorem obj_alloc (H : AH) (c : Nat) (o : AObj) : (H.alloc o).obj c = if c = H.next then o else H.obj c := by
  unfold alloc obj; simp only [PTree.get_set]; split <;> rfl
@[simp] theorem obj_bump (H : AH) (g v c : Nat) : (H.bump g v).obj c = H.obj c := rfl
@[simp] theorem next_put (H : AH) (b : Nat) (o : AObj) : (H.put b o).next = H.next := rfl
@[simp] theorem next_alloc (H : AH) (o : AObj) : (H.alloc o).next = H.next + 1 := rfl
@[simp] theorem next_bump (H : AH) (g v : Nat) : (H.bump g v).next = H.next := rfl
@[simp] theorem ver_put (H : AH) (b g : Nat) (o : AObj) : (H.put b o).ver g = H.ver g := rfl
@[simp] theorem ver_alloc (H : AH) (g : Nat) (o : AObj) : (H.alloc o).ver g = H.ver g := rfl
@[simp] theorem ver_bump (H : AH) (g v k : Nat) : (H.bump g v).ver k = if k = g then v else H.ver k := by
  unfold bump ver; simp only [PTree.get_set]; split <;> rfl
end AH

/-! ### How abstract values stand to the model's -/
/-- Where an abstract row lies: in block 'blk' from cell 'base' on; the block has 'size' cells; an element has 'esz'. -/
structure ILoc where
  blk : Nat
  base : Nat
  size : Nat
  esz : Nat

abbrev Emb := Nat → Option ILoc

/-- ι' knows all that ι knows. -/
def Emb.le (ι ι' : Emb) : Prop := ∀ b l, ι b = some l → ι' b = some l
theorem Emb.le_refl (ι : Emb) : ι.le ι := fun _ _ h => h
theorem Emb.le_trans {a b c : Emb} (h : a.le b) (k : b.le c) : a.le c := fun _ _ x => k _ _ (h _ _ x)

inductive VRel (ι : Emb) : Value → Value → Prop
  | bool (b : Bool) : VRel ι (.bool b) (.bool b)
  | int (k : IntKind) (n : Int) : VRel ι (.int k n) (.int k n)
  | float (k : FloatKind) (n : Nat) : VRel ι (.float k n) (.float k n)
  | string (s : ByteArray) : VRel ι (.string s) (.string s)
  | ptrNil : VRel ι (.pointer none) (.pointer none)
  | ptr {b off : Nat} {l : ILoc} (h : ι b = some l) : VRel ι (.pointer (some ⟨b, off, none⟩)) (.pointer (some ⟨l.blk, l.base + off, none⟩))
  | sliceNil : VRel ι (.slice none 0 0) (.slice none 0 0)
  | slice {b off len cap : Nat} {l : ILoc} (h : ι b = some l) (hc : cap < unk) (hl : len ≤ cap) : VRel ι (.slice (some ⟨b, off, none⟩) len cap) (.slice (some ⟨l.blk, l.base + off, none⟩) len cap)
  | sliceUnk {b off len cap : Nat} {l : ILoc} (h : ι b = some l) (hl : len ≤ cap) (hs : l.base + off + cap * l.esz = l.size) (he : 0 < l.esz) : VRel ι (.slice (some ⟨b, off, none⟩) len unk) (.slice (some ⟨l.blk, l.base + off, none⟩) len cap)
  | sliceEnd {b off : Nat} {l : ILoc} (a : Addr) (h : ι b = some l) (hs : l.base + off = l.size) : VRel ι (.slice (some ⟨b, off, none⟩) 0 unk) (.slice (some a) 0 0)
  | sliceZ {b off : Nat} (a : Addr) : VRel ι (.slice (some ⟨b, off, none⟩) 0 0) (.slice (some a) 0 0)
  | mapNil : VRel ι (.map none) (.map none)
  | map {b : Nat} {l : ILoc} (h : ι b = some l) : VRel ι (.map (some b)) (.map (some l.blk))
  | func {f : FuncId} {xs ys xs' ys' : Array Value} (hx : xs.size = xs'.size) (hy : ys.size = ys'.size)
      (h : ∀ i (h : i < xs.size) (h' : i < xs'.size), VRel ι xs[i] xs'[i]) (k : ∀ i (h : i < ys.size) (h' : i < ys'.size), VRel ι ys[i] ys'[i]) : VRel ι (.func (.func f) xs ys) (.func (.func f) xs' ys')
  | yield {b : Nat} {l : ILoc} (h : ι b = some l) : VRel ι (.func (.yield b) #[] #[]) (.func (.yield l.blk) #[] #[])
  | nilFunc : VRel ι .nilFunc .nilFunc
  | iface {t : TypeId} {v v' : Value} (h : VRel ι v v') : VRel ι (.iface t v) (.iface t v')
  | nilIface : VRel ι .nilIface .nilIface
  | agg {xs xs' : Array Value} (hx : xs.size = xs'.size) (h : ∀ i (h : i < xs.size) (h' : i < xs'.size), VRel ι xs[i] xs'[i]) : VRel ι (.agg xs) (.agg xs')
  | tuple {xs xs' : Array Value} (hx : xs.size = xs'.size) (h : ∀ i (h : i < xs.size) (h' : i < xs'.size), VRel ι xs[i] xs'[i]) : VRel ι (.tuple xs) (.tuple xs')

theorem VRel.mono {ι ι' : Emb} (hi : ι.le ι') {v v' : Value} (h : VRel ι v v') : VRel ι' v v' := by
  induction h with
  | bool b => exact .bool b
  | int k n => exact .int k n
  | float k n => exact .float k n
  | string s => exact .string s
  | ptrNil => exact .ptrNil
  | ptr h => exact .ptr (hi _ _ h)
  | sliceNil => exact .sliceNil
  | slice h hc hl => exact .slice (hi _ _ h) hc hl
  | sliceUnk h hl hs he => exact .sliceUnk (hi _ _ h) hl hs he
  | sliceEnd a h hs => exact .sliceEnd a (hi _ _ h) hs
  | sliceZ a => exact .sliceZ a
  | mapNil => exact .mapNil
  | map h => exact .map (hi _ _ h)
  | func hx hy _ _ ih ih' => exact .func hx hy ih ih'
  | yield h => exact .yield (hi _ _ h)
  | nilFunc => exact .nilFunc
  | iface _ ih => exact .iface ih
  | nilIface => exact .nilIface
  | agg hx _ ih => exact .agg hx ih
  | tuple hx _ ih => exact .tuple hx ih

theorem VRel.undef {ι : Emb} : VRel ι undef undef := .tuple rfl (fun i h _ => by simp at h)

/-- Lists of values, one by one. -/
inductive LRel (ι : Emb) : List Value → List Value → Prop
  | nil : LRel ι [] []
  | cons {x y : Value} {xs ys : List Value} (h : VRel ι x y) (t : LRel ι xs ys) : LRel ι (x :: xs) (y :: ys)

theorem LRel.length {ι : Emb} {xs ys : List Value} (h : LRel ι xs ys) : xs.length = ys.length := by
  induction h with
  | nil => rfl
  | cons _ _ ih => simp [ih]
theorem LRel.mono {ι ι' : Emb} (hi : ι.le ι') {xs ys : List Value} (h : LRel ι xs ys) : LRel ι' xs ys := by
  induction h with
  | nil => exact .nil
  | cons h _ ih => exact .cons (h.mono hi) ih
theorem LRel.append {ι : Emb} {xs ys xs' ys' : List Value} (h : LRel ι xs ys) (k : LRel ι xs' ys') : LRel ι (xs ++ xs') (ys ++ ys') := by
  induction h with
  | nil => exact k
  | cons h _ ih => exact .cons h ih
theorem LRel.get {ι : Emb} {xs ys : List Value} (h : LRel ι xs ys) {i : Nat} {x : Value} (hx : xs[i]? = some x) : ∃ y, ys[i]? = some y ∧ VRel ι x y := by
  induction h generalizing i with
  | nil => simp at hx
  | cons h _ ih =>
    cases i with
    | zero => simp at hx; subst hx; exact ⟨_, by simp, h⟩
    | succ i => simp at hx; obtain ⟨y, hy, hr⟩ := ih hx; exact ⟨y, by simpa using hy, hr⟩
theorem LRel.drop {ι : Emb} {xs ys : List Value} (h : LRel ι xs ys) (n : Nat) : LRel ι (xs.drop n) (ys.drop n) := by
  induction h generalizing n with
  | nil => simp; exact .nil
  | cons h t ih =>
    cases n with
    | zero => exact .cons h t
    | succ n => simpa using ih n
theorem LRel.take {ι : Emb} {xs ys : List Value} (h : LRel ι xs ys) (n : Nat) : LRel ι (xs.take n) (ys.take n) := by
  induction h generalizing n with
  | nil => simp; exact .nil
  | cons h t ih =>
    cases n with
    | zero => exact .nil
    | succ n => simpa using LRel.cons h (ih n)
theorem LRel.set {ι : Emb} {xs ys : List Value} (h : LRel ι xs ys) (n : Nat) {x y : Value} (hv : VRel ι x y) : LRel ι (xs.set n x) (ys.set n y) := by
  induction h generalizing n with
  | nil => simp; exact .nil
  | cons h t ih =>
    cases n with
    | zero => exact .cons hv t
    | succ n => simpa using LRel.cons h (ih n)
theorem LRel.of_get {ι : Emb} : ∀ {xs ys : List Value}, xs.length = ys.length → (∀ (i : Nat) (x y : Value), xs[i]? = some x → ys[i]? = some y → VRel ι x y) → LRel ι xs ys
  | [], [], _, _ => .nil
  | [], _ :: _, h, _ => by simp at h
  | _ :: _, [], h, _ => by simp at h
  | x :: xs, y :: ys, h, k => .cons (k 0 x y (by simp) (by simp)) (LRel.of_get (by simpa using h) fun i a b ha hb => k (i + 1) a b (by simpa using ha) (by simpa using hb))

theorem LRel.of_array {ι : Emb} {xs ys : Array Value} (hs : xs.size = ys.size) (h : ∀ i (h : i < xs.size) (h' : i < ys.size), VRel ι xs[i] ys[i]) : LRel ι xs.toList ys.toList :=
  LRel.of_get (by simpa using hs) fun i x y hx hy => by
    simp only [Array.getElem?_toList] at hx hy
    obtain ⟨h1, rfl⟩ := Array.getElem?_eq_some_iff.1 hx
    obtain ⟨h2, rfl⟩ := Array.getElem?_eq_some_iff.1 hy
    exact h i h1 h2
theorem LRel.to_array {ι : Emb} {xs ys : Array Value} (h : LRel ι xs.toList ys.toList) : xs.size = ys.size ∧ ∀ i (h : i < xs.size) (h' : i < ys.size), VRel ι xs[i] ys[i] := by
  refine ⟨by simpa using h.length, fun i h1 h2 => ?_⟩
  obtain ⟨y, hy, hr⟩ := h.get (i := i) (x := xs[i]) (by simp [h1])
  simp [h2] at hy
  rwa [hy]
theorem VRel.agg' {ι : Emb} {xs ys : List Value} (h : LRel ι xs ys) : VRel ι (.agg xs.toArray) (.agg ys.toArray) :=
  let ⟨a, b⟩ := LRel.to_array (xs := xs.toArray) (ys := ys.toArray) (by simpa using h); .agg a b
theorem VRel.tuple' {ι : Emb} {xs ys : List Value} (h : LRel ι xs ys) : VRel ι (.tuple xs.toArray) (.tuple ys.toArray) :=
  let ⟨a, b⟩ := LRel.to_array (xs := xs.toArray) (ys := ys.toArray) (by simpa using h); .tuple a b
theorem VRel.cells {ι : Emb} {v v' : Value} (h : VRel ι v v') : LRel ι v.cells.toList v'.cells.toList := by
  cases h with
  | agg hx h => exact LRel.of_array hx h
  | bool b => exact .cons (.bool b) .nil
  | int k n => exact .cons (.int k n) .nil
  | float k n => exact .cons (.float k n) .nil
  | string s => exact .cons (.string s) .nil
  | ptrNil => exact .cons .ptrNil .nil
  | ptr h => exact .cons (.ptr h) .nil
  | sliceNil => exact .cons .sliceNil .nil
  | slice h hc hl => exact .cons (.slice h hc hl) .nil
  | sliceUnk h hl hs he => exact .cons (.sliceUnk h hl hs he) .nil
  | sliceEnd a h hs => exact .cons (.sliceEnd a h hs) .nil
  | sliceZ a => exact .cons (.sliceZ a) .nil
  | mapNil => exact .cons .mapNil .nil
  | map h => exact .cons (.map h) .nil
  | func hx hy h k => exact .cons (.func hx hy h k) .nil
  | yield h => exact .cons (.yield h) .nil
  | nilFunc => exact .cons .nilFunc .nil
  | iface h => exact .cons (.iface h) .nil
  | nilIface => exact .cons .nilIface .nil
  | tuple hx h => exact .cons (.tuple hx h) .nil

/-- The temporaries of a frame: those that are known. -/
def TRel (ι : Emb) (T : PTree Value) (tmps : Array Value) : Prop := ∀ t v, T.get t = some v → VRel ι v (tmps.getD t undef)
theorem TRel.mono {ι ι' : Emb} (hi : ι.le ι') {T : PTree Value} {tmps : Array Value} (h : TRel ι T tmps) : TRel ι' T tmps := fun t v e => (h t v e).mono hi
end Go.Ev
