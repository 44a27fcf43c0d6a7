/-
  EV, part B: when an abstract heap stands for the model's; reading, writing and making rows.
-/
import Derived.Test.YtikjlppcnmalnaaGreatDoorEvA
namespace Go.Ev
open Go.RowKit

def RowSt.writes : RowSt → Bool
  | .exact | .loose => true
  | _ => false

/-- Does a row's content still stand? (A row that an elder holder shares dies when its last holder writes.) -/
def AH.alive (H : AH) : AObj → Bool
  | .row _ _ .exact _ _ | .row _ _ .ro _ _ => true
  | .row _ _ _ g v => H.ver g == v
  | .dead => false
  | _ => true

structure RowOk (P : Program) (B0 : Nat) (ι : Emb) (w : World) (l : ILoc) (et : TypeId) (cells : List Value) (st : RowSt) : Prop where
  ex : ∃ cs t fr, w.heap[l.blk]? = some (.cells cs t fr) ∧ cs.size = l.size ∧
    (∀ (i : Nat) (x : Value), cells[i]? = some x → ∃ y, cs[l.base + i]? = some y ∧ VRel ι x y) ∧ (st.writes = true → ∀ i, i < l.size → ¬ (fr.1 ≤ i ∧ i < fr.2))
  fits : l.base + cells.length ≤ l.size
  esz : P.cellsOf et = l.esz
  own : st ≠ .ro → B0 ≤ l.blk
  ro : st = .ro → l.blk < B0
  exact_ : st = .exact → l.base = 0 ∧ cells.length = l.size

/-- A value that is one cell and leads nowhere. -/
def plain : Value → Bool
  | .bool _ | .int _ _ | .float _ _ | .string _ | .pointer none | .slice none 0 0 | .map none | .nilFunc | .nilIface => true
  | _ => false

theorem VRel.of_plain {ι : Emb} {v : Value} (h : plain v = true) : VRel ι v v := by
  cases v with
  | bool b => exact .bool b
  | int k n => exact .int k n
  | float k n => exact .float k n
  | string s => exact .string s
  | pointer a => cases a with
    | none => exact .ptrNil
    | some a => simp [plain] at h
  | slice a n c => cases a with
    | none => cases n with
      | zero => cases c with
        | zero => exact .sliceNil
        | succ c => simp [plain] at h
      | succ n => simp [plain] at h
    | some a => simp [plain] at h
  | map r => cases r with
    | none => exact .mapNil
    | some r => simp [plain] at h
  | nilFunc => exact .nilFunc
  | nilIface => exact .nilIface
  | _ => simp [plain] at h
theorem VRel.plain_eq {ι : Emb} {v v' : Value} (h : VRel ι v v') (hp : plain v = true) : v' = v := by
  cases h <;> first | rfl | simp [plain] at hp
theorem LRel.of_plain {ι : Emb} : ∀ {vs : List Value}, (∀ v, v ∈ vs → plain v = true) → LRel ι vs vs
  | [], _ => .nil
  | v :: vs, h => .cons (VRel.of_plain (h v (by simp))) (LRel.of_plain fun u hu => h u (by simp [hu]))
theorem LRel.plain_eq {ι : Emb} {vs vs' : List Value} (h : LRel ι vs vs') (hp : ∀ v, v ∈ vs → plain v = true) : vs' = vs := by
  induction h with
  | nil => rfl
  | cons h _ ih => rw [h.plain_eq (hp _ (by simp)), ih fun v hv => hp v (by simp [hv])]

/-- A constant that leads nowhere. -/
def constOk (v : Value) : Bool := plain v || (match v with | .agg cs => cs.toList.all plain | .tuple cs => cs.toList.all plain | .iface _ v => plain v | _ => false)
theorem plain_constOk {v : Value} (h : plain v = true) : constOk v = true := by simp [constOk, h]

structure MapOk (B0 : Nat) (ι : Emb) (w : World) (l : ILoc) (es : List (Value × Value)) (bs : List Nat) (ck : Nat) : Prop where
  ex : ∃ mes clock, w.heap[l.blk]? = some (.map mes clock) ∧ mes.size = es.length ∧
    (∀ (i : Nat) (k v : Value), es[i]? = some (k, v) → ∃ e, mes[i]? = some e ∧ constOk k = true ∧ e.key = k ∧ VRel ι v e.val) ∧ mes.toList.map (·.born) = bs ∧ clock = ck
  own : B0 ≤ l.blk

def OOk (P : Program) (B0 : Nat) (ι : Emb) (w : World) (l : ILoc) : AObj → Prop
  | .row et cells st _ _ => RowOk P B0 ι w l et cells st
  | .map es bs ck => MapOk B0 ι w l es bs ck
  | .mapIter m since seen last => B0 ≤ l.blk ∧ l.base = 0 ∧ ∃ m', w.heap[l.blk]? = some (.mapIter m' since seen.toArray last) ∧ (match m with
    | none => m' = none
    | some b => ∃ lb, ι b = some lb ∧ m' = some lb.blk)
  | .strIter s pos => B0 ≤ l.blk ∧ w.heap[l.blk]? = some (.stringIter s pos)
  | .loop st pend n T ps assign body => B0 ≤ l.blk ∧ ∃ fn tmps defers, w.heap[l.blk]? = some (.loop ⟨st, pend, fn, tmps, ps, assign, body, defers⟩) ∧ tmps.size = n ∧ TRel ι T tmps
  | .dead => True

/-- May two abstract objects lie in one block? -/
def Share (l : ILoc) (o : AObj) (l' : ILoc) (o' : AObj) : Prop :=
  match o, o' with
  | .row _ _ .ro _ _, .row _ _ .ro _ _ => True
  | .row _ cs .loose g _, .row _ cs' .shared g' _ => g = g' ∧ l'.base + cs'.length ≤ l.base + cs.length
  | .row _ cs .shared g _, .row _ cs' .loose g' _ => g = g' ∧ l.base + cs.length ≤ l'.base + cs'.length
  | .row _ _ .shared g _, .row _ _ .shared g' _ => g = g'
  | _, _ => False

structure HRel (P : Program) (B0 : Nat) (ι : Emb) (H : AH) (w : World) : Prop where
  base : B0 ≤ w.heap.size
  dom : ∀ b l, ι b = some l → b < H.next
  obj : ∀ b l, ι b = some l → H.alive (H.obj b) = true → OOk P B0 ι w l (H.obj b)
  sep : ∀ b b' l l', b ≠ b' → ι b = some l → ι b' = some l' → H.alive (H.obj b) = true → H.alive (H.obj b') = true → l.blk = l'.blk → Share l (H.obj b) l' (H.obj b')
  grp : ∀ b l et cells st g v, ι b = some l → H.obj b = .row et cells st g v → g < H.next ∧ v ≤ H.ver g

theorem OOk.lt {P : Program} {B0 : Nat} {ι : Emb} {w : World} {l : ILoc} {H : AH} {o : AObj} (ha : H.alive o = true) (h : OOk P B0 ι w l o) : l.blk < w.heap.size := by
  cases o with
  | row et cells st g v => obtain ⟨⟨cs, t, fr, h1, _⟩, _⟩ := h; exact (Array.getElem?_eq_some_iff.1 h1).1
  | map es bs ck => obtain ⟨⟨cs, t, h1, _⟩, _⟩ := h; exact (Array.getElem?_eq_some_iff.1 h1).1
  | strIter s pos => obtain ⟨_, h1⟩ := h; exact (Array.getElem?_eq_some_iff.1 h1).1
  | mapIter m since seen last => obtain ⟨_, _, _, h1, _⟩ := h; exact (Array.getElem?_eq_some_iff.1 h1).1
  | loop st pend n T ps assign body => obtain ⟨_, _, _, _, h1, _⟩ := h; exact (Array.getElem?_eq_some_iff.1 h1).1
  | dead => simp [AH.alive] at ha

/-- An object's reading is carried to a world where its block is the same, and to an embedding that knows more. -/
theorem OOk.carry {P : Program} {B0 : Nat} {ι ι' : Emb} {w w' : World} {l : ILoc} {o : AObj} (h : OOk P B0 ι w l o) (hi : ι.le ι') (hw : w'.heap[l.blk]? = w.heap[l.blk]?) : OOk P B0 ι' w' l o := by
  cases o with
  | row et cells st g v =>
    obtain ⟨⟨cs, t, fr, h1, h2, h3, h4⟩, hf, he, hb, hr, hx⟩ := h
    exact ⟨⟨cs, t, fr, hw.trans h1, h2, fun i x hx => let ⟨y, a, b⟩ := h3 i x hx; ⟨y, a, b.mono hi⟩, h4⟩, hf, he, hb, hr, hx⟩
  | map es bs ck =>
    obtain ⟨⟨mes, clock, h1, h2, h3, h4⟩, hb⟩ := h
    exact ⟨⟨mes, clock, hw.trans h1, h2, fun i k v hx => let ⟨e, a, b, c, d⟩ := h3 i k v hx; ⟨e, a, b, c, d.mono hi⟩, h4⟩, hb⟩
  | strIter s pos => exact ⟨h.1, hw.trans h.2⟩
  | mapIter m since seen last =>
    obtain ⟨h0, hb, m', h1, h2⟩ := h
    refine ⟨h0, hb, m', hw.trans h1, ?_⟩
    cases m with
    | none => exact h2
    | some b => obtain ⟨lb, k1, k2⟩ := h2; exact ⟨lb, hi _ _ k1, k2⟩
  | loop st pend n T ps assign body => obtain ⟨h0, f, t, d, h1, h2, h3⟩ := h; exact ⟨h0, f, t, d, hw.trans h1, h2, h3.mono hi⟩
  | dead => trivial

/-- What one step does: the embedding grows, the heaps stand to each other, and no block that the abstract heap does not hold has turned. -/
structure Step (P : Program) (B0 : Nat) (ι : Emb) (H : AH) (w : World) (ι' : Emb) (H' : AH) (w' : World) : Prop where
  le : ι.le ι'
  new : ∀ b l, ι' b = some l → ι b = some l ∨ (ι b = none ∧ H.next ≤ b)
  next : H.next ≤ H'.next
  rel : HRel P B0 ι' H' w'
  size : w.heap.size ≤ w'.heap.size
  frame : ∀ c, c < w.heap.size → (∀ b l, ι b = some l → H.alive (H.obj b) = true → l.blk ≠ c) → w'.heap[c]? = w.heap[c]?
  low : ∀ c, c < B0 → w'.heap[c]? = w.heap[c]?
  fresh : ∀ b l, ι' b = some l → ι b = none → H'.alive (H'.obj b) = true → w.heap.size ≤ l.blk ∨ ∃ b0 l0, ι b0 = some l0 ∧ H.alive (H.obj b0) = true ∧ l0.blk = l.blk
  old : ∀ b l, ι b = some l → H'.alive (H'.obj b) = true → H.alive (H.obj b) = true
  loc : ∀ b, b < H.next → ι b = none → H'.obj b = H.obj b
  os : w'.os = w.os
  tape : w'.tape = w.tape
  output : w'.output = w.output

theorem Step.refl {P : Program} {B0 : Nat} {ι : Emb} {H : AH} {w : World} (h : HRel P B0 ι H w) : Step P B0 ι H w ι H w :=
  ⟨Emb.le_refl _, fun _ _ h => .inl h, Nat.le_refl _, h, Nat.le_refl _, fun _ _ _ => rfl, fun _ _ => rfl, fun b l h k => by rw [h] at k; simp at k, fun _ _ _ h => h, fun _ _ _ => rfl, rfl, rfl, rfl⟩

theorem Step.trans {P : Program} {B0 : Nat} {ι ι1 ι2 : Emb} {H H1 H2 : AH} {w w1 w2 : World} (h : Step P B0 ι H w ι1 H1 w1) (k : Step P B0 ι1 H1 w1 ι2 H2 w2) : Step P B0 ι H w ι2 H2 w2 where
  le := Emb.le_trans h.le k.le
  new b l hb := by
    rcases k.new b l hb with h1 | ⟨h1, h2⟩
    · exact h.new b l h1
    · cases e : ι b with
      | none => exact .inr ⟨rfl, Nat.le_trans h.next h2⟩
      | some l' => have := h.le b l' e; rw [h1] at this; simp at this
  next := Nat.le_trans h.next k.next
  rel := k.rel
  size := Nat.le_trans h.size k.size
  frame c hc hn := by
    rw [k.frame c (Nat.lt_of_lt_of_le hc h.size) ?_, h.frame c hc hn]
    intro b l hb ha e
    rcases h.new b l hb with h1 | ⟨h1, _⟩
    · exact hn b l h1 (h.old b l h1 ha) e
    · rcases h.fresh b l hb h1 ha with h2 | ⟨b0, l0, hb0, ha0, e0⟩
      · omega
      · exact hn b0 l0 hb0 ha0 (e0.trans e)
  low c hc := (k.low c hc).trans (h.low c hc)
  fresh b l hb hn ha := by
    rcases k.new b l hb with h1 | ⟨h1, _⟩
    · exact h.fresh b l h1 hn (k.old b l h1 ha)
    · rcases k.fresh b l hb h1 ha with h2 | ⟨b0, l0, hb0, ha0, e0⟩
      · exact .inl (Nat.le_trans h.size h2)
      · rcases h.new b0 l0 hb0 with h3 | ⟨h3, _⟩
        · exact .inr ⟨b0, l0, h3, h.old b0 l0 h3 ha0, e0⟩
        · rcases h.fresh b0 l0 hb0 h3 ha0 with h4 | ⟨b1, l1, hb1, ha1, e1⟩
          · exact .inl (by omega)
          · exact .inr ⟨b1, l1, hb1, ha1, e1.trans e0⟩
  old b l hb ha := h.old b l hb (k.old b l (h.le b l hb) ha)
  loc b hb hn := by
    rw [k.loc b (Nat.lt_of_lt_of_le hb h.next) ?_, h.loc b hb hn]
    cases e : ι1 b with
    | none => rfl
    | some l => rcases h.new b l e with h1 | ⟨_, h1⟩
                · rw [hn] at h1; cases h1
                · omega
  os := k.os.trans h.os
  tape := k.tape.trans h.tape
  output := k.output.trans h.output

/-- The world may draw. -/
theorem HRel.drewN {P : Program} {B0 : Nat} {ι : Emb} {H : AH} {w : World} (h : HRel P B0 ι H w) (w' : World) (hw : w'.heap = w.heap) : HRel P B0 ι H w' where
  base := by rw [hw]; exact h.base
  dom := h.dom
  obj b l hb ha := (h.obj b l hb ha).carry (Emb.le_refl _) (by rw [hw])
  sep := h.sep
  grp := h.grp
theorem Step.drew {P : Program} {B0 : Nat} {ι : Emb} {H : AH} {w : World} (h : HRel P B0 ι H w) : Step P B0 ι H w ι H w.drew :=
  ⟨Emb.le_refl _, fun _ _ h => .inl h, Nat.le_refl _, h.drewN w.drew rfl, Nat.le_refl _, fun _ _ _ => rfl, fun _ _ => rfl, fun b l h k => by rw [h] at k; simp at k, fun _ _ _ h => h, fun _ _ _ => rfl, rfl, rfl, rfl⟩

/-! ### Reading -/
/-- An object that has been made. -/
def AH.lo (H : AH) (b : Nat) : AObj := if b < H.next then H.obj b else .dead
theorem AH.lo_row {H : AH} {b : Nat} {et : TypeId} {cells : List Value} {st : RowSt} {g v : Nat} (h : H.lo b = .row et cells st g v) : H.obj b = .row et cells st g v := by
  unfold AH.lo at h; split at h
  · exact h
  · cases h
theorem AH.lo_map {H : AH} {b : Nat} {es : List (Value × Value)} {bs : List Nat} {ck : Nat} (h : H.lo b = .map es bs ck) : H.obj b = .map es bs ck := by
  unfold AH.lo at h; split at h
  · exact h
  · cases h
theorem AH.lo_lt {H : AH} {b : Nat} (h : b < H.next) : H.lo b = H.obj b := if_pos h
theorem AH.lo_of {H : AH} {b : Nat} {o : AObj} (h : H.lo b = o) (ho : o ≠ .dead) : b < H.next ∧ H.obj b = o := by
  unfold AH.lo at h; split at h
  · rename_i hb; exact ⟨hb, h⟩
  · exact absurd h.symm ho

def AH.rd (H : AH) (b off n : Nat) : Option (List Value) :=
  match H.lo b with
  | .row et cells st g v => if H.alive (.row et cells st g v) && decide (off + n ≤ cells.length) then some ((cells.drop off).take n) else none
  | _ => none

theorem Addr.add_plain (c o i : Nat) : (⟨c, o, none⟩ : Addr).add i = ⟨c, o + i, none⟩ := by
  unfold Addr.add; split <;> simp_all

theorem run_loadCellsFrom {P : Program} {w : World} {c o : Nat} : ∀ (n i : Nat) (acc : Array Value) (vs : List Value), vs.length = n → (∀ j y, vs[j]? = some y → w.cell? ⟨c, o + (i + j), none⟩ = some y) →
    (loadCellsFrom ⟨c, o, none⟩ i n acc).run P w = .ok (acc ++ vs.toArray) w
  | 0, i, acc, vs, hl, _ => by
    have : vs = [] := List.length_eq_zero_iff.1 hl
    subst this; simp [loadCellsFrom]
  | n + 1, i, acc, [], hl, _ => by simp at hl
  | n + 1, i, acc, v :: vs, hl, h => by
    have h0 := h 0 v (by simp)
    have := run_loadCellsFrom (P := P) (w := w) (c := c) (o := o) n (i + 1) (acc.push v) vs (by simpa using hl) (fun j y hy => by
      have := h (j + 1) y (by simpa using hy)
      rw [show i + 1 + j = i + (j + 1) by omega]; exact this)
    simp only [loadCellsFrom, Sem.run_bind, run_load, Addr.add_plain]
    simp only [Nat.add_zero] at h0
    rw [h0]
    simp only [Result.andThen_ok, this]
    simp

theorem HRel.rd {P : Program} {B0 : Nat} {ι : Emb} {H : AH} {w : World} (h : HRel P B0 ι H w) {b off n : Nat} {l : ILoc} (hb : ι b = some l) {vs : List Value} (hr : H.rd b off n = some vs) :
    vs.length = n ∧ ∃ vs', LRel ι vs vs' ∧ (∀ j y, vs'[j]? = some y → w.cell? ⟨l.blk, l.base + off + j, none⟩ = some y) := by
  unfold AH.rd at hr
  split at hr
  · rename_i et cells st g v ho
    have ho := AH.lo_row ho
    split at hr
    · rename_i hc
      rw [Bool.and_eq_true, decide_eq_true_eq] at hc
      injection hr with hr
      have hlen : vs.length = n := by rw [← hr]; simp; omega
      refine ⟨hlen, ?_⟩
      have ha : H.alive (H.obj b) = true := by rw [ho]; exact hc.1
      have hO := h.obj b l hb ha
      rw [ho] at hO
      obtain ⟨⟨cs, t, fr, h1, h2, h3, _⟩, hf, _⟩ := hO
      have hget : ∀ j x, vs[j]? = some x → ∃ y, cs[l.base + off + j]? = some y ∧ VRel ι x y := fun j x hx => by
        have : cells[off + j]? = some x := by
          rw [← hr] at hx
          rw [List.getElem?_take] at hx
          split at hx
          · rwa [List.getElem?_drop] at hx
          · simp at hx
        obtain ⟨y, a, b⟩ := h3 _ _ this
        exact ⟨y, by rw [Nat.add_assoc]; exact a, b⟩
      refine ⟨(List.range n).map fun j => (cs[l.base + off + j]?).getD undef, LRel.of_get (by simp [hlen]) (fun i x y hx hy => ?_), fun j y hy => ?_⟩
      · obtain ⟨y', a, b⟩ := hget i x hx
        simp only [List.getElem?_map] at hy
        have hi : i < n := by
          have := (List.getElem?_eq_some_iff.1 hx).1; omega
        rw [List.getElem?_range hi] at hy
        simp only [Option.map_some, Option.some.injEq] at hy
        rw [a] at hy
        simp at hy; subst hy; exact b
      · simp only [List.getElem?_map] at hy
        have hj : j < n := by
          rcases Nat.lt_or_ge j n with h' | h'
          · exact h'
          · rw [List.getElem?_eq_none (by simpa using h')] at hy; simp at hy
        rw [List.getElem?_range hj] at hy
        simp only [Option.map_some, Option.some.injEq] at hy
        obtain ⟨y', a, _⟩ := hget j (vs[j]'(by omega)) (by simp)
        rw [a] at hy
        simp at hy; subst hy
        simp [World.cell?, h1, a]
    · simp at hr
  · simp at hr

theorem HRel.loadCells {P : Program} {B0 : Nat} {ι : Emb} {H : AH} {w : World} (h : HRel P B0 ι H w) {b off n : Nat} {l : ILoc} (hb : ι b = some l) {vs : List Value} (hr : H.rd b off n = some vs) :
    ∃ vs', LRel ι vs vs' ∧ (Go.loadCells ⟨l.blk, l.base + off, none⟩ n).run P w = .ok vs'.toArray w := by
  obtain ⟨hl, vs', hv, hc⟩ := h.rd hb hr
  refine ⟨vs', hv, ?_⟩
  have := run_loadCellsFrom (P := P) (w := w) (c := l.blk) (o := l.base + off) n 0 #[] vs' (by rw [← hv.length, hl]) (fun j y hy => by rw [Nat.zero_add]; exact hc j y hy)
  simpa [Go.loadCells] using this
end Go.Ev
