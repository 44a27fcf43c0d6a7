/-
  EV, part D: types as the abstract run knows them; making rows; append.
-/
import Derived.Test.YtikjlppcnmalnaaGreatDoorEvC
namespace Go.Ev
open Go.RowKit

structure TI where
  desc : TypeDesc
  size : Nat
  bytes : Nat
  zv : Value

/-- What the abstract run may know of a type: only what it needs, and only where its zero is plain. -/
def tiOf (P : Program) (t : TypeId) : Option TI :=
  match P.underlying t, P.info? t with
  | some d, some i => match i.zero with
    | some z => if z.cells.size = i.size ∧ z.cells.toList.all plain = true then some ⟨d, i.size, i.bytes, z⟩ else none
    | none => none
  | _, _ => none

def TOk (E : TypeId → Option TI) (P : Program) : Prop := ∀ t ti, E t = some ti → tiOf P t = some ti

structure TIs (P : Program) (t : TypeId) (ti : TI) (i : TypeInfo) : Prop where
  u : P.underlying t = some ti.desc
  info : P.info? t = some i
  size : i.size = ti.size
  bytes : i.bytes = ti.bytes
  zero : i.zero = some ti.zv
  zsize : ti.zv.cells.size = ti.size
  zplain : ∀ v, v ∈ ti.zv.cells.toList → plain v = true

theorem TOk.get {E : TypeId → Option TI} {P : Program} (h : TOk E P) {t : TypeId} {ti : TI} (ht : E t = some ti) : ∃ i, TIs P t ti i := by
  have := h t ti ht
  unfold tiOf at this
  split at this
  · rename_i d i hu hi
    split at this
    · rename_i z hz
      split at this
      · rename_i hc
        cases this
        exact ⟨i, hu, hi, rfl, rfl, hz, hc.1, fun v hv => List.all_eq_true.1 hc.2 v hv⟩
      · cases this
    · cases this
  · cases this

theorem TIs.cellsOf {P : Program} {t : TypeId} {ti : TI} {i : TypeInfo} (h : TIs P t ti i) : P.cellsOf t = ti.size := by simp [Program.cellsOf, h.info, h.size]

/-! ### Making -/
theorem heap_new (w : World) (o : Obj) : (w.alloc o).heap[w.heap.size]? = some o := by
  show (w.heap.push o)[w.heap.size]? = some o
  simp

def Emb.ext (ι : Emb) (b : Nat) (l : ILoc) : Emb := fun c => if c = b then some l else ι c
theorem Emb.ext_same (ι : Emb) (b : Nat) (l : ILoc) : ι.ext b l b = some l := by simp [Emb.ext]

theorem HRel.outside {P : Program} {B0 : Nat} {ι : Emb} {H : AH} {w : World} (h : HRel P B0 ι H w) {b : Nat} (hb : H.next ≤ b) : ι b = none := by
  cases e : ι b with
  | none => rfl
  | some l => have := h.dom b l e; omega

theorem Emb.le_ext {ι : Emb} {b : Nat} {l : ILoc} (h : ι b = Option.none) : ι.le (ι.ext b l) := fun c l' hc => by
  unfold Emb.ext
  by_cases e : c = b
  · subst e; rw [h] at hc; cases hc
  · rw [if_neg e]; exact hc

/-- A new object in a new block. -/
theorem HRel.allocW {P : Program} {B0 : Nat} {ι : Emb} {H : AH} {w : World} (h : HRel P B0 ι H w) (o : AObj) (w' : World) (l : ILoc) (hl : l.blk = w.heap.size) (hsz : w'.heap.size = w.heap.size + 1) (hold : ∀ k, k < w.heap.size → w'.heap[k]? = w.heap[k]?)
    (hos : w'.os = w.os) (htape : w'.tape = w.tape) (hout : w'.output = w.output)
    (hok : OOk P B0 (ι.ext H.next l) w' l o) (hg : ∀ et cells st g v, o = .row et cells st g v → g ≤ H.next ∧ v ≤ H.ver g) : Step P B0 ι H w (ι.ext H.next l) (H.alloc o) w' := by
  have hle : ι.le (ι.ext H.next l) := Emb.le_ext (h.outside (Nat.le_refl _))
  have hal : ∀ o', (H.alloc o).alive o' = H.alive o' := fun o' => by cases o' <;> rfl
  have key : ∀ b l', ι.ext H.next l b = some l' → (b = H.next ∧ l' = l) ∨ (b ≠ H.next ∧ ι b = some l') := fun b l' hb => by
    unfold Emb.ext at hb
    by_cases e : b = H.next
    · rw [if_pos e] at hb; cases hb; exact .inl ⟨e, rfl⟩
    · rw [if_neg e] at hb; exact .inr ⟨e, hb⟩
  refine ⟨hle, fun b l' hb => ?_, by simp, ⟨by have := h.base; omega, fun b l' hb => ?_, fun b l' hb ha => ?_, fun b b' lb lb' hne hb hb' ha ha' he => ?_, fun b l' et cells st g v hb ho => ?_⟩, by omega, fun c hc _ => hold c hc, fun c hc => hold c (by have := h.base; omega), fun b l' hb hn _ => ?_, fun b l' hb ha => ?_, fun b hb _ => by rw [AH.obj_alloc, if_neg (by omega)], hos, htape, hout⟩
  · rcases key b l' hb with ⟨rfl, rfl⟩ | ⟨_, h1⟩
    · exact .inr ⟨h.outside (Nat.le_refl _), Nat.le_refl _⟩
    · exact .inl h1
  · rcases key b l' hb with ⟨rfl, rfl⟩ | ⟨_, h1⟩
    · simp
    · have := h.dom b l' h1; simp; omega
  · rcases key b l' hb with ⟨rfl, rfl⟩ | ⟨hne, h1⟩
    · simpa using hok
    · rw [AH.obj_alloc, if_neg hne] at ha ⊢
      rw [hal] at ha
      have hO := h.obj b l' h1 ha
      exact hO.carry hle (hold _ (hO.lt ha))
  · rcases key b lb hb with ⟨rfl, rfl⟩ | ⟨h0, h1⟩
    · rcases key b' lb' hb' with ⟨rfl, rfl⟩ | ⟨h0', h1'⟩
      · exact absurd rfl hne
      · rw [AH.obj_alloc, if_neg h0', hal] at ha'
        have := (h.obj b' lb' h1' ha').lt ha'
        omega
    · rcases key b' lb' hb' with ⟨rfl, rfl⟩ | ⟨h0', h1'⟩
      · rw [AH.obj_alloc, if_neg h0, hal] at ha
        have := (h.obj b lb h1 ha).lt ha
        omega
      · rw [AH.obj_alloc, if_neg h0, hal] at ha
        rw [AH.obj_alloc, if_neg h0', hal] at ha'
        rw [AH.obj_alloc, AH.obj_alloc, if_neg h0, if_neg h0']
        exact h.sep b b' lb lb' hne h1 h1' ha ha' he
  · rcases key b l' hb with ⟨rfl, rfl⟩ | ⟨h0, h1⟩
    · rw [AH.obj_alloc, if_pos rfl] at ho
      have := hg _ _ _ _ _ ho
      simp; omega
    · rw [AH.obj_alloc, if_neg h0] at ho
      have := h.grp b l' et cells st g v h1 ho
      simp; omega
  · rcases key b l' hb with ⟨rfl, rfl⟩ | ⟨h0, h1⟩
    · exact .inl (by omega)
    · rw [hn] at h1; cases h1
  · have hne : b ≠ H.next := fun e => by have := h.dom b l' hb; omega
    rw [AH.obj_alloc, if_neg hne, hal] at ha
    exact ha

theorem HRel.alloc {P : Program} {B0 : Nat} {ι : Emb} {H : AH} {w : World} (h : HRel P B0 ι H w) (o : AObj) (obj : Obj) (l : ILoc) (hl : l.blk = w.heap.size)
    (hok : OOk P B0 (ι.ext H.next l) (w.alloc obj) l o) (hg : ∀ et cells st g v, o = .row et cells st g v → g ≤ H.next ∧ v ≤ H.ver g) : Step P B0 ι H w (ι.ext H.next l) (H.alloc o) (w.alloc obj) :=
  h.allocW o (w.alloc obj) l hl (by simp) (fun k hk => Below.heap_alloc _ _ _ hk) rfl rfl rfl hok hg

/-- A new row of known length. -/
theorem HRel.newRow {P : Program} {B0 : Nat} {ι : Emb} {H : AH} {w : World} (h : HRel P B0 ι H w) (et t : TypeId) {vs vs' : List Value} (hv : LRel ι vs vs') :
    Step P B0 ι H w (ι.ext H.next ⟨w.heap.size, 0, vs.length, P.cellsOf et⟩) (H.alloc (.row et vs .exact 0 0)) (w.alloc (.cells vs'.toArray t)) := by
  refine h.alloc _ _ _ rfl ⟨⟨vs'.toArray, t, (0, 0), ?_, by simp [hv.length], fun i x hx => ?_, fun _ i _ => by simp⟩, by simp, rfl, fun _ => h.base, fun e => (nomatch e), fun _ => ⟨rfl, rfl⟩⟩ (fun _ _ _ _ _ e => by cases e; simp)
  · exact heap_new w _
  · obtain ⟨y, hy, hr⟩ := hv.get hx
    exact ⟨y, by simpa using hy, hr.mono (Emb.le_ext (h.outside (Nat.le_refl _)))⟩

/-- A new row that may have room behind its end. -/
theorem HRel.newLoose {P : Program} {B0 : Nat} {ι : Emb} {H : AH} {w : World} (h : HRel P B0 ι H w) (et t : TypeId) {vs vs' : List Value} (hv : LRel ι vs vs') (spare : Array Value) :
    Step P B0 ι H w (ι.ext H.next ⟨w.heap.size, 0, vs.length + spare.size, P.cellsOf et⟩) (H.alloc (.row et vs .loose H.next (H.ver H.next))) (w.alloc (.cells (vs'.toArray ++ spare) t)) := by
  refine h.alloc _ _ _ rfl ⟨⟨vs'.toArray ++ spare, t, (0, 0), ?_, by simp [hv.length], fun i x hx => ?_, fun _ i _ => by simp⟩, by simp, rfl, fun _ => h.base, fun e => (nomatch e), fun e => (nomatch e)⟩ (fun _ _ _ _ _ e => by cases e; simp)
  · exact heap_new w _
  · obtain ⟨y, hy, hr⟩ := hv.get hx
    refine ⟨y, ?_, hr.mono (Emb.le_ext (h.outside (Nat.le_refl _)))⟩
    have : i < vs'.length := (List.getElem?_eq_some_iff.1 hy).1
    simp only [Nat.zero_add]
    rw [Array.getElem?_append_left (by simpa using this)]
    simpa using hy

/-! ### append -/
/-- Behind 'append': the slice, and the heap. n: how many elements come; new: their cells. -/
def AH.app (H : AH) (et : TypeId) (sz bytes : Nat) (s : Value) (n : Nat) (new : List Value) : Option (Value × AH) :=
  match s with
  | .slice none 0 0 =>
    if n = 0 then some (.slice none 0 0, H)
    else if n * bytes ≤ 140737488355328 ∧ n < 4611686018427387904 ∧ 0 < sz then some (.slice (some ⟨H.next, 0, none⟩) n unk, H.alloc (.row et new .loose H.next (H.ver H.next)))
    else none
  | .slice (some ⟨b, off, none⟩) len cap =>
    if n = 0 then some (.slice (some ⟨b, off, none⟩) len cap, H)
    else if ¬ ((len + n) * bytes ≤ 140737488355328 ∧ len + n < 4611686018427387904 ∧ 0 < sz) then none
    else if cap = unk then
      match H.obj b with
      | .row et' cells .loose g v =>
        if et' = et ∧ H.ver g = v then
          if off + len * sz + n * sz ≤ cells.length then (H.wr b (off + len * sz) new).map fun H' => (.slice (some ⟨b, off, none⟩) (len + n) unk, H')
          else if off + len * sz = cells.length then
            some (.slice (some ⟨H.next, 0, none⟩) (len + n) unk, (H.put b (.row et cells .shared g v)).alloc (.row et (cells.drop off ++ new) .loose g v))
          else if off + len * sz < cells.length then
            some (.slice (some ⟨H.next, 0, none⟩) (len + n) unk, ((H.put b .dead).bump g (v + 1)).alloc (.row et ((cells.drop off).take (len * sz) ++ new) .loose g (v + 1)))
          else none
        else none
      | _ => none
    else if len + n ≤ cap then (H.wr b (off + len * sz) new).map fun H' => (.slice (some ⟨b, off, none⟩) (len + n) cap, H')
    else match H.rd b off (len * sz) with
      | some old => some (.slice (some ⟨H.next, 0, none⟩) (len + n) unk, H.alloc (.row et (old ++ new) .loose H.next (H.ver H.next)))
      | none => none
  | _ => none

section
variable {P : Program} {w : World}
theorem run_underlying' {t : TypeId} {d : TypeDesc} (h : P.underlying t = some d) (w : World) : (underlying t).run P w = .ok d w := by simp [underlying, h]

theorem zeroCells_size (z : Array Value) (n : Nat) : (Builtin.zeroCells z n).size = n * z.size := by simp [Builtin.zeroCells]

/-- Whatever grows: a new block. -/
theorem run_append_grows (t u ty e : TypeId) (ti : TI) (i : TypeInfo) (ht : P.underlying t = some (.slice e)) (hT : TIs P e ti i) {d : TypeDesc} (hu : P.underlying u = some d) (hd : ∀ k, d ≠ .int k)
    (base : Option Addr) (sLen sCap : Nat) (olds news : List Value) (x : Value) (n : Nat) (hlen : (Builtin.lenOf x).run P w = .ok n w)
    (hold : (Builtin.firstCells ti.size sLen (.slice base sLen sCap)).run P w.drew = .ok olds.toArray w.drew) (hnew : (Builtin.firstCells ti.size n x).run P w.drew = .ok news.toArray w.drew)
    (hg : sCap < sLen + n) (h63 : sLen + n < 4611686018427387904) (hfit : (sLen + n) * ti.bytes ≤ 140737488355328) :
    ∃ c, sLen + n ≤ c ∧ (Builtin.append_ #[t, u] ty #[.slice base sLen sCap, x]).run P w =
      .ok (.slice (some ⟨w.heap.size, 0, none⟩) (sLen + n) c) (w.drew.alloc (.cells ((olds ++ news).toArray ++ Builtin.zeroCells ti.zv.cells (c - (sLen + n))) e)) := by
  refine ⟨grownCap w (sLen + n) sCap e, by unfold grownCap; simp [Question.cut], ?_⟩
  have hn : ¬ (sLen + n ≤ sCap) := by omega
  have h63' : ¬ (9223372036854775807 < ((sLen : Int) + (n : Int))) := by omega
  have hfit' := growslice_fits (need := sLen + n) (old := sCap) (bytes := ti.bytes) hg hfit
  have h48' : ¬ (281474976710656 < Builtin.nextslicecap (sLen + n) sCap * i.bytes) := by rw [hT.bytes]; omega
  simp [Builtin.append_, run_underlying' ht, run_underlying' hu, sizeOf, typeInfo, zeroValue, hT.info, hT.zero, hT.size, hlen, hn, h63', h48', Question.forced, hold, hnew, newRow, grownCap]
  congr 2
  apply Array.ext'
  simp [List.append_assoc]

/-- Whatever fits: written in place. -/
theorem run_append_fits (t u ty e : TypeId) (ti : TI) (i : TypeInfo) (ht : P.underlying t = some (.slice e)) (hT : TIs P e ti i) {d : TypeDesc} (hu : P.underlying u = some d) (hd : ∀ k, d ≠ .int k)
    (base : Option Addr) (sLen sCap : Nat) (news : List Value) (x : Value) (n : Nat) (hlen : (Builtin.lenOf x).run P w = .ok n w)
    (hnew : (Builtin.firstCells ti.size n x).run P w = .ok news.toArray w) (hg : sLen + n ≤ sCap) :
    (Builtin.append_ #[t, u] ty #[.slice base sLen sCap, x]).run P w = ((match base with | some a => storeCells (a.add (sLen * ti.size)) news | none => pure () : Sem Unit).run P w).andThen fun _ w' => .ok (.slice base (sLen + n) sCap) w' := by
  cases base <;> simp [Builtin.append_, run_underlying' ht, run_underlying' hu, sizeOf, typeInfo, hT.info, hT.size, hlen, hg, hnew]
theorem wrap_i64 {n : Int} (h0 : 0 ≤ n) (h1 : n < 9223372036854775808) : IntKind.i64.wrap n = n := by
  rw [IntKind.wrap_i64]; omega

/-- Appending so many zeros: what grows. -/
theorem run_append_grows0 (t u ty e : TypeId) (ti : TI) (i : TypeInfo) (ht : P.underlying t = some (.slice e)) (hT : TIs P e ti i) {k kk : IntKind} (hu : P.underlying u = some (.int k))
    (base : Option Addr) (sLen sCap : Nat) (olds : List Value) (n : Nat)
    (hold : (Builtin.firstCells ti.size sLen (.slice base sLen sCap)).run P w.drew = .ok olds.toArray w.drew)
    (hg : sCap < sLen + n) (h63 : sLen + n < 4611686018427387904) (hfit : (sLen + n) * ti.bytes ≤ 140737488355328) :
    ∃ c, sLen + n ≤ c ∧ (Builtin.append_ #[t, u] ty #[.slice base sLen sCap, .int kk n]).run P w =
      .ok (.slice (some ⟨w.heap.size, 0, none⟩) (sLen + n) c) (w.drew.alloc (.cells ((olds ++ (Builtin.zeroCells ti.zv.cells n).toList).toArray ++ Builtin.zeroCells ti.zv.cells (c - (sLen + n))) e)) := by
  refine ⟨grownCap w (sLen + n) sCap e, by unfold grownCap; simp [Question.cut], ?_⟩
  have hn : ¬ (sLen + n ≤ sCap) := by omega
  have h63' : ¬ (9223372036854775807 < ((sLen : Int) + (n : Int))) := by omega
  have hfit' := growslice_fits (need := sLen + n) (old := sCap) (bytes := ti.bytes) hg hfit
  have h48' : ¬ (281474976710656 < Builtin.nextslicecap (sLen + n) sCap * i.bytes) := by rw [hT.bytes]; omega
  have hw : IntKind.i64.wrap (n : Int) = n := wrap_i64 (by omega) (by omega)
  have hl0 : ¬ ((n : Int) < 0) := by omega
  have hnb : n * ti.bytes ≤ 140737488355328 := Nat.le_trans (Nat.mul_le_mul_right _ (by omega)) hfit
  have hlb : ¬ ((281474976710656 : Int) < (n : Int) * (i.bytes : Int)) := by rw [hT.bytes, ← Int.natCast_mul]; omega
  have hzv : ∀ w1 : World, (zeroValue e).run P w1 = .ok ti.zv w1 := fun w1 => by simp [zeroValue, typeInfo, hT.info, hT.zero]
  by_cases h0 : n * ti.size = 0
  · have hz0 : Builtin.zeroCells ti.zv.cells n = #[] := by
      unfold Builtin.zeroCells; rw [hT.zsize, h0]; simp
    have h0' : n = 0 ∨ ti.size = 0 := Nat.mul_eq_zero.1 h0
    simp [Builtin.append_, run_underlying' ht, run_underlying' hu, sizeOf, typeInfo, hT.info, hT.size, asInt, asIntOf, hw, hl0, hlb, hn, h63', h48', Question.forced, hold, newRow, grownCap, h0, h0', hzv, hz0]
  · have h0' : ¬ (n = 0 ∨ ti.size = 0) := fun e => h0 (Nat.mul_eq_zero.2 e)
    simp [Builtin.append_, run_underlying' ht, run_underlying' hu, sizeOf, typeInfo, hT.info, hT.size, asInt, asIntOf, hw, hl0, hlb, hn, h63', h48', Question.forced, hold, newRow, grownCap, h0, h0', hzv]
    congr 2
    apply Array.ext'
    simp

theorem run_append_fits0 (t u ty e : TypeId) (ti : TI) (i : TypeInfo) (ht : P.underlying t = some (.slice e)) (hT : TIs P e ti i) {k kk : IntKind} (hu : P.underlying u = some (.int k))
    (base : Option Addr) (sLen sCap : Nat) (n : Nat) (h63 : n < 4611686018427387904) (hfit : n * ti.bytes ≤ 140737488355328) (hg : sLen + n ≤ sCap) :
    (Builtin.append_ #[t, u] ty #[.slice base sLen sCap, .int kk n]).run P w = ((match base with | some a => storeCells (a.add (sLen * ti.size)) (Builtin.zeroCells ti.zv.cells n).toList | none => pure () : Sem Unit).run P w).andThen fun _ w' => .ok (.slice base (sLen + n) sCap) w' := by
  have hw : IntKind.i64.wrap (n : Int) = n := wrap_i64 (by omega) (by omega)
  have hl0 : ¬ ((n : Int) < 0) := by omega
  have hlb : ¬ ((281474976710656 : Int) < (n : Int) * (i.bytes : Int)) := by rw [hT.bytes, ← Int.natCast_mul]; omega
  have hzv : ∀ w1 : World, (zeroValue e).run P w1 = .ok ti.zv w1 := fun w1 => by simp [zeroValue, typeInfo, hT.info, hT.zero]
  by_cases h0 : n * ti.size = 0
  · have hz0 : Builtin.zeroCells ti.zv.cells n = #[] := by
      unfold Builtin.zeroCells; rw [hT.zsize, h0]; simp
    have h0' : n = 0 ∨ ti.size = 0 := Nat.mul_eq_zero.1 h0
    cases base <;> simp [Builtin.append_, run_underlying' ht, run_underlying' hu, sizeOf, typeInfo, hT.info, hT.size, asInt, asIntOf, hw, hl0, hlb, hg, h0, h0', hz0]
  · have h0' : ¬ (n = 0 ∨ ti.size = 0) := fun e => h0 (Nat.mul_eq_zero.2 e)
    cases base <;> simp [Builtin.append_, run_underlying' ht, run_underlying' hu, sizeOf, typeInfo, hT.info, hT.size, asInt, asIntOf, hw, hl0, hlb, hg, h0, h0', hzv]
end
end Go.Ev
