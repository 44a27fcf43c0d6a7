/-
  EV, part K: making slices and maps; lengths; copy, clear; parts of values.
-/
import Derived.Test.YtikjlppcnmalnaaGreatDoorEvJ
namespace Go.Ev
open Go.RowKit

variable {P : Program} {B0 : Nat} {ι : Emb} {H H' : AH} {w : World} {E : TypeId → Option TI}

/-! ### make -/
def aMakeSlice (E : TypeId → Option TI) (H : AH) (t : TypeId) (len cap : Value) : Option (Value × AH) :=
  match len, cap with
  | .int _ l, .int _ c => match E t with
    | some ⟨.slice e, _, _, _⟩ => match E e with
      | some te => if 0 ≤ l ∧ l ≤ c ∧ c.toNat * te.bytes ≤ 140737488355328 ∧ c < 4611686018427387904 then
          some (.slice (some ⟨H.next, 0, none⟩) l.toNat c.toNat, H.alloc (.row e (azeros te.zv.cells.toList c.toNat) .exact 0 0))
        else none
      | none => none
    | _ => none
  | _, _ => none

theorem aMakeSlice_ok (hE : TOk E P) (h : HRel P B0 ι H w) {t : TypeId} {l l' c c' v : Value} (hl : VRel ι l l') (hc : VRel ι c c') (ha : aMakeSlice E H t l c = some (v, H')) :
    ∃ v' w' ι', (Instr.makeSlice t l' c').run P w = .ok v' w' ∧ VRel ι' v v' ∧ Step P B0 ι H w ι' H' w' := by
  unfold aMakeSlice at ha
  split at ha
  · rename_i k1 l k2 c
    cases hl; cases hc
    split at ha
    · rename_i e sz by_ zv hti
      obtain ⟨i, hT⟩ := hE.get hti
      have hu : P.underlying t = some (.slice e) := hT.u
      split at ha
      · rename_i te hte
        obtain ⟨je, hTe⟩ := hE.get hte
        split at ha
        · rename_i hb
          obtain ⟨h0, h1, h2, h3⟩ := hb
          cases ha
          have hst := h.newRow e e (LRel.of_plain (ι := ι) (azeros_plain hTe.zplain c.toNat))
          refine ⟨.slice (some ⟨w.heap.size, 0, none⟩) l.toNat c.toNat, _, _, ?_, ?_, hst⟩
          · have wl : IntKind.i64.wrap l = l := wrap_i64 h0 (by omega)
            have wc : IntKind.i64.wrap c = c := wrap_i64 (by omega) (by omega)
            have hbig : ¬ ((je.bytes : Int) * c > 2 ^ 48) := by
              rw [hTe.bytes]
              have : ((c.toNat * te.bytes : Nat) : Int) ≤ 140737488355328 := Int.ofNat_le.2 h2
              have e1 : ((c.toNat * te.bytes : Nat) : Int) = (te.bytes : Int) * c := by
                rw [Int.natCast_mul, Int.toNat_of_nonneg (by omega), Int.mul_comm]
              omega
            have hz : azeros te.zv.cells.toList c.toNat = (Builtin.zeroCells te.zv.cells c.toNat).toList := (azeros_eq _ _).symm
            have hcells : ∀ z : Array Value, (c.toNat * te.size ≠ 0 → z = te.zv.cells) → (Array.range (c.toNat * te.size)).map (z[· % z.size]!) = Builtin.zeroCells te.zv.cells c.toNat := fun z hz => by
              unfold Builtin.zeroCells
              rw [hTe.zsize]
              by_cases h0 : c.toNat * te.size = 0
              · rw [h0]; simp
              · rw [hz h0, hTe.zsize]
            have hcond : ¬ (((decide (c < 0) || decide ((je.bytes : Int) * c > 2 ^ 48)) || decide (l < 0)) || decide (l > c)) = true := by
              simp only [Bool.or_eq_true, decide_eq_true_eq, not_or]
              omega
            unfold Instr.makeSlice
            simp only [Sem.run_bind, run_underlying' hu, Result.andThen_ok, asInt, asIntOf, Sem.run_pure, typeInfo, run_program, hTe.info, wl, wc]
            have h4 : ¬ (c < 0) := by omega
            have h5 : ¬ (l < 0) := by omega
            have h6 : ¬ (l > c) := by omega
            simp only [h4, h5, h6, hbig, decide_false, Bool.or_false, Bool.false_eq_true, if_false]
            simp only [Sem.run_bind, run_askRoom, Result.andThen_ok, run_sizeOf hTe]
            by_cases h0 : c.toNat * te.size = 0
            · rw [if_pos h0]
              simp only [Sem.run_pure, Sem.run_bind, Result.andThen_ok]
              rw [hcells #[] (fun e => absurd h0 e)]
              simp [newRow, hz]
            · rw [if_neg h0]
              simp only [Sem.run_pure, Sem.run_bind, Result.andThen_ok, run_zeroValue hTe]
              rw [hcells te.zv.cells (fun _ => rfl)]
              simp [newRow, hz]
          · have := VRel.slice (len := l.toNat) (cap := c.toNat) (off := 0) (Emb.ext_same ι H.next ⟨w.heap.size, 0, (azeros te.zv.cells.toList c.toNat).length, P.cellsOf e⟩) (by unfold unk; omega) (by omega)
            simpa using this
        · cases ha
      · cases ha
    · cases ha
  · cases ha

theorem HRel.newMap (h : HRel P B0 ι H w) : Step P B0 ι H w (ι.ext H.next ⟨w.heap.size, 0, 0, 0⟩) (H.alloc (.map [] [] 0)) (w.alloc (.map #[] 0)) :=
  h.alloc _ _ _ rfl ⟨⟨#[], 0, heap_new w _, rfl, fun i k v hx => by simp at hx, rfl, rfl⟩, h.base⟩ (fun _ _ _ _ _ e => (nomatch e))

theorem makeMap_ok (t : TypeId) : (Instr.makeMap t none).run P w = .ok (.map (some w.heap.size)) (w.alloc (.map #[] 0)) := by
  simp [Instr.makeMap]

structure ERel (ι : Emb) (es : List (Value × Value)) (mes : List MapEntry) : Prop where
  len : mes.length = es.length
  get : ∀ (i : Nat) (k v : Value), es[i]? = some (k, v) → ∃ e, mes[i]? = some e ∧ constOk k = true ∧ e.key = k ∧ VRel ι v e.val

/-- A map's entries turned. -/
theorem HRel.mapPut (h : HRel P B0 ι H w) {b : Nat} {l : ILoc} (hb : ι b = some l) {es es' : List (Value × Value)} {bs bs' : List Nat} {ck ck' : Nat} (ho : H.obj b = .map es bs ck) {mes mes' : Array MapEntry} {clock : Nat}
    (hw : w.heap[l.blk]? = some (.map mes clock)) (hR : ERel ι es' mes'.toList) (hS : mes'.toList.map (·.born) = bs') : Step P B0 ι H w ι (H.put b (.map es' bs' ck')) { w with heap := w.heap.setIfInBounds l.blk (.map mes' ck') } := by
  have ha : H.alive (H.obj b) = true := by rw [ho]; rfl
  have hO := h.obj b l hb ha
  rw [ho] at hO
  have hB : B0 ≤ l.blk := MapOk.own hO
  have hlt : l.blk < w.heap.size := (Array.getElem?_eq_some_iff.1 hw).1
  refine h.write hb ha hB (fun c e => by simp [e]) rfl (fun c l' e hc hac => ?_) ?_ (fun c l' et cells st g v hc hoc => ?_) (fun k hk => by simp [Ne.symm hk]) (by simp) rfl rfl rfl
  · have hac' : H.alive (H.obj c) = true := by cases hoc : H.obj c <;> rw [hoc] at hac <;> exact hac
    refine ⟨hac', fun e' => ?_⟩
    have := h.sep b c l l' (Ne.symm e) hb hc ha hac' e'.symm
    rw [ho] at this
    cases hoc : H.obj c <;> rw [hoc] at this <;> simp [Share] at this
  · simp only [AH.obj_put, if_true]
    exact ⟨⟨mes', ck', by simp [hlt], by simpa using hR.len, fun i k v hx => by simpa using hR.get i k v hx, hS, rfl⟩, hB⟩
  · by_cases e : c = b
    · subst e; simp at hoc
    · simp [e] at hoc; simpa using h.grp c l' et cells st g v hc hoc

/-! ### Lengths -/
def aLen (E : TypeId → Option TI) (H : AH) (t : TypeId) (x : Value) : Option Value :=
  match E t with
  | some ti => match ti.desc, x with
    | .string, .string s => some (.int .i64 s.size)
    | .slice _, .slice _ n _ => some (.int .i64 n)
    | .map _ _, .map none => some (.int .i64 0)
    | .map _ _, .map (some b) => match H.lo b with
      | .map es _ _ => some (.int .i64 es.length)
      | _ => none
    | .array n _, _ => some (.int .i64 n)
    | _, _ => none
  | none => none

theorem aLen_ok (hE : TOk E P) (h : HRel P B0 ι H w) {t ty : TypeId} {x x' v : Value} (hx : VRel ι x x') (ha : aLen E H t x = some v) : ∃ v', (Builtin.len_ #[t] ty #[x']).run P w = .ok v' w ∧ VRel ι v v' := by
  unfold aLen at ha
  split at ha
  · rename_i ti hti
    obtain ⟨i, hT⟩ := hE.get hti
    have hu := hT.u
    split at ha
    · rename_i s hd
      rw [hd] at hu
      cases ha; cases hx
      exact ⟨_, by simp [Builtin.len_, run_underlying' hu, goInt], .int _ _⟩
    · rename_i e a n c hd
      rw [hd] at hu
      cases ha
      cases hx <;> exact ⟨_, by simp [Builtin.len_, run_underlying' hu, goInt], .int _ _⟩
    · rename_i k e hd
      rw [hd] at hu
      cases ha; cases hx
      exact ⟨_, by simp [Builtin.len_, run_underlying' hu, goInt], .int _ _⟩
    · rename_i k e b hd
      rw [hd] at hu
      split at ha
      · rename_i es ho
        have ho := AH.lo_map ho
        cases ha
        cases hx with
        | map hb =>
          have hO := h.obj b _ hb (by rw [ho]; rfl)
          rw [ho] at hO
          obtain ⟨⟨mes, clock, h1, h2, _⟩, _⟩ := hO
          refine ⟨_, ?_, .int _ _⟩
          simp [Builtin.len_, run_underlying' hu, goInt, getObj, Sem.run, h1, h2]
      · cases ha
    · rename_i n e hd
      rw [hd] at hu
      cases ha
      exact ⟨_, by simp [Builtin.len_, run_underlying' hu, goInt], .int _ _⟩
    · cases ha
  · cases ha

/-! ### The source of a copy, of an append -/
def AH.src (H : AH) (sz : Nat) (x : Value) (n : Nat) : Option (List Value) :=
  match x with
  | .slice none 0 0 => if n = 0 then some [] else none
  | .slice (some ⟨b, off, none⟩) _ _ => if n = 0 then some [] else H.rd b off (n * sz)
  | .string s => if sz = 1 ∧ n ≤ s.size then some ((s.data.toList.take n).map fun b => .int .u8 b.toNat) else none
  | _ => none

def srcLen : Value → Option Nat
  | .slice _ n _ => some n
  | .string s => some s.size
  | _ => none

theorem srcLen_ok {x x' : Value} {n : Nat} (hx : VRel ι x x') (h : srcLen x = some n) (w : World) : (Builtin.lenOf x').run P w = .ok n w := by
  cases hx <;> simp [srcLen] at h <;> subst h <;> simp [Builtin.lenOf]

theorem src_ok (h : HRel P B0 ι H w) {sz n : Nat} {x x' : Value} {vs : List Value} (hx : VRel ι x x') (hs : H.src sz x n = some vs) (hnl : ∀ m, srcLen x = some m → n ≤ m) :
    vs.length = n * sz ∧ ∃ vs', LRel ι vs vs' ∧ ∀ w2 : World, w2.heap = w.heap → (Builtin.firstCells sz n x').run P w2 = .ok vs'.toArray w2 := by
  cases hx with
  | sliceNil =>
    simp only [AH.src] at hs
    split at hs
    · rename_i h0; cases hs; subst h0; exact ⟨by simp, [], .nil, fun w2 _ => by simp [Builtin.firstCells]⟩
    · cases hs
  | slice hb hc hl =>
    simp only [AH.src] at hs
    split at hs
    · rename_i h0; cases hs; subst h0; exact ⟨by simp, [], .nil, fun w2 _ => by simp [Builtin.firstCells, Go.loadCells, loadCellsFrom]⟩
    · obtain ⟨vs', hv, hf⟩ := run_firstCells_ok h hb hs _ _
      exact ⟨(h.rd hb hs).1, vs', hv, hf⟩
  | sliceUnk hb hl hsz he =>
    simp only [AH.src] at hs
    split at hs
    · rename_i h0; cases hs; subst h0; exact ⟨by simp, [], .nil, fun w2 _ => by simp [Builtin.firstCells, Go.loadCells, loadCellsFrom]⟩
    · obtain ⟨vs', hv, hf⟩ := run_firstCells_ok h hb hs _ _
      exact ⟨(h.rd hb hs).1, vs', hv, hf⟩
  | sliceZ a =>
    simp only [AH.src] at hs
    split at hs
    · rename_i h0; cases hs; subst h0; exact ⟨by simp, [], .nil, fun w2 _ => by simp [Builtin.firstCells, Go.loadCells, loadCellsFrom]⟩
    · rename_i h0; exact absurd (Nat.le_zero.1 (hnl 0 rfl)) h0
  | sliceEnd a hb hsz =>
    rename_i b off l
    simp only [AH.src] at hs
    split at hs
    · rename_i h0; cases hs; subst h0; exact ⟨by simp, [], .nil, fun w2 _ => by simp [Builtin.firstCells, Go.loadCells, loadCellsFrom]⟩
    · obtain ⟨hl, vs', hv, hc⟩ := h.rd hb hs
      -- nothing lies behind the block's end
      unfold AH.rd at hs
      split at hs
      · rename_i et cells st g v ho
        have ho := AH.lo_row ho
        split at hs
        · rename_i hcd
          simp only [Bool.and_eq_true, decide_eq_true_eq] at hcd
          have hO := h.obj b l hb (by rw [ho]; exact hcd.1)
          rw [ho] at hO
          have hf : l.base + cells.length ≤ l.size := RowOk.fits hO
          have h0 : n * sz = 0 := by omega
          have hnil : vs' = [] := List.length_eq_zero_iff.1 (by rw [← hv.length, hl, h0])
          subst hnil
          exact ⟨hl, [], hv, fun w2 _ => by simp [Builtin.firstCells, h0, Go.loadCells, loadCellsFrom]⟩
        · cases hs
      · cases hs
  | string s =>
    simp only [AH.src] at hs
    split at hs
    · rename_i hc
      cases hs
      have hsz : s.data.toList.length = s.size := by simp
      refine ⟨by simp [hc.1]; omega, _, LRel.of_plain (fun v hv => ?_), fun w2 _ => ?_⟩
      · simp only [List.mem_map] at hv
        obtain ⟨x, _, rfl⟩ := hv
        rfl
      · simp only [Builtin.firstCells, Sem.run_pure]
        congr 1
        apply Array.ext'
        simp
    · cases hs
  | _ => simp [AH.src] at hs

/-! ### copy, clear -/
def aCopy (E : TypeId → Option TI) (H : AH) (t : TypeId) (dst src : Value) : Option (Value × AH) :=
  match E t, srcLen src with
  | some ⟨.slice e, _, _, _⟩, some m => match E e, dst with
    | some _, .slice none 0 0 => some (.int .i64 0, H)
    | some te, .slice (some ⟨b, off, none⟩) len _ =>
      match H.src te.size src (min m len) with
      | some vs => if vs.all Value.oneCell' then (H.wr b off vs).map fun H' => (.int .i64 (min m len : Nat), H') else none
      | none => none
    | _, _ => none
  | _, _ => none

theorem aCopy_ok (hE : TOk E P) (h : HRel P B0 ι H w) {t u ty : TypeId} {d d' x x' v : Value} (hd : VRel ι d d') (hx : VRel ι x x') (ha : aCopy E H t d x = some (v, H')) :
    ∃ v' w', (Builtin.copy_ #[t, u] ty #[d', x']).run P w = .ok v' w' ∧ VRel ι v v' ∧ Step P B0 ι H w ι H' w' := by
  unfold aCopy at ha
  split at ha
  · rename_i e sz by_ zv m hti hm
    obtain ⟨i, hT⟩ := hE.get hti
    have hu : P.underlying t = some (.slice e) := hT.u
    have hlen := srcLen_ok (P := P) hx hm w
    split at ha
    · rename_i te hte
      obtain ⟨je, hTe⟩ := hE.get hte
      cases ha; cases hd
      have hf0 : (Builtin.firstCells te.size 0 x').run P w = .ok #[] w := by
        cases hx <;> simp [srcLen] at hm <;> simp [Builtin.firstCells, Go.loadCells, loadCellsFrom]
      refine ⟨_, w, ?_, .int _ _, Step.refl h⟩
      simp [Builtin.copy_, run_underlying' hu, hlen, run_sizeOf hTe, hf0, goInt]
    · rename_i te b off len cap hte
      obtain ⟨je, hTe⟩ := hE.get hte
      split at ha
      · rename_i vs hs
        split at ha
        · rename_i hone
          cases hw : H.wr b off vs with
          | none => rw [hw] at ha; cases ha
          | some H1 =>
            rw [hw] at ha; cases ha
            obtain ⟨hvl, vs', hv, hf⟩ := src_ok h hx hs fun k hk => by rw [hm] at hk; cases hk; exact Nat.min_le_left _ _
            have hf := hf w rfl
            have h1 : ∀ v, v ∈ vs → v.oneCell' = true := fun v hv => List.all_eq_true.1 hone v hv
            cases hd with
            | slice hb hc hl =>
              obtain ⟨w', hr, hst⟩ := h.storeCells hb hv h1 hw
              refine ⟨_, w', ?_, .int _ _, hst⟩
              have hf' : (Builtin.firstCells te.size (Nat.min m len) x').run P w = .ok vs'.toArray w := hf
              simp [Builtin.copy_, run_underlying' hu, hlen, run_sizeOf hTe, hf', hr, goInt]
            | sliceUnk hb hl hsz he =>
              obtain ⟨w', hr, hst⟩ := h.storeCells hb hv h1 hw
              refine ⟨_, w', ?_, .int _ _, hst⟩
              have hf' : (Builtin.firstCells te.size (Nat.min m len) x').run P w = .ok vs'.toArray w := hf
              simp [Builtin.copy_, run_underlying' hu, hlen, run_sizeOf hTe, hf', hr, goInt]
            | sliceZ a =>
              have hmin : min m 0 = 0 := Nat.min_zero m
              rw [hmin] at hvl hs hf
              have hnil : vs = [] := List.length_eq_zero_iff.1 (by simpa using hvl)
              subst hnil
              cases hv
              simp only [AH.wr, List.isEmpty_nil, if_true] at hw
              cases hw
              refine ⟨_, w, ?_, .int _ _, Step.refl h⟩
              simp only [Builtin.copy_, run_underlying' hu, hlen, run_sizeOf hTe, goInt, Sem.run_bind, Result.andThen_ok, Sem.run_pure, hmin, List.getElem?_toArray, List.getElem?_cons_zero, List.getElem?_cons_succ]
              simp [hf, Go.storeCells]
            | sliceEnd a hb hsz =>
              have hmin : min m 0 = 0 := Nat.min_zero m
              rw [hmin] at hvl hs hf
              have hnil : vs = [] := List.length_eq_zero_iff.1 (by simpa using hvl)
              subst hnil
              cases hv
              simp only [AH.wr, List.isEmpty_nil, if_true] at hw
              cases hw
              refine ⟨_, w, ?_, .int _ _, Step.refl h⟩
              simp only [Builtin.copy_, run_underlying' hu, hlen, run_sizeOf hTe, goInt, Sem.run_bind, Result.andThen_ok, Sem.run_pure, hmin, List.getElem?_toArray, List.getElem?_cons_zero, List.getElem?_cons_succ]
              simp [hf, Go.storeCells]
        · cases ha
      · cases ha
    · cases ha
  · cases ha

def aClear (E : TypeId → Option TI) (H : AH) (t : TypeId) (x : Value) : Option AH :=
  match E t, x with
  | some ⟨.slice _, _, _, _⟩, .slice none 0 0 => some H
  | some ⟨.slice e, _, _, _⟩, .slice (some ⟨b, off, none⟩) n _ => match E e with
    | some te => if n = 0 then some H else H.wr b off (azeros te.zv.cells.toList n)
    | none => none
  | some ⟨.map _ _, _, _, _⟩, .map (some b) => match H.obj b with
    | .map _ _ ck => some (H.put b (.map [] [] ck))
    | _ => none
  | _, _ => none

theorem plain_oneCell {v : Value} (h : plain v = true) : v.oneCell' = true := by cases v <;> simp [plain] at h <;> rfl

theorem aClear_ok (hE : TOk E P) (h : HRel P B0 ι H w) {t ty : TypeId} {x x' : Value} (hx : VRel ι x x') (ha : aClear E H t x = some H') :
    ∃ w', (Builtin.clear_ #[t] ty #[x']).run P w = .ok (.tuple #[]) w' ∧ Step P B0 ι H w ι H' w' := by
  unfold aClear at ha
  split at ha
  · rename_i e sz by_ zv hti
    obtain ⟨i, hT⟩ := hE.get hti
    have hu : P.underlying t = some (.slice e) := hT.u
    cases ha; cases hx
    exact ⟨w, by simp [Builtin.clear_, run_underlying' hu], Step.refl h⟩
  · rename_i e sz by_ zv b off n cap hti
    obtain ⟨i, hT⟩ := hE.get hti
    have hu : P.underlying t = some (.slice e) := hT.u
    split at ha
    · rename_i te hte
      obtain ⟨je, hTe⟩ := hE.get hte
      split at ha
      · rename_i h0
        cases ha; subst h0
        cases hx <;> exact ⟨w, by simp [Builtin.clear_, run_underlying' hu], Step.refl h⟩
      · rename_i h0
        have hv : LRel ι (azeros te.zv.cells.toList n) (Builtin.zeroCells te.zv.cells n).toList := by
          rw [azeros_eq]; exact LRel.of_plain (azeros_plain hTe.zplain n)
        have h1 : ∀ v, v ∈ azeros te.zv.cells.toList n → v.oneCell' = true := fun v hv => plain_oneCell (azeros_plain hTe.zplain n v hv)
        cases hx with
        | slice hb hc hl =>
          obtain ⟨w', hr, hst⟩ := h.storeCells hb hv h1 ha
          refine ⟨w', ?_, hst⟩
          obtain ⟨n, rfl⟩ : ∃ m, n = m + 1 := ⟨n - 1, by omega⟩
          simp [Builtin.clear_, run_underlying' hu, run_zeroValue hTe, hr]
        | sliceUnk hb hl hsz he =>
          obtain ⟨w', hr, hst⟩ := h.storeCells hb hv h1 ha
          refine ⟨w', ?_, hst⟩
          obtain ⟨n, rfl⟩ : ∃ m, n = m + 1 := ⟨n - 1, by omega⟩
          simp [Builtin.clear_, run_underlying' hu, run_zeroValue hTe, hr]
        | sliceEnd => exact absurd rfl h0
        | sliceZ => exact absurd rfl h0
    · cases ha
  · rename_i kt et sz by_ zv b hti
    obtain ⟨i, hT⟩ := hE.get hti
    have hu : P.underlying t = some (.map kt et) := hT.u
    split at ha
    · rename_i es bs ck ho
      cases ha
      cases hx with
      | map hb =>
        have hO := h.obj b _ hb (by rw [ho]; rfl)
        rw [ho] at hO
        obtain ⟨⟨mes, clock, h1, h2, h3, h4, rfl⟩, _⟩ := hO
        refine ⟨_, ?_, h.mapPut hb ho (mes' := #[]) (ck' := clock) h1 ⟨rfl, fun i k v hx => by simp at hx⟩ rfl⟩
        simp [Builtin.clear_, run_underlying' hu, getObj, setObj, Sem.run, h1]
    · cases ha
  · cases ha
end Go.Ev
