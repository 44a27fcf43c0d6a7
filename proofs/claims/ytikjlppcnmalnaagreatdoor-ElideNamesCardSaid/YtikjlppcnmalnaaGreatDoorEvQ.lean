/-
  EV, part Q: operations that make a new block, whatever its name.
-/
import Derived.Test.YtikjlppcnmalnaaGreatDoorEvP
namespace Go.Ev
open Go.RowKit

variable {B0 : Nat} {ι : Emb} {H H' : AH} {w : World} {T T' : PTree Value} {V : Env} {call : CallFn} {P : Program} {E : TypeId → Option TI}

/-- What an operation makes: the value as a function of the new block's name, and the object. -/
def aCreate (V : Env) (T : PTree Value) (o : Op) : Option ((Nat → Value) × AObj) :=
  match o with
  | .alloc t => match V.E t with
    | some ti => some (fun b => .pointer (some ⟨b, 0, none⟩), .row t ti.zv.cells.toList .exact 0 0)
    | none => none
  | .box t x => match oval V.nG T x with
    | some v => some (fun b => .pointer (some ⟨b, 0, none⟩), .row t v.cells.toList .exact 0 0)
    | none => none
  | .buildSlice t n ps => match oparts V.nG T ps.toList with
    | some vs => match V.E t with
      | some ⟨.slice e, _, _, _⟩ => match V.E e with
        | some te => if 16777216 < n * te.size ∨ unk ≤ n then none else
          match afill (fun i => some (i * te.size, te.size)) (azeros te.zv.cells.toList n) vs with
          | some cs => some (fun b => .slice (some ⟨b, 0, none⟩) n n, .row e cs .exact 0 0)
          | none => none
        | none => none
      | _ => none
    | none => none
  | .makeSlice t l c => match oval V.nG T l, oval V.nG T c with
    | some (.int _ l), some (.int _ c) => match V.E t with
      | some ⟨.slice e, _, _, _⟩ => match V.E e with
        | some te => if 0 ≤ l ∧ l ≤ c ∧ c.toNat * te.bytes ≤ 140737488355328 ∧ c < 4611686018427387904 then
            some (fun b => .slice (some ⟨b, 0, none⟩) l.toNat c.toNat, .row e (azeros te.zv.cells.toList c.toNat) .exact 0 0)
          else none
        | none => none
      | _ => none
    | _, _ => none
  | .makeMap _ none => some (fun b => .map (some b), .map [] [] 0)
  | _ => none

/-- An object that nobody shares. -/
def AObj.lone : AObj → Bool
  | .row _ _ .exact g v => g == 0 && v == 0
  | .map _ _ _ => true
  | _ => false

structure Makes (P : Program) (B0 : Nat) (ι : Emb) (w : World) (s : Sem Next) (mk : Nat → Value) (ob : AObj) (v' : Value) (obj : Obj) (l : ILoc) : Prop where
  run : s.run P w = .ok (.value v') (w.alloc obj)
  blk : l.blk = w.heap.size
  ok : ∀ b, ι b = none → B0 ≤ w.heap.size → VRel (ι.ext b l) (mk b) v' ∧ OOk P B0 (ι.ext b l) (w.alloc obj) l ob

theorem row_new (et t : TypeId) {vs vs' : List Value} (hv : LRel ι vs vs') {b : Nat} (hb : ι b = none) (hB : B0 ≤ w.heap.size) :
    OOk P B0 (ι.ext b ⟨w.heap.size, 0, vs.length, P.cellsOf et⟩) (w.alloc (.cells vs'.toArray t)) ⟨w.heap.size, 0, vs.length, P.cellsOf et⟩ (.row et vs .exact 0 0) :=
  ⟨⟨vs'.toArray, t, (0, 0), heap_new w _, by simp [hv.length], fun i x hx => by
    obtain ⟨y, hy, hr⟩ := hv.get hx
    exact ⟨y, by simpa using hy, hr.mono (Emb.le_ext hb)⟩, fun _ i _ => by simp⟩, by simp, rfl, fun _ => hB, fun e => (nomatch e), fun _ => ⟨rfl, rfl⟩⟩

theorem aCreate_ok (hE : TOk V.E V.P) {a : Act} (hT : TRel ι T a.tmps) (hG : GOk ι V.nG) {o : Oper} {mk : Nat → Value} {ob : AObj} (ha : aCreate V T o.op = some (mk, ob)) :
    ob.lone = true ∧ ∃ v' obj l, Makes V.P B0 ι w (execOp a.eval o) mk ob v' obj l := by
  unfold aCreate at ha
  split at ha
  · rename_i t ho
    split at ha
    · rename_i ti hti
      cases ha
      obtain ⟨i, hTi⟩ := hE.get hti
      refine ⟨rfl, .pointer (some ⟨w.heap.size, 0, none⟩), .cells ti.zv.cells.toList.toArray t, ⟨w.heap.size, 0, ti.zv.cells.toList.length, V.P.cellsOf t⟩, ?_, rfl, fun b hb hB => ⟨ptr_new, row_new t t (LRel.of_plain hTi.zplain) hb hB⟩⟩
      unfold execOp
      rw [ho]
      simp [Instr.alloc, run_zeroValue hTi, newVar, newRow]
    · cases ha
  · rename_i t x ho
    split at ha
    · rename_i u hu
      cases ha
      have hv := oval_ok hT hG hu
      refine ⟨rfl, .pointer (some ⟨w.heap.size, 0, none⟩), .cells (a.eval x).cells.toList.toArray t, ⟨w.heap.size, 0, u.cells.toList.length, V.P.cellsOf t⟩, ?_, rfl, fun b hb hB => ⟨ptr_new, row_new t t hv.cells hb hB⟩⟩
      unfold execOp
      rw [ho]
      simp [Instr.box, newVar, newRow]
    · cases ha
  · rename_i t len ps ho
    split at ha
    · rename_i vs hvs
      have hp := oparts_ok hT hG hvs
      split at ha
      · rename_i e sz by_ zv hti
        obtain ⟨i, hTt⟩ := hE.get hti
        have hu : V.P.underlying t = some (.slice e) := hTt.u
        split at ha
        · rename_i te hte
          obtain ⟨je, hTe⟩ := hE.get hte
          split at ha
          · cases ha
          · rename_i hn
            rw [not_or] at hn
            split at ha
            · rename_i cs hf
              cases ha
              have hz0 : LRel ι (azeros te.zv.cells.toList len) (Builtin.zeroCells te.zv.cells len).toList := by
                rw [azeros_eq]; exact LRel.of_plain (azeros_plain hTe.zplain len)
              have hp' : PRel ι vs (ps.map fun (i, x) => (i, a.eval x)).toList := by simpa using hp
              obtain ⟨r', h1, h2⟩ := afill_ok (ι := ι) _ hp' hz0 hf
              refine ⟨rfl, .slice (some ⟨w.heap.size, 0, none⟩) len len, .cells r'.toList.toArray e, ⟨w.heap.size, 0, cs.length, V.P.cellsOf e⟩, ?_, rfl, fun b hb hB => ⟨?_, row_new e e h2 hb hB⟩⟩
              · have hlim : ¬ (len * te.size > 2 ^ 24) := by omega
                have hcells : ∀ z : Array Value, (len * te.size ≠ 0 → z = te.zv.cells) → (Array.range (len * te.size)).map (z[· % z.size]!) = Builtin.zeroCells te.zv.cells len := fun z hz => by
                  unfold Builtin.zeroCells
                  rw [hTe.zsize]
                  by_cases h0 : len * te.size = 0
                  · rw [h0]; simp
                  · rw [hz h0, hTe.zsize]
                unfold execOp
                rw [ho]
                simp only []
                unfold Instr.buildSlice
                simp only [Sem.run_bind, run_underlying' hu, Result.andThen_ok, run_sizeOf hTe]
                rw [if_neg hlim]
                by_cases h0 : len * te.size = 0
                · rw [if_pos h0]
                  simp only [Sem.run_pure, Sem.run_bind, Result.andThen_ok]
                  rw [hcells #[] (fun e => absurd h0 e), h1]
                  simp [newRow]
                · rw [if_neg h0]
                  simp only [Sem.run_pure, Sem.run_bind, Result.andThen_ok, run_zeroValue hTe]
                  rw [hcells te.zv.cells (fun _ => rfl), h1]
                  simp [newRow]
              · have := VRel.slice (len := len) (cap := len) (off := 0) (Emb.ext_same ι b ⟨w.heap.size, 0, cs.length, V.P.cellsOf e⟩) (by omega) (Nat.le_refl _)
                simpa using this
            · cases ha
        · cases ha
      · cases ha
    · cases ha
  · rename_i t lo co ho
    split at ha
    · rename_i k1 l k2 c hl hc
      have el : a.eval lo = .int k1 l := (oval_ok hT hG hl).plain_eq rfl
      have ec : a.eval co = .int k2 c := (oval_ok hT hG hc).plain_eq rfl
      split at ha
      · rename_i e sz by_ zv hti
        obtain ⟨i, hTt⟩ := hE.get hti
        have hu : V.P.underlying t = some (.slice e) := hTt.u
        split at ha
        · rename_i te hte
          obtain ⟨je, hTe⟩ := hE.get hte
          split at ha
          · rename_i hb
            obtain ⟨h0, h1, h2, h3⟩ := hb
            cases ha
            refine ⟨rfl, .slice (some ⟨w.heap.size, 0, none⟩) l.toNat c.toNat, .cells (azeros te.zv.cells.toList c.toNat).toArray e, ⟨w.heap.size, 0, (azeros te.zv.cells.toList c.toNat).length, V.P.cellsOf e⟩, ?_, rfl, fun b hb hB => ⟨?_, row_new e e (LRel.of_plain (azeros_plain hTe.zplain c.toNat)) hb hB⟩⟩
            · have wl : IntKind.i64.wrap l = l := wrap_i64 h0 (by omega)
              have wc : IntKind.i64.wrap c = c := wrap_i64 (by omega) (by omega)
              have hbig : ¬ ((je.bytes : Int) * c > 2 ^ 48) := by
                rw [hTe.bytes]
                have : ((c.toNat * te.bytes : Nat) : Int) ≤ 140737488355328 := Int.ofNat_le.2 h2
                have e1 : ((c.toNat * te.bytes : Nat) : Int) = (te.bytes : Int) * c := by
                  rw [Int.natCast_mul, Int.toNat_of_nonneg (by omega), Int.mul_comm]
                omega
              have hz : azeros te.zv.cells.toList c.toNat = (Builtin.zeroCells te.zv.cells c.toNat).toList := (azeros_eq _ _).symm
              have hcells : ∀ z : Array Value, (c.toNat * te.size ≠ 0 → z = te.zv.cells) → (Array.range (c.toNat * te.size)).map (z[· % z.size]!) = Builtin.zeroCells te.zv.cells c.toNat := fun z hz => by
                unfold Builtin.zeroCells
                rw [hTe.zsize]
                by_cases h0 : c.toNat * te.size = 0
                · rw [h0]; simp
                · rw [hz h0, hTe.zsize]
              unfold execOp
              rw [ho]
              simp only [el, ec]
              unfold Instr.makeSlice
              simp only [Sem.run_bind, run_underlying' hu, Result.andThen_ok, asInt, asIntOf, Sem.run_pure, typeInfo, run_program, hTe.info, wl, wc]
              have h4 : ¬ (c < 0) := by omega
              have h5 : ¬ (l < 0) := by omega
              have h6 : ¬ (l > c) := by omega
              simp only [h4, h5, h6, hbig, decide_false, Bool.or_false, Bool.false_eq_true, if_false]
              simp only [Sem.run_bind, run_askRoom, Result.andThen_ok, run_sizeOf hTe]
              by_cases h0 : c.toNat * te.size = 0
              · rw [if_pos h0]
                simp only [Sem.run_pure, Sem.run_bind, Result.andThen_ok]
                rw [hcells #[] (fun e => absurd h0 e)]
                simp [newRow, hz]
              · rw [if_neg h0]
                simp only [Sem.run_pure, Sem.run_bind, Result.andThen_ok, run_zeroValue hTe]
                rw [hcells te.zv.cells (fun _ => rfl)]
                simp [newRow, hz]
            · have := VRel.slice (len := l.toNat) (cap := c.toNat) (off := 0) (Emb.ext_same ι b ⟨w.heap.size, 0, (azeros te.zv.cells.toList c.toNat).length, V.P.cellsOf e⟩) (by unfold unk; omega) (by omega)
              simpa using this
          · cases ha
        · cases ha
      · cases ha
    · cases ha
  · rename_i t ho
    cases ha
    refine ⟨rfl, .map (some w.heap.size), .map #[] 0, ⟨w.heap.size, 0, 0, 0⟩, ?_, rfl, fun b hb hB => ⟨.map (Emb.ext_same ι b ⟨w.heap.size, 0, 0, 0⟩), ⟨⟨#[], 0, heap_new w _, rfl, fun i k v hx => by simp at hx, rfl, rfl⟩, hB⟩⟩⟩
    unfold execOp
    rw [ho]
    simp [makeMap_ok]
  · cases ha

/-- A block that the abstract heap has already, and that comes into the model's now. -/
theorem HRel.adopt (h : HRel P B0 ι H w) {b : Nat} (hb : b < H.next) (hn : ι b = none) {ob : AObj} (ho : H.obj b = ob) (hl1 : ob.lone = true) {obj : Obj} {l : ILoc} (hl : l.blk = w.heap.size) (hok : OOk P B0 (ι.ext b l) (w.alloc obj) l ob) :
    HRel P B0 (ι.ext b l) H (w.alloc obj) := by
  have hle : ι.le (ι.ext b l) := Emb.le_ext hn
  have key : ∀ c l', ι.ext b l c = some l' → (c = b ∧ l' = l) ∨ (c ≠ b ∧ ι c = some l') := fun c l' hc => by
    unfold Emb.ext at hc
    by_cases e : c = b
    · rw [if_pos e] at hc; cases hc; exact .inl ⟨e, rfl⟩
    · rw [if_neg e] at hc; exact .inr ⟨e, hc⟩
  refine ⟨by have := h.base; simp; omega, fun c l' hc => ?_, fun c l' hc ha => ?_, fun c c' lc lc' hne hc hc' ha ha' he => ?_, fun c l' et cells st g v hc hoc => ?_⟩
  · rcases key c l' hc with ⟨rfl, rfl⟩ | ⟨_, h1⟩
    · exact hb
    · exact h.dom c l' h1
  · rcases key c l' hc with ⟨rfl, rfl⟩ | ⟨_, h1⟩
    · rw [ho]; exact hok
    · have hO := h.obj c l' h1 ha
      exact hO.carry hle (Below.heap_alloc _ _ _ (hO.lt ha))
  · rcases key c lc hc with ⟨rfl, rfl⟩ | ⟨_, h1⟩
    · rcases key c' lc' hc' with ⟨rfl, rfl⟩ | ⟨_, h1'⟩
      · exact absurd rfl hne
      · have := (h.obj c' lc' h1' ha').lt ha'; omega
    · rcases key c' lc' hc' with ⟨rfl, rfl⟩ | ⟨_, h1'⟩
      · have := (h.obj c lc h1 ha).lt ha; omega
      · exact h.sep c c' lc lc' hne h1 h1' ha ha' he
  · rcases key c l' hc with ⟨rfl, rfl⟩ | ⟨_, h1⟩
    · rw [ho] at hoc
      subst hoc
      cases st <;> simp [AObj.lone] at hl1
      obtain ⟨rfl, rfl⟩ := hl1
      exact ⟨by omega, Nat.zero_le _⟩
    · exact h.grp c l' et cells st g v h1 hoc
end Go.Ev
