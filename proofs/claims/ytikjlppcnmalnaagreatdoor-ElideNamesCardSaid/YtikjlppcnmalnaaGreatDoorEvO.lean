/-
  EV, part O: one operation that is no call of a function of the program's.
-/
import Derived.Test.YtikjlppcnmalnaaGreatDoorEvNa
namespace Go.Ev
open Go.RowKit

variable {P : Program} {B0 : Nat} {ι : Emb} {H H' : AH} {w : World} {E : TypeId → Option TI} {nG : Nat} {T : PTree Value}

/-- The environment of the abstract run: what is known of types and functions; how many package-level variables it may name. -/
structure Env where
  P : Program
  E : TypeId → Option TI
  F : FuncId → Option Func
  nG : Nat

def oparts (nG : Nat) (T : PTree Value) : List (Nat × Operand) → Option (List (Nat × Value))
  | [] => some []
  | (i, x) :: ps => match oval nG T x, oparts nG T ps with
    | some v, some vs => some ((i, v) :: vs)
    | _, _ => none

theorem oparts_ok {a : Act} (hT : TRel ι T a.tmps) (hG : GOk ι nG) : ∀ {ps : List (Nat × Operand)} {vs : List (Nat × Value)}, oparts nG T ps = some vs → PRel ι vs (ps.map fun (i, x) => (i, a.eval x))
  | [], vs, h => by simp [oparts] at h; subst h; exact .nil
  | (i, x) :: ps, vs, h => by
    simp only [oparts] at h
    split at h
    · rename_i v vs' h1 h2
      cases h
      exact .cons (oval_ok hT hG h1) (oparts_ok hT hG h2)
    · cases h

def oopt (nG : Nat) (T : PTree Value) : Option Operand → Option (Option Value)
  | none => some none
  | some x => (oval nG T x).map some

theorem oopt_ok {a : Act} (hT : TRel ι T a.tmps) (hG : GOk ι nG) {x : Option Operand} {v : Option Value} (h : oopt nG T x = some v) : ORel ι v (x.map a.eval) := by
  cases x with
  | none => simp [oopt] at h; subst h; exact .none
  | some x =>
    simp only [oopt] at h
    cases hv : oval nG T x with
    | none => rw [hv] at h; cases h
    | some u => rw [hv] at h; cases h; exact .some (oval_ok hT hG hv)

/-- So many zeros are appended. -/
def append0 (E : TypeId → Option TI) (H : AH) (e : TypeId) (s x : Value) : Option (Value × AH) :=
  match E e, x with
  | some te, .int _ (.ofNat n) => if n < 4611686018427387904 ∧ n * te.bytes ≤ 140737488355328 then H.app e te.size te.bytes s n (azeros te.zv.cells.toList n) else none
  | _, _ => none

def aBuiltin (V : Env) (H : AH) (b : Builtin) (ts : List TypeId) (args : List Value) : Option (Value × AH) :=
  match b, ts, args with
  | .len, [t], [x] => (aLen V.E H t x).map (·, H)
  | .append, [t, u], [s, x] => match V.E t, V.E u with
    | some ⟨.slice e, _, _, _⟩, some tu => match tu.desc with
      | .int _ => append0 V.E H e s x
      | _ => match V.E e, srcLen x with
        | some te, some n => match H.src te.size x n with
          | some vs => if vs.all Value.oneCell' then H.app e te.size te.bytes s n vs else none
          | none => none
        | _, _ => none
    | _, _ => none
  | .copy, [t, _], [d, x] => aCopy V.E H t d x
  | .clear, [t], [x] => (aClear V.E H t x).map fun H' => (.tuple #[], H')
  | .delete, [t, _], [m, k] => (aDeleteX V.P V.E H t m k).map fun H' => (.tuple #[], H')
  | .max, _, args => (aPure V.P args (Builtin.max_ #[] 0 args.toArray)).map (·, H)
  | .min, _, args => (aPure V.P args (Builtin.min_ #[] 0 args.toArray)).map (·, H)
  | .cap, [t], [.slice _ _ c] => match V.E t with
    | some ⟨.slice _, _, _, _⟩ => if c < unk then some (.int .i64 c, H) else none
    | _ => none
  | _, _, _ => none

/-- The values of an operation's operands, and what it does. -/
def aop (V : Env) (T : PTree Value) (H : AH) (o : Op) : Option (Value × AH) :=
  match o with
  | .move x | .assign x => (oval V.nG T x).map (·, H)
  | .pick c a b => match oval V.nG T c with
    | some (.bool t) => (oval V.nG T (if t then a else b)).map (·, H)
    | _ => none
  | .alloc t => match V.E t with
    | some ti => some (.pointer (some ⟨H.next, 0, none⟩), H.alloc (.row t ti.zv.cells.toList .exact 0 0))
    | none => none
  | .box t x => match oval V.nG T x with
    | some v => some (.pointer (some ⟨H.next, 0, none⟩), H.alloc (.row t v.cells.toList .exact 0 0))
    | none => none
  | .build t ps => match oparts V.nG T ps.toList with
    | some vs => (aBuild V.E t vs).map (·, H)
    | none => none
  | .buildSlice t n ps => match oparts V.nG T ps.toList with
    | some vs => aBuildSlice V.E H t n vs
    | none => none
  | .load t a => match oval V.nG T a with
    | some p => (aLoad V.E H t p).map (·, H)
    | none => none
  | .store t a x => match oval V.nG T a, oval V.nG T x with
    | some p, some v => (aStore V.E H t p v).map fun H' => (undef, H')
    | _, _ => none
  | .nilCheck x => match oval V.nG T x with
    | some (.pointer (some p)) => some (.pointer (some p), H)
    | some (.func (.func f) a b) => some (.func (.func f) a b, H)
    | some (.map (some m)) => some (.map (some m), H)
    | _ => none
  | .binOp op t x y _ => match oval V.nG T x, oval V.nG T y with
    | some u, some v => (aBin V.P V.E op t x y u v).map (·, H)
    | _, _ => none
  | .unOp op _ x => match oval V.nG T x with
    | some v => (aPure V.P [v] (Op.unary op v)).map (·, H)
    | none => none
  | .convert s d x => match oval V.nG T x with
    | some v => aConvert V.P V.E H s d v
    | none => none
  | .makeInterface t x => match oval V.nG T x, V.E t with
    | some v, some ti => match ti.desc with
      | .interface _ => none
      | _ => some (.iface t v, H)
    | _, _ => none
  | .makeFunc (.func f) first cap => match ovals V.nG T first.toList, ovals V.nG T cap.toList with
    | some u, some v => some (.func (.func f) u.toArray v.toArray, H)
    | _, _ => none
  | .makeMap _ none => some (.map (some H.next), H.alloc (.map [] [] 0))
  | .makeSlice t l c => match oval V.nG T l, oval V.nG T c with
    | some u, some v => aMakeSlice V.E H t u v
    | _, _ => none
  | .slice t x lo hi mx => match oval V.nG T x, oopt V.nG T lo, oopt V.nG T hi, oopt V.nG T mx with
    | some v, some l, some h, some m => (aSlice V.E H t v l h m).map (·, H)
    | _, _, _, _ => none
  | .fieldAddr s x f => match oval V.nG T x with
    | some v => (aField V.E s f v).map (·, H)
    | none => none
  | .field t x f => match oval V.nG T x with
    | some v => (aFieldOf V.E t v f).map (·, H)
    | none => none
  | .indexAddr t x i => match oval V.nG T x, oval V.nG T i with
    | some u, some v => (aIndex V.E t u v).map (·, H)
    | _, _ => none
  | .index t x i => match oval V.nG T x, oval V.nG T i with
    | some u, some v => (aIndexOf V.E t u v).map (·, H)
    | _, _ => none
  | .lookup t m k ok => match oval V.nG T m, oval V.nG T k with
    | some u, some v => (aLookupX V.P V.E H t u v ok).map (·, H)
    | _, _ => none
  | .mapUpdate t m k x | .insert t m k x => match oval V.nG T m, oval V.nG T k, oval V.nG T x with
    | some u, some v, some y => (aMapUpdateX V.P V.E H t u v y).map fun H' => (undef, H')
    | _, _, _ => none
  | .extract x i => match oval V.nG T x with
    | some v => (aExtract v i).map (·, H)
    | none => none
  | .range t x => match oval V.nG T x with
    | some v => aRange V.E H t v
    | none => none
  | .next x b => match oval V.nG T x with
    | some v => aNext H v b
    | none => none
  | .typeAssert x _ t ok => match oval V.nG T x with
    | some v => (aAssert V.E v t ok).map (·, H)
    | none => none
  | .entry x => match oval V.nG T x with
    | some v => (aEntry H v).map (·, H)
    | none => none
  | .call ⟨.builtin b, args, ts⟩ => match ovals V.nG T args.toList with
    | some vs => aBuiltin V H b ts.toList vs
    | none => none
  | _ => none

/-- What the model's run of an operation hands on. -/
def NextIs (n : Next) (v : Value) : Prop := n = .value v ∨ (n = .skip ∧ v = undef)

def OpOk (P : Program) (B0 : Nat) (ι : Emb) (H : AH) (w : World) (s : Sem Next) (v : Value) (H' : AH) : Prop :=
  ∃ n v' w' ι', s.run P w = .ok n w' ∧ NextIs n v' ∧ VRel ι' v v' ∧ Step P B0 ι H w ι' H' w'

theorem OpOk.same (h : HRel P B0 ι H w) {s : Sem Value} {v v' : Value} (hr : s.run P w = .ok v' w) (hv : VRel ι v v') : OpOk P B0 ι H w (do pure (Next.value (← s))) v H :=
  ⟨.value v', v', w, ι, by simp [hr], .inl rfl, hv, Step.refl h⟩
theorem OpOk.val {s : Sem Value} {v v' : Value} {w' : World} {ι' : Emb} (hr : s.run P w = .ok v' w') (hv : VRel ι' v v') (hs : Step P B0 ι H w ι' H' w') : OpOk P B0 ι H w (do pure (Next.value (← s))) v H' :=
  ⟨.value v', v', w', ι', by simp [hr], .inl rfl, hv, hs⟩
theorem OpOk.unit {s : Sem Unit} {w' : World} (hr : s.run P w = .ok () w') (hs : Step P B0 ι H w ι H' w') : OpOk P B0 ι H w (do s; pure Next.skip) undef H' :=
  ⟨.skip, undef, w', ι, by simp [hr], .inr ⟨rfl, rfl⟩, .undef, hs⟩

theorem map_some {α β : Type} {o : Option α} {f : α → β} {y : β} (h : o.map f = some y) : ∃ x, o = some x ∧ f x = y := by
  cases o with
  | none => cases h
  | some x => exact ⟨x, rfl, by simpa using h⟩

theorem ptr_new {ι : Emb} {b : Nat} {l : ILoc} : VRel (ι.ext b l) (.pointer (some ⟨b, 0, none⟩)) (.pointer (some ⟨l.blk, l.base, none⟩)) := by
  have := VRel.ptr (off := 0) (Emb.ext_same ι b l)
  simpa using this

theorem aop_ok (V : Env) (hE : TOk V.E V.P) {a : Act} (hT : TRel ι T a.tmps) (hG : GOk ι V.nG) (h : HRel V.P B0 ι H w) {o : Oper} {v : Value} (ha : aop V T H o.op = some (v, H')) : OpOk V.P B0 ι H w (execOp a.eval o) v H' := by
  unfold aop at ha
  unfold execOp
  split at ha
  · -- move
    rename_i x ho
    obtain ⟨u, h1, h2⟩ := map_some ha
    cases h2
    rw [ho]
    exact ⟨_, _, w, ι, rfl, .inl rfl, oval_ok hT hG h1, Step.refl h⟩
  · rename_i x ho
    obtain ⟨u, h1, h2⟩ := map_some ha
    cases h2
    rw [ho]
    exact ⟨_, _, w, ι, rfl, .inl rfl, oval_ok hT hG h1, Step.refl h⟩
  · -- pick
    rename_i c x y ho
    split at ha
    · rename_i t hc
      obtain ⟨u, h1, h2⟩ := map_some ha
      cases h2
      rw [ho]
      have hc' : a.eval c = .bool t := (oval_ok hT hG hc).plain_eq rfl
      refine ⟨.value (a.eval (if t then x else y)), _, w, ι, ?_, .inl rfl, oval_ok hT hG h1, Step.refl h⟩
      cases t <;> simp [asBool, hc']
    · cases ha
  · -- alloc
    rename_i t ho
    split at ha
    · rename_i ti hti
      cases ha
      obtain ⟨i, hTi⟩ := hE.get hti
      have hst := h.newRow t t (LRel.of_plain (ι := ι) hTi.zplain)
      rw [ho]
      refine OpOk.val (v' := .pointer (some ⟨w.heap.size, 0, none⟩)) ?_ ptr_new hst
      simp [Instr.alloc, run_zeroValue hTi, newVar, newRow]
    · cases ha
  · -- box
    rename_i t x ho
    split at ha
    · rename_i u hu
      cases ha
      have hv := oval_ok hT hG hu
      have hst := h.newRow t t hv.cells
      rw [ho]
      refine OpOk.val (v' := .pointer (some ⟨w.heap.size, 0, none⟩)) ?_ ptr_new hst
      simp [Instr.box, newVar, newRow]
    · cases ha
  · -- build
    rename_i t ps ho
    split at ha
    · rename_i vs hvs
      obtain ⟨u, h1, h2⟩ := map_some ha
      cases h2
      have hp := oparts_ok hT hG hvs
      rw [ho]
      obtain ⟨v', hr, hv⟩ := aBuild_ok (P := V.P) (w := w) (ps' := ps.map fun (i, x) => (i, a.eval x)) hE (by simpa using hp) h1
      exact OpOk.same h hr hv
    · cases ha
  · -- buildSlice
    rename_i t n ps ho
    split at ha
    · rename_i vs hvs
      have hp := oparts_ok hT hG hvs
      rw [ho]
      obtain ⟨v', w', ι', hr, hv, hs⟩ := aBuildSlice_ok (ps' := ps.map fun (i, x) => (i, a.eval x)) hE h (by simpa using hp) ha
      exact OpOk.val hr hv hs
    · cases ha
  · -- load
    rename_i t x ho
    split at ha
    · rename_i p hp
      obtain ⟨u, h1, h2⟩ := map_some ha
      cases h2
      rw [ho]
      obtain ⟨v', hr, hv⟩ := aLoad_ok hE h (oval_ok hT hG hp) h1
      exact OpOk.same h hr hv
    · cases ha
  · -- store
    rename_i t x y ho
    split at ha
    · rename_i p u hp hu
      obtain ⟨H1, h1, h2⟩ := map_some ha
      cases h2
      rw [ho]
      obtain ⟨w', hr, hs⟩ := aStore_ok hE h (oval_ok hT hG hp) (oval_ok hT hG hu) h1
      exact OpOk.unit hr hs
    · cases ha
  · -- nilCheck
    rename_i x ho
    rw [ho]
    split at ha
    · rename_i p hp
      cases ha
      have hv := oval_ok hT hG hp
      simp only
      generalize a.eval x = xv at hv ⊢
      cases hv with
      | ptr hb => exact ⟨_, _, w, ι, rfl, .inl rfl, .ptr hb, Step.refl h⟩
    · rename_i f b c hp
      cases ha
      have hv := oval_ok hT hG hp
      simp only
      generalize a.eval x = xv at hv ⊢
      cases hv with
      | func h1 h2 h3 h4 => exact ⟨_, _, w, ι, rfl, .inl rfl, .func h1 h2 h3 h4, Step.refl h⟩
    · rename_i m hp
      cases ha
      have hv := oval_ok hT hG hp
      simp only
      generalize a.eval x = xv at hv ⊢
      cases hv with
      | map hb => exact ⟨_, _, w, ι, rfl, .inl rfl, .map hb, Step.refl h⟩
    · cases ha
  · -- binOp
    rename_i op t x y yt ho
    split at ha
    · rename_i u u' hx hy
      obtain ⟨r, h1, h2⟩ := map_some ha
      cases h2
      rw [ho]
      obtain ⟨v', hr, hv⟩ := aBin_ok (P := V.P) (w := w) hE (oval_ok hT hG hx) (oval_ok hT hG hy) h1
      exact OpOk.same h hr hv
    · cases ha
  · -- unOp
    rename_i op t x ho
    split at ha
    · rename_i u hx
      obtain ⟨r, h1, h2⟩ := map_some ha
      cases h2
      rw [ho]
      obtain ⟨v', hr, hv⟩ := aPure_ok (P := V.P) (w := w) (f := fun xs => Op.unary op (xs.getD 0 undef)) (.cons (oval_ok hT hG hx) .nil) h1
      exact OpOk.same h hr hv
    · cases ha
  · -- convert
    rename_i s d x ho
    split at ha
    · rename_i u hx
      rw [ho]
      obtain ⟨v', w', ι', hr, hv, hs⟩ := aConvert_ok hE h (oval_ok hT hG hx) ha
      exact OpOk.val hr hv hs
    · cases ha
  · -- makeInterface
    rename_i t x ho
    split at ha
    · rename_i u ti hx hti
      obtain ⟨i, hTi⟩ := hE.get hti
      rw [ho]
      split at ha
      · cases ha
      · rename_i hni
        cases ha
        refine OpOk.same h (v' := .iface t (a.eval x)) ?_ (.iface (oval_ok hT hG hx))
        cases hd : ti.desc <;> simp [Instr.makeInterface, run_underlying' hTi.u, hd]
        exact absurd hd (hni _)
    · cases ha
  · -- makeFunc
    rename_i f first cap ho
    split at ha
    · rename_i u v' hu hv
      cases ha
      rw [ho]
      have h1 := ovals_ok hT hG hu
      have h2 := ovals_ok hT hG hv
      refine OpOk.same h (v' := .func (.func f) (first.map a.eval) (cap.map a.eval)) (by simp [Instr.makeFunc]) ?_
      have e1 : LRel ι u.toArray.toList (first.map a.eval).toList := by simpa using h1
      have e2 : LRel ι v'.toArray.toList (cap.map a.eval).toList := by simpa using h2
      exact .func (LRel.to_array e1).1 (LRel.to_array e2).1 (LRel.to_array e1).2 (LRel.to_array e2).2
    · cases ha
  · -- makeMap
    rename_i t ho
    cases ha
    rw [ho]
    refine OpOk.val (v' := .map (some w.heap.size)) (by simp [makeMap_ok]) ?_ h.newMap
    exact .map (Emb.ext_same ι H.next ⟨w.heap.size, 0, 0, 0⟩)
  · -- makeSlice
    rename_i t l c ho
    split at ha
    · rename_i u u' hl hc
      rw [ho]
      obtain ⟨v', w', ι', hr, hv, hs⟩ := aMakeSlice_ok hE h (oval_ok hT hG hl) (oval_ok hT hG hc) ha
      exact OpOk.val hr hv hs
    · cases ha
  · -- slice
    rename_i t x lo hi mx ho
    split at ha
    · rename_i u l hh m hx hl hhi hm
      obtain ⟨r, h1, h2⟩ := map_some ha
      cases h2
      rw [ho]
      obtain ⟨v', hr, hv⟩ := aSlice_ok hE h (oval_ok hT hG hx) (oopt_ok hT hG hl) (oopt_ok hT hG hhi) (oopt_ok hT hG hm) h1
      exact OpOk.same h hr hv
    · cases ha
  · -- fieldAddr
    rename_i s x f ho
    split at ha
    · rename_i u hx
      obtain ⟨r, h1, h2⟩ := map_some ha
      cases h2
      rw [ho]
      obtain ⟨v', hr, hv⟩ := aField_ok (P := V.P) (w := w) hE (oval_ok hT hG hx) h1
      exact OpOk.same h hr hv
    · cases ha
  · -- field
    rename_i t x f ho
    split at ha
    · rename_i u hx
      obtain ⟨r, h1, h2⟩ := map_some ha
      cases h2
      rw [ho]
      obtain ⟨v', hr, hv⟩ := aFieldOf_ok (P := V.P) (w := w) hE (oval_ok hT hG hx) h1
      exact OpOk.same h hr hv
    · cases ha
  · -- indexAddr
    rename_i t x i ho
    split at ha
    · rename_i u u' hx hi
      obtain ⟨r, h1, h2⟩ := map_some ha
      cases h2
      rw [ho]
      obtain ⟨v', hr, hv⟩ := aIndex_ok (P := V.P) (w := w) hE (oval_ok hT hG hx) (oval_ok hT hG hi) h1
      exact OpOk.same h hr hv
    · cases ha
  · -- index
    rename_i t x i ho
    split at ha
    · rename_i u u' hx hi
      obtain ⟨r, h1, h2⟩ := map_some ha
      cases h2
      rw [ho]
      obtain ⟨v', hr, hv⟩ := aIndexOf_ok (P := V.P) (w := w) hE (oval_ok hT hG hx) (oval_ok hT hG hi) h1
      exact OpOk.same h hr hv
    · cases ha
  · -- lookup
    rename_i t m k ok ho
    split at ha
    · rename_i u u' hx hi
      obtain ⟨r, h1, h2⟩ := map_some ha
      cases h2
      rw [ho]
      obtain ⟨v', hr, hv⟩ := aLookupX_ok hE h (oval_ok hT hG hx) (oval_ok hT hG hi) h1
      exact OpOk.same h hr hv
    · cases ha
  · -- mapUpdate
    rename_i t m k x ho
    split at ha
    · rename_i u u' u'' h1 h2 h3
      obtain ⟨H1, h4, h5⟩ := map_some ha
      cases h5
      rw [ho]
      obtain ⟨w', hr, hs⟩ := aMapUpdateX_ok hE h (oval_ok hT hG h1) (oval_ok hT hG h2) (oval_ok hT hG h3) h4
      exact OpOk.unit hr hs
    · cases ha
  · rename_i t m k x ho
    split at ha
    · rename_i u u' u'' h1 h2 h3
      obtain ⟨H1, h4, h5⟩ := map_some ha
      cases h5
      rw [ho]
      obtain ⟨w', hr, hs⟩ := aMapUpdateX_ok hE h (oval_ok hT hG h1) (oval_ok hT hG h2) (oval_ok hT hG h3) h4
      exact OpOk.unit hr hs
    · cases ha
  · -- extract
    rename_i x i ho
    split at ha
    · rename_i u hx
      obtain ⟨r, h1, h2⟩ := map_some ha
      cases h2
      rw [ho]
      obtain ⟨v', hr, hv⟩ := aExtract_ok (P := V.P) (w := w) (oval_ok hT hG hx) h1
      exact OpOk.same h hr hv
    · cases ha
  · -- range
    rename_i t x ho
    split at ha
    · rename_i u hx
      rw [ho]
      obtain ⟨v', w', ι', hr, hv, hs⟩ := aRange_ok hE h (oval_ok hT hG hx) ha
      exact OpOk.val hr hv hs
    · cases ha
  · -- next
    rename_i x b ho
    split at ha
    · rename_i u hx
      rw [ho]
      obtain ⟨v', w', hr, hv, hs⟩ := aNext_ok (ty := o.type) h (oval_ok hT hG hx) ha
      exact OpOk.val hr hv hs
    · cases ha
  · -- typeAssert
    rename_i x xt t ok ho
    split at ha
    · rename_i u hx
      obtain ⟨r, h1, h2⟩ := map_some ha
      cases h2
      rw [ho]
      obtain ⟨v', hr, hv⟩ := aAssert_ok (P := V.P) (w := w) (xt := xt) hE (oval_ok hT hG hx) h1
      exact OpOk.same h hr hv
    · cases ha
  · -- entry
    rename_i x ho
    split at ha
    · rename_i u hx
      obtain ⟨r, h1, h2⟩ := map_some ha
      cases h2
      rw [ho]
      obtain ⟨v', hr, hv⟩ := aEntry_ok h (oval_ok hT hG hx) h1
      exact OpOk.same h hr hv
    · cases ha
  · -- builtins
    rename_i b args ts ho
    split at ha
    · rename_i vs hvs
      have hl := ovals_ok hT hG hvs
      rw [ho]
      simp only [resolve]
      have key : ∀ consts, OpOk V.P B0 ι H w (builtin b ts o.type consts (args.map a.eval)) v H' := fun consts => by
        have hargs : (args.map a.eval) = (args.toList.map a.eval).toArray := by apply Array.ext'; simp
        rw [hargs]
        generalize args.toList.map a.eval = vs' at hl
        unfold aBuiltin at ha
        split at ha
        · -- len
          rename_i t x hts
          obtain ⟨r, h1, h2⟩ := map_some ha
          cases h2
          have hts' : ts = #[t] := by apply Array.ext'; simpa using hts
          subst hts'
          cases hl with
          | cons hx ht =>
            cases ht
            obtain ⟨v', hr, hv⟩ := aLen_ok (ty := o.type) hE h hx h1
            exact OpOk.same h hr hv
        · -- append
          rename_i t u sl x hts
          have hts' : ts = #[t, u] := by apply Array.ext'; simpa using hts
          subst hts'
          cases hl with
          | cons hs ht =>
            cases ht with
            | cons hx ht =>
              cases ht
              split at ha
              · rename_i e sz by_ zv tu hti htu
                obtain ⟨i, hTi⟩ := hE.get hti
                obtain ⟨j, hTu⟩ := hE.get htu
                have hu : V.P.underlying t = some (.slice e) := hTi.u
                split at ha
                · rename_i kd hd
                  unfold append0 at ha
                  split at ha
                  · rename_i te kk n hte
                    obtain ⟨k, hTe⟩ := hE.get hte
                    cases hx
                    split at ha
                    · rename_i hb
                      rw [← azeros_eq] at ha
                      obtain ⟨v', w', ι', hr, hv, hst⟩ := h.append0 (ty := o.type) (kk := kk) hu hTe (by have := hTu.u; rw [hd] at this; exact this) hs hb.1 hb.2 (fun v hv => by
                        rw [azeros_eq] at hv
                        have := azeros_plain hTe.zplain n v hv
                        exact ⟨this, plain_oneCell this⟩) ha
                      exact OpOk.val hr hv hst
                    · cases ha
                  · cases ha
                · rename_i hd
                  split at ha
                  · rename_i te n hte hn
                    obtain ⟨k, hTe⟩ := hE.get hte
                    split at ha
                    · rename_i vs1 hsrc
                      split at ha
                      · rename_i hone
                        obtain ⟨hvl, vs2, hv2, hf⟩ := src_ok h hx hsrc fun k hk => by rw [hn] at hk; cases hk; exact Nat.le_refl _
                        obtain ⟨v', w', ι', hr, hv, hst⟩ := h.append (ty := o.type) hu hTe hTu.u (fun k e => hd k e) hs hv2 (fun v hv => List.all_eq_true.1 hone v hv) hvl (srcLen_ok hx hn w) hf ha
                        exact OpOk.val hr hv hst
                      · cases ha
                    · cases ha
                  · cases ha
              · cases ha
        · -- copy
          rename_i t u d x hts
          have hts' : ts = #[t, u] := by apply Array.ext'; simpa using hts
          subst hts'
          cases hl with
          | cons hd ht =>
            cases ht with
            | cons hx ht =>
              cases ht
              obtain ⟨v', w', hr, hv, hst⟩ := aCopy_ok (u := u) (ty := o.type) hE h hd hx ha
              exact OpOk.val hr hv hst
        · -- clear
          rename_i t x hts
          obtain ⟨r, h1, h2⟩ := map_some ha
          cases h2
          have hts' : ts = #[t] := by apply Array.ext'; simpa using hts
          subst hts'
          cases hl with
          | cons hx ht =>
            cases ht
            obtain ⟨w', hr, hst⟩ := aClear_ok (ty := o.type) hE h hx h1
            exact OpOk.val hr VRel.undef hst
        · -- delete
          rename_i t u m k hts
          obtain ⟨r, h1, h2⟩ := map_some ha
          cases h2
          have hts' : ts = #[t, u] := by apply Array.ext'; simpa using hts
          subst hts'
          cases hl with
          | cons hm ht =>
            cases ht with
            | cons hk ht =>
              cases ht
              obtain ⟨w', hr, hst⟩ := aDeleteX_ok (u := u) (ty := o.type) hE h hm hk h1
              exact OpOk.val hr VRel.undef hst
        · -- max
          obtain ⟨r, h1, h2⟩ := map_some ha
          cases h2
          obtain ⟨v', hr, hv⟩ := aPure_ok (P := V.P) (w := w) (f := fun xs => Builtin.max_ #[] 0 xs.toArray) hl h1
          exact OpOk.same h hr hv
        · -- min
          obtain ⟨r, h1, h2⟩ := map_some ha
          cases h2
          obtain ⟨v', hr, hv⟩ := aPure_ok (P := V.P) (w := w) (f := fun xs => Builtin.min_ #[] 0 xs.toArray) hl h1
          exact OpOk.same h hr hv
        · -- cap
          rename_i t a0 n c hts
          have hts' : ts = #[t] := by apply Array.ext'; simpa using hts
          subst hts'
          cases hl with
          | cons hx ht =>
            cases ht
            split at ha
            · rename_i e sz by_ zv hti
              obtain ⟨i, hTi⟩ := hE.get hti
              have hu : V.P.underlying t = some (.slice e) := hTi.u
              split at ha
              · rename_i hc
                cases ha
                cases hx with
                | sliceNil => exact OpOk.same h (v' := .int .i64 (0 : Nat)) (by simp [Builtin.cap_, run_underlying' hu, goInt]) (.int _ _)
                | slice hb hcu hl => exact OpOk.same h (v' := .int .i64 c) (by simp [Builtin.cap_, run_underlying' hu, goInt]) (.int _ _)
                | sliceUnk => exact absurd hc (Nat.lt_irrefl _)
                | sliceEnd => exact absurd hc (Nat.lt_irrefl _)
                | sliceZ a => exact OpOk.same h (v' := .int .i64 (0 : Nat)) (by simp [Builtin.cap_, run_underlying' hu, goInt]) (.int _ _)
              · cases ha
            · cases ha
        · cases ha
      exact key _
    · cases ha
  · cases ha
end Go.Ev
