/-
  EV, kernel, part La: the operations over any way to fetch operands.
-/
import Derived.Test.YtikjlppcnmalnaaGreatDoorEvKa
namespace Go.Ev
open Go.RowKit

/-- A way to fetch operands. -/
abbrev Ft := Operand → Option Value

def gvals (g : Ft) : List Operand → Option (List Value)
  | [] => some []
  | x :: xs => match g x, gvals g xs with
    | some v, some vs => some (v :: vs)
    | _, _ => none
def gparts (g : Ft) : List (Nat × Operand) → Option (List (Nat × Value))
  | [] => some []
  | (i, x) :: ps => match g x, gparts g ps with
    | some v, some vs => some ((i, v) :: vs)
    | _, _ => none
def gopt (g : Ft) : Option Operand → Option (Option Value)
  | none => some none
  | some x => (g x).map some

def aopG (V : Env) (g : Ft) (H : AH) (o : Op) : Option (Value × AH) :=
  match o with
  | .move x | .assign x => (g x).map (·, H)
  | .pick c a b => match g c with
    | some (.bool t) => (g (if t then a else b)).map (·, H)
    | _ => none
  | .alloc t => match V.E t with
    | some ti => some (.pointer (some ⟨H.next, 0, none⟩), H.alloc (.row t ti.zv.cells.toList .exact 0 0))
    | none => none
  | .box t x => match g x with
    | some v => some (.pointer (some ⟨H.next, 0, none⟩), H.alloc (.row t v.cells.toList .exact 0 0))
    | none => none
  | .build t ps => match gparts g ps.toList with
    | some vs => (aBuild V.E t vs).map (·, H)
    | none => none
  | .buildSlice t n ps => match gparts g ps.toList with
    | some vs => aBuildSlice V.E H t n vs
    | none => none
  | .load t a => match g a with
    | some p => (aLoad V.E H t p).map (·, H)
    | none => none
  | .store t a x => match g a, g x with
    | some p, some v => (aStore V.E H t p v).map fun H' => (undef, H')
    | _, _ => none
  | .nilCheck x => match g x with
    | some (.pointer (some p)) => some (.pointer (some p), H)
    | some (.func (.func f) a b) => some (.func (.func f) a b, H)
    | some (.map (some m)) => some (.map (some m), H)
    | _ => none
  | .binOp op t x y _ => match g x, g y with
    | some u, some v => (aBin V.P V.E op t x y u v).map (·, H)
    | _, _ => none
  | .unOp op _ x => match g x with
    | some v => (aPure V.P [v] (Op.unary op v)).map (·, H)
    | none => none
  | .convert s d x => match g x with
    | some v => aConvert V.P V.E H s d v
    | none => none
  | .makeInterface t x => match g x, V.E t with
    | some v, some ti => match ti.desc with
      | .interface _ => none
      | _ => some (.iface t v, H)
    | _, _ => none
  | .makeFunc (.func f) first cap => match gvals g first.toList, gvals g cap.toList with
    | some u, some v => some (.func (.func f) u.toArray v.toArray, H)
    | _, _ => none
  | .makeMap _ none => some (.map (some H.next), H.alloc (.map [] [] 0))
  | .makeSlice t l c => match g l, g c with
    | some u, some v => aMakeSlice V.E H t u v
    | _, _ => none
  | .slice t x lo hi mx => match g x, gopt g lo, gopt g hi, gopt g mx with
    | some v, some l, some h, some m => (aSlice V.E H t v l h m).map (·, H)
    | _, _, _, _ => none
  | .fieldAddr s x f => match g x with
    | some v => (aField V.E s f v).map (·, H)
    | none => none
  | .field t x f => match g x with
    | some v => (aFieldOf V.E t v f).map (·, H)
    | none => none
  | .indexAddr t x i => match g x, g i with
    | some u, some v => (aIndex V.E t u v).map (·, H)
    | _, _ => none
  | .index t x i => match g x, g i with
    | some u, some v => (aIndexOf V.E t u v).map (·, H)
    | _, _ => none
  | .lookup t m k ok => match g m, g k with
    | some u, some v => (aLookupX V.P V.E H t u v ok).map (·, H)
    | _, _ => none
  | .mapUpdate t m k x | .insert t m k x => match g m, g k, g x with
    | some u, some v, some y => (aMapUpdateX V.P V.E H t u v y).map fun H' => (undef, H')
    | _, _, _ => none
  | .extract x i => match g x with
    | some v => (aExtract v i).map (·, H)
    | none => none
  | .range t x => match g x with
    | some v => aRange V.E H t v
    | none => none
  | .next x b => match g x with
    | some v => aNext H v b
    | none => none
  | .typeAssert x _ t ok => match g x with
    | some v => (aAssert V.E v t ok).map (·, H)
    | none => none
  | .entry x => match g x with
    | some v => (aEntry H v).map (·, H)
    | none => none
  | .call ⟨.builtin b, args, ts⟩ => match gvals g args.toList with
    | some vs => aBuiltin V H b ts.toList vs
    | none => none
  | _ => none

def evOpG (V : Env) (call : CallFn) (g : Ft) (H : AH) (o : Op) : Option (Value × AH) :=
  match o with
  | .call ⟨.value f, args, _⟩ => match g f, gvals g args.toList with
    | some (.func (.func h) first cap), some vs => match V.F h with
      | some _ => call (.fn h) (first.toList ++ vs ++ cap.toList) H
      | none => aExt V.P h (first.toList ++ vs ++ cap.toList) H
    | some (.func (.yield b) _ _), some vs => call (.yld b) vs H
    | _, _ => none
  | o => aopG V g H o

theorem gvals_eq (nG : Nat) (T : PTree Value) : ∀ xs, ovals nG T xs = gvals (oval nG T) xs
  | [] => rfl
  | x :: xs => by simp only [ovals, gvals, gvals_eq nG T xs]; rfl
theorem gparts_eq (nG : Nat) (T : PTree Value) : ∀ xs, oparts nG T xs = gparts (oval nG T) xs
  | [] => rfl
  | (i, x) :: xs => by simp only [oparts, gparts, gparts_eq nG T xs]; rfl
theorem gopt_eq (nG : Nat) (T : PTree Value) (x : Option Operand) : oopt nG T x = gopt (oval nG T) x := by cases x <;> rfl

theorem aop_G (V : Env) (T : PTree Value) (H : AH) (o : Op) : aop V T H o = aopG V (oval V.nG T) H o := by
  cases o with
  | call c =>
    obtain ⟨cal, args, ts⟩ := c
    cases cal with
    | builtin b => simp only [aop, aopG, gvals_eq]; rfl
    | _ => rfl
  | build t ps => simp only [aop, aopG, gparts_eq]; rfl
  | buildSlice t n ps => simp only [aop, aopG, gparts_eq]; rfl
  | makeFunc fn first cap => cases fn with
    | func f => simp only [aop, aopG, gvals_eq]; rfl
    | _ => rfl
  | makeMap t r => cases r <;> rfl
  | slice t x lo hi mx => simp only [aop, aopG, gopt_eq]; rfl
  | _ => rfl
theorem evOp_G (V : Env) (call : CallFn) (T : PTree Value) (H : AH) (o : Op) : evOp V call T H o = evOpG V call (oval V.nG T) H o := by
  cases o with
  | call c =>
    obtain ⟨cal, args, ts⟩ := c
    cases cal with
    | value f => simp only [evOp, evOpG, gvals_eq]; rfl
    | _ => simp only [evOp, evOpG, aop_G]
  | _ => simp only [evOp, evOpG, aop_G]

/-! ### Who knows more goes as far -/
def Ft.le (g g' : Ft) : Prop := ∀ x v, g x = some v → g' x = some v

theorem gvals_mono {g g' : Ft} (hg : g.le g') : ∀ {xs : List Operand} {vs : List Value}, gvals g xs = some vs → gvals g' xs = some vs
  | [], vs, h => h
  | x :: xs, vs, h => by
    simp only [gvals] at h ⊢
    split at h
    · rename_i v vs' h1 h2
      rw [hg _ _ h1, gvals_mono hg h2]; exact h
    · cases h
theorem gparts_mono {g g' : Ft} (hg : g.le g') : ∀ {xs : List (Nat × Operand)} {vs : List (Nat × Value)}, gparts g xs = some vs → gparts g' xs = some vs
  | [], vs, h => h
  | (i, x) :: xs, vs, h => by
    simp only [gparts] at h ⊢
    split at h
    · rename_i v vs' h1 h2
      rw [hg _ _ h1, gparts_mono hg h2]; exact h
    · cases h
theorem gopt_mono {g g' : Ft} (hg : g.le g') {x : Option Operand} {v : Option Value} (h : gopt g x = some v) : gopt g' x = some v := by
  cases x with
  | none => exact h
  | some x =>
    simp only [gopt] at h ⊢
    obtain ⟨u, h1, h2⟩ := map_some h
    rw [hg _ _ h1]; exact congrArg some h2

theorem aopG_mono {V : Env} {g g' : Ft} (hg : g.le g') {H : AH} {o : Op} {r : Value × AH} (h : aopG V g H o = some r) : aopG V g' H o = some r := by
  have one : ∀ {x : Operand} {β : Type} {f : Value → Option β} {r : β}, (match g x with | some v => f v | none => none) = some r → (match g' x with | some v => f v | none => none) = some r := fun {x β f r} h => by
    cases hx : g x with
    | none => rw [hx] at h; cases h
    | some v => rw [hx] at h; rw [hg _ _ hx]; exact h
  have two : ∀ {x y : Operand} {β : Type} {f : Value → Value → Option β} {r : β}, (match g x, g y with | some u, some v => f u v | _, _ => none) = some r → (match g' x, g' y with | some u, some v => f u v | _, _ => none) = some r := fun {x y β f r} h => by
    cases hx : g x with
    | none => rw [hx] at h; cases h
    | some u =>
      cases hy : g y with
      | none => rw [hx, hy] at h; cases h
      | some v => rw [hx, hy] at h; rw [hg _ _ hx, hg _ _ hy]; exact h
  cases o with
  | move x =>
    obtain ⟨v, h1, h2⟩ := map_some h
    simp only [aopG]; rw [hg _ _ h1]; exact congrArg some h2
  | assign x =>
    obtain ⟨v, h1, h2⟩ := map_some h
    simp only [aopG]; rw [hg _ _ h1]; exact congrArg some h2
  | pick c a b =>
    simp only [aopG] at h ⊢
    split at h
    · rename_i t hc
      rw [hg _ _ hc]
      obtain ⟨v, h1, h2⟩ := map_some h
      simp only
      rw [hg _ _ h1]; exact congrArg some h2
    · cases h
  | alloc t => exact h
  | box t x =>
    simp only [aopG] at h ⊢
    split at h
    · rename_i v hv; rw [hg _ _ hv]; exact h
    · cases h
  | build t ps =>
    simp only [aopG] at h ⊢
    split at h
    · rename_i v hv; rw [gparts_mono hg hv]; exact h
    · cases h
  | buildSlice t n ps =>
    simp only [aopG] at h ⊢
    split at h
    · rename_i v hv; rw [gparts_mono hg hv]; exact h
    · cases h
  | load t a =>
    simp only [aopG] at h ⊢
    split at h
    · rename_i v hv; rw [hg _ _ hv]; exact h
    · cases h
  | store t a x =>
    simp only [aopG] at h ⊢
    split at h
    · rename_i u v hu hv; rw [hg _ _ hu, hg _ _ hv]; exact h
    · cases h
  | nilCheck x =>
    simp only [aopG] at h ⊢
    split at h
    · rename_i p hv; rw [hg _ _ hv]; exact h
    · rename_i f a b hv; rw [hg _ _ hv]; exact h
    · rename_i m hv; rw [hg _ _ hv]; exact h
    · cases h
  | binOp op t x y yt =>
    simp only [aopG] at h ⊢
    split at h
    · rename_i u v hu hv; rw [hg _ _ hu, hg _ _ hv]; exact h
    · cases h
  | unOp op t x =>
    simp only [aopG] at h ⊢
    split at h
    · rename_i v hv; rw [hg _ _ hv]; exact h
    · cases h
  | convert s d x =>
    simp only [aopG] at h ⊢
    split at h
    · rename_i v hv; rw [hg _ _ hv]; exact h
    · cases h
  | makeInterface t x =>
    simp only [aopG] at h ⊢
    cases hx : g x with
    | none => rw [hx] at h; cases h
    | some v => rw [hx] at h; rw [hg _ _ hx]; exact h
  | makeFunc fn first cap =>
    cases fn with
    | func f =>
      simp only [aopG] at h ⊢
      split at h
      · rename_i u v hu hv; rw [gvals_mono hg hu, gvals_mono hg hv]; exact h
      · cases h
    | _ => cases h
  | makeMap t r => cases r <;> exact h
  | makeSlice t x y =>
    simp only [aopG] at h ⊢
    split at h
    · rename_i u v hu hv; rw [hg _ _ hu, hg _ _ hv]; exact h
    · cases h
  | slice t x lo hi mx =>
    simp only [aopG] at h ⊢
    split at h
    · rename_i v l k m h1 h2 h3 h4; rw [hg _ _ h1, gopt_mono hg h2, gopt_mono hg h3, gopt_mono hg h4]; exact h
    · cases h
  | fieldAddr s x f =>
    simp only [aopG] at h ⊢
    split at h
    · rename_i v hv; rw [hg _ _ hv]; exact h
    · cases h
  | field t x f =>
    simp only [aopG] at h ⊢
    split at h
    · rename_i v hv; rw [hg _ _ hv]; exact h
    · cases h
  | indexAddr t x i =>
    simp only [aopG] at h ⊢
    split at h
    · rename_i u v hu hv; rw [hg _ _ hu, hg _ _ hv]; exact h
    · cases h
  | index t x i =>
    simp only [aopG] at h ⊢
    split at h
    · rename_i u v hu hv; rw [hg _ _ hu, hg _ _ hv]; exact h
    · cases h
  | lookup t m i ok =>
    simp only [aopG] at h ⊢
    split at h
    · rename_i u v hu hv; rw [hg _ _ hu, hg _ _ hv]; exact h
    · cases h
  | mapUpdate t m i x =>
    simp only [aopG] at h ⊢
    split at h
    · rename_i u v y hu hv hy; rw [hg _ _ hu, hg _ _ hv, hg _ _ hy]; exact h
    · cases h
  | insert t m i x =>
    simp only [aopG] at h ⊢
    split at h
    · rename_i u v y hu hv hy; rw [hg _ _ hu, hg _ _ hv, hg _ _ hy]; exact h
    · cases h
  | extract x i =>
    simp only [aopG] at h ⊢
    split at h
    · rename_i v hv; rw [hg _ _ hv]; exact h
    · cases h
  | range t x =>
    simp only [aopG] at h ⊢
    split at h
    · rename_i v hv; rw [hg _ _ hv]; exact h
    · cases h
  | entry x =>
    simp only [aopG] at h ⊢
    split at h
    · rename_i v hv; rw [hg _ _ hv]; exact h
    · cases h
  | next x b =>
    simp only [aopG] at h ⊢
    split at h
    · rename_i v hv; rw [hg _ _ hv]; exact h
    · cases h
  | typeAssert x xt t ok =>
    simp only [aopG] at h ⊢
    split at h
    · rename_i v hv; rw [hg _ _ hv]; exact h
    · cases h
  | call c =>
    obtain ⟨cal, args, ts⟩ := c
    cases cal with
    | builtin b =>
      simp only [aopG] at h ⊢
      split at h
      · rename_i v hv; rw [gvals_mono hg hv]; exact h
      · cases h
    | _ => cases h
  | _ => cases h

theorem evOpG_mono {V : Env} {call : CallFn} {g g' : Ft} (hg : g.le g') {H : AH} {o : Op} {r : Value × AH} (h : evOpG V call g H o = some r) : evOpG V call g' H o = some r := by
  unfold evOpG at h ⊢
  split at h
  · rename_i f args ts
    split at h
    · rename_i k first cap vs hf hvs; rw [hg _ _ hf, gvals_mono hg hvs]; exact h
    · rename_i b x y vs hf hvs; rw [hg _ _ hf, gvals_mono hg hvs]; exact h
    · cases h
  · exact aopG_mono hg h

/-! ### Operands renamed -/
def renC (ρ : Operand → Operand) (c : Call) : Call :=
  ⟨match c.callee with
    | .value f => .value (ρ f)
    | x => x, (c.args.toList.map ρ).toArray, c.argTypes⟩
def renPs (ρ : Operand → Operand) (ps : Array (Nat × Operand)) : Array (Nat × Operand) := (ps.toList.map fun p => (p.1, ρ p.2)).toArray
def ren (ρ : Operand → Operand) (o : Op) : Op :=
  match o with
  | .move x => .move (ρ x)
  | .assign x => .assign (ρ x)
  | .pick c a b => .pick (ρ c) (ρ a) (ρ b)
  | .alloc t => .alloc t
  | .box t x => .box t (ρ x)
  | .build t ps => .build t (renPs ρ ps)
  | .buildSlice t n ps => .buildSlice t n (renPs ρ ps)
  | .insert t m i x => .insert t (ρ m) (ρ i) (ρ x)
  | .load t a => .load t (ρ a)
  | .store t a x => .store t (ρ a) (ρ x)
  | .nilCheck x => .nilCheck (ρ x)
  | .binOp op t x y yt => .binOp op t (ρ x) (ρ y) yt
  | .unOp op t x => .unOp op t (ρ x)
  | .convert s d x => .convert s d (ρ x)
  | .makeInterface t x => .makeInterface t (ρ x)
  | .makeFunc fn first cap => .makeFunc fn (first.toList.map ρ).toArray (cap.toList.map ρ).toArray
  | .makeMap t none => .makeMap t none
  | .makeSlice t x y => .makeSlice t (ρ x) (ρ y)
  | .slice t x lo hi mx => .slice t (ρ x) (lo.map ρ) (hi.map ρ) (mx.map ρ)
  | .fieldAddr s x f => .fieldAddr s (ρ x) f
  | .field t x f => .field t (ρ x) f
  | .indexAddr t x i => .indexAddr t (ρ x) (ρ i)
  | .index t x i => .index t (ρ x) (ρ i)
  | .lookup t m i ok => .lookup t (ρ m) (ρ i) ok
  | .mapUpdate t m i x => .mapUpdate t (ρ m) (ρ i) (ρ x)
  | .extract x i => .extract (ρ x) i
  | .range t x => .range t (ρ x)
  | .next x b => .next (ρ x) b
  | .entry x => .entry (ρ x)
  | .typeAssert x xt t ok => .typeAssert (ρ x) xt t ok
  | .call c => .call (renC ρ c)
  | _ => .ready 0

theorem gvals_map (ρ : Operand → Operand) (g : Ft) : ∀ xs, gvals g (xs.map ρ) = gvals (fun x => g (ρ x)) xs
  | [] => rfl
  | x :: xs => by simp only [List.map_cons, gvals, gvals_map ρ g xs]
theorem gparts_map (ρ : Operand → Operand) (g : Ft) : ∀ xs : List (Nat × Operand), gparts g (xs.map fun p => (p.1, ρ p.2)) = gparts (fun x => g (ρ x)) xs
  | [] => rfl
  | (i, x) :: xs => by simp only [List.map_cons, gparts, gparts_map ρ g xs]
theorem gopt_map (ρ : Operand → Operand) (g : Ft) (x : Option Operand) : gopt g (x.map ρ) = gopt (fun x => g (ρ x)) x := by cases x <;> rfl

theorem pick_ren {V : Env} {ρ : Operand → Operand} {g : Ft} {H : AH} {c a b : Operand} : aopG V g H (.pick (ρ c) (ρ a) (ρ b)) = aopG V (fun x => g (ρ x)) H (.pick c a b) := by
  simp only [aopG]
  split
  · rename_i t _; cases t <;> rfl
  · rfl

def isC : Operand → Bool
  | .const _ => true
  | _ => false

/-- A renaming that turns temporaries alone. -/
def Tame (ρ : Operand → Operand) : Prop := ∀ x, isC (ρ x) = isC x

theorem aBin_tame {P : Program} {E : TypeId → Option TI} {op : BinOp} {t : TypeId} {ox oy ox' oy' : Operand} (hx : isC ox' = isC ox) (hy : isC oy' = isC oy) (u v : Value) :
    aBin P E op t ox' oy' u v = aBin P E op t ox oy u v := by
  have hg : ∀ a b, eqGuard op t ox' oy' a b = eqGuard op t ox oy a b := fun a b => by
    cases ox <;> cases ox' <;> simp [isC] at hx <;> cases oy <;> cases oy' <;> simp [isC] at hy <;> rfl
  unfold aBin
  simp only [hg]

/-- The operation renamed does what the operation does with its operands fetched so. -/
theorem evOpG_ren {V : Env} {call : CallFn} {ρ : Operand → Operand} (hρ : Tame ρ) {g : Ft} {H : AH} {o : Op} {r : Value × AH} (h : evOpG V call g H (ren ρ o) = some r) : evOpG V call (fun x => g (ρ x)) H o = some r := by
  cases o with
  | pick c a b =>
    have e := pick_ren (V := V) (ρ := ρ) (g := g) (H := H) (c := c) (a := a) (b := b)
    simp only [ren, evOpG] at h ⊢
    rw [← e]; exact h
  | build t ps =>
    simp only [ren, evOpG, aopG, renPs, gparts_map] at h ⊢
    exact h
  | buildSlice t n ps =>
    simp only [ren, evOpG, aopG, renPs, gparts_map] at h ⊢
    exact h
  | makeFunc fn first cap =>
    cases fn with
    | func f =>
      simp only [ren, evOpG, aopG, gvals_map] at h ⊢
      exact h
    | _ => cases h
  | makeMap t x =>
    cases x with
    | none => exact h
    | some x => cases h
  | slice t x lo hi mx =>
    simp only [ren, evOpG, aopG, gopt_map] at h ⊢
    exact h
  | call c =>
    obtain ⟨cal, args, ts⟩ := c
    cases cal with
    | value f =>
      simp only [ren, renC, evOpG, gvals_map] at h ⊢
      exact h
    | builtin b =>
      simp only [ren, renC, evOpG, aopG, gvals_map] at h ⊢
      exact h
    | invoke x m => cases h
  | binOp op t x y yt =>
    simp only [ren, evOpG, aopG] at h ⊢
    split at h
    · rename_i u v hu hv
      rw [aBin_tame (hρ x) (hρ y)] at h
      exact h
    · cases h
  | _ => first
    | (simp only [ren, evOpG, aopG] at h ⊢; exact h)
    | (simp [ren, evOpG, aopG] at h)
end Go.Ev
