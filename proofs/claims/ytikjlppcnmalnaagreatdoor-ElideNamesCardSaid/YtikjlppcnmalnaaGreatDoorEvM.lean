/-
  EV, part M: operators and conversions.
-/
import Derived.Test.YtikjlppcnmalnaaGreatDoorEvL
namespace Go.Ev
open Go.RowKit

variable {P : Program} {B0 : Nat} {ι : Emb} {H H' : AH} {w : World} {E : TypeId → Option TI}

/-- What a computation that looks at no memory yields. -/
def pureRun {α : Type} (P : Program) : Sem α → Option α
  | .pure a => some a
  | .program k => pureRun P (k P)
  | .mark _ k => pureRun P k
  | _ => none

theorem pureRun_ok {α : Type} : ∀ (s : Sem α) (a : α), pureRun P s = some a → ∀ w, s.run P w = .ok a w := by
  intro s
  induction s with
  | pure a => intro b h w; simp [pureRun] at h; subst h; rfl
  | program k ih => intro b h w; simp only [pureRun] at h; simpa [Sem.run] using ih P b h w
  | mark m k ih => intro b h w; simp only [pureRun] at h; simpa [Sem.run] using ih b h w
  | _ => intro b h w; simp [pureRun] at h

theorem VRel.constOk_eq {v v' : Value} (h : VRel ι v v') (hc : constOk v = true) : v' = v := by
  unfold constOk at hc
  by_cases hp : plain v = true
  · exact h.plain_eq hp
  · simp [hp] at hc
    have fin : ∀ (xs xs' : Array Value) (hx : xs.size = xs'.size) (h : ∀ i (h : i < xs.size) (h' : i < xs'.size), VRel ι xs[i] xs'[i]), (∀ i (hi : i < xs.size), plain xs[i] = true) → xs' = xs := fun xs xs' hx h hp => by
      apply Array.ext
      · exact hx.symm
      · intro i h1 h2; exact (h i h2 h1).plain_eq (hp i h2)
    cases h with
    | agg hx h => rw [fin _ _ hx h (by simpa using hc)]
    | tuple hx h => rw [fin _ _ hx h (by simpa using hc)]
    | iface h => rw [h.plain_eq (by simpa using hc)]
    | _ => simp at hc

/-- wrap, with a fast way for what needs none. -/
def wr (k : IntKind) (n : Int) : Int := if k = .i64 ∧ -9223372036854775808 ≤ n ∧ n ≤ 9223372036854775807 then n else k.wrap n
theorem wr_eq (k : IntKind) (n : Int) : wr k n = k.wrap n := by
  unfold wr
  split
  · rename_i h; rw [h.1, IntKind.wrap_i64]; omega
  · rfl

def aInt (P : Program) (op : BinOp) (t : TypeId) (k : IntKind) (a : Int) (k' : IntKind) (b : Int) : Option Value :=
  match op with
  | .add => if k = k' then some (.int k (wr k (a + b))) else none
  | .sub => if k = k' then some (.int k (wr k (a - b))) else none
  | .mul => if k = k' then some (.int k (wr k (a * b))) else none
  | .eql => if k = k' then some (.bool (a == b)) else none
  | .neq => if k = k' then some (.bool (a != b)) else none
  | .lss => if k = k' then some (.bool (decide (a < b))) else none
  | .leq => if k = k' then some (.bool (decide (a ≤ b))) else none
  | .gtr => if k = k' then some (.bool (decide (a > b))) else none
  | .geq => if k = k' then some (.bool (decide (a ≥ b))) else none
  | op => pureRun P (binOp op t (.int k a) (.int k' b))

def nilRes : BinOp → Option Value
  | .eql => some (.bool false)
  | .neq => some (.bool true)
  | _ => none

def aBin (P : Program) (E : TypeId → Option TI) (op : BinOp) (t : TypeId) (ox oy : Operand) (x y : Value) : Option Value :=
  match x, y with
  | .int k a, .int k' b => aInt P op t k a k' b
  | .slice (some _) _ _, .slice none _ _ | .slice none _ _, .slice (some _) _ _ => match E t with
    | some ⟨.slice _, _, _, _⟩ => nilRes op
    | _ => none
  | .pointer (some _), .pointer none | .pointer none, .pointer (some _) => match E t with
    | some ⟨.pointer _, _, _, _⟩ => nilRes op
    | _ => none
  | .map (some _), .map none | .map none, .map (some _) => match E t with
    | some ⟨.map _ _, _, _, _⟩ => nilRes op
    | _ => none
  | .func _ _ _, .nilFunc | .nilFunc, .func _ _ _ => match E t with
    | some ⟨.func _ _ _, _, _, _⟩ => nilRes op
    | _ => none
  | x, y => if constOk x && constOk y then match pureRun P (do eqGuard op t ox oy x y; binOp op t x y) with
      | some v => if constOk v then some v else none
      | none => none
    else none

/-- What the model does at a binary operation. -/
def binSem (op : BinOp) (t : TypeId) (ox oy : Operand) (x y : Value) : Sem Value := do eqGuard op t ox oy x y; binOp op t x y

theorem binSem_skip {op : BinOp} {t : TypeId} {ox oy : Operand} {x y : Value} (hx : ∀ cs, x ≠ .agg cs) (hy : x ≠ .nilIface) : binSem op t ox oy x y = binOp op t x y := by
  unfold binSem eqGuard
  cases op <;> cases x <;> first | exact absurd rfl hy | exact absurd rfl (hx _) | (cases y <;> rfl)

theorem pureRun_int {op : BinOp} {t : TypeId} {k k' : IntKind} {a b : Int} {v : Value} (h : pureRun P (binOp op t (.int k a) (.int k' b)) = some v) : plain v = true := by
  cases op <;> simp only [binOp, Op.shift, Op.intArith, Op.intDiv, Op.intBits, Op.intCmp] at h
  all_goals (repeat' (split at h))
  all_goals first
    | (simp [pureRun, Pure.pure] at h; subst h; rfl)
    | (simp [pureRun, stuck, runtimePanic, program, bind, Sem.bind, goPanic] at h)

/-- A comparison with nil: of kinds that may be nil. -/
theorem nilCmp_ok {op : BinOp} {t : TypeId} {ox oy : Operand} {x y v : Value} (hx : ∀ cs, x ≠ .agg cs) (hy : x ≠ .nilIface) (hq : (Op.equal t x y).run P w = .ok false w)
    (he : binOp .eql t x y = (do pure (.bool (← Op.equal t x y)))) (hn : binOp .neq t x y = (do pure (.bool (!(← Op.equal t x y)))))
    (ha : nilRes op = some v) : (binSem op t ox oy x y).run P w = .ok v w ∧ plain v = true := by
  rw [binSem_skip hx hy]
  cases op <;> simp only [nilRes, reduceCtorEq, Option.some.injEq] at ha
  · subst ha; rw [he]; simp [hq, plain]
  · subst ha; rw [hn]; simp [hq, plain]

theorem eqd {t : TypeId} {x y : Value} {b : Bool} (h : ∀ d, (Op.equalIn (d + 1) t x y).run P w = .ok b w) : (Op.equal t x y).run P w = .ok b w := h 9999

theorem aBin_ok (hE : TOk E P) {op : BinOp} {t : TypeId} {ox oy : Operand} {x x' y y' v : Value} (hx : VRel ι x x') (hy : VRel ι y y') (ha : aBin P E op t ox oy x y = some v) :
    ∃ v', (binSem op t ox oy x' y').run P w = .ok v' w ∧ VRel ι v v' := by
  have nil : ∀ {d : TypeDesc} (_ : P.underlying t = some d), (Op.equal t x' y').run P w = .ok false w → (∀ cs, x' ≠ .agg cs) → x' ≠ .nilIface → binOp .eql t x' y' = (do pure (.bool (← Op.equal t x' y'))) →
      binOp .neq t x' y' = (do pure (.bool (!(← Op.equal t x' y')))) → nilRes op = some v → ∃ v', (binSem op t ox oy x' y').run P w = .ok v' w ∧ VRel ι v v' := fun _ h1 h2 h3 h4 h5 h6 =>
    let ⟨a, b⟩ := nilCmp_ok (ox := ox) (oy := oy) h2 h3 h1 h4 h5 h6
    ⟨v, a, VRel.of_plain b⟩
  unfold aBin at ha
  split at ha
  · -- integers
    rename_i k a k' b
    cases hx; cases hy
    rw [binSem_skip (by simp) (by simp)]
    cases op <;> simp only [aInt, wr_eq] at ha
    all_goals first
      | (have hp := pureRun_int ha
         exact ⟨v, pureRun_ok _ _ ha w, VRel.of_plain hp⟩)
      | (split at ha
         · rename_i hk; cases ha; subst hk
           exact ⟨_, by simp [binOp, Op.intArith, Op.intCmp]; rfl, by first | exact .int _ _ | exact .bool _⟩
         · cases ha)
  · split at ha
    · rename_i e sz by_ zv hti
      obtain ⟨i, hT⟩ := hE.get hti
      have hu : P.underlying t = some (.slice e) := hT.u
      cases hy
      cases hx <;> exact nil hu (eqd fun d => by simp [Op.equalIn, run_underlying' hu]) (by simp) (by simp) rfl rfl ha
    · cases ha
  · split at ha
    · rename_i e sz by_ zv hti
      obtain ⟨i, hT⟩ := hE.get hti
      have hu : P.underlying t = some (.slice e) := hT.u
      cases hx
      cases hy <;> exact nil hu (eqd fun d => by simp [Op.equalIn, run_underlying' hu]) (by simp) (by simp) rfl rfl ha
    · cases ha
  · split at ha
    · rename_i e sz by_ zv hti
      obtain ⟨i, hT⟩ := hE.get hti
      have hu : P.underlying t = some (.pointer e) := hT.u
      cases hy
      cases hx; exact nil hu (eqd fun d => by simp [Op.equalIn, run_underlying' hu]) (by simp) (by simp) rfl rfl ha
    · cases ha
  · split at ha
    · rename_i e sz by_ zv hti
      obtain ⟨i, hT⟩ := hE.get hti
      have hu : P.underlying t = some (.pointer e) := hT.u
      cases hx
      cases hy; exact nil hu (eqd fun d => by simp [Op.equalIn, run_underlying' hu]) (by simp) (by simp) rfl rfl ha
    · cases ha
  · split at ha
    · rename_i k e sz by_ zv hti
      obtain ⟨i, hT⟩ := hE.get hti
      have hu : P.underlying t = some (.map k e) := hT.u
      cases hy
      cases hx; exact nil hu (eqd fun d => by simp [Op.equalIn, run_underlying' hu]) (by simp) (by simp) rfl rfl ha
    · cases ha
  · split at ha
    · rename_i k e sz by_ zv hti
      obtain ⟨i, hT⟩ := hE.get hti
      have hu : P.underlying t = some (.map k e) := hT.u
      cases hx
      cases hy; exact nil hu (eqd fun d => by simp [Op.equalIn, run_underlying' hu]) (by simp) (by simp) rfl rfl ha
    · cases ha
  · split at ha
    · rename_i a b c sz by_ zv hti
      obtain ⟨i, hT⟩ := hE.get hti
      have hu : P.underlying t = some (.func a b c) := hT.u
      cases hy
      cases hx <;> exact nil hu (eqd fun d => by simp [Op.equalIn, run_underlying' hu]) (by simp) (by simp) rfl rfl ha
    · cases ha
  · split at ha
    · rename_i a b c sz by_ zv hti
      obtain ⟨i, hT⟩ := hE.get hti
      have hu : P.underlying t = some (.func a b c) := hT.u
      cases hx
      cases hy <;> exact nil hu (eqd fun d => by simp [Op.equalIn, run_underlying' hu]) (by simp) (by simp) rfl rfl ha
    · cases ha
  · split at ha
    · rename_i hc
      rw [Bool.and_eq_true] at hc
      rw [hx.constOk_eq hc.1, hy.constOk_eq hc.2]
      split at ha
      · rename_i v0 hp
        split at ha
        · rename_i hv
          cases ha
          exact ⟨v, pureRun_ok _ _ hp w, VRel.of_constOk hv⟩
        · cases ha
      · cases ha
    · cases ha

/-- What looks at no memory and takes what leads nowhere. -/
def aPure (P : Program) (xs : List Value) (s : Sem Value) : Option Value :=
  if xs.all constOk then match pureRun P s with
    | some v => if constOk v then some v else none
    | none => none
  else none

theorem LRel.constOk_eq {xs xs' : List Value} (h : LRel ι xs xs') (hc : xs.all constOk = true) : xs' = xs := by
  induction h with
  | nil => rfl
  | cons h _ ih =>
    simp only [List.all_cons, Bool.and_eq_true] at hc
    rw [h.constOk_eq hc.1, ih hc.2]

theorem aPure_ok {xs xs' : List Value} {f : List Value → Sem Value} {v : Value} (hx : LRel ι xs xs') (ha : aPure P xs (f xs) = some v) : ∃ v', (f xs').run P w = .ok v' w ∧ VRel ι v v' := by
  unfold aPure at ha
  split at ha
  · rename_i hc
    rw [hx.constOk_eq hc]
    split at ha
    · rename_i v0 hp
      split at ha
      · rename_i hv; cases ha; exact ⟨v, pureRun_ok _ _ hp w, VRel.of_constOk hv⟩
      · cases ha
    · cases ha
  · cases ha
end Go.Ev
