/-
  EV, universal use, part k: flat structs compared.
-/
import Derived.Test.YtdkfcpadbahohaaDoorEv5
set_option linter.unusedVariables false
set_option linter.unusedSimpArgs false
namespace Go.Ev
open Go

theorem pureRun_bind {α β : Type} {P : Program} : ∀ {s : Sem α} {a : α}, pureRun P s = some a → ∀ (f : α → Sem β), pureRun P (s >>= f) = pureRun P (f a) := by
  intro s
  induction s with
  | pure b => intro a h f; cases h; rfl
  | program k ih => intro a h f; exact ih P (a := a) h f
  | mark m k ih => intro a h f; exact ih (a := a) h f
  | _ => intro a h f; cases h

/-- Two flat structs, field by field. -/
inductive FlatEq (P : Program) (d : Nat) (xs ys : Array Value) : List Field → List Bool → Prop
  | nil : FlatEq P d xs ys [] []
  | cons {f : Field} {l : List Field} {x y : Value} {b : Bool} {bs : List Bool} (hn : f.name ≠ "_") (hx : pureRun P (part f.type xs f.offset) = some x) (hy : pureRun P (part f.type ys f.offset) = some y)
      (he : pureRun P (Op.equalIn d f.type x y) = some b) (t : FlatEq P d xs ys l bs) : FlatEq P d xs ys (f :: l) (b :: bs)

theorem FlatEq.run {P : Program} {d : Nat} {xs ys : Array Value} {l : List Field} {bs : List Bool} (h : FlatEq P d xs ys l bs) : ∃ r, pureRun P (forIn l (none, ()) fun f __s =>
            if f.name ≠ "_" then do
              let __do_lift ← part f.type xs f.offset
              let __do_lift_1 ← part f.type ys f.offset
              let __do_lift ← Op.equalIn d f.type __do_lift __do_lift_1
              if (!__do_lift) = true then pure (ForInStep.done (some false, ())) else pure (ForInStep.yield (none, ()))
            else pure (ForInStep.yield (none, ()))) = some r ∧ pureRun P (match r.fst with
        | some r => pure r
        | none => pure true : Sem Bool) = some (bs.all id) := by
  induction h with
  | nil => exact ⟨_, rfl, rfl⟩
  | @cons f l x y b bs hn hx hy he _ ih =>
    rw [List.forIn_cons, if_pos hn]
    have e : pureRun P (do
              let __do_lift ← part f.type xs f.offset
              let __do_lift_1 ← part f.type ys f.offset
              let __do_lift ← Op.equalIn d f.type __do_lift __do_lift_1
              if (!__do_lift) = true then pure (ForInStep.done (some false, ())) else pure (ForInStep.yield (none, ())) : Sem (ForInStep (Option Bool × Unit))) = some (if (!b) = true then ForInStep.done (some false, ()) else ForInStep.yield (none, ())) := by
      rw [pureRun_bind hx, pureRun_bind hy, pureRun_bind he]
      cases b <;> rfl
    rw [pureRun_bind e]
    cases b
    · exact ⟨_, rfl, rfl⟩
    · obtain ⟨r, h1, h2⟩ := ih
      exact ⟨r, h1, h2⟩

theorem equal_struct {P : Program} {d : Nat} {t : TypeId} {xs ys : Array Value} {fs : Array Field} {bs : List Bool} (hu : P.underlying t = some (.struct fs)) (hs : P.stoodInHeld t = false) (h : FlatEq P d xs ys fs.toList bs) : pureRun P (Op.equalIn (d + 1) t (.agg xs) (.agg ys)) = some (bs.all id) := by
  rw [Op.equalIn, pureRun_und hu]
  show pureRun P (do
      if (← program).stoodInHeld t then
        unsupported (.noEntry "binop/eql.a struct with addresses of a package that the model stands in for")
      for f in fs do
        if f.name ≠ "_" then
          if !(← Op.equalIn d f.type (← part f.type xs f.offset) (← part f.type ys f.offset)) then return false
      pure true) = some (bs.all id)
  have hp : pureRun P program = some P := rfl
  rw [pureRun_bind hp, hs]
  simp only [Bool.false_eq_true, if_false]
  rw [← Array.forIn_toList]
  obtain ⟨r, h1, h2⟩ := h.run
  rw [pureRun_bind h1]
  obtain ⟨r1, u⟩ := r
  cases r1 <;> exact h2

theorem equal_int {P : Program} {d : Nat} {t : TypeId} {k k' : IntKind} {a b : Int} (hu : P.underlying t = some (.int k')) : pureRun P (Op.equalIn (d + 1) t (.int k a) (.int k b)) = some (a == b) := by
  rw [Op.equalIn, pureRun_und hu]
  show pureRun P (if k = k then pure (a == b) else stuck _) = _
  rw [if_pos rfl]; rfl
theorem equal_str {P : Program} {d : Nat} {t : TypeId} {a b : ByteArray} (hu : P.underlying t = some .string) : pureRun P (Op.equalIn (d + 1) t (.string a) (.string b)) = some (a.data.toList == b.data.toList) := by
  rw [Op.equalIn, pureRun_und hu]
  have : (a == b) = (a.data.toList == b.data.toList) := by
    have e : (a == b) = (a.data == b.data) := by cases a; cases b; rfl
    rw [e, Bool.eq_iff_iff, beq_iff_eq, beq_iff_eq]
    exact ⟨fun h => by rw [h], fun h => Array.ext' h⟩
  rw [← this]; rfl
theorem equal_bool {P : Program} {d : Nat} {t : TypeId} {a b : Bool} (hu : P.underlying t = some .bool) : pureRun P (Op.equalIn (d + 1) t (.bool a) (.bool b)) = some (a == b) := by
  rw [Op.equalIn, pureRun_und hu]; rfl

theorem part_one {P : Program} {t : TypeId} {ds : TypeDesc} {cs : Array Value} {i : Nat} {v : Value} (hu : P.underlying t = some ds) (hd : Desc.agg ds = false) (hv : cs[i]? = some v) : pureRun P (part t cs i) = some v := by
  unfold part
  have : pureRun P (isAgg t) = some false := by
    unfold isAgg
    rw [pureRun_und hu]
    cases ds <;> first | rfl | cases hd
  rw [pureRun_bind this, hv]; rfl

section
variable {V : Env} {g : Ft} {H : AH}
theorem aBin_eqAgg {t : TypeId} {ox oy : Operand} {xs ys : Array Value} {b : Bool} (hx : constOk (.agg xs) = true) (hy : constOk (.agg ys) = true) (hg : V.P.eqGuardType V.P.depth t = false) (h : pureRun V.P (Op.equal t (.agg xs) (.agg ys)) = some b) :
    aBin V.P V.E .eql t ox oy (.agg xs) (.agg ys) = some (.bool b) ∧ aBin V.P V.E .neq t ox oy (.agg xs) (.agg ys) = some (.bool !b) := by
  have gd : ∀ op, pureRun V.P (eqGuard op t ox oy (.agg xs) (.agg ys)) = some () := fun op => by
    have hp : pureRun V.P program = some V.P := rfl
    cases op <;> first
      | rfl
      | (show pureRun V.P (program >>= fun p => program >>= fun q => if (!p.eqGuardType q.depth t) = true then pure () else _) = _
         rw [pureRun_bind hp, pureRun_bind hp, hg]; rfl)
  constructor
  · unfold aBin
    simp only [hx, hy, Bool.and_self, if_true]
    rw [pureRun_bind (gd _)]
    have : pureRun V.P (binOp .eql t (.agg xs) (.agg ys)) = some (.bool b) := by
      show pureRun V.P (do pure (Value.bool (← Op.equal t (.agg xs) (.agg ys)))) = _
      rw [pureRun_bind h]; rfl
    rw [this]; rfl
  · unfold aBin
    simp only [hx, hy, Bool.and_self, if_true]
    rw [pureRun_bind (gd _)]
    have : pureRun V.P (binOp .neq t (.agg xs) (.agg ys)) = some (.bool !b) := by
      show pureRun V.P (do pure (Value.bool !(← Op.equal t (.agg xs) (.agg ys)))) = _
      rw [pureRun_bind h]; rfl
    rw [this]; rfl
theorem op_bin {op : BinOp} {x y : Operand} {t u : TypeId} {a b v : Value} (hx : g x = some a) (hy : g y = some b) (h : aBin V.P V.E op t x y a b = some v) : aopG V g H (.binOp op t x y u) = some (v, H) := by
  simp only [aopG, hx, hy, h, Option.map_some]

theorem aBin_eqB {P : Program} {E : TypeId → Option TI} {t : TypeId} {ox oy : Operand} {a b : Bool} (hu : P.underlying t = some .bool) : aBin P E .eql t ox oy (.bool a) (.bool b) = some (.bool (a == b)) := by
  unfold aBin
  have h : pureRun P (Op.equal t (.bool a) (.bool b)) = some (a == b) := equal_bool (d := 9999) hu
  have : pureRun P (do eqGuard .eql t ox oy (.bool a) (.bool b); binOp .eql t (.bool a) (.bool b)) = some (.bool (a == b)) := by
    have gd : pureRun P (eqGuard .eql t ox oy (.bool a) (.bool b)) = some () := rfl
    rw [pureRun_bind gd]
    show pureRun P (do pure (Value.bool (← Op.equal t (.bool a) (.bool b)))) = _
    rw [pureRun_bind h]; rfl
  simp only [this]; rfl
end
end Go.Ev

