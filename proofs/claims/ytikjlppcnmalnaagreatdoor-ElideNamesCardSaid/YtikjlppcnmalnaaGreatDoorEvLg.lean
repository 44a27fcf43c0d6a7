/-
  EV, kernel, part Lg: regions prepared so that nothing is left to be worked out.
-/
import Derived.Test.YtikjlppcnmalnaaGreatDoorEvLd
namespace Go.Ev
open Go.RowKit

noncomputable section
variable {β : Type}

def fN (n : Nat) (k : Nat → β) : β := Nat.rec (motive := fun _ => β) (k 0) (fun m _ => k (Nat.succ m)) n
theorem fN_eq (n : Nat) (k : Nat → β) : fN n k = k n := by cases n <;> rfl

def keyM : List (Tmp × Nat) → Nat
  | [] => 0
  | (d, _) :: ρ => keyM ρ ||| 2 ^ d
theorem keyM_none : ∀ {ρ : List (Tmp × Nat)} {t : Nat}, (keyM ρ).testBit t = false → findR ρ t = none
  | [], t, _ => rfl
  | (d, p) :: ρ, t, h => by
    simp only [keyM, Nat.testBit_or, Bool.or_eq_false_iff, Nat.testBit_two_pow, decide_eq_false_iff_not] at h
    rw [findR_cons, if_neg h.2, keyM_none h.1]

def findK (ρ : List (Tmp × Nat)) (t : Tmp) (k : Nat → β) (f : β) : β :=
  List.rec (motive := fun _ => β) f (fun p _ ih => Prod.rec (motive := fun _ => β) (fun d q => Bool.rec (motive := fun _ => β) ih (k q) (Nat.beq d t)) p) ρ
theorem findK_eq (t : Tmp) (k : Nat → β) (f : β) : ∀ ρ : List (Tmp × Nat), findK ρ t k f = match findR ρ t with
    | some p => k p
    | none => f
  | [] => rfl
  | (d, q) :: ρ => by
    show Bool.rec (motive := fun _ => β) (findK ρ t k f) (k q) (Nat.beq d t) = _
    simp only [findR]
    cases Nat.beq d t with
    | true => rfl
    | false => exact findK_eq t k f ρ

def locK (ρ : List (Tmp × Nat)) (km : Nat) (t : Tmp) (k : Nat → β) (f : β) : β := Bool.rec (motive := fun _ => β) f (findK ρ t k f) (Nat.testBit km t)
theorem locK_eq {ρ : List (Tmp × Nat)} {km : Nat} (hk : km = keyM ρ) (t : Tmp) (k : Nat → β) (f : β) : locK ρ km t k f = match findR ρ t with
    | some p => k p
    | none => f := by
  unfold locK
  cases h : Nat.testBit km t with
  | true => exact findK_eq t k f ρ
  | false => subst hk; rw [keyM_none h]

def rsK (ρ : List (Tmp × Nat)) (km c : Nat) (x : Operand) (k : Operand → β) : β :=
  Operand.rec (motive := fun _ => β) (fun t => locK ρ km t (fun p => fN (c - 1 - p) fun i => k (.tmp i)) (fN (far + t) fun i => k (.tmp i))) (fun v => k (.const v)) (fun g => k (.global g)) (fun f => k (.func f)) x
theorem rsK_eq {ρ : List (Tmp × Nat)} {km : Nat} (hk : km = keyM ρ) (c : Nat) (x : Operand) (k : Operand → β) : rsK ρ km c x k = k (resv ρ c x) := by
  cases x with
  | tmp t =>
    show locK ρ km t (fun p => fN (c - 1 - p) fun i => k (.tmp i)) (fN (far + t) fun i => k (.tmp i)) = _
    rw [locK_eq hk]
    simp only [resv, fN_eq]
    cases findR ρ t <;> rfl
  | _ => rfl

def rsLK (R : Operand → (Operand → β) → β) (xs : List Operand) : (List Operand → β) → β :=
  List.rec (motive := fun _ => (List Operand → β) → β) (fun k => k []) (fun x _ ih k => R x fun x => ih fun xs => k (x :: xs)) xs
theorem rsLK_eq {R : Operand → (Operand → β) → β} {r : Operand → Operand} (hR : ∀ x k, R x k = k (r x)) : ∀ (xs : List Operand) (k : List Operand → β), rsLK R xs k = k (xs.map r)
  | [], k => rfl
  | x :: xs, k => by
    show R x (fun x => rsLK R xs fun xs => k (x :: xs)) = _
    rw [hR, rsLK_eq hR xs]; rfl
def rsPK (R : Operand → (Operand → β) → β) (xs : List (Nat × Operand)) : (List (Nat × Operand) → β) → β :=
  List.rec (motive := fun _ => (List (Nat × Operand) → β) → β) (fun k => k []) (fun p _ ih k => Prod.rec (motive := fun _ => β) (fun i x => R x fun x => ih fun xs => k ((i, x) :: xs)) p) xs
theorem rsPK_eq {R : Operand → (Operand → β) → β} {r : Operand → Operand} (hR : ∀ x k, R x k = k (r x)) : ∀ (xs : List (Nat × Operand)) (k : List (Nat × Operand) → β), rsPK R xs k = k (xs.map fun p => (p.1, r p.2))
  | [], k => rfl
  | (i, x) :: xs, k => by
    show R x (fun x => rsPK R xs fun xs => k ((i, x) :: xs)) = _
    rw [hR, rsPK_eq hR xs]; rfl
def rsOK (R : Operand → (Operand → β) → β) (x : Option Operand) (k : Option Operand → β) : β :=
  Option.rec (motive := fun _ => β) (k none) (fun x => R x fun x => k (some x)) x
theorem rsOK_eq {R : Operand → (Operand → β) → β} {r : Operand → Operand} (hR : ∀ x k, R x k = k (r x)) (x : Option Operand) (k : Option Operand → β) : rsOK R x k = k (x.map r) := by
  cases x with
  | none => rfl
  | some x => exact hR x _

def renCK (R : Operand → (Operand → β) → β) (c : Call) (k : Op → β) : β :=
  Call.rec (motive := fun _ => β) (fun cal args ts => rsLK R args.toList fun xs =>
    Callee.rec (motive := fun _ => β) (fun f => R f fun f => k (.call ⟨.value f, ⟨xs⟩, ts⟩)) (fun r m => k (.call ⟨.invoke r m, ⟨xs⟩, ts⟩)) (fun b => k (.call ⟨.builtin b, ⟨xs⟩, ts⟩)) cal) c

def renK (R : Operand → (Operand → β) → β) (o : Op) (k : Op → β) : β :=
  Op.rec (motive := fun _ => β) (fun x => R x fun x => k (.move x)) (fun x => R x fun x => k (.assign x)) (fun c a b => R c fun c => R a fun a => R b fun b => k (.pick c a b)) (fun t => k (.alloc t)) (fun t x => R x fun x => k (.box t x))
    (fun t ps => rsPK R ps.toList fun ps => k (.build t ⟨ps⟩)) (fun t n ps => rsPK R ps.toList fun ps => k (.buildSlice t n ⟨ps⟩)) (fun t m i x => R m fun m => R i fun i => R x fun x => k (.insert t m i x))
    (fun t a => R a fun a => k (.load t a)) (fun t a x => R a fun a => R x fun x => k (.store t a x)) (fun _ => k (.ready 0)) (fun _ => k (.ready 0)) (fun x => R x fun x => k (.nilCheck x))
    (fun op t x y yt => R x fun x => R y fun y => k (.binOp op t x y yt)) (fun op t x => R x fun x => k (.unOp op t x)) (fun s d x => R x fun x => k (.convert s d x)) (fun _ _ => k (.ready 0)) (fun t x => R x fun x => k (.makeInterface t x))
    (fun fn first cap => rsLK R first.toList fun first => rsLK R cap.toList fun cap => k (.makeFunc fn ⟨first⟩ ⟨cap⟩)) (fun t r => Option.rec (motive := fun _ => β) (k (.makeMap t none)) (fun _ => k (.ready 0)) r) (fun _ _ => k (.ready 0))
    (fun t x y => R x fun x => R y fun y => k (.makeSlice t x y)) (fun t x lo hi mx => R x fun x => rsOK R lo fun lo => rsOK R hi fun hi => rsOK R mx fun mx => k (.slice t x lo hi mx))
    (fun s x f => R x fun x => k (.fieldAddr s x f)) (fun t x f => R x fun x => k (.field t x f)) (fun t x i => R x fun x => R i fun i => k (.indexAddr t x i)) (fun t x i => R x fun x => R i fun i => k (.index t x i))
    (fun t m i ok => R m fun m => R i fun i => k (.lookup t m i ok)) (fun t m i x => R m fun m => R i fun i => R x fun x => k (.mapUpdate t m i x)) (fun _ _ _ => k (.ready 0)) (fun _ _ _ _ => k (.ready 0)) (fun t x => R x fun x => k (.range t x)) (fun x b => R x fun x => k (.next x b)) (fun x => R x fun x => k (.entry x))
    (fun x xt t ok => R x fun x => k (.typeAssert x xt t ok)) (fun x i => R x fun x => k (.extract x i)) (fun c => renCK R c k) (fun _ => k (.ready 0)) (fun _ => k (.ready 0)) (fun _ => k (.ready 0)) (fun _ _ => k (.ready 0)) (fun _ _ _ => k (.ready 0)) (fun _ _ => k (.ready 0)) o

theorem renK_eq {R : Operand → (Operand → β) → β} {r : Operand → Operand} (hR : ∀ x k, R x k = k (r x)) (o : Op) (k : Op → β) : renK R o k = k (ren r o) := by
  cases o with
  | build t ps =>
    show rsPK R ps.toList (fun ps => k (.build t ⟨ps⟩)) = _
    rw [rsPK_eq hR]; rfl
  | buildSlice t n ps =>
    show rsPK R ps.toList (fun ps => k (.buildSlice t n ⟨ps⟩)) = _
    rw [rsPK_eq hR]; rfl
  | makeFunc fn first cap =>
    show (rsLK R first.toList fun first => rsLK R cap.toList fun cap => k (.makeFunc fn ⟨first⟩ ⟨cap⟩)) = _
    rw [rsLK_eq hR, rsLK_eq hR]; rfl
  | makeMap t x => cases x <;> rfl
  | slice t x lo hi mx =>
    show (R x fun x => rsOK R lo fun lo => rsOK R hi fun hi => rsOK R mx fun mx => k (.slice t x lo hi mx)) = _
    rw [hR, rsOK_eq hR, rsOK_eq hR, rsOK_eq hR]; rfl
  | call c =>
    obtain ⟨cal, args, ts⟩ := c
    show (rsLK R args.toList fun xs => Callee.rec (motive := fun _ => β) (fun f => R f fun f => k (.call ⟨.value f, ⟨xs⟩, ts⟩)) (fun r m => k (.call ⟨.invoke r m, ⟨xs⟩, ts⟩)) (fun b => k (.call ⟨.builtin b, ⟨xs⟩, ts⟩)) cal) = _
    rw [rsLK_eq hR]
    cases cal with
    | value f => show R f _ = _; rw [hR]; rfl
    | _ => rfl
  | move x => show R x _ = _; rw [hR]; rfl
  | assign x => show R x _ = _; rw [hR]; rfl
  | pick c a b => show (R c fun c => R a fun a => R b fun b => k (.pick c a b)) = _; rw [hR, hR, hR]; rfl
  | box t x => show R x _ = _; rw [hR]; rfl
  | insert t m i x => show (R m fun m => R i fun i => R x fun x => k (.insert t m i x)) = _; rw [hR, hR, hR]; rfl
  | load t a => show R a _ = _; rw [hR]; rfl
  | store t a x => show (R a fun a => R x fun x => k (.store t a x)) = _; rw [hR, hR]; rfl
  | nilCheck x => show R x _ = _; rw [hR]; rfl
  | binOp op t x y yt => show (R x fun x => R y fun y => k (.binOp op t x y yt)) = _; rw [hR, hR]; rfl
  | unOp op t x => show R x _ = _; rw [hR]; rfl
  | convert s d x => show R x _ = _; rw [hR]; rfl
  | makeInterface t x => show R x _ = _; rw [hR]; rfl
  | makeSlice t x y => show (R x fun x => R y fun y => k (.makeSlice t x y)) = _; rw [hR, hR]; rfl
  | fieldAddr s x f => show R x _ = _; rw [hR]; rfl
  | field t x f => show R x _ = _; rw [hR]; rfl
  | indexAddr t x i => show (R x fun x => R i fun i => k (.indexAddr t x i)) = _; rw [hR, hR]; rfl
  | index t x i => show (R x fun x => R i fun i => k (.index t x i)) = _; rw [hR, hR]; rfl
  | lookup t m i ok => show (R m fun m => R i fun i => k (.lookup t m i ok)) = _; rw [hR, hR]; rfl
  | mapUpdate t m i x => show (R m fun m => R i fun i => R x fun x => k (.mapUpdate t m i x)) = _; rw [hR, hR, hR]; rfl
  | extract x i => show R x _ = _; rw [hR]; rfl
  | range t x => show R x _ = _; rw [hR]; rfl
  | next x b => show R x _ = _; rw [hR]; rfl
  | entry x => show R x _ = _; rw [hR]; rfl
  | typeAssert x xt t ok => show R x _ = _; rw [hR]; rfl
  | _ => rfl

def bR (b : Bool) (y n : β) : β := Bool.rec (motive := fun _ => β) n y b
theorem bR_eq (b : Bool) (y n : β) : bR b y n = if b = true then y else n := by cases b <;> rfl

/-- A move of the region's own. -/
def freeK (ρ : List (Tmp × Nat)) (km : Nat) (o : Oper) (y : Tmp → Nat → β) (n : β) : β :=
  match o.guard, o.dst, o.op with
  | none, some d, .move (.tmp t) => locK ρ km t (fun p => y d p) n
  | none, some d, .assign (.tmp t) => locK ρ km t (fun p => y d p) n
  | _, _, _ => n
theorem freeK_eq {ρ : List (Tmp × Nat)} {km : Nat} (hk : km = keyM ρ) (o : Oper) (y : Tmp → Nat → β) (n : β) : freeK ρ km o y n = match freeMove ρ o with
    | some (d, p) => y d p
    | none => n := by
  obtain ⟨dst, op, ty, pos, after, gd⟩ := o
  unfold freeK freeMove
  cases gd with
  | some g => cases dst <;> cases op <;> rfl
  | none =>
    cases dst with
    | none => cases op <;> rfl
    | some d =>
      cases op with
      | move x =>
        cases x with
        | tmp t => simp only [locK_eq hk, srcOf]; cases findR ρ t <;> rfl
        | _ => rfl
      | assign x =>
        cases x with
        | tmp t => simp only [locK_eq hk, srcOf]; cases findR ρ t <;> rfl
        | _ => rfl
      | _ => rfl

def guardK (all : Array Oper) (R : Operand → (Operand → β) → β) (g : Option (Nat × Bool)) (k : Option (Operand × Bool) → β) (f : β) : β :=
  match g with
  | none => k none
  | some (j, w) => match (all[j]?).bind (·.dst) with
    | some d => R (.tmp d) fun x => bR w (k (some (x, true))) (k (some (x, false)))
    | none => f
theorem guardK_eq (all : Array Oper) {R : Operand → (Operand → β) → β} {ρ : List (Tmp × Nat)} {c : Nat} (hR : ∀ x k, R x k = k (resv ρ c x)) (g : Option (Nat × Bool)) (k : Option (Operand × Bool) → β) (f : β) : guardK all R g k f = match guardOf all ρ c g with
    | some g => k g
    | none => f := by
  cases g with
  | none => rfl
  | some p =>
    obtain ⟨j, w⟩ := p
    simp only [guardK, guardOf]
    cases (all[j]?).bind (·.dst) with
    | none => rfl
    | some d => simp only [hR, bR_eq]; cases w <;> rfl

def itemK (ρ : List (Tmp × Nat)) (km : Nat) (R : Operand → (Operand → β) → β) (o : Op) (g : Option (Operand × Bool)) (k : LI → β) : β :=
  match o, g with
  | .move (.tmp t), none => locK ρ km t (fun _ => renK R o fun o => k (.run o none)) (k (.get t))
  | o, g => renK R o fun o => k (.run o g)
theorem itemK_eq {ρ : List (Tmp × Nat)} {km : Nat} (hk : km = keyM ρ) {R : Operand → (Operand → β) → β} {c : Nat} (hR : ∀ x k, R x k = k (resv ρ c x)) (o : Op) (g : Option (Operand × Bool)) (k : LI → β) : itemK ρ km R o g k = k (match o, g with
      | .move (.tmp t), none => if (findR ρ t).isNone then .get t else .run (ren (resv ρ c) o) g
      | _, _ => .run (ren (resv ρ c) o) g) := by
  unfold itemK
  split
  · rename_i t
    rw [locK_eq hk, renK_eq hR]
    cases findR ρ t <;> rfl
  · rw [renK_eq hR]

def compK (n : Nat) (all : Array Oper) (l : List Oper) : List (Tmp × Nat) → Nat → Nat → (List LI → List (Tmp × Nat) → Nat → β) → β → β :=
  List.rec (motive := fun _ => List (Tmp × Nat) → Nat → Nat → (List LI → List (Tmp × Nat) → Nat → β) → β → β) (fun ρ _ c k _ => k [] ρ c) (fun o _ ih ρ km c k f =>
    bR (dOk n c o) (freeK ρ km o (fun d p => fN (km ||| 2 ^ d) fun km => ih ((d, p) :: ρ) km c k f)
      (guardK all (rsK ρ km c) o.guard (fun g => itemK ρ km (rsK ρ km c) o.op g fun i => fN (Nat.succ c) fun c1 =>
        match o.dst with
        | some d => fN (km ||| 2 ^ d) fun km => ih ((d, c) :: ρ) km c1 (fun is => k (i :: is)) f
        | none => ih ρ km c1 (fun is => k (i :: is)) f) f)) f) l
theorem compK_eq (n : Nat) (all : Array Oper) : ∀ (l : List Oper) (ρ : List (Tmp × Nat)) (km c : Nat) (k : List LI → List (Tmp × Nat) → Nat → β) (f : β), km = keyM ρ → compK n all l ρ km c k f = match comp n all l ρ c with
    | some (is, ρ', c') => k is ρ' c'
    | none => f
  | [], ρ, km, c, k, f, hk => rfl
  | o :: os, ρ, km, c, k, f, hk => by
    show bR (dOk n c o) (freeK ρ km o (fun d p => fN (km ||| 2 ^ d) fun km => compK n all os ((d, p) :: ρ) km c k f)
      (guardK all (rsK ρ km c) o.guard (fun g => itemK ρ km (rsK ρ km c) o.op g fun i => fN (Nat.succ c) fun c1 =>
        match o.dst with
        | some d => fN (km ||| 2 ^ d) fun km => compK n all os ((d, c) :: ρ) km c1 (fun is => k (i :: is)) f
        | none => compK n all os ρ km c1 (fun is => k (i :: is)) f) f)) f = _
    have hR : ∀ x (k : Operand → β), rsK ρ km c x k = k (resv ρ c x) := fun x k => rsK_eq hk c x k
    rw [bR_eq]
    simp only [comp]
    split
    · rw [freeK_eq hk]
      cases freeMove ρ o with
      | some dp =>
        obtain ⟨d, p⟩ := dp
        simp only [fN_eq]
        exact compK_eq n all os ((d, p) :: ρ) _ c k f (by rw [hk]; rfl)
      | none =>
        simp only
        rw [guardK_eq all hR]
        cases guardOf all ρ c o.guard with
        | none => rfl
        | some g =>
          simp only
          rw [itemK_eq hk hR, fN_eq]
          cases o.dst with
          | none =>
            simp only
            rw [compK_eq n all os ρ km (Nat.succ c) _ f hk]
            simp only [addR]
            cases comp n all os ρ (c + 1) with
            | none => rfl
            | some r => rfl
          | some d =>
            simp only [fN_eq]
            rw [compK_eq n all os ((d, c) :: ρ) _ (Nat.succ c) _ f (by rw [hk]; rfl)]
            simp only [addR]
            cases comp n all os ((d, c) :: ρ) (c + 1) with
            | none => rfl
            | some r => rfl
    · rfl

def outsK (live : Option Nat) (all : List (Tmp × Nat)) (c : Nat) (ρ : List (Tmp × Nat)) : (List (Tmp × Nat) → β) → β :=
  List.rec (motive := fun _ => (List (Tmp × Nat) → β) → β) (fun k => k []) (fun p _ ih k => Prod.rec (motive := fun _ => β) (fun d q => bR (isLive live d) (bR (isTop all d q) (fN (c - 1 - q) fun i => ih fun os => k ((d, i) :: os)) (ih k)) (ih k)) p) ρ
theorem outsK_eq (live : Option Nat) (all : List (Tmp × Nat)) (c : Nat) : ∀ (ρ : List (Tmp × Nat)) (k : List (Tmp × Nat) → β), outsK live all c ρ k = k (outsOf live all c ρ)
  | [], k => rfl
  | (d, q) :: ρ, k => by
    show bR (isLive live d) (bR (isTop all d q) (fN (c - 1 - q) fun i => outsK live all c ρ fun os => k ((d, i) :: os)) (outsK live all c ρ k)) (outsK live all c ρ k) = _
    simp only [bR_eq, fN_eq, outsK_eq live all c ρ, outsOf]
    cases isLive live d <;> cases isTop all d q <;> rfl

def fastK (n : Nat) (live : Option Nat) (all : Array Oper) (l : List Oper) : Option Plan :=
  compK n all l [] 0 0 (fun is ρ c => outsK live ρ c ρ fun outs => some (.fast is outs)) none
theorem fastK_eq (n : Nat) (live : Option Nat) (all : Array Oper) (l : List Oper) : fastK n live all l = fastOf n live all l := by
  unfold fastK fastOf
  rw [compK_eq n all l [] 0 0 _ _ rfl]
  cases comp n all l [] 0 with
  | none => rfl
  | some r => obtain ⟨is, ρ, c⟩ := r; simp only [outsK_eq]

def againK (V : Env) (n : Nat) (live : Option Nat) (ops : Array Oper) (l : List Oper) : Option Plan :=
  compK n ops l [] 0 0 (fun is ρ c => outsK live ρ c ρ fun outs => some (.again is outs c (chksAt V ops l c))) none
theorem againK_eq (V : Env) (n : Nat) (live : Option Nat) (ops : Array Oper) (l : List Oper) : againK V n live ops l = againOf V n live ops l := by
  unfold againK againOf
  rw [compK_eq n ops l [] 0 0 _ _ rfl]
  cases comp n ops l [] 0 with
  | none => rfl
  | some r => obtain ⟨is, ρ, c⟩ := r; simp only [outsK_eq]

/-- 'planL', worked out. -/
def planN (V : Env) (n : Nat) (live : Option Nat) (ops : Array Oper) (draw : Bool) : Option Plan :=
  match draw with
  | false => fastK n live ops ops.toList
  | true => match planOf V ops with
    | some (false, l) => fastK n live ops l
    | some (true, l) => againK V n live ops l
    | none => none
theorem planN_eq (V : Env) (n : Nat) (live : Option Nat) (ops : Array Oper) (draw : Bool) : planN V n live ops draw = planL V n live ops draw := by
  cases draw with
  | false => exact fastK_eq n live ops ops.toList
  | true =>
    simp only [planN, planL]
    rcases planOf V ops with _ | ⟨b, l⟩
    · rfl
    · cases b with
      | false => exact fastK_eq n live ops l
      | true => exact againK_eq V n live ops l
end
end Go.Ev
