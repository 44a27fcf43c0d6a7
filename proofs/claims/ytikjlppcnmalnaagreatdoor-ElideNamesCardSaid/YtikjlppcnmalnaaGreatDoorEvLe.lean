/-
  EV, kernel, part Le: the operations over any way to fetch, each handing on to the next.
-/
import Derived.Test.YtikjlppcnmalnaaGreatDoorEvKb
import Derived.Test.YtikjlppcnmalnaaGreatDoorEvLd
namespace Go.Ev
open Go.RowKit

noncomputable section

abbrev FtK := Operand → (Value → KR) → KR
abbrev KOp := FtK → AH → (Value → AH → KR) → KR

def IsF (F : FtK) (g : Ft) : Prop := ∀ x k, F x k = (g x).bind k

def fsK (F : FtK) (xs : List Operand) : (List Value → KR) → KR :=
  List.rec (motive := fun _ => (List Value → KR) → KR) (fun k => k []) (fun x _ ih k => F x fun v => ih fun vs => k (v :: vs)) xs
theorem fsK_eq {F : FtK} {g : Ft} (hF : IsF F g) : ∀ (xs : List Operand) (k : List Value → KR), fsK F xs k = (gvals g xs).bind k
  | [], k => rfl
  | x :: xs, k => by
    show F x (fun v => fsK F xs fun vs => k (v :: vs)) = _
    simp only [hF x, fsK_eq hF xs, gvals]
    cases g x with
    | none => rfl
    | some v => cases gvals g xs <;> rfl

def fpK (F : FtK) (xs : List (Nat × Operand)) : (List (Nat × Value) → KR) → KR :=
  List.rec (motive := fun _ => (List (Nat × Value) → KR) → KR) (fun k => k []) (fun x _ ih k => F x.2 fun v => ih fun vs => k ((x.1, v) :: vs)) xs
theorem fpK_eq {F : FtK} {g : Ft} (hF : IsF F g) : ∀ (xs : List (Nat × Operand)) (k : List (Nat × Value) → KR), fpK F xs k = (gparts g xs).bind k
  | [], k => rfl
  | (i, x) :: xs, k => by
    show F x (fun v => fpK F xs fun vs => k ((i, v) :: vs)) = _
    simp only [hF x, fpK_eq hF xs, gparts]
    cases g x with
    | none => rfl
    | some v => cases gparts g xs <;> rfl

def foK (F : FtK) (x : Option Operand) (k : Option Value → KR) : KR :=
  match x with
  | none => k none
  | some x => F x fun v => k (some v)
theorem foK_eq {F : FtK} {g : Ft} (hF : IsF F g) (x : Option Operand) (k : Option Value → KR) : foK F x k = (gopt g x).bind k := by
  cases x with
  | none => rfl
  | some x => simp only [foK, hF x, gopt]; cases g x <;> rfl

/-- A value that is worked out and handed on. -/
def outK (o : Option Value) (H : AH) (k : Value → AH → KR) : KR :=
  match o with
  | some v => forceV v fun v => k v H
  | none => none
theorem outK_eq (o : Option Value) (H : AH) (k : Value → AH → KR) : outK o H k = (o.map (·, H)).bind fun p => k p.1 p.2 := by
  cases o with
  | none => rfl
  | some v => simp [outK, forceV_eq]

def bk (r : Option (Value × AH)) (k : Value → AH → KR) : KR := r.bind fun p => k p.1 p.2
theorem bk_some (v : Value) (H : AH) (k : Value → AH → KR) : bk (some (v, H)) k = k v H := rfl
theorem bk_none (k : Value → AH → KR) : bk none k = none := rfl
theorem outK_bk (o : Option Value) (H : AH) (k : Value → AH → KR) : outK o H k = bk (o.map (·, H)) k := outK_eq o H k

variable (V : Env)

def kMove (x : Operand) : KOp := fun F H k => F x fun v => k v H
theorem kMove_eq (x : Operand) {F : FtK} {g : Ft} (hF : IsF F g) (H : AH) (k : Value → AH → KR) : kMove x F H k = bk (aopG V g H (.move x)) k := by
  simp only [kMove, hF _, aopG, bk]; cases g x <;> rfl

def kPick (c a b : Operand) : KOp := fun F H k => F c fun v => match v with
  | .bool t => ifK t (F a fun v => k v H) (F b fun v => k v H)
  | _ => none
theorem kPick_eq (c a b : Operand) {F : FtK} {g : Ft} (hF : IsF F g) (H : AH) (k : Value → AH → KR) : kPick c a b F H k = bk (aopG V g H (.pick c a b)) k := by
  simp only [kPick, hF _, aopG, bk]
  cases g c with
  | none => rfl
  | some v =>
    cases v with
    | bool t =>
      simp only [Option.bind_some, ifK_eq]
      cases t with
      | true => simp only [if_true]; cases g a <;> rfl
      | false => simp only [Bool.false_eq_true, if_false]; cases g b <;> rfl
    | _ => rfl

def newK (et : TypeId) (cs : List Value) (H : AH) (k : Value → AH → KR) : KR := allocK H (.row et cs .exact 0 0) fun b H => k (.pointer (some ⟨b, 0, none⟩)) H

def kAlloc (t : TypeId) : KOp := fun _ H k => match V.E t with
  | some ti => forceL0 ti.zv.cells.toList fun cs => newK t cs H k
  | none => none
theorem kAlloc_eq (t : TypeId) {F : FtK} {g : Ft} (hF : IsF F g) (H : AH) (k : Value → AH → KR) : kAlloc V t F H k = bk (aopG V g H (.alloc t)) k := by
  simp only [kAlloc, aopG]
  cases V.E t with
  | none => rfl
  | some ti => simp only [forceL0_eq, newK, allocK_eq]; rfl

def kBox (t : TypeId) (x : Operand) : KOp := fun F H k => F x fun v => forceL0 v.cells.toList fun cs => newK t cs H k
theorem kBox_eq (t : TypeId) (x : Operand) {F : FtK} {g : Ft} (hF : IsF F g) (H : AH) (k : Value → AH → KR) : kBox t x F H k = bk (aopG V g H (.box t x)) k := by
  simp only [kBox, hF _, aopG]
  cases g x with
  | none => rfl
  | some v => simp only [Option.bind_some, forceL0_eq, newK, allocK_eq]; rfl

/-- Parts into cells. -/
def fillK (place : Nat → Option (Nat × Nat)) (ps : List (Nat × Value)) : List Value → (List Value → KR) → KR :=
  List.rec (motive := fun _ => List Value → (List Value → KR) → KR) (fun cs k => k cs) (fun p _ ih cs k => match place p.1 with
    | none => none
    | some (off, size) => ifK (Nat.beq p.2.cells.size size && Nat.ble (off + p.2.cells.size) cs.length) (forceN off fun off => spliceK p.2.cells.toList off cs fun cs => ih cs k) none) ps
theorem fillK_eq (place : Nat → Option (Nat × Nat)) : ∀ (ps : List (Nat × Value)) (cs : List Value) (k : List Value → KR), fillK place ps cs k = (afill place cs ps).bind k
  | [], cs, k => rfl
  | (i, v) :: ps, cs, k => by
    show (match place i with
    | none => none
    | some (off, size) => ifK (Nat.beq v.cells.size size && Nat.ble (off + v.cells.size) cs.length) (forceN off fun off => spliceK v.cells.toList off cs fun cs => fillK place ps cs k) none) = _
    simp only [afill]
    cases place i with
    | none => rfl
    | some p =>
      obtain ⟨off, size⟩ := p
      simp only [ifK_eq, Bool.and_eq_true, Nat.beq_eq, Nat.ble_eq, forceN_eq, spliceK_eq, fillK_eq place ps]
      by_cases h : v.cells.size = size ∧ off + v.cells.size ≤ cs.length
      · rw [if_pos h, if_neg (by omega)]
      · rw [if_neg h, if_pos (by omega)]; rfl

def kBuild (t : TypeId) (ps : Array (Nat × Operand)) : KOp := fun F H k => fpK F ps.toList fun vs => match V.E t with
  | some ⟨.struct fs, _, _, zv⟩ => match aPlaces V.E fs.toList with
    | some pl => forceL0 zv.cells.toList fun cs => fillK (pl[·]?) vs cs fun cs => k (.agg ⟨cs⟩) H
    | none => none
  | _ => outK (aBuild V.E t vs) H k
theorem kBuild_eq (t : TypeId) (ps : Array (Nat × Operand)) {F : FtK} {g : Ft} (hF : IsF F g) (H : AH) (k : Value → AH → KR) : kBuild V t ps F H k = bk (aopG V g H (.build t ps)) k := by
  simp only [kBuild, fpK_eq hF, aopG]
  cases gparts g ps.toList with
  | none => rfl
  | some vs =>
    simp only [Option.bind_some]
    split
    · rename_i fs s b zv hE
      simp only [aBuild, hE]
      cases hpl : aPlaces V.E fs.toList with
      | some pl =>
        simp only [forceL0_eq, fillK_eq]
        cases afill (fun x => pl[x]?) zv.cells.toList vs <;> rfl
      | none => rfl
    · rw [outK_bk]

def kBuildSlice (t : TypeId) (n : Nat) (ps : Array (Nat × Operand)) : KOp := fun F H k => fpK F ps.toList fun vs => match V.E t with
  | some ⟨.slice e, _, _, _⟩ => match V.E e with
    | some te => ifK (Nat.ble (n * te.size) 16777216 && Nat.blt n unk) (forceL0 (azeros te.zv.cells.toList n) fun cs => fillK (fun i => some (i * te.size, te.size)) vs cs fun cs => allocK H (.row e cs .exact 0 0) fun b H => k (.slice (some ⟨b, 0, none⟩) n n) H) none
    | none => none
  | _ => none
theorem kBuildSlice_eq (t : TypeId) (n : Nat) (ps : Array (Nat × Operand)) {F : FtK} {g : Ft} (hF : IsF F g) (H : AH) (k : Value → AH → KR) : kBuildSlice V t n ps F H k = bk (aopG V g H (.buildSlice t n ps)) k := by
  simp only [kBuildSlice, fpK_eq hF, aopG]
  cases gparts g ps.toList with
  | none => rfl
  | some vs =>
    simp only [Option.bind_some, aBuildSlice]
    rcases V.E t with _ | ⟨d, s, b, zv⟩
    · rfl
    · cases d <;> try rfl
      rename_i e
      simp only
      cases V.E e with
      | none => rfl
      | some te =>
        simp only [ifK_eq, Bool.and_eq_true, Nat.ble_eq, Nat.blt_eq, forceL0_eq, fillK_eq, allocK_eq]
        by_cases h : n * te.size ≤ 16777216 ∧ n < unk
        · rw [if_pos h, if_neg (by omega)]
          cases afill (fun i => some (i * te.size, te.size)) (azeros te.zv.cells.toList n) vs <;> rfl
        · rw [if_neg h, if_pos (by omega)]; rfl

def kLoad (t : TypeId) (a : Operand) : KOp := fun F H k => F a fun p => match p with
  | .pointer (some ⟨b, off, none⟩) => match V.E t with
    | some ti => ifK (Desc.agg ti.desc) (rdK H b off ti.size fun vs => k (.agg ⟨vs⟩) H) (rd1K H b off fun v => k v H)
    | none => none
  | _ => none
theorem kLoad_eq (t : TypeId) (a : Operand) {F : FtK} {g : Ft} (hF : IsF F g) (H : AH) (k : Value → AH → KR) : kLoad V t a F H k = bk (aopG V g H (.load t a)) k := by
  simp only [kLoad, hF _, aopG]
  cases g a with
  | none => rfl
  | some p =>
    simp only [Option.bind_some]
    split
    · rename_i b off
      simp only [aLoad]
      cases V.E t with
      | none => rfl
      | some ti =>
        simp only [ifK_eq, rdK_eq, rd1K_eq]
        split
        · cases H.rd b off ti.size <;> rfl
        · generalize H.rd b off 1 = r
          rcases r with _ | (_ | ⟨x, _ | ⟨y, z⟩⟩) <;> rfl
    · rename_i hp
      have : aLoad V.E H t p = none := by
        unfold aLoad
        split
        · exact absurd rfl (hp _ _)
        · rfl
      rw [this]; rfl

def kStore (t : TypeId) (a x : Operand) : KOp := fun F H k => F a fun p => F x fun v => match p with
  | .pointer (some ⟨b, off, none⟩) => match V.E t with
    | some ti => ifK (Nat.beq v.cells.size ti.size && v.cells.toList.all Value.oneCell') (wrK H b off v.cells.toList fun H => k undef H) none
    | none => none
  | _ => none
theorem kStore_eq (t : TypeId) (a x : Operand) {F : FtK} {g : Ft} (hF : IsF F g) (H : AH) (k : Value → AH → KR) : kStore V t a x F H k = bk (aopG V g H (.store t a x)) k := by
  simp only [kStore, hF _, aopG]
  cases g a with
  | none => rfl
  | some p =>
    cases g x with
    | none => rfl
    | some v =>
      simp only [Option.bind_some]
      split
      · rename_i b off
        simp only [aStore]
        cases V.E t with
        | none => rfl
        | some ti =>
          simp only [ifK_eq, wrK_eq, Bool.and_eq_true, Nat.beq_eq]
          split
          · cases H.wr b off v.cells.toList <;> rfl
          · rfl
      · rename_i hp
        have : aStore V.E H t p v = none := by
          unfold aStore
          split
          · exact absurd rfl (hp _ _)
          · rfl
        rw [this]; rfl

def kNil (x : Operand) : KOp := fun F H k => F x fun v => match v with
  | .pointer (some p) => k (.pointer (some p)) H
  | .func (.func f) a b => k (.func (.func f) a b) H
  | .map (some m) => k (.map (some m)) H
  | _ => none
theorem kNil_eq (x : Operand) {F : FtK} {g : Ft} (hF : IsF F g) (H : AH) (k : Value → AH → KR) : kNil x F H k = bk (aopG V g H (.nilCheck x)) k := by
  simp only [kNil, hF _, aopG]
  cases g x with
  | none => rfl
  | some v =>
    simp only [Option.bind_some]
    cases v with
    | pointer p => cases p <;> rfl
    | func f a b => cases f <;> rfl
    | map m => cases m <;> rfl
    | _ => rfl

/-! ### Numbers -/
def kdIx : IntKind → Nat
  | .i8 => 0 | .i16 => 1 | .i32 => 2 | .i64 => 3 | .u8 => 4 | .u16 => 5 | .u32 => 6 | .u64 => 7
def kdEq (a b : IntKind) : Bool := Nat.beq (kdIx a) (kdIx b)
theorem kdEq_iff (a b : IntKind) : kdEq a b = decide (a = b) := by cases a <;> cases b <;> rfl

def ltI (a b : Int) : Bool :=
  match a, b with
  | .ofNat a, .ofNat b => Nat.blt a b
  | .ofNat _, .negSucc _ => false
  | .negSucc _, .ofNat _ => true
  | .negSucc a, .negSucc b => Nat.blt b a
theorem ltI_eq (a b : Int) : ltI a b = decide (a < b) := by
  cases a with
  | ofNat a => cases b with
    | ofNat b =>
      simp only [ltI, Int.ofNat_eq_natCast, Int.ofNat_lt]
      rw [Bool.eq_iff_iff]; simp [Nat.blt_eq]
    | negSucc b => simp only [ltI, Int.ofNat_eq_natCast]; symm; simp; omega
  | negSucc a => cases b with
    | ofNat b => simp only [ltI, Int.ofNat_eq_natCast]; symm; simp; omega
    | negSucc b =>
      simp only [ltI]
      rw [Bool.eq_iff_iff]; simp [Nat.blt_eq]; omega
def eqI (a b : Int) : Bool :=
  match a, b with
  | .ofNat a, .ofNat b => Nat.beq a b
  | .ofNat _, .negSucc _ => false
  | .negSucc _, .ofNat _ => false
  | .negSucc a, .negSucc b => Nat.beq a b
theorem eqI_eq (a b : Int) : eqI a b = (a == b) := by
  cases a <;> cases b <;> simp only [eqI] <;> rw [Bool.eq_iff_iff] <;> simp [Nat.beq_eq]
  · omega

def wrapK (d : IntKind) (n : Int) (k : Value → KR) : KR :=
  forceI n fun n => ifK (kdEq d .i64 && Int.rec (motive := fun _ => Bool) (fun m => Nat.ble m 9223372036854775807) (fun m => Nat.ble m 9223372036854775807) n) (k (.int d n)) (forceI (d.wrap n) fun n => k (.int d n))
theorem wrapK_eq (d : IntKind) (n : Int) (k : Value → KR) : wrapK d n k = k (.int d (wr d n)) := by
  unfold wrapK
  rw [forceI_eq, ifK_eq, forceI_eq]
  split
  · rename_i h
    rw [Bool.and_eq_true, kdEq_iff, decide_eq_true_eq] at h
    obtain ⟨rfl, h⟩ := h
    unfold wr
    rw [if_pos]
    refine ⟨rfl, ?_⟩
    cases n with
    | ofNat m => simp only [Nat.ble_eq] at h; simp only [Int.ofNat_eq_natCast]; omega
    | negSucc m => simp only [Nat.ble_eq] at h; omega
  · rw [wr_eq]

/-- An operation on two numbers. -/
def intK (op : BinOp) (t : TypeId) (d : IntKind) (a : Int) (d' : IntKind) (b : Int) (k : Value → KR) : KR :=
  match op with
  | .add => ifK (kdEq d d') (wrapK d (a + b) k) none
  | .sub => ifK (kdEq d d') (wrapK d (a - b) k) none
  | .eql => ifK (kdEq d d') (forceB (eqI a b) fun r => k (.bool r)) none
  | .neq => ifK (kdEq d d') (forceB (!eqI a b) fun r => k (.bool r)) none
  | .lss => ifK (kdEq d d') (forceB (ltI a b) fun r => k (.bool r)) none
  | .leq => ifK (kdEq d d') (forceB (!ltI b a) fun r => k (.bool r)) none
  | .gtr => ifK (kdEq d d') (forceB (ltI b a) fun r => k (.bool r)) none
  | .geq => ifK (kdEq d d') (forceB (!ltI a b) fun r => k (.bool r)) none
  | op => match aInt V.P op t d a d' b with
    | some v => forceV v k
    | none => none
theorem intK_eq (op : BinOp) (t : TypeId) (d : IntKind) (a : Int) (d' : IntKind) (b : Int) (k : Value → KR) : intK V op t d a d' b k = (aInt V.P op t d a d' b).bind k := by
  unfold intK
  split
  case _ => simp only [ifK_eq, kdEq_iff, wrapK_eq, aInt, decide_eq_true_eq]; split <;> rfl
  case _ => simp only [ifK_eq, kdEq_iff, wrapK_eq, aInt, decide_eq_true_eq]; split <;> rfl
  case _ => simp only [ifK_eq, kdEq_iff, forceB_eq, eqI_eq, aInt, decide_eq_true_eq]; split <;> rfl
  case _ => simp only [ifK_eq, kdEq_iff, forceB_eq, eqI_eq, aInt, decide_eq_true_eq]; split <;> rfl
  case _ => simp only [ifK_eq, kdEq_iff, forceB_eq, ltI_eq, aInt, decide_eq_true_eq]; split <;> rfl
  case _ =>
    simp only [ifK_eq, kdEq_iff, forceB_eq, ltI_eq, aInt, decide_eq_true_eq]; split
    · simp only [Option.bind_some]; congr 2; rw [Bool.eq_iff_iff]; simp
    · rfl
  case _ => simp only [ifK_eq, kdEq_iff, forceB_eq, ltI_eq, aInt, decide_eq_true_eq]; split <;> rfl
  case _ =>
    simp only [ifK_eq, kdEq_iff, forceB_eq, ltI_eq, aInt, decide_eq_true_eq]; split
    · simp only [Option.bind_some]; congr 2; rw [Bool.eq_iff_iff]; simp
    · rfl
  case _ =>
    cases aInt V.P op t d a d' b with
    | none => rfl
    | some v => simp [forceV_eq]

def binK (op : BinOp) (t : TypeId) (ox oy : Operand) (x y : Value) (k : Value → KR) : KR :=
  match x with
  | .int d a => (match y with
    | .int d' b => intK V op t d a d' b k
    | y => match aBin V.P V.E op t ox oy (.int d a) y with
      | some v => forceV v k
      | none => none)
  | x => match aBin V.P V.E op t ox oy x y with
    | some v => forceV v k
    | none => none
theorem binK_eq (op : BinOp) (t : TypeId) (ox oy : Operand) (x y : Value) (k : Value → KR) : binK V op t ox oy x y k = (aBin V.P V.E op t ox oy x y).bind k := by
  unfold binK
  split
  · rename_i d a
    split
    · rename_i d' b
      rw [intK_eq]
      congr 1
    · cases aBin V.P V.E op t ox oy (.int d a) y <;> simp [forceV_eq]
  · cases aBin V.P V.E op t ox oy x y <;> simp [forceV_eq]

def kBin (op : BinOp) (t : TypeId) (x y : Operand) (_ : TypeId) : KOp := fun F H k => F x fun u => F y fun v => binK V op t x y u v fun r => k r H
theorem kBin_eq (op : BinOp) (t : TypeId) (x y : Operand) (yt : TypeId) {F : FtK} {g : Ft} (hF : IsF F g) (H : AH) (k : Value → AH → KR) : kBin V op t x y yt F H k = bk (aopG V g H (.binOp op t x y yt)) k := by
  simp only [kBin, hF _, aopG, binK_eq]
  cases g x with
  | none => rfl
  | some u =>
    cases g y with
    | none => rfl
    | some v => simp only [Option.bind_some]; cases aBin V.P V.E op t x y u v <;> rfl

def kUn (op : UnOp) (_ : TypeId) (x : Operand) : KOp := fun F H k => F x fun v => outK (aPure V.P [v] (Op.unary op v)) H k
theorem kUn_eq (op : UnOp) (t : TypeId) (x : Operand) {F : FtK} {g : Ft} (hF : IsF F g) (H : AH) (k : Value → AH → KR) : kUn V op t x F H k = bk (aopG V g H (.unOp op t x)) k := by
  simp only [kUn, hF _, aopG]
  cases g x with
  | none => rfl
  | some v => simp only [Option.bind_some, outK_bk]

/-- Where a heap is turned by a rare operation: it is worked out where it differs. -/
def kConvert (s d : TypeId) (x : Operand) : KOp := fun F H k => F x fun v => match v with
  | .string b => match V.E s, V.E d with
    | some _, some ⟨.slice e, _, _, _⟩ => match V.E e with
      | some ⟨.int .u8, 1, _, _⟩ => forceL0 (b.data.toList.map fun b => .int .u8 b.toNat) fun cs => verK H H.next fun u => forceN H.next fun g => allocK H (.row e cs .loose g u) fun c H => forceN b.size fun n => k (.slice (some ⟨c, 0, none⟩) n unk) H
      | _ => none
    | _, _ => outK (aPure V.P [.string b] (convert s d (.string b))) H k
  | v => match aConvert V.P V.E H s d v with
    | some (r, _) => forceV r fun r => k r H
    | none => none
theorem convert_same {P : Program} {E : TypeId → Option TI} {H H' : AH} {s d : TypeId} {v r : Value} (hs : ∀ b, v ≠ .string b) (h : aConvert P E H s d v = some (r, H')) : H' = H := by
  unfold aConvert at h
  split at h
  · split at h
    · split at h
      · cases h; rfl
      · cases h
    · cases h
  · split at h
    · split at h
      · split at h
        · cases h; rfl
        · split at h
          · split at h
            · cases h; rfl
            · cases h
          · cases h
      · cases h
    · cases h
  · exact absurd rfl (hs _)
  · exact map_fst_same h
theorem kConvert_eq (s d : TypeId) (x : Operand) {F : FtK} {g : Ft} (hF : IsF F g) (H : AH) (k : Value → AH → KR) : kConvert V s d x F H k = bk (aopG V g H (.convert s d x)) k := by
  simp only [kConvert, hF _, aopG]
  cases g x with
  | none => rfl
  | some v =>
    simp only [Option.bind_some]
    split
    · rename_i b
      simp only [aConvert]
      rcases V.E s with _ | ts
      · simp only [outK_bk]
      · rcases V.E d with _ | ⟨dd, sz, by_, zv⟩
        · simp only [outK_bk]
        · cases dd with
          | slice e =>
            simp only
            rcases V.E e with _ | ⟨de, se, be, ze⟩
            · rfl
            · cases de with
              | int kd =>
                cases kd with
                | u8 =>
                  rcases se with _ | _ | se
                  · rfl
                  · simp only [forceL0_eq, verK_eq, forceN_eq, allocK_eq]; rfl
                  · rfl
                | _ => rfl
              | _ => rfl
          | _ => simp only [outK_bk]
    · rename_i hs
      cases h : aConvert V.P V.E H s d v with
      | none => rfl
      | some p =>
        obtain ⟨r, H'⟩ := p
        simp only [forceV_eq]
        rw [convert_same (fun b e => hs b e) h]
        rfl

def kIface (t : TypeId) (x : Operand) : KOp := fun F H k => F x fun v => match V.E t with
  | some ti => match ti.desc with
    | .interface _ => none
    | _ => k (.iface t v) H
  | none => none
theorem kIface_eq (t : TypeId) (x : Operand) {F : FtK} {g : Ft} (hF : IsF F g) (H : AH) (k : Value → AH → KR) : kIface V t x F H k = bk (aopG V g H (.makeInterface t x)) k := by
  simp only [kIface, hF _, aopG]
  cases g x with
  | none => rfl
  | some v =>
    simp only [Option.bind_some]
    cases V.E t with
    | none => rfl
    | some ti => simp only; cases ti.desc <;> rfl

def kFunc (fn : Fn) (first cap : Array Operand) : KOp := fun F H k => match fn with
  | .func f => fsK F first.toList fun u => fsK F cap.toList fun v => k (.func (.func f) ⟨u⟩ ⟨v⟩) H
  | _ => none
theorem kFunc_eq (fn : Fn) (first cap : Array Operand) {F : FtK} {g : Ft} (hF : IsF F g) (H : AH) (k : Value → AH → KR) : kFunc fn first cap F H k = bk (aopG V g H (.makeFunc fn first cap)) k := by
  cases fn with
  | func f =>
    simp only [kFunc, fsK_eq hF, aopG]
    cases gvals g first.toList with
    | none => rfl
    | some u => cases gvals g cap.toList <;> rfl
  | _ => rfl

def kMakeMap (_ : TypeId) (r : Option Operand) : KOp := fun _ H k => match r with
  | none => allocK H (.map [] [] 0) fun b H => k (.map (some b)) H
  | some _ => none
theorem kMakeMap_eq (t : TypeId) (r : Option Operand) {F : FtK} {g : Ft} (hF : IsF F g) (H : AH) (k : Value → AH → KR) : kMakeMap t r F H k = bk (aopG V g H (.makeMap t r)) k := by
  cases r with
  | none => simp only [kMakeMap, allocK_eq, aopG]; rfl
  | some x => rfl

def kMakeSlice (t : TypeId) (l c : Operand) : KOp := fun F H k => F l fun u => F c fun v => match u, v with
  | .int _ l, .int _ c => match V.E t with
    | some ⟨.slice e, _, _, _⟩ => match V.E e with
      | some te => ifK (!ltI l 0 && !ltI c l && Nat.ble (c.toNat * te.bytes) 140737488355328 && ltI c 4611686018427387904) (forceL0 (azeros te.zv.cells.toList c.toNat) fun cs => allocK H (.row e cs .exact 0 0) fun b H => forceN l.toNat fun l => forceN c.toNat fun c => k (.slice (some ⟨b, 0, none⟩) l c) H) none
      | none => none
    | _ => none
  | _, _ => none
theorem kMakeSlice_eq (t : TypeId) (l c : Operand) {F : FtK} {g : Ft} (hF : IsF F g) (H : AH) (k : Value → AH → KR) : kMakeSlice V t l c F H k = bk (aopG V g H (.makeSlice t l c)) k := by
  simp only [kMakeSlice, hF _, aopG]
  cases g l with
  | none => rfl
  | some u =>
    cases g c with
    | none => rfl
    | some v =>
      simp only [Option.bind_some, aMakeSlice]
      cases u <;> cases v <;> try rfl
      rename_i k1 a k2 b
      simp only
      rcases V.E t with _ | ⟨d, s, bb, zv⟩
      · rfl
      · cases d <;> try rfl
        rename_i e
        simp only
        cases V.E e with
        | none => rfl
        | some te =>
            simp only [ifK_eq, Bool.and_eq_true, Bool.not_eq_true', ltI_eq, decide_eq_false_iff_not, decide_eq_true_eq, Nat.ble_eq, forceL0_eq, allocK_eq, forceN_eq]
            by_cases h : 0 ≤ a ∧ a ≤ b ∧ b.toNat * te.bytes ≤ 140737488355328 ∧ b < 4611686018427387904
            · rw [if_pos h, if_pos (by omega)]; rfl
            · rw [if_neg h, if_neg (by omega)]; rfl

theorem extract_list (s : ByteArray) (l h : Nat) : s.extract l h = ⟨⟨(s.data.toList.drop l).take (h - l)⟩⟩ := by
  apply ByteArray.ext
  rw [ByteArray.data_extract]
  apply Array.toList_inj.1
  rw [Array.toList_extract, List.extract_eq_take_drop]
def dropYK (n : Nat) : List UInt8 → (List UInt8 → KR) → KR :=
  Nat.rec (motive := fun _ => List UInt8 → (List UInt8 → KR) → KR) (fun l k => k l) (fun _ ih l k => List.rec (motive := fun _ => KR) (k []) (fun _ l _ => ih l k) l) n
theorem dropYK_eq : ∀ (n : Nat) (l : List UInt8) (k : List UInt8 → KR), dropYK n l k = k (l.drop n)
  | 0, l, k => by show k l = _; simp
  | n + 1, [], k => by simp [dropYK]
  | n + 1, c :: l, k => by
    show dropYK n l k = _
    rw [dropYK_eq n l k]; simp
def takeYK (n : Nat) : List UInt8 → (List UInt8 → KR) → KR :=
  Nat.rec (motive := fun _ => List UInt8 → (List UInt8 → KR) → KR) (fun _ k => k []) (fun _ ih l k => List.rec (motive := fun _ => KR) (k []) (fun c l _ => ih l fun r => k (c :: r)) l) n
theorem takeYK_eq : ∀ (n : Nat) (l : List UInt8) (k : List UInt8 → KR), takeYK n l k = k (l.take n)
  | 0, l, k => by show k [] = _; simp
  | n + 1, [], k => by simp [takeYK]
  | n + 1, c :: l, k => by
    show takeYK n l (fun r => k (c :: r)) = _
    rw [takeYK_eq n l]; simp
/-- A part of a string: its bytes are counted once; the rest is shared where it may be. -/
def partY (b : List UInt8) (lo hi : Option Value) (k : Value → KR) : KR :=
  forceN b.length fun z => match optBound hi z z with
  | some h => forceN h fun h => match optBound lo 0 h with
    | some l => forceN l fun l => dropYK l b fun r => ifK (Nat.beq h z) (k (.string ⟨⟨r⟩⟩)) (forceN (h - l) fun m => takeYK m r fun r => k (.string ⟨⟨r⟩⟩))
    | none => none
  | none => none
theorem partY_eq (s : ByteArray) (lo hi : Option Value) (k : Value → KR) : partY s.data.toList lo hi k = (match optBound hi s.size s.size with
      | some h => match optBound lo 0 h with
        | some l => some (Value.string (s.extract l h))
        | none => none
      | none => none).bind k := by
  have hz : s.data.toList.length = s.size := rfl
  unfold partY
  rw [forceN_eq, hz]
  cases optBound hi s.size s.size with
  | none => rfl
  | some h =>
    simp only [forceN_eq]
    cases optBound lo 0 h with
    | none => rfl
    | some l =>
      simp only [forceN_eq, dropYK_eq, takeYK_eq, ifK_eq, Option.bind_some, extract_list, Nat.beq_eq]
      split
      · rename_i e
        rw [List.take_of_length_le (by rw [List.length_drop, hz, e]; exact Nat.le_refl _)]
      · rfl
def kSlice (t : TypeId) (x : Operand) (lo hi mx : Option Operand) : KOp := fun F H k => F x fun v => foK F lo fun l => foK F hi fun h => foK F mx fun m => match v, m with
  | .string s, none => (match V.E t with
    | some ⟨.string, _, _, _⟩ => partY s.data.toList l h fun r => k r H
    | _ => outK (aSlice V.E H t (.string s) l h none) H k)
  | v, m => outK (aSlice V.E H t v l h m) H k
theorem kSlice_eq (t : TypeId) (x : Operand) (lo hi mx : Option Operand) {F : FtK} {g : Ft} (hF : IsF F g) (H : AH) (k : Value → AH → KR) : kSlice V t x lo hi mx F H k = bk (aopG V g H (.slice t x lo hi mx)) k := by
  simp only [kSlice, hF _, foK_eq hF, aopG]
  cases g x with
  | none => rfl
  | some v => cases gopt g lo with
    | none => rfl
    | some l => cases gopt g hi with
      | none => rfl
      | some h => cases gopt g mx with
        | none => rfl
        | some m =>
          simp only [Option.bind_some]
          cases v with
          | string s =>
            cases m with
            | none =>
              simp only
              split
              · rename_i hE
                rw [partY_eq]
                simp only [aSlice, hE]
                cases optBound h s.size s.size with
                | none => rfl
                | some h' => simp only; cases optBound l 0 h' <;> rfl
              · rw [outK_bk]
            | some _ => exact outK_bk _ _ _
          | _ => exact outK_bk _ _ _

def kFieldAddr (s : TypeId) (x : Operand) (f : Nat) : KOp := fun F H k => F x fun v => outK (aField V.E s f v) H k
theorem kFieldAddr_eq (s : TypeId) (x : Operand) (f : Nat) {F : FtK} {g : Ft} (hF : IsF F g) (H : AH) (k : Value → AH → KR) : kFieldAddr V s x f F H k = bk (aopG V g H (.fieldAddr s x f)) k := by
  simp only [kFieldAddr, hF _, aopG, outK_bk]
  cases g x <;> rfl
def kField (t : TypeId) (x : Operand) (f : Nat) : KOp := fun F H k => F x fun v => outK (aFieldOf V.E t v f) H k
theorem kField_eq (t : TypeId) (x : Operand) (f : Nat) {F : FtK} {g : Ft} (hF : IsF F g) (H : AH) (k : Value → AH → KR) : kField V t x f F H k = bk (aopG V g H (.field t x f)) k := by
  simp only [kField, hF _, aopG, outK_bk]
  cases g x <;> rfl

/-- A place in a row. -/
def kIndexAddr (t : TypeId) (x i : Operand) : KOp := fun F H k => F x fun u => F i fun v => match V.E t with
  | some ⟨.slice e, _, _, _⟩ => (match u, v with
    | .slice (some ⟨b, off, none⟩) len _, .int _ (.ofNat n) => match V.E e with
      | some te => ifK (Nat.blt n len) (forceN (off + n * te.size) fun o => k (.pointer (some ⟨b, o, none⟩)) H) none
      | none => none
    | u, v => outK (aIndex V.E t u v) H k)
  | _ => outK (aIndex V.E t u v) H k
theorem kIndexAddr_eq (t : TypeId) (x i : Operand) {F : FtK} {g : Ft} (hF : IsF F g) (H : AH) (k : Value → AH → KR) : kIndexAddr V t x i F H k = bk (aopG V g H (.indexAddr t x i)) k := by
  simp only [kIndexAddr, hF _, aopG, outK_bk]
  cases g x with
  | none => rfl
  | some u =>
    cases g i with
    | none => rfl
    | some v =>
      simp only [Option.bind_some]
      split
      · rename_i e _ _ _ hE
        split
        · rename_i b off len _ kd n
          simp only [aIndex, hE]
          cases V.E e with
          | none => rfl
          | some te =>
            simp only [ifK_eq, Nat.blt_eq, forceN_eq, Int.ofNat_eq_natCast, Int.natCast_nonneg, true_and, Int.ofNat_lt, Int.toNat_natCast]
            split <;> rfl
        · rfl
      · rfl

def kIndex (t : TypeId) (x i : Operand) : KOp := fun F H k => F x fun u => F i fun v => outK (aIndexOf V.E t u v) H k
theorem kIndex_eq (t : TypeId) (x i : Operand) {F : FtK} {g : Ft} (hF : IsF F g) (H : AH) (k : Value → AH → KR) : kIndex V t x i F H k = bk (aopG V g H (.index t x i)) k := by
  simp only [kIndex, hF _, aopG, outK_bk]
  cases g x with
  | none => rfl
  | some u => cases g i <;> rfl

def kLookup (t : TypeId) (m i : Operand) (ok : Bool) : KOp := fun F H k => F m fun u => F i fun v => outK (aLookupX V.P V.E H t u v ok) H k
theorem kLookup_eq (t : TypeId) (m i : Operand) (ok : Bool) {F : FtK} {g : Ft} (hF : IsF F g) (H : AH) (k : Value → AH → KR) : kLookup V t m i ok F H k = bk (aopG V g H (.lookup t m i ok)) k := by
  simp only [kLookup, hF _, aopG, outK_bk]
  cases g m with
  | none => rfl
  | some u => cases g i <;> rfl

def mapUpK (t : TypeId) (u v y : Value) (H : AH) (k : Value → AH → KR) : KR := match V.E t, u with
  | some ⟨.map kt _, _, _, _⟩, .map (some b) => match V.E kt with
    | some tk => objK H b fun o => match o with
      | .map es bs ck => ifK (keyOk tk.desc v && entriesOk tk.desc es) (match findA v es 0 with
        | some (j, _) => forceL (es.set j (v, y)) fun es => putK H b (.map es bs ck) fun H => k undef H
        | none => forceL (es ++ [(v, y)]) fun es => forceL (bs ++ [ck]) fun bs => forceN (ck + 1) fun ck => putK H b (.map es bs ck) fun H => k undef H) none
      | _ => none
    | none => none
  | _, _ => none
theorem mapUpK_eq (t : TypeId) (u v y : Value) (H : AH) (k : Value → AH → KR) : mapUpK V t u v y H k = bk ((aMapUpdate V.E H t u v y).map fun H' => (undef, H')) k := by
  simp only [mapUpK, aMapUpdate]
  rcases V.E t with _ | ⟨d, sz, by_, zv⟩
  · rfl
  · cases d with
    | map kt et =>
      cases u with
      | map b =>
        cases b with
        | none => rfl
        | some b =>
          simp only
          cases V.E kt with
          | none => rfl
          | some tk =>
            simp only [objK_eq]
            cases H.obj b with
            | map es bs ck =>
              simp only [ifK_eq, forceL_eq, forceN_eq, putK_eq]
              split
              · cases findA v es 0 <;> rfl
              · rfl
            | _ => rfl
      | _ => rfl
    | _ => cases u with
      | map b => cases b <;> rfl
      | _ => rfl

def mapUpSK (t : TypeId) (u v y : Value) (H : AH) (k : Value → AH → KR) : KR := match V.E t, u with
  | some ⟨.map kt _, _, _, _⟩, .map (some b) => match V.E kt with
    | some ⟨.struct _, _, _, _⟩ => objK H b fun o => match o with
      | .map es bs ck => ifK (constOk v) (match pureRun V.P (Instr.checkKey false 10000 kt v), findG V.P kt v es 0 with
        | some _, some (some (j, _)) => forceL (es.set j (v, y)) fun es => putK H b (.map es bs ck) fun H => k undef H
        | some _, some none => forceL (es ++ [(v, y)]) fun es => forceL (bs ++ [ck]) fun bs => forceN (ck + 1) fun ck => putK H b (.map es bs ck) fun H => k undef H
        | _, _ => none) none
      | _ => none
    | _ => none
  | _, _ => none
theorem mapUpSK_eq (t : TypeId) (u v y : Value) (H : AH) (k : Value → AH → KR) : mapUpSK V t u v y H k = bk ((aMapUpdateS V.P V.E H t u v y).map fun H' => (undef, H')) k := by
  simp only [mapUpSK, aMapUpdateS]
  rcases V.E t with _ | ⟨d, sz, by_, zv⟩
  · rfl
  · cases d with
    | map kt et =>
      cases u with
      | map b =>
        cases b with
        | none => rfl
        | some b =>
          simp only
          rcases V.E kt with _ | ⟨dk, sk, bk, zk⟩
          · rfl
          · cases dk with
            | struct fs =>
              simp only [objK_eq]
              cases H.obj b with
              | map es bs ck =>
                simp only [ifK_eq, forceL_eq, forceN_eq, putK_eq]
                split
                · cases pureRun V.P (Instr.checkKey false 10000 kt v) with
                  | none => rfl
                  | some _ => rcases findG V.P kt v es 0 with _ | _ | ⟨j, x⟩ <;> rfl
                · rfl
              | _ => rfl
            | _ => rfl
      | _ => rfl
    | _ => cases u with
      | map b => cases b <;> rfl
      | _ => rfl

def kMapUpdate (t : TypeId) (m i x : Operand) : KOp := fun F H k => F m fun u => F i fun v => F x fun y => ifK (structKeyed V.E t) (mapUpSK V t u v y H k) (mapUpK V t u v y H k)
theorem mapUpdate_eq (t : TypeId) (m i x : Operand) {F : FtK} {g : Ft} (hF : IsF F g) (H : AH) (k : Value → AH → KR) (r : Option (Value × AH)) (hr : r = match g m, g i, g x with
    | some u, some v, some y => (aMapUpdateX V.P V.E H t u v y).map fun H' => (undef, H')
    | _, _, _ => none) : kMapUpdate V t m i x F H k = bk r k := by
  rw [hr]
  simp only [kMapUpdate, hF _]
  cases g m with
  | none => rfl
  | some u =>
    cases g i with
    | none => rfl
    | some v =>
      cases g x with
      | none => rfl
      | some y =>
        simp only [Option.bind_some, aMapUpdateX, ifK_eq, mapUpSK_eq, mapUpK_eq]
        split <;> rfl
theorem kMapUpdate_eq (t : TypeId) (m i x : Operand) {F : FtK} {g : Ft} (hF : IsF F g) (H : AH) (k : Value → AH → KR) : kMapUpdate V t m i x F H k = bk (aopG V g H (.mapUpdate t m i x)) k := mapUpdate_eq V t m i x hF H k _ rfl
theorem kInsert_eq (t : TypeId) (m i x : Operand) {F : FtK} {g : Ft} (hF : IsF F g) (H : AH) (k : Value → AH → KR) : kMapUpdate V t m i x F H k = bk (aopG V g H (.insert t m i x)) k := mapUpdate_eq V t m i x hF H k _ rfl

def kRange (t : TypeId) (x : Operand) : KOp := fun F H k => F x fun v => match V.E t, v with
  | some ⟨.map _ _, _, _, _⟩, .map none => allocK H (.mapIter none 0 [] 0) fun b H => k (.pointer (some ⟨b, 0, none⟩)) H
  | some ⟨.map _ _, _, _, _⟩, .map (some m) => objK H m fun o => match o with
    | .map _ _ ck => allocK H (.mapIter (some m) ck [] ck) fun b H => k (.pointer (some ⟨b, 0, none⟩)) H
    | _ => none
  | _, _ => none
theorem kRange_eq (t : TypeId) (x : Operand) {F : FtK} {g : Ft} (hF : IsF F g) (H : AH) (k : Value → AH → KR) : kRange V t x F H k = bk (aopG V g H (.range t x)) k := by
  simp only [kRange, hF _, aopG]
  cases g x with
  | none => rfl
  | some v =>
    simp only [Option.bind_some, aRange]
    rcases V.E t with _ | ⟨d, sz, by_, zv⟩
    · rfl
    · cases d with
      | map kt et =>
        cases v with
        | map b =>
          cases b with
          | none => simp only [allocK_eq]; rfl
          | some b =>
            simp only [objK_eq]
            cases H.obj b with
            | map es bs ck => simp only [allocK_eq]; rfl
            | _ => rfl
        | _ => rfl
      | _ => rfl

def kNext (x : Operand) (isStr : Bool) : KOp := fun F H k => F x fun v => match v, isStr with
  | .pointer (some ⟨r, 0, none⟩), false => objK H r fun o => match o with
    | .mapIter none _ _ _ => k (.tuple #[.bool false]) H
    | .mapIter (some b) since seen last => objK H b fun o => match o with
      | .map es bs ck => match nextSel es bs seen since last with
        | some none => k (.tuple #[.bool false]) H
        | some (some ((kk, v), n)) => forceL (seen ++ [n]) fun seen => putK H r (.mapIter (some b) since seen ck) fun H => k (.tuple #[.bool true, kk, v]) H
        | none => none
      | _ => none
    | _ => none
  | _, _ => none
theorem kNext_eq (x : Operand) (isStr : Bool) {F : FtK} {g : Ft} (hF : IsF F g) (H : AH) (k : Value → AH → KR) : kNext x isStr F H k = bk (aopG V g H (.next x isStr)) k := by
  simp only [kNext, hF _, aopG]
  cases g x with
  | none => rfl
  | some v =>
    simp only [Option.bind_some, aNext]
    split
    · simp only [objK_eq]
      rename_i r
      cases H.obj r with
      | mapIter m since seen last =>
        cases m with
        | none => rfl
        | some b =>
          simp only
          cases H.obj b with
          | map es bs ck =>
            simp only [forceL_eq, putK_eq]
            rcases nextSel es bs seen since last with _ | _ | ⟨⟨kk, v⟩, n⟩ <;> rfl
          | _ => rfl
      | _ => rfl
    · rename_i h
      split
      · exact absurd rfl (h _ rfl)
      · rfl

def kEntry (x : Operand) : KOp := fun F H k => F x fun v => outK (aEntry H v) H k
theorem kEntry_eq (x : Operand) {F : FtK} {g : Ft} (hF : IsF F g) (H : AH) (k : Value → AH → KR) : kEntry x F H k = bk (aopG V g H (.entry x)) k := by
  simp only [kEntry, hF _, aopG, outK_bk]
  cases g x <;> rfl

def kAssert (x : Operand) (_ t : TypeId) (ok : Bool) : KOp := fun F H k => F x fun v => outK (aAssert V.E v t ok) H k
theorem kAssert_eq (x : Operand) (xt t : TypeId) (ok : Bool) {F : FtK} {g : Ft} (hF : IsF F g) (H : AH) (k : Value → AH → KR) : kAssert V x xt t ok F H k = bk (aopG V g H (.typeAssert x xt t ok)) k := by
  simp only [kAssert, hF _, aopG, outK_bk]
  cases g x <;> rfl

def kExtract (x : Operand) (i : Nat) : KOp := fun F H k => F x fun v => match v with
  | .tuple vs => nthK vs.toList i fun v => k v H
  | _ => none
theorem kExtract_eq (x : Operand) (i : Nat) {F : FtK} {g : Ft} (hF : IsF F g) (H : AH) (k : Value → AH → KR) : kExtract x i F H k = bk (aopG V g H (.extract x i)) k := by
  simp only [kExtract, hF _, aopG]
  cases g x with
  | none => rfl
  | some v =>
    simp only [Option.bind_some]
    split
    · rename_i vs
      simp only [aExtract, nthK_eq, Array.getElem?_toList]
      cases vs[i]? <;> rfl
    · rename_i h
      have : aExtract v i = none := by
        unfold aExtract
        split
        · exact absurd rfl (h _)
        · rfl
      rw [this]; rfl
end
end Go.Ev
