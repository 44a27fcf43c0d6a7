/-
  EV, kernel, part Le: the operations over any way to fetch, each handing on to the next.
-/
import Derived.Test.YtfhmdhndmlinkaaDoorEv4
import Derived.Test.YtfhmdhndmlinkaaDoorEv3
import Derived.Carry
import Derived.WalkKit
import Derived.ProofKit
import Derived.OpenShut
set_option linter.all false
namespace Go.Ev
open Go.RowKit
noncomputable section
abbrev FtK := Operand → (Value → KR) → KR
abbrev KOp := FtK → AH → (Value → AH → KR) → KR
def IsF (F : FtK) (g : Ft) : Prop := ∀ x k, F x k = (g x).bind k
def fsK (F : FtK) (xs : List Operand) : (List Value → KR) → KR :=
  List.rec (motive := fun _ => (List Value → KR) → KR) (fun k => k []) (fun x _ ih k => F x fun v => ih fun vs => k (v :: vs)) xs
theorem fsK_eq {F : FtK} {g : Ft} (hF : IsF F g) : ∀ (xs : List Operand) (k : List Value → KR), fsK F xs k = (gvals g xs).bind k
  | [], k => rfl
  | x :: xs, k => by
    show F x (fun v => fsK F xs fun vs => k (v :: vs)) = _
    simp only [hF x, fsK_eq hF xs, gvals]
    cases g x with
    | none => rfl
    | some v => cases gvals g xs <;> rfl
def fpK (F : FtK) (xs : List (Nat × Operand)) : (List (Nat × Value) → KR) → KR :=
  List.rec (motive := fun _ => (List (Nat × Value) → KR) → KR) (fun k => k []) (fun x _ ih k => F x.2 fun v => ih fun vs => k ((x.1, v) :: vs)) xs
theorem fpK_eq {F : FtK} {g : Ft} (hF : IsF F g) : ∀ (xs : List (Nat × Operand)) (k : List (Nat × Value) → KR), fpK F xs k = (gparts g xs).bind k
  | [], k => rfl
  | (i, x) :: xs, k => by
    show F x (fun v => fpK F xs fun vs => k ((i, v) :: vs)) = _
    simp only [hF x, fpK_eq hF xs, gparts]
    cases g x with
    | none => rfl
    | some v => cases gparts g xs <;> rfl
def foK (F : FtK) (x : Option Operand) (k : Option Value → KR) : KR :=
  match x with
  | none => k none
  | some x => F x fun v => k (some v)
theorem foK_eq {F : FtK} {g : Ft} (hF : IsF F g) (x : Option Operand) (k : Option Value → KR) : foK F x k = (gopt g x).bind k := by
  cases x with
  | none => rfl
  | some x => simp only [foK, hF x, gopt]; cases g x <;> rfl
def outK (o : Option Value) (H : AH) (k : Value → AH → KR) : KR :=
  match o with
  | some v => forceV v fun v => k v H
  | none => none
theorem outK_eq (o : Option Value) (H : AH) (k : Value → AH → KR) : outK o H k = (o.map (·, H)).bind fun p => k p.1 p.2 := by
  cases o with
  | none => rfl
  | some v => simp [outK, forceV_eq]
def bk (r : Option (Value × AH)) (k : Value → AH → KR) : KR := r.bind fun p => k p.1 p.2
theorem bk_some (v : Value) (H : AH) (k : Value → AH → KR) : bk (some (v, H)) k = k v H := rfl
theorem bk_none (k : Value → AH → KR) : bk none k = none := rfl
theorem outK_bk (o : Option Value) (H : AH) (k : Value → AH → KR) : outK o H k = bk (o.map (·, H)) k := outK_eq o H k
variable (V : Env)
def kMove (x : Operand) : KOp := fun F H k => F x fun v => k v H
theorem kMove_eq (x : Operand) {F : FtK} {g : Ft} (hF : IsF F g) (H : AH) (k : Value → AH → KR) : kMove x F H k = bk (aopG V g H (.move x)) k := by
  simp only [kMove, hF _, aopG, bk]; cases g x <;> rfl
def kPick (c a b : Operand) : KOp := fun F H k => F c fun v => match v with
  | .bool t => ifK t (F a fun v => k v H) (F b fun v => k v H)
  | _ => none
theorem kPick_eq (c a b : Operand) {F : FtK} {g : Ft} (hF : IsF F g) (H : AH) (k : Value → AH → KR) : kPick c a b F H k = bk (aopG V g H (.pick c a b)) k := by
  simp only [kPick, hF _, aopG, bk]
  cases g c with
  | none => rfl
  | some v =>
    cases v with
    | bool t =>
      simp only [Option.bind_some, ifK_eq]
      cases t with
      | true => simp only [if_true]; cases g a <;> rfl
      | false => simp only [Bool.false_eq_true, if_false]; cases g b <;> rfl
    | _ => rfl
def newK (et : TypeId) (cs : List Value) (H : AH) (k : Value → AH → KR) : KR := allocK H (.row et cs .exact 0 0) fun b H => k (.pointer (some ⟨b, 0, none⟩)) H
def kAlloc (t : TypeId) : KOp := fun _ H k => match V.E t with
  | some ti => forceL0 ti.zv.cells.toList fun cs => newK t cs H k
  | none => none
theorem kAlloc_eq (t : TypeId) {F : FtK} {g : Ft} (hF : IsF F g) (H : AH) (k : Value → AH → KR) : kAlloc V t F H k = bk (aopG V g H (.alloc t)) k := by
  simp only [kAlloc, aopG]
  cases V.E t with
  | none => rfl
  | some ti => simp only [forceL0_eq, newK, allocK_eq]; rfl
def kBox (t : TypeId) (x : Operand) : KOp := fun F H k => F x fun v => forceL0 v.cells.toList fun cs => newK t cs H k
theorem kBox_eq (t : TypeId) (x : Operand) {F : FtK} {g : Ft} (hF : IsF F g) (H : AH) (k : Value → AH → KR) : kBox t x F H k = bk (aopG V g H (.box t x)) k := by
  simp only [kBox, hF _, aopG]
  cases g x with
  | none => rfl
  | some v => simp only [Option.bind_some, forceL0_eq, newK, allocK_eq]; rfl
def fillK (place : Nat → Option (Nat × Nat)) (ps : List (Nat × Value)) : List Value → (List Value → KR) → KR :=
  List.rec (motive := fun _ => List Value → (List Value → KR) → KR) (fun cs k => k cs) (fun p _ ih cs k => match place p.1 with
    | none => none
    | some (off, size) => ifK (Nat.beq p.2.cells.size size && Nat.ble (off + p.2.cells.size) cs.length) (forceN off fun off => spliceK p.2.cells.toList off cs fun cs => ih cs k) none) ps
theorem fillK_eq (place : Nat → Option (Nat × Nat)) : ∀ (ps : List (Nat × Value)) (cs : List Value) (k : List Value → KR), fillK place ps cs k = (afill place cs ps).bind k
  | [], cs, k => rfl
  | (i, v) :: ps, cs, k => by
    show (match place i with
    | none => none
    | some (off, size) => ifK (Nat.beq v.cells.size size && Nat.ble (off + v.cells.size) cs.length) (forceN off fun off => spliceK v.cells.toList off cs fun cs => fillK place ps cs k) none) = _
    simp only [afill]
    cases place i with
    | none => rfl
    | some p =>
      obtain ⟨off, size⟩ := p
      simp only [ifK_eq, Bool.and_eq_true, Nat.beq_eq, Nat.ble_eq, forceN_eq, spliceK_eq, fillK_eq place ps]
      by_cases h : v.cells.size = size ∧ off + v.cells.size ≤ cs.length
      · rw [if_pos h, if_neg (by omega)]
      · rw [if_neg h, if_pos (by omega)]; rfl
def kBuild (t : TypeId) (ps : Array (Nat × Operand)) : KOp := fun F H k => fpK F ps.toList fun vs => match V.E t with
  | some ⟨.struct fs, _, _, zv⟩ => match aPlaces V.E fs.toList with
    | some pl => forceL0 zv.cells.toList fun cs => fillK (pl[·]?) vs cs fun cs => k (.agg ⟨cs⟩) H
    | none => none
  | _ => outK (aBuild V.E t vs) H k
theorem kBuild_eq (t : TypeId) (ps : Array (Nat × Operand)) {F : FtK} {g : Ft} (hF : IsF F g) (H : AH) (k : Value → AH → KR) : kBuild V t ps F H k = bk (aopG V g H (.build t ps)) k := by
  simp only [kBuild, fpK_eq hF, aopG]
  cases gparts g ps.toList with
  | none => rfl
  | some vs =>
    simp only [Option.bind_some]
    split
    · rename_i fs s b zv hE
      simp only [aBuild, hE]
      cases hpl : aPlaces V.E fs.toList with
      | some pl =>
        simp only [forceL0_eq, fillK_eq]
        cases afill (fun x => pl[x]?) zv.cells.toList vs <;> rfl
      | none => rfl
    · rw [outK_bk]
def kBuildSlice (t : TypeId) (n : Nat) (ps : Array (Nat × Operand)) : KOp := fun F H k => fpK F ps.toList fun vs => match V.E t with
  | some ⟨.slice e, _, _, _⟩ => match V.E e with
    | some te => ifK (Nat.ble (n * te.size) 16777216 && Nat.blt n unk) (forceL0 (azeros te.zv.cells.toList n) fun cs => fillK (fun i => some (i * te.size, te.size)) vs cs fun cs => allocK H (.row e cs .exact 0 0) fun b H => k (.slice (some ⟨b, 0, none⟩) n n) H) none
    | none => none
  | _ => none
theorem kBuildSlice_eq (t : TypeId) (n : Nat) (ps : Array (Nat × Operand)) {F : FtK} {g : Ft} (hF : IsF F g) (H : AH) (k : Value → AH → KR) : kBuildSlice V t n ps F H k = bk (aopG V g H (.buildSlice t n ps)) k := by
  simp only [kBuildSlice, fpK_eq hF, aopG]
  cases gparts g ps.toList with
  | none => rfl
  | some vs =>
    simp only [Option.bind_some, aBuildSlice]
    rcases V.E t with _ | ⟨d, s, b, zv⟩
    · rfl
    · cases d <;> try rfl
      rename_i e
      simp only
      cases V.E e with
      | none => rfl
      | some te =>
        simp only [ifK_eq, Bool.and_eq_true, Nat.ble_eq, Nat.blt_eq, forceL0_eq, fillK_eq, allocK_eq]
        by_cases h : n * te.size ≤ 16777216 ∧ n < unk
        · rw [if_pos h, if_neg (by omega)]
          cases afill (fun i => some (i * te.size, te.size)) (azeros te.zv.cells.toList n) vs <;> rfl
        · rw [if_neg h, if_pos (by omega)]; rfl
def kLoad (t : TypeId) (a : Operand) : KOp := fun F H k => F a fun p => match p with
  | .pointer (some ⟨b, off, none⟩) => match V.E t with
    | some ti => ifK (Desc.agg ti.desc) (rdK H b off ti.size fun vs => k (.agg ⟨vs⟩) H) (rd1K H b off fun v => k v H)
    | none => none
  | _ => none
theorem kLoad_eq (t : TypeId) (a : Operand) {F : FtK} {g : Ft} (hF : IsF F g) (H : AH) (k : Value → AH → KR) : kLoad V t a F H k = bk (aopG V g H (.load t a)) k := by
  simp only [kLoad, hF _, aopG]
  cases g a with
  | none => rfl
  | some p =>
    simp only [Option.bind_some]
    split
    · rename_i b off
      simp only [aLoad]
      cases V.E t with
      | none => rfl
      | some ti =>
        simp only [ifK_eq, rdK_eq, rd1K_eq]
        split
        · cases H.rd b off ti.size <;> rfl
        · generalize H.rd b off 1 = r
          rcases r with _ | (_ | ⟨x, _ | ⟨y, z⟩⟩) <;> rfl
    · rename_i hp
      have : aLoad V.E H t p = none := by
        unfold aLoad
        split
        · exact absurd rfl (hp _ _)
        · rfl
      rw [this]; rfl
def kStore (t : TypeId) (a x : Operand) : KOp := fun F H k => F a fun p => F x fun v => match p with
  | .pointer (some ⟨b, off, none⟩) => match V.E t with
    | some ti => ifK (Nat.beq v.cells.size ti.size && v.cells.toList.all Value.oneCell') (wrK H b off v.cells.toList fun H => k undef H) none
    | none => none
  | _ => none
theorem kStore_eq (t : TypeId) (a x : Operand) {F : FtK} {g : Ft} (hF : IsF F g) (H : AH) (k : Value → AH → KR) : kStore V t a x F H k = bk (aopG V g H (.store t a x)) k := by
  simp only [kStore, hF _, aopG]
  cases g a with
  | none => rfl
  | some p =>
    cases g x with
    | none => rfl
    | some v =>
      simp only [Option.bind_some]
      split
      · rename_i b off
        simp only [aStore]
        cases V.E t with
        | none => rfl
        | some ti =>
          simp only [ifK_eq, wrK_eq, Bool.and_eq_true, Nat.beq_eq]
          split
          · cases H.wr b off v.cells.toList <;> rfl
          · rfl
      · rename_i hp
        have : aStore V.E H t p v = none := by
          unfold aStore
          split
          · exact absurd rfl (hp _ _)
          · rfl
        rw [this]; rfl
def kNil (x : Operand) : KOp := fun F H k => F x fun v => match v with
  | .pointer (some p) => k (.pointer (some p)) H
  | .func (.func f) a b => k (.func (.func f) a b) H
  | .map (some m) => k (.map (some m)) H
  | _ => none
theorem kNil_eq (x : Operand) {F : FtK} {g : Ft} (hF : IsF F g) (H : AH) (k : Value → AH → KR) : kNil x F H k = bk (aopG V g H (.nilCheck x)) k := by
  simp only [kNil, hF _, aopG]
  cases g x with
  | none => rfl
  | some v =>
    simp only [Option.bind_some]
    cases v with
    | pointer p => cases p <;> rfl
    | func f a b => cases f <;> rfl
    | map m => cases m <;> rfl
    | _ => rfl
def kdIx : IntKind → Nat
  | .i8 => 0 | .i16 => 1 | .i32 => 2 | .i64 => 3 | .u8 => 4 | .u16 => 5 | .u32 => 6 | .u64 => 7
def kdEq (a b : IntKind) : Bool := Nat.beq (kdIx a) (kdIx b)
theorem kdEq_iff (a b : IntKind) : kdEq a b = decide (a = b) := by cases a <;> cases b <;> rfl
def ltI (a b : Int) : Bool :=
  match a, b with
  | .ofNat a, .ofNat b => Nat.blt a b
  | .ofNat _, .negSucc _ => false
  | .negSucc _, .ofNat _ => true
  | .negSucc a, .negSucc b => Nat.blt b a
theorem ltI_eq (a b : Int) : ltI a b = decide (a < b) := by
  cases a with
  | ofNat a => cases b with
    | ofNat b =>
      simp only [ltI, Int.ofNat_eq_natCast, Int.ofNat_lt]
      rw [Bool.eq_iff_iff]; simp [Nat.blt_eq]
    | negSucc b => simp only [ltI, Int.ofNat_eq_natCast]; symm; simp; omega
  | negSucc a => cases b with
    | ofNat b => simp only [ltI, Int.ofNat_eq_natCast]; symm; simp; omega
    | negSucc b =>
      simp only [ltI]
      rw [Bool.eq_iff_iff]; simp [Nat.blt_eq]; omega
def eqI (a b : Int) : Bool :=
  match a, b with
  | .ofNat a, .ofNat b => Nat.beq a b
  | .ofNat _, .negSucc _ => false
  | .negSucc _, .ofNat _ => false
  | .negSucc a, .negSucc b => Nat.beq a b
theorem eqI_eq (a b : Int) : eqI a b = (a == b) := by
  cases a <;> cases b <;> simp only [eqI] <;> rw [Bool.eq_iff_iff] <;> simp [Nat.beq_eq]
  · omega
def wrapK (d : IntKind) (n : Int) (k : Value → KR) : KR :=
  forceI n fun n => ifK (kdEq d .i64 && Int.rec (motive := fun _ => Bool) (fun m => Nat.ble m 9223372036854775807) (fun m => Nat.ble m 9223372036854775807) n) (k (.int d n)) (forceI (d.wrap n) fun n => k (.int d n))
theorem wrapK_eq (d : IntKind) (n : Int) (k : Value → KR) : wrapK d n k = k (.int d (wr d n)) := by
  unfold wrapK
  rw [forceI_eq, ifK_eq, forceI_eq]
  split
  · rename_i h
    rw [Bool.and_eq_true, kdEq_iff, decide_eq_true_eq] at h
    obtain ⟨rfl, h⟩ := h
    unfold wr
    rw [if_pos]
    refine ⟨rfl, ?_⟩
    cases n with
    | ofNat m => simp only [Nat.ble_eq] at h; simp only [Int.ofNat_eq_natCast]; omega
    | negSucc m => simp only [Nat.ble_eq] at h; omega
  · rw [wr_eq]
def intK (op : BinOp) (t : TypeId) (d : IntKind) (a : Int) (d' : IntKind) (b : Int) (k : Value → KR) : KR :=
  match op with
  | .add => ifK (kdEq d d') (wrapK d (a + b) k) none
  | .sub => ifK (kdEq d d') (wrapK d (a - b) k) none
  | .eql => ifK (kdEq d d') (forceB (eqI a b) fun r => k (.bool r)) none
  | .neq => ifK (kdEq d d') (forceB (!eqI a b) fun r => k (.bool r)) none
  | .lss => ifK (kdEq d d') (forceB (ltI a b) fun r => k (.bool r)) none
  | .leq => ifK (kdEq d d') (forceB (!ltI b a) fun r => k (.bool r)) none
  | .gtr => ifK (kdEq d d') (forceB (ltI b a) fun r => k (.bool r)) none
  | .geq => ifK (kdEq d d') (forceB (!ltI a b) fun r => k (.bool r)) none
  | op => match aInt V.P op t d a d' b with
    | some v => forceV v k
    | none => none
theorem intK_eq (op : BinOp) (t : TypeId) (d : IntKind) (a : Int) (d' : IntKind) (b : Int) (k : Value → KR) : intK V op t d a d' b k = (aInt V.P op t d a d' b).bind k := by
  unfold intK
  split
  case _ => simp only [ifK_eq, kdEq_iff, wrapK_eq, aInt, decide_eq_true_eq]; split <;> rfl
  case _ => simp only [ifK_eq, kdEq_iff, wrapK_eq, aInt, decide_eq_true_eq]; split <;> rfl
  case _ => simp only [ifK_eq, kdEq_iff, forceB_eq, eqI_eq, aInt, decide_eq_true_eq]; split <;> rfl
  case _ => simp only [ifK_eq, kdEq_iff, forceB_eq, eqI_eq, aInt, decide_eq_true_eq]; split <;> rfl
  case _ => simp only [ifK_eq, kdEq_iff, forceB_eq, ltI_eq, aInt, decide_eq_true_eq]; split <;> rfl
  case _ =>
    simp only [ifK_eq, kdEq_iff, forceB_eq, ltI_eq, aInt, decide_eq_true_eq]; split
    · simp only [Option.bind_some]; congr 2; rw [Bool.eq_iff_iff]; simp
    · rfl
  case _ => simp only [ifK_eq, kdEq_iff, forceB_eq, ltI_eq, aInt, decide_eq_true_eq]; split <;> rfl
  case _ =>
    simp only [ifK_eq, kdEq_iff, forceB_eq, ltI_eq, aInt, decide_eq_true_eq]; split
    · simp only [Option.bind_some]; congr 2; rw [Bool.eq_iff_iff]; simp
    · rfl
  case _ =>
    cases aInt V.P op t d a d' b with
    | none => rfl
    | some v => simp [forceV_eq]
def binK (op : BinOp) (t : TypeId) (ox oy : Operand) (x y : Value) (k : Value → KR) : KR :=
  match x with
  | .int d a => (match y with
    | .int d' b => intK V op t d a d' b k
    | y => match aBin V.P V.E op t ox oy (.int d a) y with
      | some v => forceV v k
      | none => none)
  | x => match aBin V.P V.E op t ox oy x y with
    | some v => forceV v k
    | none => none
theorem binK_eq (op : BinOp) (t : TypeId) (ox oy : Operand) (x y : Value) (k : Value → KR) : binK V op t ox oy x y k = (aBin V.P V.E op t ox oy x y).bind k := by
  unfold binK
  split
  · rename_i d a
    split
    · rename_i d' b
      rw [intK_eq]
      congr 1
    · cases aBin V.P V.E op t ox oy (.int d a) y <;> simp [forceV_eq]
  · cases aBin V.P V.E op t ox oy x y <;> simp [forceV_eq]
def kBin (op : BinOp) (t : TypeId) (x y : Operand) (_ : TypeId) : KOp := fun F H k => F x fun u => F y fun v => binK V op t x y u v fun r => k r H
theorem kBin_eq (op : BinOp) (t : TypeId) (x y : Operand) (yt : TypeId) {F : FtK} {g : Ft} (hF : IsF F g) (H : AH) (k : Value → AH → KR) : kBin V op t x y yt F H k = bk (aopG V g H (.binOp op t x y yt)) k := by
  simp only [kBin, hF _, aopG, binK_eq]
  cases g x with
  | none => rfl
  | some u =>
    cases g y with
    | none => rfl
    | some v => simp only [Option.bind_some]; cases aBin V.P V.E op t x y u v <;> rfl
def kUn (op : UnOp) (_ : TypeId) (x : Operand) : KOp := fun F H k => F x fun v => outK (aPure V.P [v] (Op.unary op v)) H k
theorem kUn_eq (op : UnOp) (t : TypeId) (x : Operand) {F : FtK} {g : Ft} (hF : IsF F g) (H : AH) (k : Value → AH → KR) : kUn V op t x F H k = bk (aopG V g H (.unOp op t x)) k := by
  simp only [kUn, hF _, aopG]
  cases g x with
  | none => rfl
  | some v => simp only [Option.bind_some, outK_bk]
def kConvert (s d : TypeId) (x : Operand) : KOp := fun F H k => F x fun v => match v with
  | .string b => match V.E s, V.E d with
    | some _, some ⟨.slice e, _, _, _⟩ => match V.E e with
      | some ⟨.int .u8, 1, _, _⟩ => forceL0 (b.data.toList.map fun b => .int .u8 b.toNat) fun cs => verK H H.next fun u => forceN H.next fun g => allocK H (.row e cs .loose g u) fun c H => forceN b.size fun n => k (.slice (some ⟨c, 0, none⟩) n unk) H
      | _ => none
    | _, _ => outK (aPure V.P [.string b] (convert s d (.string b))) H k
  | v => match aConvert V.P V.E H s d v with
    | some (r, _) => forceV r fun r => k r H
    | none => none
theorem convert_same {P : Program} {E : TypeId → Option TI} {H H' : AH} {s d : TypeId} {v r : Value} (hs : ∀ b, v ≠ .string b) (h : aConvert P E H s d v = some (r, H')) : H' = H := by
  unfold aConvert at h
  split at h
  · split at h
    · split at h
      · cases h; rfl
      · cases h
    · cases h
  · split at h
    · split at h
      · split at h
        · cases h; rfl
        · split at h
          · split at h
            · cases h; rfl
            · cases h
          · cases h
      · cases h
    · cases h
  · exact absurd rfl (hs _)
  · exact map_fst_same h
theorem kConvert_eq (s d : TypeId) (x : Operand) {F : FtK} {g : Ft} (hF : IsF F g) (H : AH) (k : Value → AH → KR) : kConvert V s d x F H k = bk (aopG V g H (.convert s d x)) k := by
  simp only [kConvert, hF _, aopG]
  cases g x with
  | none => rfl
  | some v =>
    simp only [Option.bind_some]
    split
    · rename_i b
      simp only [aConvert]
      rcases V.E s with _ | ts
      · simp only [outK_bk]
      · rcases V.E d with _ | ⟨dd, sz, by_, zv⟩
        · simp only [outK_bk]
        · cases dd with
          | slice e =>
            simp only
            rcases V.E e with _ | ⟨de, se, be, ze⟩
            · rfl
            · cases de with
              | int kd =>
                cases kd with
                | u8 =>
                  rcases se with _ | _ | se
                  · rfl
                  · simp only [forceL0_eq, verK_eq, forceN_eq, allocK_eq]; rfl
                  · rfl
                | _ => rfl
              | _ => rfl
          | _ => simp only [outK_bk]
    · rename_i hs
      cases h : aConvert V.P V.E H s d v with
      | none => rfl
      | some p =>
        obtain ⟨r, H'⟩ := p
        simp only [forceV_eq]
        rw [convert_same (fun b e => hs b e) h]
        rfl
def kIface (t : TypeId) (x : Operand) : KOp := fun F H k => F x fun v => match V.E t with
  | some ti => match ti.desc with
    | .interface _ => none
    | _ => k (.iface t v) H
  | none => none
theorem kIface_eq (t : TypeId) (x : Operand) {F : FtK} {g : Ft} (hF : IsF F g) (H : AH) (k : Value → AH → KR) : kIface V t x F H k = bk (aopG V g H (.makeInterface t x)) k := by
  simp only [kIface, hF _, aopG]
  cases g x with
  | none => rfl
  | some v =>
    simp only [Option.bind_some]
    cases V.E t with
    | none => rfl
    | some ti => simp only; cases ti.desc <;> rfl
def kFunc (fn : Fn) (first cap : Array Operand) : KOp := fun F H k => match fn with
  | .func f => fsK F first.toList fun u => fsK F cap.toList fun v => k (.func (.func f) ⟨u⟩ ⟨v⟩) H
  | _ => none
theorem kFunc_eq (fn : Fn) (first cap : Array Operand) {F : FtK} {g : Ft} (hF : IsF F g) (H : AH) (k : Value → AH → KR) : kFunc fn first cap F H k = bk (aopG V g H (.makeFunc fn first cap)) k := by
  cases fn with
  | func f =>
    simp only [kFunc, fsK_eq hF, aopG]
    cases gvals g first.toList with
    | none => rfl
    | some u => cases gvals g cap.toList <;> rfl
  | _ => rfl
def kMakeMap (_ : TypeId) (r : Option Operand) : KOp := fun _ H k => match r with
  | none => allocK H (.map []) fun b H => k (.map (some b)) H
  | some _ => none
theorem kMakeMap_eq (t : TypeId) (r : Option Operand) {F : FtK} {g : Ft} (hF : IsF F g) (H : AH) (k : Value → AH → KR) : kMakeMap t r F H k = bk (aopG V g H (.makeMap t r)) k := by
  cases r with
  | none => simp only [kMakeMap, allocK_eq, aopG]; rfl
  | some x => rfl
def kMakeSlice (t : TypeId) (l c : Operand) : KOp := fun F H k => F l fun u => F c fun v => match u, v with
  | .int _ l, .int _ c => match V.E t with
    | some ⟨.slice e, _, _, _⟩ => match V.E e with
      | some te => ifK (!ltI l 0 && !ltI c l && Nat.ble (c.toNat * te.bytes) 140737488355328 && ltI c 4611686018427387904) (forceL0 (azeros te.zv.cells.toList c.toNat) fun cs => allocK H (.row e cs .exact 0 0) fun b H => forceN l.toNat fun l => forceN c.toNat fun c => k (.slice (some ⟨b, 0, none⟩) l c) H) none
      | none => none
    | _ => none
  | _, _ => none
theorem kMakeSlice_eq (t : TypeId) (l c : Operand) {F : FtK} {g : Ft} (hF : IsF F g) (H : AH) (k : Value → AH → KR) : kMakeSlice V t l c F H k = bk (aopG V g H (.makeSlice t l c)) k := by
  simp only [kMakeSlice, hF _, aopG]
  cases g l with
  | none => rfl
  | some u =>
    cases g c with
    | none => rfl
    | some v =>
      simp only [Option.bind_some, aMakeSlice]
      cases u <;> cases v <;> try rfl
      rename_i k1 a k2 b
      simp only
      rcases V.E t with _ | ⟨d, s, bb, zv⟩
      · rfl
      · cases d <;> try rfl
        rename_i e
        simp only
        cases V.E e with
        | none => rfl
        | some te =>
            simp only [ifK_eq, Bool.and_eq_true, Bool.not_eq_true', ltI_eq, decide_eq_false_iff_not, decide_eq_true_eq, Nat.ble_eq, forceL0_eq, allocK_eq, forceN_eq]
            by_cases h : 0 ≤ a ∧ a ≤ b ∧ b.toNat * te.bytes ≤ 140737488355328 ∧ b < 4611686018427387904
            · rw [if_pos h, if_pos (by omega)]; rfl
            · rw [if_neg h, if_neg (by omega)]; rfl
def kSlice (t : TypeId) (x : Operand) (lo hi mx : Option Operand) : KOp := fun F H k => F x fun v => foK F lo fun l => foK F hi fun h => foK F mx fun m => outK (aSlice V.E H t v l h m) H k
theorem kSlice_eq (t : TypeId) (x : Operand) (lo hi mx : Option Operand) {F : FtK} {g : Ft} (hF : IsF F g) (H : AH) (k : Value → AH → KR) : kSlice V t x lo hi mx F H k = bk (aopG V g H (.slice t x lo hi mx)) k := by
  simp only [kSlice, hF _, foK_eq hF, aopG, outK_bk]
  cases g x with
  | none => rfl
  | some v => cases gopt g lo with
    | none => rfl
    | some l => cases gopt g hi with
      | none => rfl
      | some h => cases gopt g mx <;> rfl
def kFieldAddr (s : TypeId) (x : Operand) (f : Nat) : KOp := fun F H k => F x fun v => outK (aField V.E s f v) H k
theorem kFieldAddr_eq (s : TypeId) (x : Operand) (f : Nat) {F : FtK} {g : Ft} (hF : IsF F g) (H : AH) (k : Value → AH → KR) : kFieldAddr V s x f F H k = bk (aopG V g H (.fieldAddr s x f)) k := by
  simp only [kFieldAddr, hF _, aopG, outK_bk]
  cases g x <;> rfl
def kField (t : TypeId) (x : Operand) (f : Nat) : KOp := fun F H k => F x fun v => outK (aFieldOf V.E t v f) H k
theorem kField_eq (t : TypeId) (x : Operand) (f : Nat) {F : FtK} {g : Ft} (hF : IsF F g) (H : AH) (k : Value → AH → KR) : kField V t x f F H k = bk (aopG V g H (.field t x f)) k := by
  simp only [kField, hF _, aopG, outK_bk]
  cases g x <;> rfl
def kIndexAddr (t : TypeId) (x i : Operand) : KOp := fun F H k => F x fun u => F i fun v => match V.E t with
  | some ⟨.slice e, _, _, _⟩ => (match u, v with
    | .slice (some ⟨b, off, none⟩) len _, .int _ (.ofNat n) => match V.E e with
      | some te => ifK (Nat.blt n len) (forceN (off + n * te.size) fun o => k (.pointer (some ⟨b, o, none⟩)) H) none
      | none => none
    | u, v => outK (aIndex V.E t u v) H k)
  | _ => outK (aIndex V.E t u v) H k
theorem kIndexAddr_eq (t : TypeId) (x i : Operand) {F : FtK} {g : Ft} (hF : IsF F g) (H : AH) (k : Value → AH → KR) : kIndexAddr V t x i F H k = bk (aopG V g H (.indexAddr t x i)) k := by
  simp only [kIndexAddr, hF _, aopG, outK_bk]
  cases g x with
  | none => rfl
  | some u =>
    cases g i with
    | none => rfl
    | some v =>
      simp only [Option.bind_some]
      split
      · rename_i e _ _ _ hE
        split
        · rename_i b off len _ kd n
          simp only [aIndex, hE]
          cases V.E e with
          | none => rfl
          | some te =>
            simp only [ifK_eq, Nat.blt_eq, forceN_eq, Int.ofNat_eq_natCast, Int.natCast_nonneg, true_and, Int.ofNat_lt, Int.toNat_natCast]
            split <;> rfl
        · rfl
      · rfl
def kIndex (t : TypeId) (x i : Operand) : KOp := fun F H k => F x fun u => F i fun v => outK (aIndexOf V.E t u v) H k
theorem kIndex_eq (t : TypeId) (x i : Operand) {F : FtK} {g : Ft} (hF : IsF F g) (H : AH) (k : Value → AH → KR) : kIndex V t x i F H k = bk (aopG V g H (.index t x i)) k := by
  simp only [kIndex, hF _, aopG, outK_bk]
  cases g x with
  | none => rfl
  | some u => cases g i <;> rfl
def kLookup (t : TypeId) (m i : Operand) (ok : Bool) : KOp := fun F H k => F m fun u => F i fun v => outK (aLookup V.E H t u v ok) H k
theorem kLookup_eq (t : TypeId) (m i : Operand) (ok : Bool) {F : FtK} {g : Ft} (hF : IsF F g) (H : AH) (k : Value → AH → KR) : kLookup V t m i ok F H k = bk (aopG V g H (.lookup t m i ok)) k := by
  simp only [kLookup, hF _, aopG, outK_bk]
  cases g m with
  | none => rfl
  | some u => cases g i <;> rfl
def kMapUpdate (t : TypeId) (m i x : Operand) : KOp := fun F H k => F m fun u => F i fun v => F x fun y => match V.E t, u with
  | some ⟨.map kt _, _, _, _⟩, .map (some b) => match V.E kt with
    | some tk => objK H b fun o => match o with
      | .map es => ifK (keyOk tk.desc v && entriesOk tk.desc es) (match findA v es 0 with
        | some (j, _) => forceL (es.set j (v, y)) fun es => putK H b (.map es) fun H => k undef H
        | none => forceL (es ++ [(v, y)]) fun es => putK H b (.map es) fun H => k undef H) none
      | _ => none
    | none => none
  | _, _ => none
theorem mapUpdate_eq (t : TypeId) (m i x : Operand) {F : FtK} {g : Ft} (hF : IsF F g) (H : AH) (k : Value → AH → KR) (r : Option (Value × AH)) (hr : r = match g m, g i, g x with
    | some u, some v, some y => (aMapUpdate V.E H t u v y).map fun H' => (undef, H')
    | _, _, _ => none) : kMapUpdate V t m i x F H k = bk r k := by
  rw [hr]
  simp only [kMapUpdate, hF _]
  cases g m with
  | none => rfl
  | some u =>
    cases g i with
    | none => rfl
    | some v =>
      cases g x with
      | none => rfl
      | some y =>
        simp only [Option.bind_some, aMapUpdate]
        rcases V.E t with _ | ⟨d, sz, by_, zv⟩
        · rfl
        · cases d with
          | map kt et =>
            cases u with
            | map b =>
              cases b with
              | none => rfl
              | some b =>
                simp only
                cases V.E kt with
                | none => rfl
                | some tk =>
                  simp only [objK_eq]
                  cases H.obj b with
                  | map es =>
                    simp only [ifK_eq, forceL_eq, putK_eq]
                    split
                    · cases findA v es 0 <;> rfl
                    · rfl
                  | _ => rfl
            | _ => rfl
          | _ => cases u with
            | map b => cases b <;> rfl
            | _ => rfl
theorem kMapUpdate_eq (t : TypeId) (m i x : Operand) {F : FtK} {g : Ft} (hF : IsF F g) (H : AH) (k : Value → AH → KR) : kMapUpdate V t m i x F H k = bk (aopG V g H (.mapUpdate t m i x)) k := mapUpdate_eq V t m i x hF H k _ rfl
theorem kInsert_eq (t : TypeId) (m i x : Operand) {F : FtK} {g : Ft} (hF : IsF F g) (H : AH) (k : Value → AH → KR) : kMapUpdate V t m i x F H k = bk (aopG V g H (.insert t m i x)) k := mapUpdate_eq V t m i x hF H k _ rfl
def kExtract (x : Operand) (i : Nat) : KOp := fun F H k => F x fun v => match v with
  | .tuple vs => nthK vs.toList i fun v => k v H
  | _ => none
theorem kExtract_eq (x : Operand) (i : Nat) {F : FtK} {g : Ft} (hF : IsF F g) (H : AH) (k : Value → AH → KR) : kExtract x i F H k = bk (aopG V g H (.extract x i)) k := by
  simp only [kExtract, hF _, aopG]
  cases g x with
  | none => rfl
  | some v =>
    simp only [Option.bind_some]
    split
    · rename_i vs
      simp only [aExtract, nthK_eq, Array.getElem?_toList]
      cases vs[i]? <;> rfl
    · rename_i h
      have : aExtract v i = none := by
        unfold aExtract
        split
        · exact absurd rfl (h _)
        · rfl
      rw [this]; rfl
end
end Go.Ev

/-
  EV, kernel, part d: builtin functions, calls, code and functions, each handing on to the next.
-/
namespace Go.Ev
open Go.RowKit
noncomputable section
variable (V : Env)
def catK (a : List Value) (b : List Value) (k : List Value → KR) : KR := List.rec (motive := fun _ => (List Value → KR) → KR) (fun k => k b) (fun v _ ih k => ih fun r => k (v :: r)) a k
theorem catK_eq (b : List Value) : ∀ (a : List Value) (k : List Value → KR), catK a b k = k (a ++ b)
  | [], k => rfl
  | v :: a, k => by
    show catK a b (fun r => k (v :: r)) = _
    rw [catK_eq b a]; rfl
def appK (H : AH) (et : TypeId) (sz bytes : Nat) (s : Value) (n : Nat) (new : List Value) (k : Value → AH → KR) : KR :=
  match s with
  | .slice none 0 0 => ifK (Nat.beq n 0) (k (.slice none 0 0) H) (ifK (Nat.ble (n * bytes) 140737488355328 && Nat.blt n 4611686018427387904 && Nat.blt 0 sz)
      (verK H H.next fun u => forceN H.next fun g => allocK H (.row et new .loose g u) fun b H => k (.slice (some ⟨b, 0, none⟩) n unk) H) none)
  | .slice (some ⟨b, off, none⟩) len cap => ifK (Nat.beq n 0) (k (.slice (some ⟨b, off, none⟩) len cap) H) (ifK (Nat.ble ((len + n) * bytes) 140737488355328 && Nat.blt (len + n) 4611686018427387904 && Nat.blt 0 sz)
      (ifK (Nat.beq cap unk) (objK H b fun o => match o with
        | .row et' cells .loose g v => verK H g fun u => ifK (Nat.beq et' et && Nat.beq u v)
            (ifK (Nat.ble (off + len * sz + n * sz) cells.length) (wrK H b (off + len * sz) new fun H => forceN (len + n) fun m => k (.slice (some ⟨b, off, none⟩) m unk) H)
              (ifK (Nat.beq (off + len * sz) cells.length) (putK H b (.row et cells .shared g v) fun H => dropK cells off fun old => catK old new fun cs => allocK H (.row et cs .loose g v) fun c H => forceN (len + n) fun m => k (.slice (some ⟨c, 0, none⟩) m unk) H)
                (ifK (Nat.blt (off + len * sz) cells.length) (putK H b .dead fun H => forceN (Nat.succ v) fun v1 => bumpK H g v1 fun H => partK cells off (len * sz) fun old => catK old new fun cs => allocK H (.row et cs .loose g v1) fun c H => forceN (len + n) fun m => k (.slice (some ⟨c, 0, none⟩) m unk) H) none))) none
        | _ => none)
      (ifK (Nat.ble (len + n) cap) (wrK H b (off + len * sz) new fun H => forceN (len + n) fun m => k (.slice (some ⟨b, off, none⟩) m cap) H)
        (rdK H b off (len * sz) fun old => catK old new fun cs => verK H H.next fun u => forceN H.next fun g => allocK H (.row et cs .loose g u) fun c H => forceN (len + n) fun m => k (.slice (some ⟨c, 0, none⟩) m unk) H))) none)
  | _ => none
theorem appK_eq (H : AH) (et : TypeId) (sz bytes : Nat) (s : Value) (n : Nat) (new : List Value) (k : Value → AH → KR) : appK H et sz bytes s n new k = bk (H.app et sz bytes s n new) k := by
  unfold appK AH.app
  split
  · simp only [ifK_eq, Bool.and_eq_true, Nat.ble_eq, Nat.blt_eq, Nat.beq_eq, verK_eq, forceN_eq, allocK_eq]
    split
    · rfl
    · by_cases h : n * bytes ≤ 140737488355328 ∧ n < 4611686018427387904 ∧ 0 < sz
      · rw [if_pos h, if_pos ⟨⟨h.1, h.2.1⟩, h.2.2⟩]; rfl
      · rw [if_neg h, if_neg (fun e => h ⟨e.1.1, e.1.2, e.2⟩)]; rfl
  · rename_i b off len cap
    simp only [ifK_eq, Bool.and_eq_true, Nat.ble_eq, Nat.blt_eq, Nat.beq_eq, verK_eq, forceN_eq, allocK_eq, objK_eq, wrK_eq, putK_eq, dropK_eq, catK_eq, bumpK_eq, partK_eq, rdK_eq]
    split
    · rfl
    · by_cases h : (len + n) * bytes ≤ 140737488355328 ∧ len + n < 4611686018427387904 ∧ 0 < sz
      · rw [if_pos (show ((len + n) * bytes ≤ 140737488355328 ∧ len + n < 4611686018427387904) ∧ 0 < sz from ⟨⟨h.1, h.2.1⟩, h.2.2⟩), if_neg (not_not_intro h)]
        split
        · cases H.obj b with
          | row et' cells st g v =>
            cases st with
            | loose =>
              simp only
              split
              · split
                · cases H.wr b (off + len * sz) new <;> rfl
                · split
                  · rw [if_pos (by omega)]
                    rename_i he _ _
                    rfl
                  · split
                    · rw [if_pos (by omega)]; rfl
                    · rfl
              · rfl
            | _ => rfl
          | _ => rfl
        · split
          · cases H.wr b (off + len * sz) new <;> rfl
          · cases H.rd b off (len * sz) <;> rfl
      · rw [if_neg (fun e : ((len + n) * bytes ≤ 140737488355328 ∧ len + n < 4611686018427387904) ∧ 0 < sz => h ⟨e.1.1, e.1.2, e.2⟩), if_pos h]; rfl
  · rename_i h1 h2
    split
    · exact absurd rfl h1
    · exact absurd rfl (h2 _ _ _ _)
    · rfl
def srcK (H : AH) (sz : Nat) (x : Value) (n : Nat) (k : List Value → KR) : KR :=
  match x with
  | .slice (some ⟨b, off, none⟩) _ _ => ifK (Nat.beq n 0) (k []) (rdK H b off (n * sz) k)
  | x => match H.src sz x n with
    | some vs => forceL0 vs k
    | none => none
theorem srcK_eq (H : AH) (sz : Nat) (x : Value) (n : Nat) (k : List Value → KR) : srcK H sz x n k = (H.src sz x n).bind k := by
  unfold srcK
  split
  · simp only [ifK_eq, rdK_eq, AH.src, Nat.beq_eq]
    split <;> rfl
  · cases H.src sz x n <;> simp [forceL0_eq]
def appendK (t u : TypeId) (s x : Value) (H : AH) (k : Value → AH → KR) : KR :=
  match V.E t, V.E u with
  | some ⟨.slice e, _, _, _⟩, some tu => match tu.desc with
    | .int _ => none
    | _ => match V.E e, srcLen x with
      | some te, some n => forceN n fun n => srcK H te.size x n fun vs => ifK (vs.all Value.oneCell') (appK H e te.size te.bytes s n vs k) none
      | _, _ => none
  | _, _ => none
def copyK (t : TypeId) (dst src : Value) (H : AH) (k : Value → AH → KR) : KR :=
  match V.E t, srcLen src with
  | some ⟨.slice e, _, _, _⟩, some m => match V.E e, dst with
    | some _, .slice none 0 0 => k (.int .i64 0) H
    | some te, .slice (some ⟨b, off, none⟩) len _ => forceN (min m len) fun n => srcK H te.size src n fun vs => ifK (vs.all Value.oneCell') (wrK H b off vs fun H => k (.int .i64 (Int.ofNat n)) H) none
    | _, _ => none
  | _, _ => none
def clearK (t : TypeId) (x : Value) (H : AH) (k : Value → AH → KR) : KR :=
  match V.E t, x with
  | some ⟨.slice _, _, _, _⟩, .slice none 0 0 => k (.tuple #[]) H
  | some ⟨.slice e, _, _, _⟩, .slice (some ⟨b, off, none⟩) n _ => match V.E e with
    | some te => ifK (Nat.beq n 0) (k (.tuple #[]) H) (forceL0 (azeros te.zv.cells.toList n) fun cs => wrK H b off cs fun H => k (.tuple #[]) H)
    | none => none
  | _, _ => none
def bltK (b : Builtin) (ts : List TypeId) (args : List Value) (H : AH) (k : Value → AH → KR) : KR :=
  match b, ts, args with
  | .len, [t], [x] => outK (aLen V.E H t x) H k
  | .append, [t, u], [s, x] => appendK V t u s x H k
  | .copy, [t, _], [d, x] => copyK V t d x H k
  | .clear, [t], [x] => clearK V t x H k
  | .max, _, args => outK (aPure V.P args (Builtin.max_ #[] 0 args.toArray)) H k
  | .min, _, args => outK (aPure V.P args (Builtin.min_ #[] 0 args.toArray)) H k
  | .cap, [t], [.slice _ _ c] => match V.E t with
    | some ⟨.slice _, _, _, _⟩ => ifK (Nat.blt c unk) (k (.int .i64 (Int.ofNat c)) H) none
    | _ => none
  | _, _, _ => none
theorem appendK_eq (t u : TypeId) (s x : Value) (H : AH) (k : Value → AH → KR) : appendK V t u s x H k = bk (aBuiltin V H .append [t, u] [s, x]) k := by
  simp only [appendK, aBuiltin]
  rcases V.E t with _ | ⟨d, sz, by_, zv⟩
  · rfl
  · cases d <;> try rfl
    rename_i e
    rcases V.E u with _ | tu
    · rfl
    · simp only
      cases tu.desc <;> try rfl
      all_goals
        try simp only
        cases V.E e with
        | none => rfl
        | some te =>
          cases srcLen x with
          | none => rfl
          | some n =>
            simp only [forceN_eq, srcK_eq, ifK_eq]
            cases H.src te.size x n with
            | none => rfl
            | some vs =>
              simp only [Option.bind_some]
              split
              · rw [appK_eq]
              · rfl
theorem copyK_eq (t u : TypeId) (d x : Value) (H : AH) (k : Value → AH → KR) : copyK V t d x H k = bk (aBuiltin V H .copy [t, u] [d, x]) k := by
  simp only [copyK, aBuiltin, aCopy]
  rcases V.E t with _ | ⟨dd, sz, by_, zv⟩
  · rfl
  · cases dd <;> try rfl
    rename_i e
    cases srcLen x with
    | none => rfl
    | some m =>
      simp only
      cases V.E e with
      | none => rfl
      | some te =>
        split
        · rename_i h1; cases h1; rfl
        · rename_i b off len _ h1
          cases h1
          simp only [forceN_eq, srcK_eq, ifK_eq, wrK_eq]
          cases H.src te.size x (min m len) with
          | none => rfl
          | some vs =>
            simp only [Option.bind_some]
            split
            · cases H.wr b off vs <;> rfl
            · rfl
        · rename_i h1 h2
          split
          · rename_i h3 h4; exact absurd rfl (h1 _ rfl)
          · rename_i h3 h4; exact absurd rfl (h2 _ _ _ _ _ rfl)
          · rfl
theorem clearK_eq (t : TypeId) (x : Value) (H : AH) (k : Value → AH → KR) : clearK V t x H k = bk (aBuiltin V H .clear [t] [x]) k := by
  simp only [clearK, aBuiltin, aClear]
  rcases V.E t with _ | ⟨dd, sz, by_, zv⟩
  · rfl
  · cases dd with
    | slice e =>
      cases x with
      | slice a n c =>
        rcases a with _ | ⟨b, off, sp⟩
        · rcases n with _ | n
          · rcases c with _ | c <;> rfl
          · rfl
        · rcases sp with _ | sp
          · simp only
            cases V.E e with
            | none => rfl
            | some te =>
              simp only [ifK_eq, Nat.beq_eq, forceL0_eq, wrK_eq]
              split
              · rfl
              · cases H.wr b off (azeros te.zv.cells.toList n) <;> rfl
          · rfl
      | _ => rfl
    | _ => cases x <;> rfl
theorem bltK_eq (b : Builtin) (ts : List TypeId) (args : List Value) (H : AH) (k : Value → AH → KR) : bltK V b ts args H k = bk (aBuiltin V H b ts args) k := by
  unfold bltK
  split
  · rw [outK_bk]; rfl
  · exact appendK_eq V _ _ _ _ H k
  · exact copyK_eq V _ _ _ _ H k
  · exact clearK_eq V _ _ H k
  · rw [outK_bk]; simp only [aBuiltin]
  · rw [outK_bk]; simp only [aBuiltin]
  · rename_i t a n c
    simp only [aBuiltin]
    rcases V.E t with _ | ⟨d, sz, by_, zv⟩
    · rfl
    · cases d <;> try rfl
      simp only [ifK_eq, Nat.blt_eq]
      split <;> rfl
  · have : aBuiltin V H b ts args = none := by
      unfold aBuiltin
      split
      all_goals first
        | rfl
        | (exfalso; simp_all; done)
        | (exfalso; simp_all; rename_i h; exact h _ _ _ _ rfl rfl rfl rfl)
        | (exfalso; simp_all; rename_i h; exact h _ _ rfl rfl)
    rw [this]; rfl
end
end Go.Ev

/-
  EV, kernel, part Lg: regions prepared so that nothing is left to be worked out.
-/
namespace Go.Ev
open Go.RowKit
noncomputable section
variable {β : Type}
def fN (n : Nat) (k : Nat → β) : β := Nat.rec (motive := fun _ => β) (k 0) (fun m _ => k (Nat.succ m)) n
theorem fN_eq (n : Nat) (k : Nat → β) : fN n k = k n := by cases n <;> rfl
def keyM : List (Tmp × Nat) → Nat
  | [] => 0
  | (d, _) :: ρ => keyM ρ ||| 2 ^ d
theorem keyM_none : ∀ {ρ : List (Tmp × Nat)} {t : Nat}, (keyM ρ).testBit t = false → findR ρ t = none
  | [], t, _ => rfl
  | (d, p) :: ρ, t, h => by
    simp only [keyM, Nat.testBit_or, Bool.or_eq_false_iff, Nat.testBit_two_pow, decide_eq_false_iff_not] at h
    rw [findR_cons, if_neg h.2, keyM_none h.1]
def findK (ρ : List (Tmp × Nat)) (t : Tmp) (k : Nat → β) (f : β) : β :=
  List.rec (motive := fun _ => β) f (fun p _ ih => Prod.rec (motive := fun _ => β) (fun d q => Bool.rec (motive := fun _ => β) ih (k q) (Nat.beq d t)) p) ρ
theorem findK_eq (t : Tmp) (k : Nat → β) (f : β) : ∀ ρ : List (Tmp × Nat), findK ρ t k f = match findR ρ t with
    | some p => k p
    | none => f
  | [] => rfl
  | (d, q) :: ρ => by
    show Bool.rec (motive := fun _ => β) (findK ρ t k f) (k q) (Nat.beq d t) = _
    simp only [findR]
    cases Nat.beq d t with
    | true => rfl
    | false => exact findK_eq t k f ρ
def locK (ρ : List (Tmp × Nat)) (km : Nat) (t : Tmp) (k : Nat → β) (f : β) : β := Bool.rec (motive := fun _ => β) f (findK ρ t k f) (Nat.testBit km t)
theorem locK_eq {ρ : List (Tmp × Nat)} {km : Nat} (hk : km = keyM ρ) (t : Tmp) (k : Nat → β) (f : β) : locK ρ km t k f = match findR ρ t with
    | some p => k p
    | none => f := by
  unfold locK
  cases h : Nat.testBit km t with
  | true => exact findK_eq t k f ρ
  | false => subst hk; rw [keyM_none h]
def rsK (ρ : List (Tmp × Nat)) (km c : Nat) (x : Operand) (k : Operand → β) : β :=
  Operand.rec (motive := fun _ => β) (fun t => locK ρ km t (fun p => fN (c - 1 - p) fun i => k (.tmp i)) (fN (far + t) fun i => k (.tmp i))) (fun v => k (.const v)) (fun g => k (.global g)) (fun f => k (.func f)) x
theorem rsK_eq {ρ : List (Tmp × Nat)} {km : Nat} (hk : km = keyM ρ) (c : Nat) (x : Operand) (k : Operand → β) : rsK ρ km c x k = k (resv ρ c x) := by
  cases x with
  | tmp t =>
    show locK ρ km t (fun p => fN (c - 1 - p) fun i => k (.tmp i)) (fN (far + t) fun i => k (.tmp i)) = _
    rw [locK_eq hk]
    simp only [resv, fN_eq]
    cases findR ρ t <;> rfl
  | _ => rfl
def rsLK (R : Operand → (Operand → β) → β) (xs : List Operand) : (List Operand → β) → β :=
  List.rec (motive := fun _ => (List Operand → β) → β) (fun k => k []) (fun x _ ih k => R x fun x => ih fun xs => k (x :: xs)) xs
theorem rsLK_eq {R : Operand → (Operand → β) → β} {r : Operand → Operand} (hR : ∀ x k, R x k = k (r x)) : ∀ (xs : List Operand) (k : List Operand → β), rsLK R xs k = k (xs.map r)
  | [], k => rfl
  | x :: xs, k => by
    show R x (fun x => rsLK R xs fun xs => k (x :: xs)) = _
    rw [hR, rsLK_eq hR xs]; rfl
def rsPK (R : Operand → (Operand → β) → β) (xs : List (Nat × Operand)) : (List (Nat × Operand) → β) → β :=
  List.rec (motive := fun _ => (List (Nat × Operand) → β) → β) (fun k => k []) (fun p _ ih k => Prod.rec (motive := fun _ => β) (fun i x => R x fun x => ih fun xs => k ((i, x) :: xs)) p) xs
theorem rsPK_eq {R : Operand → (Operand → β) → β} {r : Operand → Operand} (hR : ∀ x k, R x k = k (r x)) : ∀ (xs : List (Nat × Operand)) (k : List (Nat × Operand) → β), rsPK R xs k = k (xs.map fun p => (p.1, r p.2))
  | [], k => rfl
  | (i, x) :: xs, k => by
    show R x (fun x => rsPK R xs fun xs => k ((i, x) :: xs)) = _
    rw [hR, rsPK_eq hR xs]; rfl
def rsOK (R : Operand → (Operand → β) → β) (x : Option Operand) (k : Option Operand → β) : β :=
  Option.rec (motive := fun _ => β) (k none) (fun x => R x fun x => k (some x)) x
theorem rsOK_eq {R : Operand → (Operand → β) → β} {r : Operand → Operand} (hR : ∀ x k, R x k = k (r x)) (x : Option Operand) (k : Option Operand → β) : rsOK R x k = k (x.map r) := by
  cases x with
  | none => rfl
  | some x => exact hR x _
def renCK (R : Operand → (Operand → β) → β) (c : Call) (k : Op → β) : β :=
  Call.rec (motive := fun _ => β) (fun cal args ts => rsLK R args.toList fun xs =>
    Callee.rec (motive := fun _ => β) (fun f => R f fun f => k (.call ⟨.value f, ⟨xs⟩, ts⟩)) (fun r m => k (.call ⟨.invoke r m, ⟨xs⟩, ts⟩)) (fun b => k (.call ⟨.builtin b, ⟨xs⟩, ts⟩)) cal) c
def renK (R : Operand → (Operand → β) → β) (o : Op) (k : Op → β) : β :=
  Op.rec (motive := fun _ => β) (fun x => R x fun x => k (.move x)) (fun x => R x fun x => k (.assign x)) (fun c a b => R c fun c => R a fun a => R b fun b => k (.pick c a b)) (fun t => k (.alloc t)) (fun t x => R x fun x => k (.box t x))
    (fun t ps => rsPK R ps.toList fun ps => k (.build t ⟨ps⟩)) (fun t n ps => rsPK R ps.toList fun ps => k (.buildSlice t n ⟨ps⟩)) (fun t m i x => R m fun m => R i fun i => R x fun x => k (.insert t m i x))
    (fun t a => R a fun a => k (.load t a)) (fun t a x => R a fun a => R x fun x => k (.store t a x)) (fun _ => k (.ready 0)) (fun _ => k (.ready 0)) (fun x => R x fun x => k (.nilCheck x))
    (fun op t x y yt => R x fun x => R y fun y => k (.binOp op t x y yt)) (fun op t x => R x fun x => k (.unOp op t x)) (fun s d x => R x fun x => k (.convert s d x)) (fun _ _ => k (.ready 0)) (fun t x => R x fun x => k (.makeInterface t x))
    (fun fn first cap => rsLK R first.toList fun first => rsLK R cap.toList fun cap => k (.makeFunc fn ⟨first⟩ ⟨cap⟩)) (fun t r => Option.rec (motive := fun _ => β) (k (.makeMap t none)) (fun _ => k (.ready 0)) r) (fun _ _ => k (.ready 0))
    (fun t x y => R x fun x => R y fun y => k (.makeSlice t x y)) (fun t x lo hi mx => R x fun x => rsOK R lo fun lo => rsOK R hi fun hi => rsOK R mx fun mx => k (.slice t x lo hi mx))
    (fun s x f => R x fun x => k (.fieldAddr s x f)) (fun t x f => R x fun x => k (.field t x f)) (fun t x i => R x fun x => R i fun i => k (.indexAddr t x i)) (fun t x i => R x fun x => R i fun i => k (.index t x i))
    (fun t m i ok => R m fun m => R i fun i => k (.lookup t m i ok)) (fun t m i x => R m fun m => R i fun i => R x fun x => k (.mapUpdate t m i x)) (fun _ _ _ => k (.ready 0)) (fun _ _ _ _ => k (.ready 0)) (fun _ _ => k (.ready 0)) (fun _ _ => k (.ready 0)) (fun _ => k (.ready 0))
    (fun _ _ _ _ => k (.ready 0)) (fun x i => R x fun x => k (.extract x i)) (fun c => renCK R c k) (fun _ => k (.ready 0)) (fun _ => k (.ready 0)) (fun _ => k (.ready 0)) (fun _ _ => k (.ready 0)) (fun _ _ _ => k (.ready 0)) (fun _ _ => k (.ready 0)) o
theorem renK_eq {R : Operand → (Operand → β) → β} {r : Operand → Operand} (hR : ∀ x k, R x k = k (r x)) (o : Op) (k : Op → β) : renK R o k = k (ren r o) := by
  cases o with
  | build t ps =>
    show rsPK R ps.toList (fun ps => k (.build t ⟨ps⟩)) = _
    rw [rsPK_eq hR]; rfl
  | buildSlice t n ps =>
    show rsPK R ps.toList (fun ps => k (.buildSlice t n ⟨ps⟩)) = _
    rw [rsPK_eq hR]; rfl
  | makeFunc fn first cap =>
    show (rsLK R first.toList fun first => rsLK R cap.toList fun cap => k (.makeFunc fn ⟨first⟩ ⟨cap⟩)) = _
    rw [rsLK_eq hR, rsLK_eq hR]; rfl
  | makeMap t x => cases x <;> rfl
  | slice t x lo hi mx =>
    show (R x fun x => rsOK R lo fun lo => rsOK R hi fun hi => rsOK R mx fun mx => k (.slice t x lo hi mx)) = _
    rw [hR, rsOK_eq hR, rsOK_eq hR, rsOK_eq hR]; rfl
  | call c =>
    obtain ⟨cal, args, ts⟩ := c
    show (rsLK R args.toList fun xs => Callee.rec (motive := fun _ => β) (fun f => R f fun f => k (.call ⟨.value f, ⟨xs⟩, ts⟩)) (fun r m => k (.call ⟨.invoke r m, ⟨xs⟩, ts⟩)) (fun b => k (.call ⟨.builtin b, ⟨xs⟩, ts⟩)) cal) = _
    rw [rsLK_eq hR]
    cases cal with
    | value f => show R f _ = _; rw [hR]; rfl
    | _ => rfl
  | move x => show R x _ = _; rw [hR]; rfl
  | assign x => show R x _ = _; rw [hR]; rfl
  | pick c a b => show (R c fun c => R a fun a => R b fun b => k (.pick c a b)) = _; rw [hR, hR, hR]; rfl
  | box t x => show R x _ = _; rw [hR]; rfl
  | insert t m i x => show (R m fun m => R i fun i => R x fun x => k (.insert t m i x)) = _; rw [hR, hR, hR]; rfl
  | load t a => show R a _ = _; rw [hR]; rfl
  | store t a x => show (R a fun a => R x fun x => k (.store t a x)) = _; rw [hR, hR]; rfl
  | nilCheck x => show R x _ = _; rw [hR]; rfl
  | binOp op t x y yt => show (R x fun x => R y fun y => k (.binOp op t x y yt)) = _; rw [hR, hR]; rfl
  | unOp op t x => show R x _ = _; rw [hR]; rfl
  | convert s d x => show R x _ = _; rw [hR]; rfl
  | makeInterface t x => show R x _ = _; rw [hR]; rfl
  | makeSlice t x y => show (R x fun x => R y fun y => k (.makeSlice t x y)) = _; rw [hR, hR]; rfl
  | fieldAddr s x f => show R x _ = _; rw [hR]; rfl
  | field t x f => show R x _ = _; rw [hR]; rfl
  | indexAddr t x i => show (R x fun x => R i fun i => k (.indexAddr t x i)) = _; rw [hR, hR]; rfl
  | index t x i => show (R x fun x => R i fun i => k (.index t x i)) = _; rw [hR, hR]; rfl
  | lookup t m i ok => show (R m fun m => R i fun i => k (.lookup t m i ok)) = _; rw [hR, hR]; rfl
  | mapUpdate t m i x => show (R m fun m => R i fun i => R x fun x => k (.mapUpdate t m i x)) = _; rw [hR, hR, hR]; rfl
  | extract x i => show R x _ = _; rw [hR]; rfl
  | _ => rfl
def bR (b : Bool) (y n : β) : β := Bool.rec (motive := fun _ => β) n y b
theorem bR_eq (b : Bool) (y n : β) : bR b y n = if b = true then y else n := by cases b <;> rfl
def freeK (ρ : List (Tmp × Nat)) (km : Nat) (o : Oper) (y : Tmp → Nat → β) (n : β) : β :=
  match o.guard, o.dst, o.op with
  | none, some d, .move (.tmp t) => locK ρ km t (fun p => y d p) n
  | none, some d, .assign (.tmp t) => locK ρ km t (fun p => y d p) n
  | _, _, _ => n
theorem freeK_eq {ρ : List (Tmp × Nat)} {km : Nat} (hk : km = keyM ρ) (o : Oper) (y : Tmp → Nat → β) (n : β) : freeK ρ km o y n = match freeMove ρ o with
    | some (d, p) => y d p
    | none => n := by
  obtain ⟨dst, op, ty, pos, after, gd⟩ := o
  unfold freeK freeMove
  cases gd with
  | some g => cases dst <;> cases op <;> rfl
  | none =>
    cases dst with
    | none => cases op <;> rfl
    | some d =>
      cases op with
      | move x =>
        cases x with
        | tmp t => simp only [locK_eq hk, srcOf]; cases findR ρ t <;> rfl
        | _ => rfl
      | assign x =>
        cases x with
        | tmp t => simp only [locK_eq hk, srcOf]; cases findR ρ t <;> rfl
        | _ => rfl
      | _ => rfl
def guardK (all : Array Oper) (R : Operand → (Operand → β) → β) (g : Option (Nat × Bool)) (k : Option (Operand × Bool) → β) (f : β) : β :=
  match g with
  | none => k none
  | some (j, w) => match (all[j]?).bind (·.dst) with
    | some d => R (.tmp d) fun x => bR w (k (some (x, true))) (k (some (x, false)))
    | none => f
theorem guardK_eq (all : Array Oper) {R : Operand → (Operand → β) → β} {ρ : List (Tmp × Nat)} {c : Nat} (hR : ∀ x k, R x k = k (resv ρ c x)) (g : Option (Nat × Bool)) (k : Option (Operand × Bool) → β) (f : β) : guardK all R g k f = match guardOf all ρ c g with
    | some g => k g
    | none => f := by
  cases g with
  | none => rfl
  | some p =>
    obtain ⟨j, w⟩ := p
    simp only [guardK, guardOf]
    cases (all[j]?).bind (·.dst) with
    | none => rfl
    | some d => simp only [hR, bR_eq]; cases w <;> rfl
def itemK (ρ : List (Tmp × Nat)) (km : Nat) (R : Operand → (Operand → β) → β) (o : Op) (g : Option (Operand × Bool)) (k : LI → β) : β :=
  match o, g with
  | .move (.tmp t), none => locK ρ km t (fun _ => renK R o fun o => k (.run o none)) (k (.get t))
  | o, g => renK R o fun o => k (.run o g)
theorem itemK_eq {ρ : List (Tmp × Nat)} {km : Nat} (hk : km = keyM ρ) {R : Operand → (Operand → β) → β} {c : Nat} (hR : ∀ x k, R x k = k (resv ρ c x)) (o : Op) (g : Option (Operand × Bool)) (k : LI → β) : itemK ρ km R o g k = k (match o, g with
      | .move (.tmp t), none => if (findR ρ t).isNone then .get t else .run (ren (resv ρ c) o) g
      | _, _ => .run (ren (resv ρ c) o) g) := by
  unfold itemK
  split
  · rename_i t
    rw [locK_eq hk, renK_eq hR]
    cases findR ρ t <;> rfl
  · rw [renK_eq hR]
def compK (n : Nat) (all : Array Oper) (l : List Oper) : List (Tmp × Nat) → Nat → Nat → (List LI → List (Tmp × Nat) → Nat → β) → β → β :=
  List.rec (motive := fun _ => List (Tmp × Nat) → Nat → Nat → (List LI → List (Tmp × Nat) → Nat → β) → β → β) (fun ρ _ c k _ => k [] ρ c) (fun o _ ih ρ km c k f =>
    bR (dOk n c o) (freeK ρ km o (fun d p => fN (km ||| 2 ^ d) fun km => ih ((d, p) :: ρ) km c k f)
      (guardK all (rsK ρ km c) o.guard (fun g => itemK ρ km (rsK ρ km c) o.op g fun i => fN (Nat.succ c) fun c1 =>
        match o.dst with
        | some d => fN (km ||| 2 ^ d) fun km => ih ((d, c) :: ρ) km c1 (fun is => k (i :: is)) f
        | none => ih ρ km c1 (fun is => k (i :: is)) f) f)) f) l
theorem compK_eq (n : Nat) (all : Array Oper) : ∀ (l : List Oper) (ρ : List (Tmp × Nat)) (km c : Nat) (k : List LI → List (Tmp × Nat) → Nat → β) (f : β), km = keyM ρ → compK n all l ρ km c k f = match comp n all l ρ c with
    | some (is, ρ', c') => k is ρ' c'
    | none => f
  | [], ρ, km, c, k, f, hk => rfl
  | o :: os, ρ, km, c, k, f, hk => by
    show bR (dOk n c o) (freeK ρ km o (fun d p => fN (km ||| 2 ^ d) fun km => compK n all os ((d, p) :: ρ) km c k f)
      (guardK all (rsK ρ km c) o.guard (fun g => itemK ρ km (rsK ρ km c) o.op g fun i => fN (Nat.succ c) fun c1 =>
        match o.dst with
        | some d => fN (km ||| 2 ^ d) fun km => compK n all os ((d, c) :: ρ) km c1 (fun is => k (i :: is)) f
        | none => compK n all os ρ km c1 (fun is => k (i :: is)) f) f)) f = _
    have hR : ∀ x (k : Operand → β), rsK ρ km c x k = k (resv ρ c x) := fun x k => rsK_eq hk c x k
    rw [bR_eq]
    simp only [comp]
    split
    · rw [freeK_eq hk]
      cases freeMove ρ o with
      | some dp =>
        obtain ⟨d, p⟩ := dp
        simp only [fN_eq]
        exact compK_eq n all os ((d, p) :: ρ) _ c k f (by rw [hk]; rfl)
      | none =>
        simp only
        rw [guardK_eq all hR]
        cases guardOf all ρ c o.guard with
        | none => rfl
        | some g =>
          simp only
          rw [itemK_eq hk hR, fN_eq]
          cases o.dst with
          | none =>
            simp only
            rw [compK_eq n all os ρ km (Nat.succ c) _ f hk]
            simp only [addR]
            cases comp n all os ρ (c + 1) with
            | none => rfl
            | some r => rfl
          | some d =>
            simp only [fN_eq]
            rw [compK_eq n all os ((d, c) :: ρ) _ (Nat.succ c) _ f (by rw [hk]; rfl)]
            simp only [addR]
            cases comp n all os ((d, c) :: ρ) (c + 1) with
            | none => rfl
            | some r => rfl
    · rfl
def outsK (live : Option Nat) (all : List (Tmp × Nat)) (c : Nat) (ρ : List (Tmp × Nat)) : (List (Tmp × Nat) → β) → β :=
  List.rec (motive := fun _ => (List (Tmp × Nat) → β) → β) (fun k => k []) (fun p _ ih k => Prod.rec (motive := fun _ => β) (fun d q => bR (isLive live d) (bR (isTop all d q) (fN (c - 1 - q) fun i => ih fun os => k ((d, i) :: os)) (ih k)) (ih k)) p) ρ
theorem outsK_eq (live : Option Nat) (all : List (Tmp × Nat)) (c : Nat) : ∀ (ρ : List (Tmp × Nat)) (k : List (Tmp × Nat) → β), outsK live all c ρ k = k (outsOf live all c ρ)
  | [], k => rfl
  | (d, q) :: ρ, k => by
    show bR (isLive live d) (bR (isTop all d q) (fN (c - 1 - q) fun i => outsK live all c ρ fun os => k ((d, i) :: os)) (outsK live all c ρ k)) (outsK live all c ρ k) = _
    simp only [bR_eq, fN_eq, outsK_eq live all c ρ, outsOf]
    cases isLive live d <;> cases isTop all d q <;> rfl
def fastK (n : Nat) (live : Option Nat) (all : Array Oper) (l : List Oper) : Option Plan :=
  compK n all l [] 0 0 (fun is ρ c => outsK live ρ c ρ fun outs => some (.fast is outs)) none
theorem fastK_eq (n : Nat) (live : Option Nat) (all : Array Oper) (l : List Oper) : fastK n live all l = fastOf n live all l := by
  unfold fastK fastOf
  rw [compK_eq n all l [] 0 0 _ _ rfl]
  cases comp n all l [] 0 with
  | none => rfl
  | some r => obtain ⟨is, ρ, c⟩ := r; simp only [outsK_eq]
def againK (V : Env) (n : Nat) (live : Option Nat) (ops : Array Oper) (l : List Oper) : Option Plan :=
  compK n ops l [] 0 0 (fun is ρ c => outsK live ρ c ρ fun outs => some (.again is outs c (chksAt V ops l c))) none
theorem againK_eq (V : Env) (n : Nat) (live : Option Nat) (ops : Array Oper) (l : List Oper) : againK V n live ops l = againOf V n live ops l := by
  unfold againK againOf
  rw [compK_eq n ops l [] 0 0 _ _ rfl]
  cases comp n ops l [] 0 with
  | none => rfl
  | some r => obtain ⟨is, ρ, c⟩ := r; simp only [outsK_eq]
def planN (V : Env) (n : Nat) (live : Option Nat) (ops : Array Oper) (draw : Bool) : Option Plan :=
  match draw with
  | false => fastK n live ops ops.toList
  | true => match planOf V ops with
    | some (false, l) => fastK n live ops l
    | some (true, l) => againK V n live ops l
    | none => none
theorem planN_eq (V : Env) (n : Nat) (live : Option Nat) (ops : Array Oper) (draw : Bool) : planN V n live ops draw = planL V n live ops draw := by
  cases draw with
  | false => exact fastK_eq n live ops ops.toList
  | true =>
    simp only [planN, planL]
    rcases planOf V ops with _ | ⟨b, l⟩
    · rfl
    · cases b with
      | false => exact fastK_eq n live ops l
      | true => exact againK_eq V n live ops l
end
end Go.Ev

/-
  EV, kernel, part Lf: prepared regions, code and functions, each handing on to the next; the whole is the abstract run.
-/
namespace Go.Ev
open Go.RowKit
noncomputable section
abbrev CallK := Tgt → List Value → AH → (Value → AH → KR) → KR
abbrev StK := PTree Value → AH → KR
def ovalK (V : Env) (T : PTree Value) (x : Operand) (k : Value → KR) : KR :=
  Operand.rec (motive := fun _ => KR) (fun t => getK none k T t) (fun v => ifK (constOk v) (k v) none) (fun g => ifK (Nat.blt g V.nG) (k (.pointer (some ⟨g, 0, none⟩))) none) (fun f => k (.func (.func f) #[] #[])) x
theorem ovalK_eq (V : Env) (T : PTree Value) (x : Operand) (k : Value → KR) : ovalK V T x k = (oval V.nG T x).bind k := by
  cases x with
  | tmp t => show getK none k T t = _; simp only [getK_eq, oval]; cases T.get t <;> rfl
  | const v => show ifK (constOk v) (k v) none = _; simp only [ifK_eq, oval]; split <;> rfl
  | global g => show ifK (Nat.blt g V.nG) (k (.pointer (some ⟨g, 0, none⟩))) none = _; simp only [ifK_eq, oval, Nat.blt_eq]; split <;> rfl
  | func f => rfl
def fetK (V : Env) (E : List Value) (T : PTree Value) : FtK := fun x k =>
  Operand.rec (motive := fun _ => KR) (fun t => ifK (Nat.blt t far) (nthK E t k) (getK none k T (t - far))) (fun v => ifK (constOk v) (k v) none) (fun g => ifK (Nat.blt g V.nG) (k (.pointer (some ⟨g, 0, none⟩))) none) (fun f => k (.func (.func f) #[] #[])) x
theorem fetK_eq (V : Env) (E : List Value) (T : PTree Value) : IsF (fetK V E T) (gL V.nG E T) := fun x k => by
  cases x with
  | tmp t =>
    show ifK (Nat.blt t far) (nthK E t k) (getK none k T (t - far)) = _
    simp only [ifK_eq, Nat.blt_eq, nthK_eq, getK_eq, gL]
    split
    · cases E[t]? <;> rfl
    · cases T.get (t - far) <;> rfl
  | const v => show ifK (constOk v) (k v) none = _; simp only [ifK_eq, gL, oval]; split <;> rfl
  | global g => show ifK (Nat.blt g V.nG) (k (.pointer (some ⟨g, 0, none⟩))) none = _; simp only [ifK_eq, gL, oval, Nat.blt_eq]; split <;> rfl
  | func f => rfl
variable (V : Env)
def noK : KOp := fun _ _ _ => none
def callOpK (call : CallK) (c : Call) : KOp := fun F H k =>
  Callee.rec (motive := fun _ => KR)
    (fun f => F f fun fv => fsK F c.args.toList fun vs => match fv with
      | .func (.func g) first cap => match V.F g with
        | some _ => forceL (first.toList ++ vs ++ cap.toList) fun vs => call (.fn g) vs H k
        | none => none
      | .func (.yield b) _ _ => call (.yld b) vs H k
      | _ => none)
    (fun _ _ => none)
    (fun b => fsK F c.args.toList fun vs => bltK V b c.argTypes.toList vs H k)
    c.callee
def evOpK (call : CallK) (o : Op) : KOp :=
  Op.rec (motive := fun _ => KOp) kMove kMove kPick (kAlloc V) (kBox) (kBuild V) (kBuildSlice V) (kMapUpdate V) (kLoad V) (kStore V)
    (fun _ => noK) (fun _ => noK) kNil (kBin V) (kUn V) (kConvert V) (fun _ _ => noK) (kIface V) kFunc kMakeMap (fun _ _ => noK) (kMakeSlice V) (kSlice V) (kFieldAddr V) (kField V)
    (kIndexAddr V) (kIndex V) (kLookup V) (kMapUpdate V) (fun _ _ _ => noK) (fun _ _ _ _ => noK) (fun _ _ => noK) (fun _ _ => noK) (fun _ => noK) (fun _ _ _ _ => noK) kExtract
    (callOpK V call) (fun _ => noK) (fun _ => noK) (fun _ => noK) (fun _ _ => noK) (fun _ _ _ => noK) (fun _ _ => noK) o
def IsK (ck : CallK) (c : CallFn) : Prop := ∀ t vs H k, ck t vs H k = bk (c t vs H) k
variable {V} {ck : CallK} {call : CallFn} {F : FtK} {g : Ft}
theorem evOpK_eq (hc : IsK ck call) (hF : IsF F g) (o : Op) (H : AH) (k : Value → AH → KR) : evOpK V ck o F H k = bk (evOpG V call g H o) k := by
  cases o with
  | move x => exact kMove_eq V x hF H k
  | assign x => exact kMove_eq V x hF H k
  | pick c a b => exact kPick_eq V c a b hF H k
  | alloc t => exact kAlloc_eq V t hF H k
  | box t x => exact kBox_eq V t x hF H k
  | build t ps => exact kBuild_eq V t ps hF H k
  | buildSlice t n ps => exact kBuildSlice_eq V t n ps hF H k
  | insert t m i x => exact kInsert_eq V t m i x hF H k
  | load t a => exact kLoad_eq V t a hF H k
  | store t a x => exact kStore_eq V t a x hF H k
  | nilCheck x => exact kNil_eq V x hF H k
  | binOp op t x y yt => exact kBin_eq V op t x y yt hF H k
  | unOp op t x => exact kUn_eq V op t x hF H k
  | convert s d x => exact kConvert_eq V s d x hF H k
  | makeInterface t x => exact kIface_eq V t x hF H k
  | makeFunc fn first cap => exact kFunc_eq V fn first cap hF H k
  | makeMap t r => exact kMakeMap_eq V t r hF H k
  | makeSlice t l c => exact kMakeSlice_eq V t l c hF H k
  | slice t x lo hi mx => exact kSlice_eq V t x lo hi mx hF H k
  | fieldAddr s x f => exact kFieldAddr_eq V s x f hF H k
  | field t x f => exact kField_eq V t x f hF H k
  | indexAddr t x i => exact kIndexAddr_eq V t x i hF H k
  | index t x i => exact kIndex_eq V t x i hF H k
  | lookup t m i ok => exact kLookup_eq V t m i ok hF H k
  | mapUpdate t m i x => exact kMapUpdate_eq V t m i x hF H k
  | extract x i => exact kExtract_eq V x i hF H k
  | call c =>
    obtain ⟨cal, args, ts⟩ := c
    cases cal with
    | value f =>
      show (F f fun fv => fsK F args.toList fun vs => match fv with
      | .func (.func g) first cap => match V.F g with
        | some _ => forceL (first.toList ++ vs ++ cap.toList) fun vs => ck (.fn g) vs H k
        | none => none
      | .func (.yield b) _ _ => ck (.yld b) vs H k
      | _ => none) = _
      simp only [hF _, fsK_eq hF, evOpG]
      cases g f with
      | none => rfl
      | some fv =>
        cases gvals g args.toList with
        | none =>
          cases fv with
          | func fn a b => cases fn <;> rfl
          | _ => rfl
        | some vs =>
          simp only [Option.bind_some]
          cases fv with
          | func fn a b =>
            cases fn with
            | func g =>
              simp only
              cases V.F g with
              | none => rfl
              | some _ => simp only [forceL_eq]; exact hc _ _ _ _
            | yield b => exact hc _ _ _ _
            | _ => rfl
          | _ => rfl
    | builtin b =>
      show (fsK F args.toList fun vs => bltK V b ts.toList vs H k) = _
      simp only [fsK_eq hF, evOpG, aopG]
      cases gvals g args.toList with
      | none => rfl
      | some vs => exact bltK_eq V b ts.toList vs H k
    | invoke r m => rfl
  | _ => rfl
def wantK (F : FtK) (gd : Option (Operand × Bool)) (y n : KR) : KR :=
  Option.rec (motive := fun _ => KR) y (fun p => F p.1 fun v => match v with
    | .bool b => ifK b (ifK p.2 y n) (ifK p.2 n y)
    | _ => n) gd
theorem wantK_eq (hF : IsF F g) (gd : Option (Operand × Bool)) (y n : KR) : wantK F gd y n = match wantL g gd with
    | some true => y
    | some false => n
    | none => none := by
  cases gd with
  | none => rfl
  | some p =>
    obtain ⟨x, w⟩ := p
    show F x (fun v => match v with
    | .bool b => ifK b (ifK w y n) (ifK w n y)
    | _ => n) = _
    rw [hF]
    simp only [wantL]
    cases g x with
    | none => rfl
    | some v =>
      cases v with
      | bool b => simp only [Option.bind_some, ifK_eq]; cases b <;> cases w <;> rfl
      | _ => rfl
def runLIK (V : Env) (ck : CallK) (is : List LI) : List Value → PTree Value → AH → (List Value → AH → KR) → KR :=
  List.rec (motive := fun _ => List Value → PTree Value → AH → (List Value → AH → KR) → KR) (fun E _ H k => k E H) (fun i _ ih E T H k =>
    LI.rec (motive := fun _ => KR) (fun t => getK none (fun v => ih (v :: E) T H k) T t)
      (fun o gd => wantK (fetK V E T) gd (evOpK V ck o (fetK V E T) H fun v H => ih (v :: E) T H k) (ih (undef :: E) T H k)) i) is
theorem runLIK_eq (hc : IsK ck call) : ∀ (is : List LI) (E : List Value) (T : PTree Value) (H : AH) (k : List Value → AH → KR), runLIK V ck is E T H k = (runLI V call is E T H).bind fun p => k p.1 p.2
  | [], E, T, H, k => rfl
  | .get t :: is, E, T, H, k => by
    show getK none (fun v => runLIK V ck is (v :: E) T H k) T t = _
    simp only [getK_eq, runLI]
    cases T.get t with
    | none => rfl
    | some v => exact runLIK_eq hc is (v :: E) T H k
  | .run o gd :: is, E, T, H, k => by
    show wantK (fetK V E T) gd (evOpK V ck o (fetK V E T) H fun v H => runLIK V ck is (v :: E) T H k) (runLIK V ck is (undef :: E) T H k) = _
    simp only [wantK_eq (fetK_eq V E T), evOpK_eq hc (fetK_eq V E T), runLI]
    cases wantL (gL V.nG E T) gd with
    | none => rfl
    | some b =>
      cases b with
      | true =>
        simp only
        cases evOpG V call (gL V.nG E T) H o with
        | none => rfl
        | some p => exact runLIK_eq hc is (p.1 :: E) T p.2 k
      | false => exact runLIK_eq hc is (undef :: E) T H k
def setOutsK (E : List Value) (os : List (Tmp × Nat)) : PTree Value → (PTree Value → KR) → KR :=
  List.rec (motive := fun _ => PTree Value → (PTree Value → KR) → KR) (fun T k => k T) (fun p _ ih T k => nthK E p.2 fun v => setTK T p.1 v fun T => ih T k) os
theorem setOutsK_eq (E : List Value) : ∀ (os : List (Tmp × Nat)) (T : PTree Value) (k : PTree Value → KR), setOutsK E os T k = (setOuts E os T).bind k
  | [], T, k => rfl
  | (d, i) :: os, T, k => by
    show nthK E i (fun v => setTK T d v fun T => setOutsK E os T k) = _
    simp only [nthK_eq, setTK_eq, setOutsK_eq E os, setOuts]
    cases E[i]? <;> rfl
def bT (r : Option (PTree Value × AH)) (k : StK) : KR := r.bind fun p => k p.1 p.2
def putT (n : Nat) (T : PTree Value) (d : Option Tmp) (v : Value) (k : PTree Value → KR) : KR :=
  match d with
  | none => k T
  | some d => ifK (Nat.blt d n) (setTK T d v k) none
theorem putT_eq (n : Nat) (T : PTree Value) (d : Option Tmp) (v : Value) (k : PTree Value → KR) : putT n T d v k = (put n T d v).bind k := by
  unfold putT put
  cases d with
  | none => rfl
  | some d => simp only [ifK_eq, Nat.blt_eq, setTK_eq]; split <;> rfl
def heapsLIK (V : Env) (ck : CallK) (is : List LI) : List Value → PTree Value → AH → (List Value → AH → List AH → KR) → KR :=
  List.rec (motive := fun _ => List Value → PTree Value → AH → (List Value → AH → List AH → KR) → KR) (fun E _ H k => k E H [H]) (fun i _ ih E T H k =>
    LI.rec (motive := fun _ => KR) (fun t => getK none (fun v => ih (v :: E) T H fun E' H' Hs => k E' H' (H :: Hs)) T t)
      (fun o gd => wantK (fetK V E T) gd (evOpK V ck o (fetK V E T) H fun v H1 => ih (v :: E) T H1 fun E' H' Hs => k E' H' (H :: Hs)) (ih (undef :: E) T H fun E' H' Hs => k E' H' (H :: Hs))) i) is
theorem heapsLIK_eq (hc : IsK ck call) : ∀ (is : List LI) (E : List Value) (T : PTree Value) (H : AH) (k : List Value → AH → List AH → KR), heapsLIK V ck is E T H k = (heapsLI V call is E T H).bind fun p => k p.1 p.2.1 p.2.2
  | [], E, T, H, k => rfl
  | .get t :: is, E, T, H, k => by
    show getK none (fun v => heapsLIK V ck is (v :: E) T H fun E' H' Hs => k E' H' (H :: Hs)) T t = _
    simp only [getK_eq, heapsLI]
    cases T.get t with
    | none => rfl
    | some v =>
      simp only [heapsLIK_eq hc is]
      cases heapsLI V call is (v :: E) T H <;> rfl
  | .run o gd :: is, E, T, H, k => by
    show wantK (fetK V E T) gd (evOpK V ck o (fetK V E T) H fun v H1 => heapsLIK V ck is (v :: E) T H1 fun E' H' Hs => k E' H' (H :: Hs)) (heapsLIK V ck is (undef :: E) T H fun E' H' Hs => k E' H' (H :: Hs)) = _
    simp only [wantK_eq (fetK_eq V E T), evOpK_eq hc (fetK_eq V E T), heapsLI, heapsLIK_eq hc is]
    cases wantL (gL V.nG E T) gd with
    | none => rfl
    | some b =>
      cases b with
      | true =>
        simp only
        cases evOpG V call (gL V.nG E T) H o with
        | none => rfl
        | some p =>
          simp only [bk, Option.bind_some]
          cases heapsLI V call is (p.1 :: E) T p.2 <;> rfl
      | false =>
        simp only
        cases heapsLI V call is (undef :: E) T H <;> rfl
def regionK (V : Env) (ck : CallK) (n : Nat) (live : Option Nat) (ops : Array Oper) (d : Bool) (T : PTree Value) (H : AH) (k : StK) : KR :=
  match planN V n live ops d with
  | some (.fast is outs) => runLIK V ck is [] T H fun E H' => setOutsK E outs T fun T' => k T' H'
  | some (.again is outs c chks) => heapsLIK V ck is [] T H fun E H' Hs => ifK (chks.all (chkOk V T E c Hs)) (setOutsK E outs T fun T' => k T' H') none
  | none => none
theorem regionK_eq (hc : IsK ck call) (n : Nat) (live : Option Nat) (ops : Array Oper) (d : Bool) (T : PTree Value) (H : AH) (k : StK) : regionK V ck n live ops d T H k = bT (regionL V call n live ops d T H) k := by
  unfold regionK regionL
  rw [planN_eq]
  rcases planL V n live ops d with _ | p
  · rfl
  · cases p with
    | fast is outs =>
      simp only [runLIK_eq hc, setOutsK_eq]
      cases runLI V call is [] T H with
      | none => rfl
      | some p =>
        obtain ⟨E, H'⟩ := p
        simp only [Option.bind_some]
        cases setOuts E outs T <;> rfl
    | again is outs c chks =>
      simp only [heapsLIK_eq hc, setOutsK_eq, ifK_eq]
      cases heapsLI V call is [] T H with
      | none => rfl
      | some p =>
        obtain ⟨E, H', Hs⟩ := p
        simp only [Option.bind_some]
        split
        · cases setOuts E outs T <;> rfl
        · rfl
def exK (kn : StK) (kx : Nat → StK) (kr : StK) (e : Ex) : StK :=
  match e with
  | .normal => kn
  | .exit id => kx id
  | .ret => kr
def bE (r : Option (Ex × PTree Value × AH)) (kn : StK) (kx : Nat → StK) (kr : StK) : KR := r.bind fun p => exK kn kx kr p.1 p.2.1 p.2.2
def loopEndK (b : Nat) (T : PTree Value) (H : AH) (kn : StK) (kx : Nat → StK) (kr : StK) : KR :=
  objK H b fun o => match o with
    | .loop st pend _ _ _ _ _ => match st with
      | .busy => none
      | _ => match ofJump pend with
        | some e => putK H b .dead fun H => exK kn kx kr e T H
        | none => none
    | _ => none
theorem loopEndK_eq (b : Nat) (T : PTree Value) (H : AH) (kn : StK) (kx : Nat → StK) (kr : StK) : loopEndK b T H kn kx kr = bE (loopEnd b T H) kn kx kr := by
  unfold loopEndK loopEnd
  rw [objK_eq]
  cases H.obj b with
  | loop st pend n T' ps x y =>
    simp only [putK_eq]
    cases st <;> (try rfl) <;> simp only [reduceCtorEq, if_false] <;> cases ofJump pend <;> rfl
  | _ => rfl
abbrev CodeK := PTree Value → AH → StK → (Nat → StK) → StK → KR
def codeK (V : Env) (ck : CallK) (live : Option Nat) (ro : Option Nat) (n lf : Nat) (c : Code) : CodeK :=
  Code.rec (motive := fun _ => CodeK)
    (fun T H kn _ _ => kn T H)
    (fun _ ops d T H kn _ _ => regionK V ck n live ops d T H kn)
    (fun _ _ iha ihb T H kn kx kr => iha T H (fun T H => ihb T H kn kx kr) kx kr)
    (fun x _ _ iha ihb T H kn kx kr => ovalK V T x fun v => match v with
      | .bool b => ifK b (iha T H kn kx kr) (ihb T H kn kx kr)
      | _ => none)
    (fun id _ ih T H kn kx kr => ih T H kn (fun id' T H => ifK (Nat.beq id' id) (kn T H) (kx id' T H)) kr)
    (fun _ ih T H _ kx kr => Nat.rec (motive := fun _ => StK) (fun _ _ => none) (fun _ rest T H => ih T H rest kx kr) lf T H)
    (fun f ps x y _ _ T H kn kx kr => ifK (roAlive H ro) (ovalK V T f fun v => match v with
      | .func (.func g) first cap => match V.F g with
        | some _ => allocK H (.loop .ready none n T ps x y) fun b H => forceL (first.toList ++ [.func (.yield b) #[] #[]] ++ cap.toList) fun vs => ck (.fn g) vs H fun _ H => loopEndK b T H kn kx kr
        | none => none
      | _ => none) none)
    (fun id T H _ kx _ => kx id T H)
    (fun _ _ _ _ _ _ _ => none)
    (fun _ T H kn _ _ => kn T H)
    (fun _ _ _ _ _ _ => none)
    (fun T H _ _ kr => kr T H)
    (fun _ _ _ _ _ _ => none)
    c
theorem loopK_eq {f : CodeK} {g : PTree Value → AH → Option (Ex × PTree Value × AH)} (hf : ∀ T H kn kx kr, f T H kn kx kr = bE (g T H) kn kx kr) (kn : StK) (kx : Nat → StK) (kr : StK) : ∀ (lf : Nat) (T : PTree Value) (H : AH),
    Nat.rec (motive := fun _ => StK) (fun _ _ => none) (fun _ rest T H => f T H rest kx kr) lf T H = bE (loopN g lf T H) kn kx kr
  | 0, T, H => rfl
  | lf + 1, T, H => by
    show f T H (Nat.rec (motive := fun _ => StK) (fun _ _ => none) (fun _ rest T H => f T H rest kx kr) lf) kx kr = _
    rw [hf]
    simp only [loopN]
    cases hg : g T H with
    | none => rfl
    | some p =>
      obtain ⟨e, T', H'⟩ := p
      cases e with
      | normal => exact loopK_eq hf kn kx kr lf T' H'
      | exit id => rfl
      | ret => rfl
theorem codeK_eq (hc : IsK ck call) (live : Option Nat) (ro : Option Nat) (n lf : Nat) : ∀ (c : Code) (T : PTree Value) (H : AH) (kn : StK) (kx : Nat → StK) (kr : StK), codeK V ck live ro n lf c T H kn kx kr = bE (codeL V call live ro n lf c T H) kn kx kr := by
  intro c
  induction c with
  | skip => intros; simp only [codeL]; rfl
  | region id ops d =>
    intro T H kn kx kr
    show regionK V ck n live ops d T H kn = _
    rw [regionK_eq hc]
    simp only [codeL]
    cases regionL V call n live ops d T H <;> rfl
  | seq a b iha ihb =>
    intro T H kn kx kr
    show codeK V ck live ro n lf a T H (fun T H => codeK V ck live ro n lf b T H kn kx kr) kx kr = _
    rw [iha]
    simp only [codeL]
    cases codeL V call live ro n lf a T H with
    | none => rfl
    | some p =>
      obtain ⟨e, T', H'⟩ := p
      cases e with
      | normal => exact ihb T' H' kn kx kr
      | exit id => rfl
      | ret => rfl
  | cond x a b iha ihb =>
    intro T H kn kx kr
    show (ovalK V T x fun v => match v with
      | .bool b' => ifK b' (codeK V ck live ro n lf a T H kn kx kr) (codeK V ck live ro n lf b T H kn kx kr)
      | _ => none) = _
    rw [ovalK_eq]
    simp only [codeL]
    cases oval V.nG T x with
    | none => rfl
    | some v =>
      cases v with
      | bool t =>
        simp only [Option.bind_some, ifK_eq]
        cases t with
        | true => simp only [if_true]; exact iha T H kn kx kr
        | false => simp only [Bool.false_eq_true, if_false]; exact ihb T H kn kx kr
      | _ => rfl
  | block id c ih =>
    intro T H kn kx kr
    show codeK V ck live ro n lf c T H kn (fun id' T H => ifK (Nat.beq id' id) (kn T H) (kx id' T H)) kr = _
    rw [ih]
    simp only [codeL]
    cases codeL V call live ro n lf c T H with
    | none => rfl
    | some p =>
      obtain ⟨e, T', H'⟩ := p
      cases e with
      | normal => rfl
      | exit id' =>
        show ifK (Nat.beq id' id) (kn T' H') (kx id' T' H') = _
        simp only [ifK_eq, Nat.beq_eq]
        split <;> rfl
      | ret => rfl
  | loop c ih =>
    intro T H kn kx kr
    show Nat.rec (motive := fun _ => StK) (fun _ _ => none) (fun _ rest T H => codeK V ck live ro n lf c T H rest kx kr) lf T H = _
    simp only [codeL]
    exact loopK_eq ih kn kx kr lf T H
  | rangeFunc f ps x y ihx ihy =>
    intro T H kn kx kr
    show ifK (roAlive H ro) (ovalK V T f fun v => match v with
      | .func (.func g) first cap => match V.F g with
        | some _ => allocK H (.loop .ready none n T ps x y) fun b H => forceL (first.toList ++ [.func (.yield b) #[] #[]] ++ cap.toList) fun vs => ck (.fn g) vs H fun _ H => loopEndK b T H kn kx kr
        | none => none
      | _ => none) none = _
    simp only [codeL, evC, ifK_eq, ovalK_eq]
    cases roAlive H ro with
    | false => rfl
    | true =>
      simp only [if_true]
      cases oval V.nG T f with
      | none => rfl
      | some v =>
        cases v with
        | func fn first cap =>
          cases fn with
          | func g =>
            simp only [Option.bind_some]
            cases V.F g with
            | none => rfl
            | some _ =>
              simp only [allocK_eq, forceL_eq]
              rw [hc]
              cases call (.fn g) (first.toList ++ [.func (.yield H.next) #[] #[]] ++ cap.toList) (H.alloc (.loop .ready none n T ps x y)) with
              | none => rfl
              | some p => exact loopEndK_eq _ _ _ _ _ _
          | _ => rfl
        | _ => rfl
  | exit id => intros; simp only [codeL]; rfl
  | scope c ih => intros; simp only [codeL]; rfl
  | label l => intros; simp only [codeL]; rfl
  | goto l => intros; simp only [codeL]; rfl
  | ret => intros; simp only [codeL]; rfl
  | refuse w => intros; simp only [codeL]; rfl
def initK (vs : List Value) : Nat → PTree Value → (PTree Value → KR) → KR :=
  List.rec (motive := fun _ => Nat → PTree Value → (PTree Value → KR) → KR) (fun _ T k => k T) (fun v _ ih i T k => setTK T i v fun T => forceN (Nat.succ i) fun i => ih i T k) vs
theorem initK_eq : ∀ (vs : List Value) (i : Nat) (T : PTree Value) (k : PTree Value → KR), initK vs i T k = k (initT vs i T)
  | [], i, T, k => rfl
  | v :: vs, i, T, k => by
    show setTK T i v (fun T => forceN (Nat.succ i) fun i => initK vs i T k) = _
    rw [setTK_eq, forceN_eq, initK_eq vs]; rfl
def resK (V : Env) (T : PTree Value) (H : AH) (rs : List ResultVar) : (List Value → KR) → KR :=
  List.rec (motive := fun _ => (List Value → KR) → KR) (fun k => k []) (fun r _ ih k => match r with
    | .tmp t => getK none (fun v => ih fun vs => k (v :: vs)) T t
    | .cell a t => getK none (fun p => match aLoad V.E H t p with
      | some v => forceV v fun v => ih fun vs => k (v :: vs)
      | none => none) T a) rs
theorem resK_eq (T : PTree Value) (H : AH) : ∀ (rs : List ResultVar) (k : List Value → KR), resK V T H rs k = (aResults V T H rs).bind k
  | [], k => rfl
  | .tmp t :: rs, k => by
    show getK none (fun v => resK V T H rs fun vs => k (v :: vs)) T t = _
    rw [getK_eq]
    simp only [aResults, resK_eq T H rs]
    cases T.get t with
    | none => cases aResults V T H rs <;> rfl
    | some v => cases aResults V T H rs <;> rfl
  | .cell a t :: rs, k => by
    show getK none (fun p => match aLoad V.E H t p with
      | some v => forceV v fun v => resK V T H rs fun vs => k (v :: vs)
      | none => none) T a = _
    rw [getK_eq]
    simp only [aResults]
    cases T.get a with
    | none => rfl
    | some p =>
      simp only
      cases aLoad V.E H t p with
      | none => rfl
      | some v =>
        simp only [forceV_eq, resK_eq T H rs]
        cases aResults V T H rs <;> rfl
def setPsK (n : Nat) (ts : List Tmp) : List Value → PTree Value → (PTree Value → KR) → KR :=
  List.rec (motive := fun _ => List Value → PTree Value → (PTree Value → KR) → KR) (fun vs T k => match vs with
    | [] => k T
    | _ => none) (fun t _ ih vs T k => match vs with
    | v :: vs => ifK (Nat.blt t n) (setTK T t v fun T => ih vs T k) none
    | [] => none) ts
theorem setPsK_eq (n : Nat) : ∀ (ts : List Tmp) (vs : List Value) (T : PTree Value) (k : PTree Value → KR), setPsK n ts vs T k = (setPs n ts vs T).bind k
  | [], [], T, k => rfl
  | [], _ :: _, T, k => rfl
  | _ :: _, [], T, k => rfl
  | t :: ts, v :: vs, T, k => by
    show ifK (Nat.blt t n) (setTK T t v fun T => setPsK n ts vs T k) none = _
    simp only [ifK_eq, Nat.blt_eq, setTK_eq, setPsK_eq n ts, setPs]
    split <;> rfl
def jumpOf (e : Ex) : Option Code := e.jump
def roundK (V : Env) (ck : CallK) (lf : Nat) (b : Nat) (vs : List Value) (H : AH) (k : Value → AH → KR) : KR :=
  objK H b fun o => match o with
    | .loop _ _ n T ps x y => setPsK n ps.toList vs T fun T1 => codeK V ck none (some b) n lf x T1 H (fun T2 H2 => objK H2 b fun o2 => match o2 with
        | .loop .ready pe n' T' ps' x' y' => putK H2 b (.loop .busy pe n' T' ps' x' y') fun H3 =>
          let out : Bool → Option Code → StK := fun go j _ H4 => objK H4 b fun o4 => match o4 with
            | .loop _ _ n'' T'' ps'' x'' y'' => putK H4 b (.loop (if go then .ready else .done) j n'' T'' ps'' x'' y'') fun H5 => k (.bool go) H5
            | _ => none
          codeK V ck none (some b) n lf y T2 H3 (out true none) (fun id => out false (some (.exit id))) (out false (some .ret))
        | _ => none) (fun _ _ _ => none) (fun _ _ => none)
    | _ => none
theorem roundK_eq (hc : IsK ck call) (lf b : Nat) (vs : List Value) (H : AH) (k : Value → AH → KR) : roundK V ck lf b vs H k = bk (roundL V call lf b vs H) k := by
  unfold roundK roundL
  rw [objK_eq]
  cases H.obj b with
  | loop st pe n T ps x y =>
    simp only [setPsK_eq]
    cases setPs n ps.toList vs T with
    | none => rfl
    | some T1 =>
      simp only [Option.bind_some, codeK_eq hc]
      cases codeL V call none (some b) n lf x T1 H with
      | none => rfl
      | some p =>
        obtain ⟨e, T2, H2⟩ := p
        cases e with
        | normal =>
          simp only [bE, Option.bind_some, exK, objK_eq]
          cases H2.obj b with
          | loop st2 pe2 n2 T' ps2 x2 y2 =>
            cases st2 with
            | ready =>
              simp only [putK_eq]
              cases codeL V call none (some b) n lf y T2 (H2.put b (.loop .busy pe2 n2 T' ps2 x2 y2)) with
              | none => rfl
              | some q =>
                obtain ⟨e, T4, H4⟩ := q
                simp only [Option.bind_some]
                cases e with
                | normal =>
                  simp only [exK]
                  cases H4.obj b <;> rfl
                | exit id =>
                  simp only [exK]
                  cases H4.obj b <;> rfl
                | ret =>
                  simp only [exK]
                  cases H4.obj b <;> rfl
            | _ => rfl
          | _ => rfl
        | exit id => rfl
        | ret => rfl
  | _ => rfl
def outR (vs : List Value) (H : AH) (k : Value → AH → KR) : KR :=
  match vs with
  | [v] => k v H
  | vs => k (.tuple ⟨vs⟩) H
theorem outR_eq (vs : List Value) (H : AH) (k : Value → AH → KR) : outR vs H k = k (resOf vs) H := by
  rcases vs with _ | ⟨v, _ | ⟨u, vs⟩⟩ <;> rfl
def fnK (V : Env) (lf : Nat) (d : Nat) : CallK :=
  Nat.rec (motive := fun _ => CallK) (fun _ _ _ _ => none) (fun _ ih t vs H k => match t with
    | .fn f => match V.F f with
      | some fn => match fn.body with
        | some c => ifK (Nat.ble vs.length fn.ntmps && (List.range vs.length).all (isLive (some (liveOf fn c)))) (initK vs 0 .leaf fun T => codeK V ih (some (liveOf fn c)) none fn.ntmps lf c T H (fun T H => resK V T H fn.results.toList fun vs => outR vs H k) (fun _ _ _ => none) (fun T H => resK V T H fn.results.toList fun vs => outR vs H k)) none
        | none => none
      | none => none
    | .yld b => roundK V ih lf b vs H k) d
theorem fnK_eq (lf : Nat) : ∀ d, IsK (fnK V lf d) (fL V lf d)
  | 0 => fun t vs H k => by simp only [fL]; rfl
  | d + 1 => fun t vs H k => by
    have ih := fnK_eq lf d
    cases t with
    | fn f =>
      show (match V.F f with
      | some fn => match fn.body with
        | some c => ifK (Nat.ble vs.length fn.ntmps && (List.range vs.length).all (isLive (some (liveOf fn c)))) (initK vs 0 .leaf fun T => codeK V (fnK V lf d) (some (liveOf fn c)) none fn.ntmps lf c T H (fun T H => resK V T H fn.results.toList fun vs => outR vs H k) (fun _ _ _ => none) (fun T H => resK V T H fn.results.toList fun vs => outR vs H k)) none
        | none => none
      | none => none) = _
      simp only [fL]
      cases V.F f with
      | none => rfl
      | some fn =>
        simp only
        cases fn.body with
        | none => rfl
        | some c =>
          simp only [ifK_eq, Bool.and_eq_true, Nat.ble_eq, initK_eq, codeK_eq ih, resK_eq, outR_eq]
          split
          · cases codeL V (fL V lf d) (some (liveOf fn c)) none fn.ntmps lf c (initT vs 0 .leaf) H with
            | none => rfl
            | some p =>
              obtain ⟨e, T', H'⟩ := p
              cases e with
              | normal => simp only [bE, Option.bind_some, exK]; cases aResults V T' H' fn.results.toList <;> rfl
              | exit id => rfl
              | ret => simp only [bE, Option.bind_some, exK]; cases aResults V T' H' fn.results.toList <;> rfl
          · rfl
    | yld b =>
      show roundK V (fnK V lf d) lf b vs H k = _
      rw [roundK_eq ih]
      simp only [fL]
def startK (rows : List AObj) : Nat → PTree AObj → (PTree AObj → KR) → KR :=
  List.rec (motive := fun _ => Nat → PTree AObj → (PTree AObj → KR) → KR) (fun _ t k => k t) (fun o _ ih i t k => setTK t i o fun t => forceN (Nat.succ i) fun i => ih i t k) rows
theorem startK_eq : ∀ (rows : List AObj) (i : Nat) (t : PTree AObj) (k : PTree AObj → KR), startK rows i t k = k (startT rows i t)
  | [], i, t, k => rfl
  | o :: rows, i, t, k => by
    show setTK t i o (fun t => forceN (Nat.succ i) fun i => startK rows i t k) = _
    rw [setTK_eq, forceN_eq, startK_eq rows]; rfl
def runK (V : Env) (rows : List AObj) (lf d : Nat) (f : FuncId) : KR :=
  startK rows 0 .leaf fun t => forceN rows.length fun n => fnK V lf d (.fn f) [] ⟨t, n, .leaf⟩ fun v _ => some v
theorem runK_eq (rows : List AObj) (lf d : Nat) (f : FuncId) : runK V rows lf d f = (fL V lf d (.fn f) [] (startH rows)).map (·.1) := by
  unfold runK
  rw [startK_eq, forceN_eq, fnK_eq]
  show bk (fL V lf d (.fn f) [] (startH rows)) _ = _
  cases fL V lf d (.fn f) [] (startH rows) <;> rfl
theorem laid_callsK {P : Program} (hn : (P.funcs.toList.all fun fn => !(fn.name == "runtime.NumGoroutine")) = true) (hm : P.follows .mixedOrders = true) {rows : List AObj} {w : World} (hr : ∀ g o, rows[g]? = some o → RowIn w g o) {lf d : Nat} {f : FuncId} {v : Value} (hv : plain v = true)
    (h : runK (envOf P rows.length) rows lf d f = some v) : Calls P f #[] w fun e w' => e = .returned v ∧ Below w.heap.size w w' := by
  rw [runK_eq] at h
  obtain ⟨⟨v0, H'⟩, h1, h2⟩ := map_some h
  simp only at h2
  subst h2
  have hG : GOk (startE P rows) (envOf P rows.length).nG := fun g hg => by
    have hg' : g < rows.length := hg
    cases hs : startE P rows g with
    | some l => exact ⟨l, rfl, (startE_blk hs).2⟩
    | none =>
      unfold startE at hs
      rw [show rows[g]? = some rows[g] by simp [hg']] at hs
      split at hs <;> simp_all
  have := (fL_ok (V := envOf P rows.length) (fun t ti h => h) (fnOf_ok hn) hm lf d).fn f [] (startH rows) _ H' h1 w.heap.size (startE P rows) w [] hG (HRel.laid P w rows hr) .nil
  exact this.mono fun e w' ⟨v', ι', he, hr, hs⟩ => ⟨by rw [he, hr.plain_eq hv], hs.below⟩
end
end Go.Ev

/-
  EV, universal use: the run of a function with calls whose answers are known otherwise.
-/
namespace Go.Ev
open Go.RowKit
abbrev Orc := FuncId → List Value → AH → Option (Value × AH)
def OrcOk (V : Env) (O : Orc) : Prop := ∀ f vs H v H', O f vs H = some (v, H') → Sound V (.fn f) vs H v H'
variable {V : Env}
def fO (V : Env) (O : Orc) (lf : Nat) : Nat → CallFn
  | 0, _, _, _ => none
  | d + 1, .fn f, vs, H => match O f vs H with
    | some x => some x
    | none => match V.F f with
      | some fn => match fn.body with
        | some c => if vs.length ≤ fn.ntmps ∧ (List.range vs.length).all (isLive (some (liveOf fn c))) = true then
            match codeL V (fO V O lf d) (some (liveOf fn c)) none fn.ntmps lf c (initT vs 0 .leaf) H with
            | some (.normal, T, H') | some (.ret, T, H') => (aResults V T H' fn.results.toList).map fun vs => (resOf vs, H')
            | _ => none
          else none
        | none => none
      | none => none
  | d + 1, .yld b, vs, H => roundL V (fO V O lf d) lf b vs H
theorem fO_ok {O : Orc} (hO : OrcOk V O) (hE : TOk V.E V.P) (hF : FOk V.F V.P) (hm : V.P.follows .mixedOrders = true) (lf : Nat) : ∀ d, CallOk V (fO V O lf d)
  | 0 => ⟨fun f vs H v H' h => by simp [fO] at h, fun b vs H v H' h => by simp [fO] at h⟩
  | d + 1 => by
    have ih := fO_ok hO hE hF hm lf d
    refine CallOk.iff.2 fun t vs H v H' h => ?_
    cases t with
    | fn f =>
      simp only [fO] at h
      split at h
      · rename_i x hx
        cases h
        exact hO _ _ _ _ _ hx
      split at h
      · rename_i fn hfn
        split at h
        · rename_i c hb
          split at h
          · rename_i hlen
            have hdom : Dom (some (liveOf fn c)) (initT vs 0 .leaf) := fun t v hv => by
              rw [initT_get] at hv
              split at hv
              · rename_i ht
                have := hlen.2
                rw [List.all_eq_true] at this
                exact this t (List.mem_range.2 (by omega))
              · simp at hv
            have fin : ∀ (e : Ex) (T : PTree Value) (H1 : AH), (e = .normal ∨ e = .ret) → codeL V (fO V O lf d) (some (liveOf fn c)) none fn.ntmps lf c (initT vs 0 .leaf) H = some (e, T, H1) → (aResults V T H1 fn.results.toList).map (fun vs => (resOf vs, H1)) = some (v, H') → Sound V (.fn f) vs H v H' := fun e T H1 he hev hres => by
              obtain ⟨rs, hrs, hv⟩ := map_some hres
              simp only [Prod.mk.injEq] at hv
              obtain ⟨rfl, rfl⟩ := hv
              obtain ⟨hr, _⟩ := codeL_runs hE hF hm ih (some (liveOf fn c)) lf c hdom hev
              obtain ⟨v0, H0, hR, hS⟩ := Sound.fn (R := fun v0 H0 => v0 = resOf rs ∧ H0 = H1) hE hF hfn hb hlen.1 ⟨e, T, H1, hr, he, rs, hrs, rfl, rfl⟩
              obtain ⟨rfl, rfl⟩ := hR
              exact hS
            split at h
            · rename_i T H1 hev; exact fin .normal T H1 (.inl rfl) hev h
            · rename_i T H1 hev; exact fin .ret T H1 (.inr rfl) hev h
            · cases h
          · cases h
        · cases h
      · cases h
    | yld b =>
      simp only [fO] at h
      exact fun B0 ι w vs' l hG hR hL hb => roundL_ok hE hF hm ih lf h hG hR hL hb
end Go.Ev

/-
  EV, universal use, part a: what code does for sure, with all bounds great enough, from what is known of the temporaries.
-/
namespace Go.Ev
open Go.RowKit
variable {V : Env} {O : Orc} {live : Option Nat} {n : Nat}
abbrev SL := List (Nat × Value)
def look (l : SL) (t : Nat) : Option Value :=
  match l with
  | [] => none
  | (u, v) :: l => if u = t then some v else look l t
def Has (T : PTree Value) (l : SL) : Prop := ∀ t v, look l t = some v → T.get t = some v
def Lc (V : Env) (O : Orc) (f : FuncId) (vs : List Value) (H : AH) (v : Value) (H' : AH) : Prop := ∃ N, ∀ lf, N ≤ lf → ∀ d, N ≤ d → fO V O lf d (.fn f) vs H = some (v, H')
theorem Lc.det {f : FuncId} {vs : List Value} {H : AH} {v v' : Value} {H1 H2 : AH} (h : Lc V O f vs H v H1) (k : Lc V O f vs H v' H2) : v = v' ∧ H1 = H2 := by
  obtain ⟨N, h⟩ := h
  obtain ⟨M, k⟩ := k
  have := h (N + M) (by omega) (N + M) (by omega)
  rw [k (N + M) (by omega) (N + M) (by omega)] at this
  cases this; exact ⟨rfl, rfl⟩
def W (V : Env) (O : Orc) (live : Option Nat) (n : Nat) (c : Code) (l : SL) (H : AH) (Q : Ex → SL → AH → Prop) : Prop :=
  ∀ T, Has T l → Dom live T → ∃ N e T' H', (∀ lf, N ≤ lf → ∀ d, N ≤ d → codeL V (fO V O lf d) live none n lf c T H = some (e, T', H')) ∧ Dom live T' ∧ ∃ l', Has T' l' ∧ Q e l' H'
def ThenL (K : SL → AH → Prop) (Q : Ex → SL → AH → Prop) : Ex → SL → AH → Prop
  | .normal, l, H => K l H
  | e, l, H => Q e l H
theorem W.mono {c : Code} {l : SL} {H : AH} {Q Q' : Ex → SL → AH → Prop} (h : W V O live n c l H Q) (hq : ∀ e l H, Q e l H → Q' e l H) : W V O live n c l H Q' := fun T hT hd =>
  let ⟨N, e, T', H', h1, h2, l', h3, h4⟩ := h T hT hd
  ⟨N, e, T', H', h1, h2, l', h3, hq _ _ _ h4⟩
theorem W.sub {c : Code} {l l' : SL} {H : AH} {Q : Ex → SL → AH → Prop} (h : W V O live n c l' H Q) (hl : ∀ t v, look l' t = some v → look l t = some v) : W V O live n c l H Q := fun T hT hd => h T (fun t v e => hT t v (hl t v e)) hd
theorem W.skip {l : SL} {H : AH} {Q : Ex → SL → AH → Prop} (h : Q .normal l H) : W V O live n .skip l H Q := fun T hT hd => ⟨0, .normal, T, H, fun _ _ _ _ => rfl, hd, l, hT, h⟩
theorem W.exit {id : Nat} {l : SL} {H : AH} {Q : Ex → SL → AH → Prop} (h : Q (.exit id) l H) : W V O live n (.exit id) l H Q := fun T hT hd => ⟨0, _, T, H, fun _ _ _ _ => rfl, hd, l, hT, h⟩
theorem W.ret {l : SL} {H : AH} {Q : Ex → SL → AH → Prop} (h : Q .ret l H) : W V O live n .ret l H Q := fun T hT hd => ⟨0, _, T, H, fun _ _ _ _ => rfl, hd, l, hT, h⟩
theorem W.label {id : Nat} {l : SL} {H : AH} {Q : Ex → SL → AH → Prop} (h : Q .normal l H) : W V O live n (.label id) l H Q := fun T hT hd => ⟨0, _, T, H, fun _ _ _ _ => rfl, hd, l, hT, h⟩
theorem W.seq {a b : Code} {l : SL} {H : AH} {Q : Ex → SL → AH → Prop} (h : W V O live n a l H (ThenL (fun l1 H1 => W V O live n b l1 H1 Q) Q)) : W V O live n (.seq a b) l H Q := fun T hT hd => by
  obtain ⟨N, e, T1, H1, h1, d1, l1, h2, h3⟩ := h T hT hd
  cases e with
  | normal =>
    obtain ⟨M, e, T2, H2, k1, d2, l2, k2, k3⟩ := h3 T1 h2 d1
    exact ⟨N + M, e, T2, H2, fun lf hlf d hdd => by simp only [codeL]; rw [h1 lf (by omega) d (by omega)]; exact k1 lf (by omega) d (by omega), d2, l2, k2, k3⟩
  | exit id => exact ⟨N, _, T1, H1, fun lf hlf d hdd => by simp only [codeL]; rw [h1 lf hlf d hdd], d1, l1, h2, h3⟩
  | ret => exact ⟨N, _, T1, H1, fun lf hlf d hdd => by simp only [codeL]; rw [h1 lf hlf d hdd], d1, l1, h2, h3⟩
def lookO (nG : Nat) (l : SL) : Operand → Option Value
  | .tmp t => look l t
  | x => oval nG .leaf x
theorem Has.oval {T : PTree Value} {l : SL} (h : Has T l) {nG : Nat} {x : Operand} {v : Value} (hx : lookO nG l x = some v) : oval nG T x = some v := by
  cases x with
  | tmp t => exact h t v hx
  | _ => exact hx
theorem W.cond {x : Operand} {a b : Code} {l : SL} {H : AH} {Q : Ex → SL → AH → Prop} {t : Bool} (hx : lookO V.nG l x = some (.bool t)) (h1 : t = true → W V O live n a l H Q) (h2 : t = false → W V O live n b l H Q) : W V O live n (.cond x a b) l H Q := fun T hT hd => by
  have hv := hT.oval hx
  cases t with
  | true =>
    obtain ⟨N, e, T', H', k1, k2⟩ := h1 rfl T hT hd
    exact ⟨N, e, T', H', fun lf hlf d hdd => by simp only [codeL, hv]; exact k1 lf hlf d hdd, k2⟩
  | false =>
    obtain ⟨N, e, T', H', k1, k2⟩ := h2 rfl T hT hd
    exact ⟨N, e, T', H', fun lf hlf d hdd => by simp only [codeL, hv]; exact k1 lf hlf d hdd, k2⟩
theorem W.block {id : Nat} {c : Code} {l : SL} {H : AH} {Q : Ex → SL → AH → Prop} (h : W V O live n c l H fun e l' H' => Q (e.out id) l' H') : W V O live n (.block id c) l H Q := fun T hT hd => by
  obtain ⟨N, e, T1, H1, h1, d1, l1, h2, h3⟩ := h T hT hd
  refine ⟨N, e.out id, T1, H1, fun lf hlf d hdd => ?_, d1, l1, h2, h3⟩
  simp only [codeL]; rw [h1 lf hlf d hdd]
  cases e with
  | exit id' => simp only [Ex.out]; split <;> rfl
  | _ => rfl
theorem W.loop {c : Code} {Q : Ex → SL → AH → Prop} (I : SL → AH → Prop) (μ : SL → AH → Nat) (hI : ∀ l H, I l H → W V O live n c l H (ThenL (fun l' H' => I l' H' ∧ μ l' H' < μ l H) Q)) {l : SL} {H : AH} (h0 : I l H) : W V O live n (.loop c) l H Q := by
  have key : ∀ k l H, I l H → μ l H < k → ∀ T, Has T l → Dom live T → ∃ N e T' H', (∀ m, N ≤ m → ∀ lf, N ≤ lf → ∀ d, N ≤ d → loopN (fun T H => codeL V (fO V O lf d) live none n lf c T H) m T H = some (e, T', H')) ∧ Dom live T' ∧ ∃ l', Has T' l' ∧ Q e l' H' := by
    intro k
    induction k with
    | zero => intro l H _ hk; omega
    | succ k ih =>
      intro l H hi hk T hT hd
      obtain ⟨N, e, T1, H1, h1, d1, l1, h2, h3⟩ := hI l H hi T hT hd
      cases e with
      | normal =>
        obtain ⟨M, e, T2, H2, k1, k2⟩ := ih l1 H1 h3.1 (by have := h3.2; omega) T1 h2 d1
        refine ⟨N + M + 1, e, T2, H2, fun m hm lf hlf d hdd => ?_, k2⟩
        obtain ⟨m, rfl⟩ : ∃ m', m = m' + 1 := ⟨m - 1, by omega⟩
        simp only [loopN]
        rw [h1 lf (by omega) d (by omega)]
        exact k1 m (by omega) lf (by omega) d (by omega)
      | exit id =>
        refine ⟨N + 1, _, T1, H1, fun m hm lf hlf d hdd => ?_, d1, l1, h2, h3⟩
        obtain ⟨m, rfl⟩ : ∃ m', m = m' + 1 := ⟨m - 1, by omega⟩
        simp only [loopN]
        rw [h1 lf (by omega) d (by omega)]
      | ret =>
        refine ⟨N + 1, _, T1, H1, fun m hm lf hlf d hdd => ?_, d1, l1, h2, h3⟩
        obtain ⟨m, rfl⟩ : ∃ m', m = m' + 1 := ⟨m - 1, by omega⟩
        simp only [loopN]
        rw [h1 lf (by omega) d (by omega)]
  intro T hT hd
  obtain ⟨N, e, T', H', h1, h2⟩ := key (μ l H + 1) l H h0 (Nat.lt_succ_self _) T hT hd
  exact ⟨N, e, T', H', fun lf hlf d hdd => by simp only [codeL]; exact h1 lf hlf lf hlf d hdd, h2⟩
def gS (nG : Nat) (E : List Value) (l : SL) : Ft
  | .tmp k => if k < far then E[k]? else look l (k - far)
  | x => oval nG .leaf x
theorem gS_le {T : PTree Value} {l : SL} (h : Has T l) (nG : Nat) (E : List Value) : Ft.le (gS nG E l) (gL nG E T) := fun x v hx => by
  cases x with
  | tmp k =>
    simp only [gS, gL] at hx ⊢
    split
    · rename_i hk; rw [if_pos hk] at hx; exact hx
    · rename_i hk; rw [if_neg hk] at hx; exact h _ _ hx
  | _ => exact hx
def WL (V : Env) (O : Orc) (is : List LI) (E : List Value) (l : SL) (H : AH) (K : List Value → AH → Prop) : Prop :=
  ∀ T, Has T l → ∃ N E' H', (∀ lf, N ≤ lf → ∀ d, N ≤ d → runLI V (fO V O lf d) is E T H = some (E', H')) ∧ K E' H'
theorem WL.nil {E : List Value} {l : SL} {H : AH} {K : List Value → AH → Prop} (h : K E H) : WL V O [] E l H K := fun _ _ => ⟨0, E, H, fun _ _ _ _ => rfl, h⟩
theorem WL.get {t : Tmp} {is : List LI} {E : List Value} {l : SL} {H : AH} {K : List Value → AH → Prop} {v : Value} (hv : look l t = some v) (h : WL V O is (v :: E) l H K) : WL V O (.get t :: is) E l H K := fun T hT => by
  obtain ⟨N, E', H', h1, h2⟩ := h T hT
  exact ⟨N, E', H', fun lf hlf d hd => by simp only [runLI, hT t v hv]; exact h1 lf hlf d hd, h2⟩
theorem WL.op {o : Op} {is : List LI} {E : List Value} {l : SL} {H H1 : AH} {K : List Value → AH → Prop} {v : Value} (ho : aopG V (gS V.nG E l) H o = some (v, H1)) (h : WL V O is (v :: E) l H1 K) : WL V O (.run o none :: is) E l H K := fun T hT => by
  obtain ⟨N, E', H', h1, h2⟩ := h T hT
  have := aopG_mono (gS_le hT V.nG E) ho
  exact ⟨N, E', H', fun lf hlf d hd => by simp only [runLI, wantL, aopG_call this]; exact h1 lf hlf d hd, h2⟩
theorem WL.guard {o : Op} {x : Operand} {w b : Bool} {is : List LI} {E : List Value} {l : SL} {H : AH} {K : List Value → AH → Prop} (hx : gS V.nG E l x = some (.bool b)) (h1 : b = w → WL V O (.run o none :: is) E l H K) (h2 : b = !w → WL V O is (undef :: E) l H K) : WL V O (.run o (some (x, w)) :: is) E l H K := fun T hT => by
  have hv := gS_le hT V.nG E x _ hx
  by_cases e : b = w
  · obtain ⟨N, E', H', k1, k2⟩ := h1 e T hT
    refine ⟨N, E', H', fun lf hlf d hd => ?_, k2⟩
    have := k1 lf hlf d hd
    simp only [runLI, wantL] at this ⊢
    rw [hv]
    simp only [e, beq_self_eq_true]
    exact this
  · obtain ⟨N, E', H', k1, k2⟩ := h2 (by cases b <;> cases w <;> simp_all) T hT
    refine ⟨N, E', H', fun lf hlf d hd => ?_, k2⟩
    simp only [runLI, wantL]
    rw [hv]
    have : (b == w) = false := by simpa using e
    simp only [this]
    exact k1 lf hlf d hd
theorem WL.call {f : Operand} {args : Array Operand} {ts : Array TypeId} {k : FuncId} {first cap : Array Value} {vs : List Value} {is : List LI} {E : List Value} {l : SL} {H H1 : AH} {K : List Value → AH → Prop} {v : Value}
    (hf : gS V.nG E l f = some (.func (.func k) first cap)) (ha : gvals (gS V.nG E l) args.toList = some vs) (hk : (V.F k).isSome = true) (hc : Lc V O k (first.toList ++ vs ++ cap.toList) H v H1) (h : WL V O is (v :: E) l H1 K) :
    WL V O (.run (.call ⟨.value f, args, ts⟩) none :: is) E l H K := fun T hT => by
  obtain ⟨N, E', H', h1, h2⟩ := h T hT
  obtain ⟨M, hc⟩ := hc
  have e1 := gS_le hT V.nG E f _ hf
  have e2 := gvals_mono (gS_le hT V.nG E) ha
  obtain ⟨fn, hfn⟩ := Option.isSome_iff_exists.1 hk
  refine ⟨N + M, E', H', fun lf hlf d hd => ?_, h2⟩
  simp only [runLI, wantL, evOpG, e1, e2, hfn, hc lf (by omega) d (by omega)]
  exact h1 lf (by omega) d (by omega)
def outsL (E : List Value) : List (Tmp × Nat) → SL → Option SL
  | [], l => some l
  | (d, i) :: os, l => match E[i]? with
    | some v => outsL E os ((d, v) :: l)
    | none => none
theorem outsL_ok {E : List Value} : ∀ {os : List (Tmp × Nat)} {l l' : SL} {T : PTree Value}, outsL E os l = some l' → Has T l → ∃ T', setOuts E os T = some T' ∧ Has T' l'
  | [], l, l', T, h, hT => by simp [outsL] at h; subst h; exact ⟨T, rfl, hT⟩
  | (d, i) :: os, l, l', T, h, hT => by
    simp only [outsL] at h
    split at h
    · rename_i v hv
      simp only [setOuts, hv]
      refine outsL_ok h fun t u hu => ?_
      simp only [look] at hu
      split at hu
      · rename_i e; subst e; cases hu; exact PTree.get_set_same _ _ _
      · rename_i e; rw [PTree.get_set_ne _ _ (Ne.symm e)]; exact hT t u hu
    · cases h
theorem W.region {id : Nat} {ops : Array Oper} {d : Bool} {is : List LI} {outs : List (Tmp × Nat)} {l : SL} {H : AH} {Q : Ex → SL → AH → Prop} (hp : planL V n live ops d = some (.fast is outs))
    (hl : ∀ os ∈ outs, isLive live os.1 = true) (h : WL V O is [] l H fun E H' => ∃ l', outsL E outs l = some l' ∧ Q .normal l' H') : W V O live n (.region id ops d) l H Q := fun T hT hd => by
  obtain ⟨N, E, H', h1, l', h2, h3⟩ := h T hT
  obtain ⟨T', k1, k2⟩ := outsL_ok h2 hT
  refine ⟨N, .normal, T', H', fun lf hlf d' hdd => ?_, fun t v hv => ?_, l', k2, h3⟩
  · simp only [codeL, regionL, hp]
    rw [h1 lf hlf d' hdd]
    simp only [k1, Option.map_some]
  · rcases setOuts_ok k1 t with ⟨i, m1, _⟩ | ⟨_, m2⟩
    · exact hl _ m1
    · rw [m2] at hv; exact hd t v hv
def initL : List Value → Nat → SL
  | [], _ => []
  | v :: vs, i => (i, v) :: initL vs (i + 1)
theorem initL_look : ∀ {vs : List Value} {i t : Nat} {v : Value}, look (initL vs i) t = some v → i ≤ t ∧ vs[t - i]? = some v
  | [], i, t, v, h => by cases h
  | u :: vs, i, t, v, h => by
    simp only [initL, look] at h
    split at h
    · rename_i e; subst e; cases h; simp
    · rename_i e
      obtain ⟨h1, h2⟩ := initL_look h
      refine ⟨by omega, ?_⟩
      rw [show t - i = (t - (i + 1)) + 1 by omega]; simpa using h2
def resL (V : Env) (l : SL) (H : AH) : List ResultVar → Option (List Value)
  | [] => some []
  | .tmp t :: rs => match look l t, resL V l H rs with
    | some v, some vs => some (v :: vs)
    | _, _ => none
  | .cell a t :: rs => match look l a with
    | some p => match aLoad V.E H t p, resL V l H rs with
      | some v, some vs => some (v :: vs)
      | _, _ => none
    | none => none
theorem resL_ok {T : PTree Value} {l : SL} (hT : Has T l) {H : AH} : ∀ {rs : List ResultVar} {vs : List Value}, resL V l H rs = some vs → aResults V T H rs = some vs
  | [], vs, h => h
  | .tmp t :: rs, vs, h => by
    simp only [resL] at h
    split at h
    · rename_i v us h1 h2
      simp only [aResults, hT t v h1, resL_ok hT h2]; exact h
    · cases h
  | .cell a t :: rs, vs, h => by
    simp only [resL] at h
    split at h
    · rename_i p hp
      split at h
      · rename_i v us h1 h2
        simp only [aResults, hT a p hp, h1, resL_ok hT h2]; exact h
      · cases h
    · cases h
theorem Lc.fn {f : FuncId} {fn : Func} {c : Code} {vs : List Value} {H : AH} {R : Value → AH → Prop} (ho : O f vs H = none) (hfn : V.F f = some fn) (hb : fn.body = some c) (hlen : vs.length ≤ fn.ntmps) (hlive : (List.range vs.length).all (isLive (some (liveOf fn c))) = true)
    (h : W V O (some (liveOf fn c)) fn.ntmps c (initL vs 0) H fun e l H' => (e = .normal ∨ e = .ret) ∧ ∃ rs, resL V l H' fn.results.toList = some rs ∧ R (resOf rs) H') : ∃ v H', Lc V O f vs H v H' ∧ R v H' := by
  have hT : Has (initT vs 0 .leaf) (initL vs 0) := fun t v hv => by
    obtain ⟨_, h2⟩ := initL_look hv
    rw [initT_get]
    have hlt := (List.getElem?_eq_some_iff.1 h2).1
    rw [if_pos (by omega)]; exact h2
  have hd : Dom (some (liveOf fn c)) (initT vs 0 .leaf) := fun t v hv => by
    rw [initT_get] at hv
    split at hv
    · rename_i ht
      rw [List.all_eq_true] at hlive
      exact hlive t (List.mem_range.2 (by omega))
    · simp at hv
  obtain ⟨N, e, T', H', h1, _, l', h2, he, rs, h3, h4⟩ := h _ hT hd
  refine ⟨resOf rs, H', ⟨N + 1, fun lf hlf d hdd => ?_⟩, h4⟩
  obtain ⟨d, rfl⟩ : ∃ d', d = d' + 1 := ⟨d - 1, by omega⟩
  simp only [fO, ho, hfn, hb]
  rw [if_pos ⟨hlen, hlive⟩, h1 lf (by omega) d (by omega)]
  have hres := resL_ok h2 h3
  rcases he with rfl | rfl <;> simp only [hres, Option.map_some]
theorem Lc.orc {f : FuncId} {vs : List Value} {H H' : AH} {v : Value} (h : O f vs H = some (v, H')) : Lc V O f vs H v H' := ⟨1, fun lf _ d hd => by
  obtain ⟨d, rfl⟩ : ∃ d', d = d' + 1 := ⟨d - 1, by omega⟩
  simp only [fO, h]⟩
theorem Lc.sound (hO : OrcOk V O) (hE : TOk V.E V.P) (hF : FOk V.F V.P) (hm : V.P.follows .mixedOrders = true) {f : FuncId} {vs : List Value} {H : AH} {v : Value} {H' : AH} (h : Lc V O f vs H v H') : Sound V (.fn f) vs H v H' := by
  obtain ⟨N, h⟩ := h
  exact CallOk.iff.1 (fO_ok hO hE hF hm N N) _ _ _ _ _ (h N (Nat.le_refl _) N (Nat.le_refl _))
end Go.Ev

/-
  EV, universal use, part b: code with its regions prepared.
-/
namespace Go.Ev
open Go.RowKit
variable {V : Env} {O : Orc} {live : Option Nat} {n : Nat}
inductive PC where
  | skip
  | reg (is : List LI) (outs : List (Tmp × Nat))
  | rega (is : List LI) (outs : List (Tmp × Nat)) (c : Nat) (chks : List Chk)
  | seq (a b : PC)
  | cond (x : Operand) (a b : PC)
  | block (id : Nat) (c : PC)
  | loop (c : PC)
  | exit (id : Nat)
  | label (id : Nat)
  | ret
  | rfunc (f : Operand) (ps : Array Tmp) (x y : PC)
def noRF : Code → Bool
  | .seq a b => noRF a && noRF b
  | .cond _ a b => noRF a && noRF b
  | .block _ c => noRF c
  | .loop c => noRF c
  | .rangeFunc .. => false
  | _ => true
def pcOf (V : Env) (n : Nat) (live : Option Nat) : Code → Option PC
  | .skip => some .skip
  | .region _ ops d => match planL V n live ops d with
    | some (.fast is outs) => if outs.all (fun o => isLive live o.1) then some (.reg is outs) else none
    | some (.again is outs c chks) => if outs.all (fun o => isLive live o.1) then some (.rega is outs c chks) else none
    | none => none
  | .seq a b => match pcOf V n live a, pcOf V n live b with
    | some a, some b => some (.seq a b)
    | _, _ => none
  | .cond x a b => match pcOf V n live a, pcOf V n live b with
    | some a, some b => some (.cond x a b)
    | _, _ => none
  | .block id c => (pcOf V n live c).map (.block id)
  | .loop c => (pcOf V n live c).map .loop
  | .exit id => some (.exit id)
  | .label id => some (.label id)
  | .ret => some .ret
  | .rangeFunc f ps x y => match pcOf V n none x, pcOf V n none y with
    | some a, some b => if noRF x && noRF y then some (.rfunc f ps a b) else none
    | _, _ => none
  | _ => none
def WP (V : Env) (O : Orc) (live : Option Nat) (n : Nat) (p : PC) (l : SL) (H : AH) (Q : Ex → SL → AH → Prop) : Prop := ∀ c, pcOf V n live c = some p → W V O live n c l H Q
theorem pcOf_cases {c : Code} {p : PC} (h : pcOf V n live c = some p) : match p with
    | .skip => c = .skip
    | .reg is outs => ∃ id ops d, c = .region id ops d ∧ planL V n live ops d = some (.fast is outs) ∧ ∀ o ∈ outs, isLive live o.1 = true
    | .rega is outs k chks => ∃ id ops d, c = .region id ops d ∧ planL V n live ops d = some (.again is outs k chks) ∧ ∀ o ∈ outs, isLive live o.1 = true
    | .seq a b => ∃ a' b', c = .seq a' b' ∧ pcOf V n live a' = some a ∧ pcOf V n live b' = some b
    | .cond x a b => ∃ a' b', c = .cond x a' b' ∧ pcOf V n live a' = some a ∧ pcOf V n live b' = some b
    | .block id a => ∃ a', c = .block id a' ∧ pcOf V n live a' = some a
    | .loop a => ∃ a', c = .loop a' ∧ pcOf V n live a' = some a
    | .exit id => c = .exit id
    | .label id => c = .label id
    | .ret => c = .ret
    | .rfunc f ps x y => ∃ x' y', c = .rangeFunc f ps x' y' ∧ pcOf V n none x' = some x ∧ pcOf V n none y' = some y ∧ noRF x' = true ∧ noRF y' = true := by
  cases c with
  | skip => cases h; rfl
  | region id ops d =>
    simp only [pcOf] at h
    split at h
    · rename_i is outs hp
      split at h
      · rename_i ha
        cases h
        exact ⟨id, ops, d, rfl, hp, fun o ho => List.all_eq_true.1 ha o ho⟩
      · cases h
    · rename_i is outs k chks hp
      split at h
      · rename_i ha
        cases h
        exact ⟨id, ops, d, rfl, hp, fun o ho => List.all_eq_true.1 ha o ho⟩
      · cases h
    · cases h
  | seq a b =>
    simp only [pcOf] at h
    split at h
    · rename_i a' b' h1 h2; cases h; exact ⟨a, b, rfl, h1, h2⟩
    · cases h
  | cond x a b =>
    simp only [pcOf] at h
    split at h
    · rename_i a' b' h1 h2; cases h; exact ⟨a, b, rfl, h1, h2⟩
    · cases h
  | block id a =>
    obtain ⟨a', h1, h2⟩ := map_some h
    subst h2; exact ⟨a, rfl, h1⟩
  | loop a =>
    obtain ⟨a', h1, h2⟩ := map_some h
    subst h2; exact ⟨a, rfl, h1⟩
  | exit id => cases h; rfl
  | label id => cases h; rfl
  | ret => cases h; rfl
  | rangeFunc f ps x y =>
    simp only [pcOf] at h
    split at h
    · rename_i a b h1 h2
      split at h
      · rename_i h3
        rw [Bool.and_eq_true] at h3
        cases h; exact ⟨x, y, rfl, h1, h2, h3.1, h3.2⟩
      · cases h
    · cases h
  | _ => cases h
variable {l : SL} {H : AH} {Q Q' : Ex → SL → AH → Prop}
theorem WP.mono {p : PC} (h : WP V O live n p l H Q) (hq : ∀ e l H, Q e l H → Q' e l H) : WP V O live n p l H Q' := fun c hc => (h c hc).mono hq
theorem WP.sub {p : PC} {l' : SL} (h : WP V O live n p l' H Q) (hl : ∀ t v, look l' t = some v → look l t = some v) : WP V O live n p l H Q := fun c hc => (h c hc).sub hl
theorem WP.skip (h : Q .normal l H) : WP V O live n .skip l H Q := fun c hc => by
  obtain rfl : c = .skip := pcOf_cases hc
  exact .skip h
theorem WP.exit {id : Nat} (h : Q (.exit id) l H) : WP V O live n (.exit id) l H Q := fun c hc => by
  obtain rfl : c = .exit id := pcOf_cases hc
  exact .exit h
theorem WP.label {id : Nat} (h : Q .normal l H) : WP V O live n (.label id) l H Q := fun c hc => by
  obtain rfl : c = .label id := pcOf_cases hc
  exact .label h
theorem WP.ret (h : Q .ret l H) : WP V O live n .ret l H Q := fun c hc => by
  obtain rfl : c = .ret := pcOf_cases hc
  exact .ret h
theorem WP.seq {a b : PC} (h : WP V O live n a l H (ThenL (fun l1 H1 => WP V O live n b l1 H1 Q) Q)) : WP V O live n (.seq a b) l H Q := fun c hc => by
  obtain ⟨a', b', rfl, h1, h2⟩ := pcOf_cases hc
  refine .seq ((h a' h1).mono fun e l1 H1 hq => ?_)
  cases e with
  | normal => exact hq b' h2
  | exit id => exact hq
  | ret => exact hq
theorem WP.cond {x : Operand} {a b : PC} {t : Bool} (hx : lookO V.nG l x = some (.bool t)) (h1 : t = true → WP V O live n a l H Q) (h2 : t = false → WP V O live n b l H Q) : WP V O live n (.cond x a b) l H Q := fun c hc => by
  obtain ⟨a', b', rfl, k1, k2⟩ := pcOf_cases hc
  exact .cond hx (fun e => h1 e a' k1) (fun e => h2 e b' k2)
theorem WP.block {id : Nat} {a : PC} (h : WP V O live n a l H fun e l' H' => Q (e.out id) l' H') : WP V O live n (.block id a) l H Q := fun c hc => by
  obtain ⟨a', rfl, k1⟩ := pcOf_cases hc
  exact .block (h a' k1)
theorem WP.loop {a : PC} (I : SL → AH → Prop) (μ : SL → AH → Nat) (h0 : I l H) (hI : ∀ l H, I l H → WP V O live n a l H (ThenL (fun l' H' => I l' H' ∧ μ l' H' < μ l H) Q)) : WP V O live n (.loop a) l H Q := fun c hc => by
  obtain ⟨a', rfl, k1⟩ := pcOf_cases hc
  exact .loop I μ (fun l H hi => hI l H hi a' k1) h0
theorem WP.reg {is : List LI} {outs : List (Tmp × Nat)} (h : WL V O is [] l H fun E H' => ∃ l', outsL E outs l = some l' ∧ Q .normal l' H') : WP V O live n (.reg is outs) l H Q := fun c hc => by
  obtain ⟨id, ops, d, rfl, hp, hl⟩ := pcOf_cases hc
  exact .region hp hl h
def WH (V : Env) (O : Orc) (is : List LI) (E : List Value) (l : SL) (H : AH) (Hs0 : List AH) (K : List Value → AH → List AH → Prop) : Prop :=
  ∀ T, Has T l → ∃ N E' H' Hs, (∀ lf, N ≤ lf → ∀ d, N ≤ d → heapsLI V (fO V O lf d) is E T H = some (E', H', Hs)) ∧ K E' H' (Hs0 ++ Hs)
section
variable {E : List Value} {Hs0 : List AH} {K : List Value → AH → List AH → Prop} {is : List LI}
theorem WH.nil (h : K E H (Hs0 ++ [H])) : WH V O [] E l H Hs0 K := fun _ _ => ⟨0, E, H, [H], fun _ _ _ _ => rfl, h⟩
theorem WH.get {t : Tmp} {v : Value} (hv : look l t = some v) (h : WH V O is (v :: E) l H (Hs0 ++ [H]) K) : WH V O (.get t :: is) E l H Hs0 K := fun T hT => by
  obtain ⟨N, E', H', Hs, h1, h2⟩ := h T hT
  exact ⟨N, E', H', H :: Hs, fun lf hlf d hd => by simp only [heapsLI, hT t v hv]; rw [h1 lf hlf d hd]; rfl, by simpa using h2⟩
theorem WH.op {o : Op} {H1 : AH} {v : Value} (ho : aopG V (gS V.nG E l) H o = some (v, H1)) (h : WH V O is (v :: E) l H1 (Hs0 ++ [H]) K) : WH V O (.run o none :: is) E l H Hs0 K := fun T hT => by
  obtain ⟨N, E', H', Hs, h1, h2⟩ := h T hT
  have := aopG_mono (gS_le hT V.nG E) ho
  exact ⟨N, E', H', H :: Hs, fun lf hlf d hd => by simp only [heapsLI, wantL, aopG_call this]; rw [h1 lf hlf d hd]; rfl, by simpa using h2⟩
theorem WH.guard {o : Op} {x : Operand} {w b : Bool} (hx : gS V.nG E l x = some (.bool b)) (h1 : b = w → WH V O (.run o none :: is) E l H Hs0 K) (h2 : b = !w → WH V O is (undef :: E) l H (Hs0 ++ [H]) K) : WH V O (.run o (some (x, w)) :: is) E l H Hs0 K := fun T hT => by
  have hv := gS_le hT V.nG E x _ hx
  by_cases e : b = w
  · obtain ⟨N, E', H', Hs, k1, k2⟩ := h1 e T hT
    refine ⟨N, E', H', Hs, fun lf hlf d hd => ?_, k2⟩
    have := k1 lf hlf d hd
    simp only [heapsLI, wantL] at this ⊢
    rw [hv]
    simp only [e, beq_self_eq_true]
    exact this
  · obtain ⟨N, E', H', Hs, k1, k2⟩ := h2 (by cases b <;> cases w <;> simp_all) T hT
    refine ⟨N, E', H', H :: Hs, fun lf hlf d hd => ?_, by simpa using k2⟩
    simp only [heapsLI, wantL]
    rw [hv]
    have : (b == w) = false := by simpa using e
    simp only [this]
    rw [k1 lf hlf d hd]; rfl
theorem WH.call {f : Operand} {args : Array Operand} {ts : Array TypeId} {k : FuncId} {first cap : Array Value} {vs : List Value} {H1 : AH} {v : Value}
    (hf : gS V.nG E l f = some (.func (.func k) first cap)) (ha : gvals (gS V.nG E l) args.toList = some vs) (hk : (V.F k).isSome = true) (hc : Lc V O k (first.toList ++ vs ++ cap.toList) H v H1) (h : WH V O is (v :: E) l H1 (Hs0 ++ [H]) K) :
    WH V O (.run (.call ⟨.value f, args, ts⟩) none :: is) E l H Hs0 K := fun T hT => by
  obtain ⟨N, E', H', Hs, h1, h2⟩ := h T hT
  obtain ⟨M, hc⟩ := hc
  have e1 := gS_le hT V.nG E f _ hf
  have e2 := gvals_mono (gS_le hT V.nG E) ha
  obtain ⟨fn, hfn⟩ := Option.isSome_iff_exists.1 hk
  refine ⟨N + M, E', H', H :: Hs, fun lf hlf d hd => ?_, by simpa using h2⟩
  simp only [heapsLI, wantL, evOpG, e1, e2, hfn, hc lf (by omega) d (by omega)]
  rw [h1 lf (by omega) d (by omega)]; rfl
end
def chkS (V : Env) (E : List Value) (l : SL) (c : Nat) (Hs : List AH) (x : Chk) : Prop :=
  wantL (gS V.nG E l) x.guard = some false ∨ (wantL (gS V.nG E l) x.guard = some true ∧ ∃ H v H', Hs[x.q]? = some H ∧ atP E c x.p = some v ∧ aopG V (gS V.nG E l) H x.op = some (v, H') ∧ sameV v v = true)
theorem wantL_mono {g g' : Ft} (hg : g.le g') {x : Option (Operand × Bool)} {b : Bool} (h : wantL g x = some b) : wantL g' x = some b := by
  cases x with
  | none => exact h
  | some p =>
    obtain ⟨x, w⟩ := p
    simp only [wantL] at h ⊢
    split at h
    · rename_i c hc; rw [hg _ _ hc]; exact h
    · rename_i v hne hc
      rw [hg _ _ hc]
      cases v <;> first | exact h | exact absurd rfl (hne _)
    · cases h
theorem chkS_ok {T : PTree Value} (hT : Has T l) {E : List Value} {c : Nat} {Hs : List AH} {x : Chk} (h : chkS V E l c Hs x) : chkOk V T E c Hs x = true := by
  unfold chkOk
  rcases h with h | ⟨h, H, v, H', h1, h2, h3, h4⟩
  · rw [wantL_mono (gS_le hT V.nG E) h]
  · rw [wantL_mono (gS_le hT V.nG E) h]
    simp only [h1, h2, aopG_mono (gS_le hT V.nG E) h3, h4]
theorem WP.rega {is : List LI} {outs : List (Tmp × Nat)} {k : Nat} {chks : List Chk} (h : WH V O is [] l H [] fun E H' Hs => (∀ x ∈ chks, chkS V E l k Hs x) ∧ ∃ l', outsL E outs l = some l' ∧ Q .normal l' H') : WP V O live n (.rega is outs k chks) l H Q := fun c hc => by
  obtain ⟨id, ops, d, rfl, hp, hl⟩ := pcOf_cases hc
  intro T hT hd
  obtain ⟨N, E, H', Hs, h1, h0, l', h2, h3⟩ := h T hT
  obtain ⟨T', k1, k2⟩ := outsL_ok h2 hT
  refine ⟨N, .normal, T', H', fun lf hlf d' hdd => ?_, fun t v hv => ?_, l', k2, h3⟩
  · simp only [codeL, regionL, hp]
    rw [h1 lf hlf d' hdd]
    have : chks.all (chkOk V T E k Hs) = true := List.all_eq_true.2 fun x hx => chkS_ok hT (by simpa using h0 x hx)
    simp only [this, if_true, k1, Option.map_some]
  · rcases setOuts_ok k1 t with ⟨i, m1, _⟩ | ⟨_, m2⟩
    · exact hl _ m1
    · rw [m2] at hv; exact hd t v hv
theorem Lc.fnP {f : FuncId} {fn : Func} {c : Code} {p : PC} {vs : List Value} {R : Value → AH → Prop} (ho : O f vs H = none) (hfn : V.F f = some fn) (hb : fn.body = some c) (hp : pcOf V fn.ntmps (some (liveOf fn c)) c = some p) (hlen : vs.length ≤ fn.ntmps) (hlive : (List.range vs.length).all (isLive (some (liveOf fn c))) = true)
    (h : WP V O (some (liveOf fn c)) fn.ntmps p (initL vs 0) H fun e l H' => (e = .normal ∨ e = .ret) ∧ ∃ rs, resL V l H' fn.results.toList = some rs ∧ R (resOf rs) H') : ∃ v H', Lc V O f vs H v H' ∧ R v H' :=
  Lc.fn ho hfn hb hlen hlive (h c hp)
end Go.Ev

/-
  EV, universal use, part c: slices that are read.
-/
namespace Go.Ev
open Go.RowKit
variable {V : Env} {O : Orc} {H : AH}
def OneAt (H : AH) (v : Value) (cs : List Value) : Prop :=
  cs.length < 4611686018427387904 ∧ ((v = .slice none 0 0 ∧ cs = []) ∨ ∃ b off cap, v = .slice (some ⟨b, off, none⟩) cs.length cap ∧ (cs ≠ [] → H.rd b off cs.length = some cs))
theorem rd_get {b off n : Nat} {cs : List Value} (h : H.rd b off n = some cs) {i : Nat} {c : Value} (hi : cs[i]? = some c) : H.rd b (off + i) 1 = some [c] := by
  unfold AH.rd at h ⊢
  split at h
  · rename_i et cells st g v ho
    split at h
    · rename_i hc
      rw [Bool.and_eq_true, decide_eq_true_eq] at hc
      cases h
      have hlt := (List.getElem?_eq_some_iff.1 hi).1
      simp only [List.length_take, List.length_drop] at hlt
      rw [if_pos (by rw [Bool.and_eq_true, decide_eq_true_eq]; exact ⟨hc.1, by omega⟩)]
      rw [List.getElem?_take, if_pos (by omega), List.getElem?_drop] at hi
      have hlt2 := (List.getElem?_eq_some_iff.1 hi).1
      have hd := List.drop_eq_getElem_cons hlt2
      rw [hd]
      have e : cells[off + i] = c := by
        have := (List.getElem?_eq_some_iff.1 hi).2
        exact this
      rw [e]; rfl
    · cases h
  · cases h
theorem OneAt.len {v : Value} {cs : List Value} (h : OneAt H v cs) {t e : TypeId} {s b : Nat} {z : Value} (ht : V.E t = some ⟨.slice e, s, b, z⟩) : aLen V.E H t v = some (.int .i64 cs.length) := by
  unfold aLen
  rw [ht]
  rcases h.2 with ⟨rfl, rfl⟩ | ⟨b, off, cap, rfl, _⟩ <;> rfl
theorem OneAt.idx {v : Value} {cs : List Value} (h : OneAt H v cs) {t e : TypeId} {s b : Nat} {z : Value} (ht : V.E t = some ⟨.slice e, s, b, z⟩) {te : TI} (he : V.E e = some te) (hz : te.size = 1) (ha : Desc.agg te.desc = false) {kd : IntKind} {i : Int} {c : Value} (h0 : 0 ≤ i) (hc : cs[i.toNat]? = some c) :
    ∃ p, aIndex V.E t v (.int kd i) = some p ∧ aLoad V.E H e p = some c := by
  have hlt := (List.getElem?_eq_some_iff.1 hc).1
  rcases h.2 with ⟨rfl, rfl⟩ | ⟨b, off, cap, rfl, hr⟩
  · simp at hlt
  · have hne : cs ≠ [] := fun e => by subst e; simp at hlt
    refine ⟨.pointer (some ⟨b, off + i.toNat * te.size, none⟩), ?_, ?_⟩
    · simp only [aIndex, ht, he]
      rw [if_pos ⟨h0, by omega⟩]
    · simp only [aLoad, he, ha]
      rw [hz, Nat.mul_one, rd_get (hr hne) hc]
      rfl
variable {g : Ft}
theorem op_len {x : Operand} {t : TypeId} {u v : Value} (hx : g x = some u) (h : aLen V.E H t u = some v) : aopG V g H (.call ⟨.builtin .len, #[x], #[t]⟩) = some (v, H) := by
  simp only [aopG, gvals, hx, aBuiltin, h, Option.map_some]
theorem op_indexAddr {t : TypeId} {x i : Operand} {u v p : Value} (hx : g x = some u) (hi : g i = some v) (h : aIndex V.E t u v = some p) : aopG V g H (.indexAddr t x i) = some (p, H) := by
  simp only [aopG, hx, hi, h, Option.map_some]
theorem op_load {t : TypeId} {a : Operand} {p v : Value} (ha : g a = some p) (h : aLoad V.E H t p = some v) : aopG V g H (.load t a) = some (v, H) := by
  simp only [aopG, ha, h, Option.map_some]
theorem op_fieldAddr {t : TypeId} {a : Operand} {f : Nat} {p v : Value} (ha : g a = some p) (h : aField V.E t f p = some v) : aopG V g H (.fieldAddr t a f) = some (v, H) := by
  simp only [aopG, ha, h, Option.map_some]
theorem op_int {op : BinOp} {t u : TypeId} {x y : Operand} {k : IntKind} {a b : Int} {v : Value} (hx : g x = some (.int k a)) (hy : g y = some (.int k b)) (h : aInt V.P op t k a k b = some v) : aopG V g H (.binOp op t x y u) = some (v, H) := by
  simp only [aopG, hx, hy, aBin, h, Option.map_some]
theorem aInt_add (P : Program) (t : TypeId) {a b : Int} (h1 : -9223372036854775808 ≤ a + b) (h2 : a + b ≤ 9223372036854775807) : aInt P .add t .i64 a .i64 b = some (.int .i64 (a + b)) := by
  simp only [aInt, if_true, wr]
  rw [if_pos ⟨trivial, h1, h2⟩]
theorem aInt_sub (P : Program) (t : TypeId) {a b : Int} (h1 : -9223372036854775808 ≤ a - b) (h2 : a - b ≤ 9223372036854775807) : aInt P .sub t .i64 a .i64 b = some (.int .i64 (a - b)) := by
  simp only [aInt, if_true, wr]
  rw [if_pos ⟨trivial, h1, h2⟩]
end Go.Ev

/-
  EV, universal use, part d: loops with a state of one's own.
-/
namespace Go.Ev
open Go.RowKit
variable {V : Env} {O : Orc} {live : Option Nat} {n : Nat}
def Kn (l : SL) : SL → Prop
  | [] => True
  | (t, v) :: r => look l t = some v ∧ Kn l r
theorem Kn.look {l : SL} : ∀ {r : SL}, Kn l r → ∀ t v, look r t = some v → look l t = some v
  | [], _, _, _, h => by cases h
  | (u, w) :: r, hk, t, v, h => by
    simp only [Ev.look] at h
    split at h
    · rename_i e; subst e; cases h; exact hk.1
    · exact hk.2.look t v h
theorem W.loopS {σ : Type} {c : Code} {Q : Ex → SL → AH → Prop} (lit : σ → SL) (hp : σ → AH) (I : σ → Prop) (μ : σ → Nat)
    (hI : ∀ s, I s → W V O live n c (lit s) (hp s) (ThenL (fun l' H' => ∃ s', I s' ∧ μ s' < μ s ∧ Kn l' (lit s') ∧ hp s' = H') Q)) {l : SL} {H : AH} (s0 : σ) (h0 : I s0) (hl : Kn l (lit s0)) (hh : hp s0 = H) : W V O live n (.loop c) l H Q := by
  have key : ∀ k s, I s → μ s < k → ∀ T, Has T (lit s) → Dom live T → ∃ N e T' H', (∀ m, N ≤ m → ∀ lf, N ≤ lf → ∀ d, N ≤ d → loopN (fun T H => codeL V (fO V O lf d) live none n lf c T H) m T (hp s) = some (e, T', H')) ∧ Dom live T' ∧ ∃ l', Has T' l' ∧ Q e l' H' := by
    intro k
    induction k with
    | zero => intro s _ hk; omega
    | succ k ih =>
      intro s hi hk T hT hd
      obtain ⟨N, e, T1, H1, h1, d1, l1, h2, h3⟩ := hI s hi T hT hd
      cases e with
      | normal =>
        obtain ⟨s', i', m', kn', rfl⟩ := h3
        obtain ⟨M, e, T2, H2, k1, k2⟩ := ih s' i' (by omega) T1 (fun t v e => h2 t v (kn'.look t v e)) d1
        refine ⟨N + M + 1, e, T2, H2, fun m hm lf hlf d hdd => ?_, k2⟩
        obtain ⟨m, rfl⟩ : ∃ m', m = m' + 1 := ⟨m - 1, by omega⟩
        simp only [loopN]
        rw [h1 lf (by omega) d (by omega)]
        exact k1 m (by omega) lf (by omega) d (by omega)
      | exit id =>
        refine ⟨N + 1, _, T1, H1, fun m hm lf hlf d hdd => ?_, d1, l1, h2, h3⟩
        obtain ⟨m, rfl⟩ : ∃ m', m = m' + 1 := ⟨m - 1, by omega⟩
        simp only [loopN]
        rw [h1 lf (by omega) d (by omega)]
      | ret =>
        refine ⟨N + 1, _, T1, H1, fun m hm lf hlf d hdd => ?_, d1, l1, h2, h3⟩
        obtain ⟨m, rfl⟩ : ∃ m', m = m' + 1 := ⟨m - 1, by omega⟩
        simp only [loopN]
        rw [h1 lf (by omega) d (by omega)]
  intro T hT hd
  subst hh
  obtain ⟨N, e, T', H', h1, h2⟩ := key (μ s0 + 1) s0 h0 (Nat.lt_succ_self _) T (fun t v e => hT t v (hl.look t v e)) hd
  exact ⟨N, e, T', H', fun lf hlf d hdd => by simp only [codeL]; exact h1 lf hlf lf hlf d hdd, h2⟩
theorem WP.loopS {l : SL} {H : AH} {Q : Ex → SL → AH → Prop} {σ : Type} {a : PC} (lit : σ → SL) (hp : σ → AH) (I : σ → Prop) (μ : σ → Nat) (s0 : σ) (h0 : I s0) (hl : Kn l (lit s0)) (hh : hp s0 = H)
    (hI : ∀ s, I s → WP V O live n a (lit s) (hp s) (ThenL (fun l' H' => ∃ s', I s' ∧ μ s' < μ s ∧ Kn l' (lit s') ∧ hp s' = H') Q)) : WP V O live n (.loop a) l H Q := fun c hc => by
  obtain ⟨a', rfl, k1⟩ := pcOf_cases hc
  exact .loopS lit hp I μ (fun s hi => hI s hi a' k1) s0 h0 hl hh
theorem aInt_lss (P : Program) (t : TypeId) {k : IntKind} {a b : Int} : aInt P .lss t k a k b = some (.bool (decide (a < b))) := by
  simp only [aInt, if_true]
theorem aInt_neq (P : Program) (t : TypeId) {k : IntKind} {a b : Int} : aInt P .neq t k a k b = some (.bool (a != b)) := by
  simp only [aInt, if_true]
theorem aInt_eql (P : Program) (t : TypeId) {k : IntKind} {a b : Int} : aInt P .eql t k a k b = some (.bool (a == b)) := by
  simp only [aInt, if_true]
theorem OneAt.idx_op {V : Env} {g : Ft} {H : AH} {v : Value} {cs : List Value} (h : OneAt H v cs) {t e : TypeId} {s b : Nat} {z : Value} (ht : V.E t = some ⟨.slice e, s, b, z⟩) {te : TI} (he : V.E e = some te) (hz : te.size = 1) (ha : Desc.agg te.desc = false) {kd : IntKind} {i : Int} {c : Value} (h0 : 0 ≤ i) (hc : cs[i.toNat]? = some c)
    {x y : Operand} (hx : g x = some v) (hy : g y = some (.int kd i)) : ∃ p, aopG V g H (.indexAddr t x y) = some (p, H) ∧ aLoad V.E H e p = some c := by
  obtain ⟨p, h1, h2⟩ := h.idx ht he hz ha (kd := kd) h0 hc
  exact ⟨p, op_indexAddr hx hy h1, h2⟩
theorem aInt_geq (P : Program) (t : TypeId) {k : IntKind} {a b : Int} : aInt P .geq t k a k b = some (.bool (decide (a ≥ b))) := by
  simp only [aInt, if_true]
theorem aInt_leq (P : Program) (t : TypeId) {k : IntKind} {a b : Int} : aInt P .leq t k a k b = some (.bool (decide (a ≤ b))) := by
  simp only [aInt, if_true]
theorem aInt_gtr (P : Program) (t : TypeId) {k : IntKind} {a b : Int} : aInt P .gtr t k a k b = some (.bool (decide (a > b))) := by
  simp only [aInt, if_true]
section
variable {g : Ft} {H : AH}
theorem op_pickT {c x y : Operand} {b : Bool} {v : Value} (hc : g c = some (.bool b)) (hb : b = true) (hx : g x = some v) : aopG V g H (.pick c x y) = some (v, H) := by
  subst hb; simp only [aopG, hc, if_true, hx, Option.map_some]
theorem op_pickF {c x y : Operand} {b : Bool} {v : Value} (hc : g c = some (.bool b)) (hb : b = false) (hy : g y = some v) : aopG V g H (.pick c x y) = some (v, H) := by
  subst hb; simp only [aopG, hc, Bool.false_eq_true, if_false, hy, Option.map_some]
end
theorem WL.post {is : List LI} {E : List Value} {l : SL} {H : AH} {K K' : List Value → AH → Prop} (h : WL V O is E l H K) (hk : ∀ E H, K E H → K' E H) : WL V O is E l H K' := fun T hT =>
  let ⟨N, E', H', h1, h2⟩ := h T hT
  ⟨N, E', H', h1, hk _ _ h2⟩
section
variable {g : Ft} {H : AH}
theorem op_lenS {x : Operand} {t : TypeId} {s : ByteArray} {n b : Nat} {z : Value} (hx : g x = some (.string s)) (ht : V.E t = some ⟨.string, n, b, z⟩) : aopG V g H (.call ⟨.builtin .len, #[x], #[t]⟩) = some (.int .i64 s.size, H) :=
  op_len hx (by simp only [aLen, ht])
theorem op_indexS {x y : Operand} {t : TypeId} {s : ByteArray} {n b : Nat} {z : Value} {k : IntKind} {i : Int} {c : UInt8} (hx : g x = some (.string s)) (hy : g y = some (.int k i)) (ht : V.E t = some ⟨.string, n, b, z⟩) (h0 : 0 ≤ i) (hc : s.data.toList[i.toNat]? = some c) :
    aopG V g H (.index t x y) = some (.int .u8 c.toNat, H) := by
  simp only [aopG, hx, hy, aIndexOf, ht, if_pos h0, hc, Option.map_some]
end
section
variable {o : Op} {x : Operand} {w b : Bool} {is : List LI} {E : List Value} {l : SL} {H : AH} {K : List Value → AH → Prop}
theorem WL.on (hx : gS V.nG E l x = some (.bool b)) (hb : b = w) (h : WL V O (.run o none :: is) E l H K) : WL V O (.run o (some (x, w)) :: is) E l H K :=
  .guard hx (fun _ => h) (fun e => absurd (hb.symm.trans e) (by cases w <;> simp))
theorem WL.off (hx : gS V.nG E l x = some (.bool b)) (hb : b = !w) (h : WL V O is (undef :: E) l H K) : WL V O (.run o (some (x, w)) :: is) E l H K :=
  .guard hx (fun e => absurd (hb.symm.trans e) (by cases w <;> simp)) (fun _ => h)
theorem WL.offU (hx : gS V.nG E l x = some undef) (h : WL V O is (undef :: E) l H K) : WL V O (.run o (some (x, w)) :: is) E l H K := fun T hT => by
  obtain ⟨N, E', H', h1, h2⟩ := h T hT
  have hv := gS_le hT V.nG E x _ hx
  refine ⟨N, E', H', fun lf hlf d hd => ?_, h2⟩
  have := h1 lf hlf d hd
  simp only [runLI, wantL, hv, undef]
  exact this
end
theorem aBin_str {P : Program} {E : TypeId → Option TI} {op : BinOp} {t : TypeId} {ox oy : Operand} {a b : ByteArray} {v : Value} (h : pureRun P (Op.stringOp op a b) = some v) (hv : constOk v = true) : aBin P E op t ox oy (.string a) (.string b) = some v := by
  have e : aBin P E op t ox oy (.string a) (.string b) = (if constOk (.string a) && constOk (.string b) then match pureRun P (do eqGuard op t ox oy (.string a) (.string b); binOp op t (.string a) (.string b)) with
      | some v => if constOk v then some v else none
      | none => none
    else none) := by unfold aBin; rfl
  have e2 : (do eqGuard op t ox oy (.string a) (.string b); binOp op t (.string a) (.string b)) = Op.stringOp op a b := by
    have := binSem_skip (op := op) (t := t) (ox := ox) (oy := oy) (x := .string a) (y := .string b) (fun _ h => nomatch h) (fun h => nomatch h)
    unfold binSem at this
    rw [this]
    cases op <;> rfl
  rw [e, e2, h, if_pos (show (constOk (Value.string a) && constOk (Value.string b)) = true from rfl)]
  simp only [hv, if_true]
theorem aBin_eqS {P : Program} {E : TypeId → Option TI} {t : TypeId} {ox oy : Operand} {a b : ByteArray} : aBin P E .eql t ox oy (.string a) (.string b) = some (.bool (a.data.toList == b.data.toList)) := by rw [← ByteArray.toList_eq, ← ByteArray.toList_eq]; exact aBin_str rfl rfl
theorem aBin_neS {P : Program} {E : TypeId → Option TI} {t : TypeId} {ox oy : Operand} {a b : ByteArray} : aBin P E .neq t ox oy (.string a) (.string b) = some (.bool !(a.data.toList == b.data.toList)) := by rw [← ByteArray.toList_eq, ← ByteArray.toList_eq]; exact aBin_str rfl rfl
theorem aBin_addS {P : Program} {E : TypeId → Option TI} {t : TypeId} {ox oy : Operand} {a b : ByteArray} (h : a.size + b.size ≤ 9223372036854775807) : aBin P E .add t ox oy (.string a) (.string b) = some (.string (a ++ b)) := aBin_str (by
  simp only [Op.stringOp]
  rw [if_neg (by have : IntKind.i64.max = 9223372036854775807 := (by decide); omega)]; rfl) rfl
section
variable {g : Ft} {H : AH}
theorem op_eqS {x y : Operand} {t u : TypeId} {a b : ByteArray} (hx : g x = some (.string a)) (hy : g y = some (.string b)) : aopG V g H (.binOp .eql t x y u) = some (.bool (a.data.toList == b.data.toList), H) := by
  simp only [aopG, hx, hy, aBin_eqS, Option.map_some]
theorem op_neS {x y : Operand} {t u : TypeId} {a b : ByteArray} (hx : g x = some (.string a)) (hy : g y = some (.string b)) : aopG V g H (.binOp .neq t x y u) = some (.bool !(a.data.toList == b.data.toList), H) := by
  simp only [aopG, hx, hy, aBin_neS, Option.map_some]
theorem op_addS {x y : Operand} {t u : TypeId} {a b : ByteArray} (hx : g x = some (.string a)) (hy : g y = some (.string b)) (h : a.size + b.size ≤ 9223372036854775807) : aopG V g H (.binOp .add t x y u) = some (.string (a ++ b), H) := by
  simp only [aopG, hx, hy, aBin_addS h, Option.map_some]
theorem op_not {x : Operand} {t : TypeId} {b : Bool} (hx : g x = some (.bool b)) : aopG V g H (.unOp .not t x) = some (.bool (!b), H) := by
  simp only [aopG, hx]; rfl
end
theorem op_buildSlice {g : Ft} {H : AH} {t e : TypeId} {len : Nat} {ps : Array (Nat × Operand)} {vs : List (Nat × Value)} {cs : List Value} {a b : Nat} {z : Value} {te : TI} (hp : gparts g ps.toList = some vs) (ht : V.E t = some ⟨.slice e, a, b, z⟩) (he : V.E e = some te)
    (h1 : len * te.size ≤ 16777216) (hf : afill (fun i => some (i * te.size, te.size)) (azeros te.zv.cells.toList len) vs = some cs) (h2 : len < unk := by decide) : aopG V g H (.buildSlice t len ps) = some (.slice (some ⟨H.next, 0, none⟩) len len, H.alloc (.row e cs .exact 0 0)) := by
  simp only [aopG, hp, aBuildSlice, ht, he]
  rw [if_neg (by omega), hf]
theorem OneAt.alloc {H : AH} {e : TypeId} {cs : List Value} {cap : Nat} (h : cs.length < 4611686018427387904) : OneAt (H.alloc (.row e cs .exact 0 0)) (.slice (some ⟨H.next, 0, none⟩) cs.length cap) cs := by
  refine ⟨h, .inr ⟨H.next, 0, cap, rfl, fun _ => ?_⟩⟩
  unfold AH.rd
  simp [AH.lo, AH.alive]
end Go.Ev

/-
  EV, universal use, part e: the arguments of a call as it is handed them: what reads so in the world is had by the abstract heap.
-/
namespace Go.Ev
open Go.RowKit
abbrev Rp (α : Type) := AH → List Value → α → Prop
def Ro (H : AH) : Prop := ∀ b, (∃ et cells, H.obj b = .row et cells .ro 0 0) ∨ H.obj b = .dead
def Kro (H H' : AH) : Prop := H.next ≤ H'.next ∧ ∀ b et cells g v, b < H.next → H.obj b = .row et cells .ro g v → H'.obj b = .row et cells .ro g v
theorem Kro.refl (H : AH) : Kro H H := ⟨Nat.le_refl _, fun _ _ _ _ _ _ h => h⟩
theorem Kro.trans {H H' H'' : AH} (h : Kro H H') (k : Kro H' H'') : Kro H H'' := ⟨Nat.le_trans h.1 k.1, fun b et cells g v hb ho => k.2 b et cells g v (Nat.lt_of_lt_of_le hb h.1) (h.2 b et cells g v hb ho)⟩
theorem Kro.alloc (H : AH) (o : AObj) : Kro H (H.alloc o) := ⟨by simp, fun b et cells g v hb ho => by rw [AH.obj_alloc, if_neg (by omega)]; exact ho⟩
def Mono {α : Type} (R : Rp α) : Prop := ∀ {H H' : AH} {cs : List Value} {a : α}, Kro H H' → R H cs a → R H' cs a
variable {P : Program} {w : World} {H : AH} {ι : Emb}
theorem Ro.alloc (h : Ro H) {o : AObj} (ho : (∃ et cells, o = .row et cells .ro 0 0) ∨ o = .dead) : Ro (H.alloc o) := fun b => by
  rw [AH.obj_alloc]
  split
  · exact ho
  · exact h b
def Emb.put (ι : Emb) (b : Nat) (l : ILoc) : Emb := fun c => if c = b then some l else ι c
theorem Emb.le_put {ι : Emb} {b : Nat} {l : ILoc} (h : ι b = none) : ι.le (ι.put b l) := fun c m hc => by
  unfold Emb.put
  rw [if_neg (fun e => by subst e; rw [h] at hc; cases hc)]; exact hc
theorem HRel.row_ro {B0 : Nat} (h : HRel P B0 ι H w) (hr : Ro H) {o : AObj} {l : ILoc} (ho : (∃ et cells, o = .row et cells .ro 0 0) ∨ o = .dead) (hok : OOk P B0 ι w l o) :
    ι H.next = none ∧ HRel P B0 (ι.put H.next l) (H.alloc o) w := by
  have hn : ι H.next = none := by
    cases e : ι H.next with
    | none => rfl
    | some m => exact absurd (h.dom _ _ e) (Nat.lt_irrefl _)
  refine ⟨hn, ?_⟩
  have hcase : ∀ b m, (ι.put H.next l) b = some m → (b = H.next ∧ m = l) ∨ (b ≠ H.next ∧ ι b = some m) := fun b m hb => by
    unfold Emb.put at hb
    split at hb
    · rename_i e; cases hb; exact .inl ⟨e, rfl⟩
    · rename_i e; exact .inr ⟨e, hb⟩
  have hro := hr.alloc ho
  refine { base := h.base, dom := fun b m hb => ?_, obj := fun b m hb ha => ?_, sep := fun b b' m m' hne hb hb' ha ha' he => ?_, grp := fun b m et cells st g v hb hobj => ?_ }
  · rcases hcase b m hb with ⟨rfl, _⟩ | ⟨_, h2⟩
    · simp
    · have := h.dom b m h2; simp; omega
  · rcases hcase b m hb with ⟨rfl, rfl⟩ | ⟨h1, h2⟩
    · rw [AH.obj_alloc, if_pos rfl]
      exact hok.carry (Emb.le_put hn) rfl
    · rw [AH.obj_alloc, if_neg h1] at ha ⊢
      refine (h.obj b m h2 ?_).carry (Emb.le_put hn) rfl
      rcases hr b with ⟨et, cells, e⟩ | e <;> rw [e] at ha ⊢ <;> exact ha
  · rcases hro b with ⟨et, cells, e⟩ | e
    · rcases hro b' with ⟨et', cells', e'⟩ | e'
      · rw [e, e']; trivial
      · rw [e'] at ha'; simp [AH.alive] at ha'
    · rw [e] at ha; simp [AH.alive] at ha
  · rcases hro b with ⟨et', cells', e⟩ | e
    · rw [e] at hobj
      cases hobj
      exact ⟨by simp, Nat.zero_le _⟩
    · rw [e] at hobj; cases hobj
def Ent {α : Type} (P : Program) (R : Rp α) (t : TypeId) : Prop :=
  ∀ {Hd : Type} (enc : TypeId × Value → Hd) (w : World) (fuel : Nat) (cs : List Value) (d : DataW Hd) (ps : List MemPlace), DataW.trod enc P w 0 (fun _ => true) true fuel t cs = some (d, ps) →
    ∀ (H : AH) (ι : Emb), HRel P w.heap.size ι H w → Ro H → ∃ H' ι' as, ∃ a : α, HRel P w.heap.size ι' H' w ∧ Ro H' ∧ Kro H H' ∧ ι.le ι' ∧ LRel ι' as cs ∧ R H' as a
def RInt (k : IntKind) : Rp Int := fun _ cs n => cs = [.int k n] ∧ (Lit.int k n).wf = true
def RBool : Rp Bool := fun _ cs b => cs = [.bool b]
def RStr : Rp ByteArray := fun _ cs s => cs = [.string s] ∧ s.size ≤ maxLen
theorem RInt.mono {k : IntKind} : Mono (RInt k) := fun _ h => h
theorem RBool.mono : Mono RBool := fun _ h => h
theorem RStr.mono : Mono RStr := fun _ h => h
theorem Ent.int {t : TypeId} {k : IntKind} (hu : P.underlying t = some (.int k)) : Ent P (RInt k) t := fun enc w fuel cs d ps h H ι hr hro => by
  cases fuel with
  | zero => simp [DataW.trod] at h
  | succ fuel =>
    simp only [DataW.trod, hu] at h
    split at h <;> first | (exfalso; simp_all; done) | skip
    · rename_i k0 k' n he
      cases he
      split at h
      · rename_i hk
        obtain ⟨rfl, hk⟩ := hk
        exact ⟨H, ι, _, n, hr, hro, .refl _, Emb.le_refl _, .cons (.int _ n) .nil, rfl, hk⟩
      · cases h
theorem Ent.bool {t : TypeId} (hu : P.underlying t = some .bool) : Ent P RBool t := fun enc w fuel cs d ps h H ι hr hro => by
  cases fuel with
  | zero => simp [DataW.trod] at h
  | succ fuel =>
    simp only [DataW.trod, hu] at h
    split at h <;> first | (exfalso; simp_all; done) | skip
    · rename_i b he
      exact ⟨H, ι, _, b, hr, hro, .refl _, Emb.le_refl _, .cons (.bool b) .nil, rfl⟩
theorem Ent.str {t : TypeId} (hu : P.underlying t = some .string) : Ent P RStr t := fun enc w fuel cs d ps h H ι hr hro => by
  cases fuel with
  | zero => simp [DataW.trod] at h
  | succ fuel =>
    simp only [DataW.trod, hu] at h
    split at h <;> first | (exfalso; simp_all; done) | skip
    · rename_i s he
      split at h
      · rename_i hk
        exact ⟨H, ι, _, s, hr, hro, .refl _, Emb.le_refl _, .cons (.string s) .nil, rfl, hk⟩
      · cases h
def RSlice {α : Type} (n : Nat) (R : Rp α) : Rp (List α) := fun H cs xs =>
  ∃ v, cs = [v] ∧ xs.length ≤ maxLen ∧ ((v = .slice none 0 0 ∧ xs = []) ∨ (∃ b cap, cap < unk ∧ v = .slice (some ⟨b, 0, none⟩) 0 cap ∧ xs = []) ∨
    ∃ b off cap et cells g k, v = .slice (some ⟨b, off, none⟩) xs.length cap ∧ xs.length ≤ cap ∧ cap ≤ maxLen ∧ b < H.next ∧ H.obj b = .row et cells .ro g k ∧ off + xs.length * n ≤ cells.length ∧
      ∀ (i : Nat) (x : α), xs[i]? = some x → R H ((cells.drop (off + i * n)).take n) x)
theorem RSlice.mono {α : Type} {n : Nat} {R : Rp α} (hm : Mono R) : Mono (RSlice n R) := fun hk h => by
  obtain ⟨v, rfl, hl, h | h | ⟨b, off, cap, et, cells, g, k, h1, h2, h3, h4, h5, h6, h7⟩⟩ := h
  · exact ⟨v, rfl, hl, .inl h⟩
  · exact ⟨v, rfl, hl, .inr (.inl h)⟩
  · exact ⟨v, rfl, hl, .inr (.inr ⟨b, off, cap, et, cells, g, k, h1, h2, h3, Nat.lt_of_lt_of_le h4 hk.1, hk.2 _ _ _ _ _ h4 h5, h6, fun i x hx => hm hk (h7 i x hx)⟩)⟩
theorem cells?_at {base : Nat} {a : Addr} {n : Nat} {cs : List Value} (h : w.cells? base a n = some cs) : cs.length = n ∧ ∀ i, i < n → ∃ y, cs[i]? = some y ∧ w.cell? (a.add i) = some y := by
  unfold World.cells? at h
  split at h
  · refine ⟨by simpa using Lib.mapM_length h, fun i hi => ?_⟩
    exact Lib.mapM_at h i i (by simp [hi])
  · cases h
theorem add_add (a : Addr) (i j : Nat) : (a.add i).add j = a.add (i + j) := by
  unfold Addr.add
  by_cases h : i = 0
  · subst h; simp
  · by_cases k : j = 0
    · subst k; simp [h]
    · rw [if_neg h, if_neg k, if_neg (by omega)]
      simp [Nat.add_assoc]
theorem Ent.elems {α : Type} {R : Rp α} {e : TypeId} (hR : Ent P R e) (hm : Mono R) {Hd : Type} (enc : TypeId × Value → Hd) (w : World) (fuel : Nat) (a : Addr) (n : Nat) (hn : P.cellsOf e = n) :
    ∀ (len : Nat), (∀ i, i < len → ∃ y, ((w.cells? 0 (a.add (i * n)) n).bind (DataW.trod enc P w 0 (fun _ => true) true fuel e)) = some y) →
    ∀ (H : AH) (ι : Emb), HRel P w.heap.size ι H w → Ro H → ∃ H' ι', ∃ as : List Value, ∃ xs : List α, HRel P w.heap.size ι' H' w ∧ Ro H' ∧ Kro H H' ∧ ι.le ι' ∧ xs.length = len ∧ as.length = len * n ∧
      (∀ (i : Nat) (x : Value), as[i]? = some x → ∃ y, w.cell? (a.add i) = some y ∧ VRel ι' x y) ∧ ∀ (i : Nat) (x : α), xs[i]? = some x → R H' ((as.drop (i * n)).take n) x
  | 0, _, H, ι, hr, hro => ⟨H, ι, [], [], hr, hro, .refl _, Emb.le_refl _, rfl, by simp, fun i x h => by simp at h, fun i x h => by simp at h⟩
  | len + 1, hel, H, ι, hr, hro => by
    obtain ⟨H1, ι1, as, xs, h1, h2, h3, h4, h5, h6, h7, h8⟩ := Ent.elems hR hm enc w fuel a n hn len (fun i hi => hel i (by omega)) H ι hr hro
    obtain ⟨y, hy⟩ := hel len (by omega)
    obtain ⟨cs, hc, ht⟩ := Option.bind_eq_some_iff.1 hy
    obtain ⟨H2, ι2, bs, x, k1, k2, k3, k4, k5, k6⟩ := hR enc w fuel cs y.1 y.2 ht H1 ι1 h1 h2
    obtain ⟨c1, c2⟩ := cells?_at hc
    have hbl : bs.length = n := by rw [k5.length, c1]
    refine ⟨H2, ι2, as ++ bs, xs ++ [x], k1, k2, h3.trans k3, Emb.le_trans h4 k4, by simp [h5], by simp [h6, hbl, Nat.add_mul], fun i z hz => ?_, fun i z hz => ?_⟩
    · by_cases hi : i < len * n
      · rw [List.getElem?_append_left (by omega)] at hz
        obtain ⟨y, q1, q2⟩ := h7 i z hz
        exact ⟨y, q1, q2.mono k4⟩
      · rw [List.getElem?_append_right (by omega), h6] at hz
        obtain ⟨y, q1, q2⟩ := k5.get hz
        have hlt : i - len * n < n := by have := (List.getElem?_eq_some_iff.1 hz).1; omega
        obtain ⟨y', q3, q4⟩ := c2 _ hlt
        rw [q1] at q3; cases q3
        refine ⟨y, ?_, q2⟩
        rw [add_add] at q4
        rwa [show len * n + (i - len * n) = i by omega] at q4
    · by_cases hi : i < len
      · rw [List.getElem?_append_left (by omega)] at hz
        have hle : i * n + n ≤ len * n := by
          have : (i + 1) * n ≤ len * n := Nat.mul_le_mul_right n hi
          rwa [Nat.add_mul, Nat.one_mul] at this
        have : ((as ++ bs).drop (i * n)).take n = (as.drop (i * n)).take n := by
          rw [List.drop_append_of_le_length (by omega), List.take_append_of_le_length (by simp; omega)]
        rw [this]
        exact hm k3 (h8 i z hz)
      · have : i = len := by
          have := (List.getElem?_eq_some_iff.1 hz).1
          simp at this; omega
        subst this
        rw [List.getElem?_append_right (by omega), h5] at hz
        simp at hz
        subst hz
        rw [← h6, List.drop_left, List.take_of_length_le (by omega)]
        exact k6
theorem Ent.slice {α : Type} {R : Rp α} {t e : TypeId} {n : Nat} (hu : P.underlying t = some (.slice e)) (hn : P.cellsOf e = n) (h0 : 0 < n) (hR : Ent P R e) (hm : Mono R) : Ent P (RSlice n R) t := fun {Hd} enc w fuel cs d ps h H ι hr hro => by
  cases fuel with
  | zero => simp [DataW.trod] at h
  | succ fuel =>
    simp only [DataW.trod, hu] at h
    split at h <;> first | (exfalso; simp_all; done) | skip
    · exact ⟨H, ι, _, [], hr, hro, .refl _, Emb.le_refl _, .cons .sliceNil .nil, _, rfl, Nat.zero_le _, .inl ⟨rfl, rfl⟩⟩
    · rename_i e' a len cap he
      cases he
      split at h
      · rename_i hc
        obtain ⟨_, hlc, hcm⟩ := hc
        obtain ⟨elems, hel, h⟩ := Option.bind_eq_some_iff.1 h
        obtain ⟨rest, hrest, h⟩ := Option.map_eq_some_iff.1 h
        have hat : ∀ i, i < len → ∃ y, ((w.cells? 0 (a.add (i * n)) n).bind (DataW.trod enc P w 0 (fun _ => true) true fuel e)) = some y := fun i hi => by
          obtain ⟨y, _, hy⟩ := Lib.mapM_at hel i i (by simp [hi])
          rw [hn] at hy
          exact ⟨y, hy⟩
        have hunk : cap < unk := Nat.lt_of_le_of_lt hcm (by decide)
        by_cases hl0 : len = 0
        · subst hl0
          by_cases hc0 : cap = 0
          · subst hc0
            exact ⟨H, ι, [.slice (some ⟨H.next, 0, none⟩) 0 0], [], hr, hro, .refl _, Emb.le_refl _, .cons (.sliceZ a) .nil, _, rfl, Nat.zero_le _, .inr (.inl ⟨_, _, by decide, rfl, rfl⟩)⟩
          · obtain ⟨y, _, hy⟩ := Lib.mapM_at hrest 0 0 (List.getElem?_range (by omega))
            obtain ⟨cs0, hc0', _⟩ := Option.bind_eq_some_iff.1 hy
            rw [hn] at hc0'
            obtain ⟨z, _, hz⟩ := (cells?_at hc0').2 0 h0
            simp only [Nat.zero_mul, Nat.add_zero, add_add] at hz
            have hsp : a.spot = none := by
              unfold World.cell? at hz
              split at hz
              · split at hz
                · cases hz
                · rename_i hs; simpa [Addr.add] using hs
              · cases hz
            have hd : OOk P w.heap.size ι w ⟨a.block, a.off, 0, 1⟩ .dead := trivial
            obtain ⟨q1, q2⟩ := HRel.row_ro hr hro (.inr rfl) hd
            have ha : a = ⟨a.block, a.off + 0, none⟩ := by cases a; simp at hsp; subst hsp; rfl
            refine ⟨_, _, [.slice (some ⟨H.next, 0, none⟩) 0 cap], [], q2, hro.alloc (.inr rfl), .alloc _ _, Emb.le_put q1, .cons ?_ .nil, _, rfl, Nat.zero_le _, .inr (.inl ⟨_, _, hunk, rfl, rfl⟩)⟩
            rw [ha]
            exact .slice (l := ⟨a.block, a.off, 0, 1⟩) (by simp [Emb.put]) hunk (Nat.zero_le _)
        · obtain ⟨H1, ι1, as, xs, h1, h2, h3, h4, h5, h6, h7, h8⟩ := Ent.elems hR hm enc w fuel a n hn len hat H ι hr hro
          have hpos : 0 < len * n := Nat.mul_pos (by omega) h0
          obtain ⟨z, hz, _⟩ := h7 0 as[0] (by simp [List.getElem?_eq_getElem (show 0 < as.length by omega)])
          have ⟨hsp, c, tt, fr, hw⟩ : a.spot = none ∧ ∃ c t fr, w.heap[a.block]? = some (.cells c t fr) := by
            unfold World.cell? at hz
            split at hz
            · rename_i c t fr hw
              split at hz
              · cases hz
              · rename_i hs; exact ⟨by simpa [Addr.add] using hs, c, t, fr, by simpa [Addr.add] using hw⟩
            · cases hz
          have hcell : ∀ (i : Nat) (x : Value), as[i]? = some x → ∃ y, c[a.off + i]? = some y ∧ VRel ι1 x y := fun i x hx => by
            obtain ⟨y, hy, hv⟩ := h7 i x hx
            refine ⟨y, ?_, hv⟩
            unfold World.cell? at hy
            have hb : (a.add i).block = a.block := by unfold Addr.add; split <;> rfl
            have ho : (a.add i).off = a.off + i := by unfold Addr.add; split <;> simp_all
            rw [hb, hw] at hy
            simp only at hy
            split at hy
            · cases hy
            · rw [← ho]; exact hy
          have hfit : a.off + as.length ≤ c.size := by
            obtain ⟨y, hy, _⟩ := hcell (as.length - 1) as[as.length - 1] (by simp [List.getElem?_eq_getElem (show as.length - 1 < as.length by omega)])
            have := (Array.getElem?_eq_some_iff.1 hy).1
            omega
          have hd : OOk P w.heap.size ι1 w ⟨a.block, a.off, c.size, P.cellsOf e⟩ (.row e as .ro 0 0) :=
            ⟨⟨c, tt, fr, hw, rfl, hcell, fun e => (nomatch e)⟩, hfit, rfl, fun e => absurd rfl e, fun _ => (Array.getElem?_eq_some_iff.1 hw).1, fun e => (nomatch e)⟩
          obtain ⟨q1, q2⟩ := HRel.row_ro h1 h2 (.inl ⟨_, _, rfl⟩) hd
          have ha : a = ⟨a.block, a.off + 0, none⟩ := by cases a; simp at hsp; subst hsp; rfl
          refine ⟨_, _, [.slice (some ⟨H1.next, 0, none⟩) xs.length cap], xs, q2, h2.alloc (.inl ⟨_, _, rfl⟩), h3.trans (.alloc _ _), Emb.le_trans h4 (Emb.le_put q1), .cons ?_ .nil, _, rfl, by omega, .inr (.inr ⟨H1.next, 0, cap, e, as, 0, 0, rfl, by omega, hcm, by simp, by simp, by rw [h5, h6]; omega, fun i x hx => ?_⟩)⟩
          · rw [h5, ha]
            exact .slice (l := ⟨a.block, a.off, c.size, P.cellsOf e⟩) (by simp [Emb.put]) hunk hlc
          · rw [Nat.zero_add]
            exact hm (.alloc _ _) (h8 i x hx)
      · cases h
def REnd : Rp Unit := fun _ cs _ => cs = []
def RCons {α β : Type} (n : Nat) (R : Rp α) (S : Rp β) : Rp (α × β) := fun H cs x => R H (cs.take n) x.1 ∧ S H (cs.drop n) x.2
theorem REnd.mono : Mono REnd := fun _ h => h
theorem RCons.mono {α β : Type} {n : Nat} {R : Rp α} {S : Rp β} (h : Mono R) (k : Mono S) : Mono (RCons n R S) := fun hk hx => ⟨h hk hx.1, k hk hx.2⟩
def EntF {β : Type} (P : Program) (S : Rp β) (fs : List Field) (off size : Nat) : Prop :=
  ∀ {Hd : Type} (enc : TypeId × Value → Hd) (w : World) (fuel : Nat) (cs : List Value), cs.length = size →
    (∀ f, f ∈ fs → ∃ y, DataW.trod enc P w 0 (fun _ => true) true fuel f.type ((cs.drop f.offset).take (P.cellsOf f.type)) = some y) →
    ∀ (H : AH) (ι : Emb), HRel P w.heap.size ι H w → Ro H → ∃ H' ι' as, ∃ b : β, HRel P w.heap.size ι' H' w ∧ Ro H' ∧ Kro H H' ∧ ι.le ι' ∧ LRel ι' as (cs.drop off) ∧ S H' as b
theorem EntF.nil {off size : Nat} (h : size ≤ off) : EntF P REnd [] off size := fun enc w fuel cs hl _ H ι hr hro =>
  ⟨H, ι, [], (), hr, hro, .refl _, Emb.le_refl _, by rw [List.drop_eq_nil_iff.2 (by omega)]; exact .nil, rfl⟩
theorem EntF.cons {α β : Type} {R : Rp α} {S : Rp β} {f : Field} {fs : List Field} {off n size : Nat} (ho : f.offset = off) (hn : P.cellsOf f.type = n) (hs : off + n ≤ size) (hR : Ent P R f.type) (hm : Mono R) (hS : EntF P S fs (off + n) size) :
    EntF P (RCons n R S) (f :: fs) off size := fun enc w fuel cs hl hf H ι hr hro => by
  obtain ⟨y, hy⟩ := hf f (by simp)
  rw [ho, hn] at hy
  obtain ⟨H1, ι1, as, x, h1, h2, h3, h4, h5, h6⟩ := hR enc w fuel _ y.1 y.2 hy H ι hr hro
  obtain ⟨H2, ι2, bs, z, k1, k2, k3, k4, k5, k6⟩ := hS enc w fuel cs hl (fun g hg => hf g (by simp [hg])) H1 ι1 h1 h2
  have hlen : as.length = n := by rw [h5.length]; simp; omega
  refine ⟨H2, ι2, as ++ bs, (x, z), k1, k2, h3.trans k3, Emb.le_trans h4 k4, ?_, ?_, ?_⟩
  · have := (h5.mono k4).append k5
    rwa [← List.drop_drop, List.take_append_drop] at this
  · simp only [← hlen, List.take_left]; exact hm k3 h6
  · simp only [← hlen, List.drop_left]; exact k6
theorem Ent.struct {β : Type} {S : Rp β} {t : TypeId} {fs : Array Field} {l : List Field} {size : Nat} (hu : P.underlying t = some (.struct fs)) (hl : fs.toList = l) (hs : P.cellsOf t = size) (h : EntF P S l 0 size) : Ent P S t := fun {Hd} enc w fuel cs d ps ht H ι hr hro => by
  cases fuel with
  | zero => simp [DataW.trod] at ht
  | succ fuel =>
    simp only [DataW.trod, hu] at ht
    split at ht
    · rename_i hlen
      obtain ⟨xs, hm, _⟩ := Option.map_eq_some_iff.1 ht
      obtain ⟨H', ι', as, b, h1, h2, h3, h4, h5, h6⟩ := h enc w fuel cs (by omega) (fun f hf => by
        rw [← hl] at hf
        obtain ⟨i, hi⟩ := List.mem_iff_getElem?.1 hf
        obtain ⟨y, _, hy⟩ := Lib.mapM_at hm i f hi
        exact ⟨y, hy⟩) H ι hr hro
      exact ⟨H', ι', as, b, h1, h2, h3, h4, by simpa using h5, h6⟩
    · cases ht
end Go.Ev

/-
  EV, universal use, part f: a law's arguments, and what its call does.
-/
namespace Go.Ev
open Go.RowKit
variable {P : Program} {w : World} {H : AH} {ι : Emb}
theorem cell_not_agg {base : Nat} {t : TypeId} {cs : Array Value} (h : Cell.okWide P w .any base t (.agg cs)) : False := by
  revert h; unfold Cell.okWide Cell.ok
  cases P.underlying t with
  | none => simp
  | some d => cases d <;> simp
def Desc.many : TypeDesc → Bool
  | .struct _ | .array _ _ => true
  | _ => false
theorem Ent.one {α : Type} {R : Rp α} {t : TypeId} {ds : TypeDesc} (hu : P.underlying t = some ds) (hm : Desc.many ds = false) (hR : Ent P R t) {Hd : Type} (enc : TypeId × Value → Hd) {base : Nat} {v : Value} {d : DataW Hd} {ps : List MemPlace} (hok : Value.okWide P w .any base t v) (ht : DataW.Trod enc P w 0 (fun _ => true) true t v d ps)
    (hr : HRel P w.heap.size ι H w) (hro : Ro H) : ∃ H' ι' av, ∃ a : α, HRel P w.heap.size ι' H' w ∧ Ro H' ∧ Kro H H' ∧ ι.le ι' ∧ VRel ι' av v ∧ R H' [av] a := by
  obtain ⟨fuel, ht⟩ := ht
  obtain ⟨H', ι', as, a, h1, h2, h3, h4, h5, h6⟩ := hR enc w fuel _ d ps ht H ι hr hro
  have hc : Cell.okWide P w .any base t v := by
    unfold Value.okWide at hok
    rw [hu] at hok
    cases ds <;> first | exact hok | cases hm
  have hv : v.cells = #[v] := by cases v <;> first | rfl | exact (cell_not_agg hc).elim
  rw [hv] at h5
  cases h5 with
  | cons hx hnil =>
    cases hnil
    exact ⟨H', ι', _, a, h1, h2, h3, h4, hx, h6⟩
theorem Ent.agg {α : Type} {R : Rp α} {t : TypeId} {fs : Array Field} (hu : P.underlying t = some (.struct fs)) (hR : Ent P R t) {Hd : Type} (enc : TypeId × Value → Hd) {base : Nat} {v : Value} {d : DataW Hd} {ps : List MemPlace} (hok : Value.okWide P w .any base t v) (ht : DataW.Trod enc P w 0 (fun _ => true) true t v d ps)
    (hr : HRel P w.heap.size ι H w) (hro : Ro H) : ∃ H' ι' as, ∃ a : α, HRel P w.heap.size ι' H' w ∧ Ro H' ∧ Kro H H' ∧ ι.le ι' ∧ VRel ι' (.agg as) v ∧ R H' as.toList a := by
  obtain ⟨fuel, ht⟩ := ht
  obtain ⟨H', ι', as, a, h1, h2, h3, h4, h5, h6⟩ := hR enc w fuel _ d ps ht H ι hr hro
  unfold Value.okWide at hok
  rw [hu] at hok
  obtain ⟨cs, rfl, _⟩ := hok
  refine ⟨H', ι', as.toArray, a, h1, h2, h3, h4, ?_, by simpa using h6⟩
  have : VRel ι' (.agg as.toArray) (.agg cs.toList.toArray) := VRel.agg' h5
  simpa using this
def AEnd : Rp Unit := fun _ avs _ => avs = []
def AOne {α β : Type} (R : Rp α) (S : Rp β) : Rp (α × β) := fun H avs x => ∃ v vs, avs = v :: vs ∧ R H [v] x.1 ∧ S H vs x.2
def AAgg {α β : Type} (R : Rp α) (S : Rp β) : Rp (α × β) := fun H avs x => ∃ cs vs, avs = .agg cs :: vs ∧ R H cs.toList x.1 ∧ S H vs x.2
def EntA {β : Type} (P : Program) (S : Rp β) (ts : List TypeId) : Prop :=
  ∀ {Hd : Type} (enc : TypeId × Value → Hd) (w : World) (base : Nat) (vs : List Value) (ds : List (DataW Hd)) (ps : List MemPlace), DataW.TrodAll enc P w 0 (fun _ => true) true ts vs ds ps →
    (∀ (j : Nat) t v, ts[j]? = some t → vs[j]? = some v → Value.okWide P w .any base t v) →
    ∀ (H : AH) (ι : Emb), HRel P w.heap.size ι H w → Ro H → ∃ H' ι' avs, ∃ b : β, HRel P w.heap.size ι' H' w ∧ Ro H' ∧ Kro H H' ∧ ι.le ι' ∧ LRel ι' avs vs ∧ S H' avs b
theorem EntA.nil : EntA P AEnd [] := fun enc w base vs ds ps h _ H ι hr hro => by
  cases vs with
  | nil => exact ⟨H, ι, [], (), hr, hro, .refl _, Emb.le_refl _, .nil, rfl⟩
  | cons v vs => exact h.elim
theorem EntA.one {α β : Type} {R : Rp α} {S : Rp β} {t : TypeId} {ts : List TypeId} {dsc : TypeDesc} (hu : P.underlying t = some dsc) (hm : Desc.many dsc = false) (hR : Ent P R t) (hmo : Mono R) (hS : EntA P S ts) : EntA P (AOne R S) (t :: ts) := fun enc w base vs ds ps h hok H ι hr hro => by
  cases vs with
  | nil => exact h.elim
  | cons v vs =>
    cases ds with
    | nil => exact h.elim
    | cons d ds =>
      obtain ⟨p, q, h1, h2, _⟩ := h
      obtain ⟨H1, ι1, av, a, k1, k2, k3, k4, k5, k6⟩ := Ent.one hu hm hR enc (hok 0 t v rfl rfl) h1 hr hro
      obtain ⟨H2, ι2, avs, b, l1, l2, l3, l4, l5, l6⟩ := hS enc w base vs ds q h2 (fun j t v ht hv => hok (j + 1) t v (by simpa using ht) (by simpa using hv)) H1 ι1 k1 k2
      exact ⟨H2, ι2, av :: avs, (a, b), l1, l2, k3.trans l3, Emb.le_trans k4 l4, .cons (k5.mono l4) l5, av, avs, rfl, hmo l3 k6, l6⟩
theorem EntA.agg {α β : Type} {R : Rp α} {S : Rp β} {t : TypeId} {ts : List TypeId} {fs : Array Field} (hu : P.underlying t = some (.struct fs)) (hR : Ent P R t) (hmo : Mono R) (hS : EntA P S ts) : EntA P (AAgg R S) (t :: ts) := fun enc w base vs ds ps h hok H ι hr hro => by
  cases vs with
  | nil => exact h.elim
  | cons v vs =>
    cases ds with
    | nil => exact h.elim
    | cons d ds =>
      obtain ⟨p, q, h1, h2, _⟩ := h
      obtain ⟨H1, ι1, as, a, k1, k2, k3, k4, k5, k6⟩ := Ent.agg hu hR enc (hok 0 t v rfl rfl) h1 hr hro
      obtain ⟨H2, ι2, avs, b, l1, l2, l3, l4, l5, l6⟩ := hS enc w base vs ds q h2 (fun j t v ht hv => hok (j + 1) t v (by simpa using ht) (by simpa using hv)) H1 ι1 k1 k2
      exact ⟨H2, ι2, .agg as :: avs, (a, b), l1, l2, k3.trans l3, Emb.le_trans k4 l4, .cons (k5.mono l4) l5, as, avs, rfl, hmo l3 k6, l6⟩
theorem Ro.laid {rows : List AObj} (hr : ∀ g o, rows[g]? = some o → RowIn w g o) : Ro (startH rows) := fun b => by
  rw [startH_obj]
  cases h : rows[b]? with
  | none => exact .inr rfl
  | some o =>
    have hi := hr b o h
    cases o with
    | row et cells st g v =>
      cases st <;> try exact hi.elim
      cases g with
      | succ g => exact hi.elim
      | zero => cases v with
        | succ v => exact hi.elim
        | zero => exact .inl ⟨et, cells, rfl⟩
    | dead => exact .inr rfl
    | map es => exact hi.elim
    | strIter s p => exact hi.elim
    | loop => exact hi.elim
theorem law_calls {β : Type} (hn : (P.funcs.toList.all fun fn => !(fn.name == "runtime.NumGoroutine")) = true) (hm : P.follows .mixedOrders = true) {rows : List AObj} (hr : ∀ g o, rows[g]? = some o → RowIn w g o)
    {S : Rp β} {ts : List TypeId} (hS : EntA P S ts) {Hd : Type} {enc : TypeId × Value → Hd} {base : Nat} {args : Array Value} {ds : List (DataW Hd)} {ps : List MemPlace} (ht : DataW.TrodAll enc P w 0 (fun _ => true) true ts args.toList ds ps)
    (hok : ∀ (j : Nat) t v, ts[j]? = some t → args[j]? = some v → Value.okWide P w .any base t v) {f : FuncId} {v : Value} (hv : plain v = true) {O : Orc} (hO : OrcOk (envOf P rows.length) O)
    (hL : ∀ H avs b, Kro (startH rows) H → S H avs b → ∃ H', Lc (envOf P rows.length) O f avs H v H') : Calls P f args w fun e w' => e = .returned v ∧ Below w.heap.size w w' := by
  obtain ⟨H', ι', avs, b, h1, h2, h3, h4, h5, h6⟩ := hS enc w base args.toList ds ps ht (fun j t v a c => hok j t v a (by simpa using c)) (startH rows) (startE P rows) (HRel.laid P w rows hr) (Ro.laid hr)
  obtain ⟨H'', hl⟩ := hL H' avs b h3 h6
  have hG : GOk (startE P rows) (envOf P rows.length).nG := fun g hg => by
    have hg' : g < rows.length := hg
    cases hs : startE P rows g with
    | some l => exact ⟨l, rfl, (startE_blk hs).2⟩
    | none =>
      unfold startE at hs
      rw [show rows[g]? = some rows[g] by simp [hg']] at hs
      split at hs <;> simp_all
  have := Lc.sound (V := envOf P rows.length) hO (fun t ti h => h) (fnOf_ok hn) hm hl w.heap.size ι' w args.toList (hG.mono h4) h1 h5
  exact this.mono fun e w' ⟨v', ι'', he, hr, hs⟩ => ⟨by rw [he, hr.plain_eq hv], hs.below⟩
end Go.Ev

/-
  EV, universal use, part g: what a universal row asks of its law.
-/
namespace Go.Ev
open Go.RowKit Go.ChangeShapes Go.WideShapes Go.ChangeAt
variable {P : Program} {W W' : World}
theorem trodAll_stays {Hd : Type} {enc : TypeId × Value → Hd} (hl : laidOutB P = true) (hb : Below W.heap.size W W') {sp : Nat → Bool} : ∀ {ts : List TypeId} {vs : List Value} {ds : List (DataW Hd)} {ps : List MemPlace},
    (∀ t ∈ ts, P.readableRec t = true ∧ t < P.types.size) → DataW.TrodAll enc P W 0 (fun _ => true) true ts vs ds ps → (∀ x ∈ ps, x.block < W.heap.size) → (∀ x ∈ ps, sp x.block = true) → DataW.TrodAll enc P W' 0 sp true ts vs ds ps
  | [], [], [], _, _, h, _, _ => h
  | [], [], _ :: _, _, _, h, _, _ => h.elim
  | [], _ :: _, _, _, _, h, _, _ => h.elim
  | _ :: _, [], _, _, _, h, _, _ => h.elim
  | _ :: _, _ :: _, [], _, _, h, _, _ => h.elim
  | t :: ts, v :: vs, d :: ds, ps, ht, h, hlt, hsp => by
    obtain ⟨p, q, h1, h2, rfl⟩ := h
    exact ⟨p, q, WideElems.Trod_stays hl (ht t (by simp)).1 (ht t (by simp)).2 h1 (fun x hx => hb.same (hlt x (by simp [hx]))) (fun x hx => hsp x (by simp [hx])),
      trodAll_stays hl hb (fun u hu => ht u (by simp [hu])) h2 (fun x hx => hlt x (by simp [hx])) (fun x hx => hsp x (by simp [hx])), rfl⟩
theorem trodAll_len {Hd : Type} {enc : TypeId × Value → Hd} {sp : Nat → Bool} : ∀ {ts : List TypeId} {vs : List Value} {ds : List (DataW Hd)} {ps : List MemPlace}, DataW.TrodAll enc P W 0 sp true ts vs ds ps → vs.length = ts.length ∧ ds.length = ts.length
  | [], [], [], _, _ => ⟨rfl, rfl⟩
  | [], [], _ :: _, _, h => h.elim
  | [], _ :: _, _, _, h => h.elim
  | _ :: _, [], _, _, h => h.elim
  | _ :: _, _ :: _, [], _, h => h.elim
  | _ :: _, _ :: _, _ :: _, _, h => by
    obtain ⟨p, q, _, h2, _⟩ := h
    have := trodAll_len h2
    simp [this.1, this.2]
theorem law_contract {β : Type} (hn : (P.funcs.toList.all fun fn => !(fn.name == "runtime.NumGoroutine")) = true) (hm : P.follows .mixedOrders = true) (hl : laidOutB P = true) {rows : List AObj} (hr : ∀ g o, rows[g]? = some o → RowIn W g o)
    {S : Rp β} {f : FuncId} {fn : Func} {ts : List TypeId} (hp : fn.params.toList = ts) (hS : EntA P S ts) (hts : (ts.all fun t => P.readableRec t && decide (t < P.types.size)) = true)
    {tb : TypeId} (hres : fn.resultTypes = #[tb]) (hbool : P.underlying tb = some .bool) {s : ChangeSpec} (hvars : s.vars = [])
    {H : Type} {enc : TypeId × Value → H} {base : Nat} {args : Array Value} {ds gs : List (DataW H)} {before : List MemPlace} (hfn : gs = [] → ds.length = ts.length → s.fn H (ds ++ gs) = { results := [.lit (.bool true)], args := ds })
    (hval : ∀ (j : Nat) t v, fn.params[j]? = some t → args[j]? = some v → Value.okWide P W .any base t v)
    (hW : DataW.Whole enc P fn.params.toList s.vars false W args.toList ds gs before) {fresh handsOn again : Bool} {O : Orc} (hO : OrcOk (envOf P rows.length) O)
    (hL : ∀ H avs b, Kro (startH rows) H → S H avs b → ∃ H', Lc (envOf P rows.length) O f avs H (.bool true) H') :
    Calls P f args W fun e W' => ∃ v, e = .returned v ∧ s.post enc P fn false fresh handsOn again W args v W' := by
  have hW' := hW
  obtain ⟨p, q, hA, hV, rfl, _, _⟩ := hW
  rw [hvars] at hV
  obtain ⟨rfl, rfl⟩ := trodVars_none hV
  rw [hp] at hA
  have hlen := trodAll_len hA
  have hf := hfn rfl hlen.2
  have hlt : ∀ x ∈ p, x.block < W.heap.size := fun x hx => hW'.lt x (by simp [hx])
  refine (law_calls hn hm hr hS hA (base := base) (fun j t v ht hv => hval j t v (by rw [← hp] at ht; simpa using ht) hv) rfl hO hL).mono fun e W' ⟨he, hb⟩ => ?_
  subst he
  have hts' : ∀ t ∈ ts, P.readableRec t = true ∧ t < P.types.size := fun t ht => by
    have := List.all_eq_true.1 hts t ht
    simpa using this
  refine ⟨_, rfl, post_below (pa := p) (pv := []) hW' hb (fun _ _ _ => ?_) (fun sp hsp => ?_) (fun sp _ => ?_) rfl (ok_one hres rfl (okWide_bool_mk hbool _))⟩
  · rw [hf, hres]
    exact trodAll_cons_mk (shut_bool hbool _) trodAll_mk0
  · rw [hf, hp]
    exact trodAll_stays hl hb hts' hA hlt (fun x hx => hsp x (by simp [hx]))
  · rw [hf, hvars]; exact rfl
end Go.Ev

/-
  EV, universal use, part h: closed calls that the kernel has run, known wherever the package-level variables are as laid.
-/
namespace Go.Ev
open Go.RowKit
def rowOk : AObj → Bool
  | .row _ cells .ro 0 0 => cells.all plain
  | .dead => true
  | _ => false
theorem plain_soundS {P : Program} {rows : List AObj} (hrows : rows.all rowOk = true) {f : FuncId} {vs : List Value} {v : Value} {H' : AH} (hvs : vs.all constOk = true) (hv : constOk v = true)
    (h1 : Sound (envOf P rows.length) (.fn f) vs (startH rows) v H') {H : AH} (hk : Kro (startH rows) H) : Sound (envOf P rows.length) (.fn f) vs H v H := by
  intro B0 ι w vs' hG hR hL
  obtain rfl := hL.constOk_eq hvs
  have hrow : ∀ b o, rows[b]? = some o → rowOk o = true := fun b o ho => List.all_eq_true.1 hrows o (List.mem_of_getElem? ho)
  let ι0 : Emb := fun b => if b < rows.length then ι b else none
  have hι0 : ∀ b l, ι0 b = some l → b < rows.length ∧ ι b = some l := fun b l hb => by
    simp only [ι0] at hb
    split at hb
    · rename_i hlt; exact ⟨hlt, hb⟩
    · cases hb
  have hobj : ∀ b, (startH rows).obj b = (rows[b]?).getD .dead := startH_obj rows
  have hRo : ∀ b, b < rows.length → (∃ et cells, (startH rows).obj b = .row et cells .ro 0 0 ∧ (∀ x ∈ cells, plain x = true)) ∨ (startH rows).obj b = .dead := fun b hb => by
    rw [hobj, show rows[b]? = some rows[b] by simp [hb]]
    have := hrow b rows[b] (by simp [hb])
    generalize rows[b] = o at this ⊢
    cases o with
    | row et cells st g v =>
      cases st <;> try cases this
      cases g with
      | succ g => cases this
      | zero => cases v with
        | succ v => cases this
        | zero => exact .inl ⟨et, cells, rfl, fun x hx => List.all_eq_true.1 this x hx⟩
    | dead => exact .inr rfl
    | map es => cases this
    | strIter s p => cases this
    | loop => cases this
  have hR0 : HRel P w.heap.size ι0 (startH rows) w := by
    refine { base := Nat.le_refl _, dom := fun b l hb => (hι0 b l hb).1, obj := fun b l hb ha => ?_, sep := fun b b' l l' hne hb hb' ha ha' he => ?_, grp := fun b l et cells st g v hb ho => ?_ }
    · obtain ⟨hlt, hb'⟩ := hι0 b l hb
      rcases hRo b hlt with ⟨et, cells, e, hp⟩ | e
      · have e' := hk.2 b et cells 0 0 hlt e
        have ok := hR.obj b l hb' (by rw [e']; rfl)
        rw [e'] at ok
        rw [e]
        obtain ⟨⟨cs, t, fr, q1, q2, q3, q4⟩, hf, he, ho, hr, hx⟩ := ok
        have hlt2 : l.blk < w.heap.size := (Array.getElem?_eq_some_iff.1 q1).1
        exact ⟨⟨cs, t, fr, q1, q2, fun i x hx => by
          obtain ⟨y, r1, r2⟩ := q3 i x hx
          have hp' := hp x (List.mem_of_getElem? hx)
          have := r2.plain_eq hp'
          subst this
          exact ⟨_, r1, VRel.of_plain hp'⟩, q4⟩, hf, he, fun e => absurd rfl e, fun _ => hlt2, fun e => (nomatch e)⟩
      · rw [e] at ha; cases ha
    · rcases hRo b (hι0 b l hb).1 with ⟨et, cells, e, _⟩ | e
      · rcases hRo b' (hι0 b' l' hb').1 with ⟨et', cells', e', _⟩ | e'
        · rw [e, e']; trivial
        · rw [e'] at ha'; cases ha'
      · rw [e] at ha; cases ha
    · have hlt := (hι0 b l hb).1
      rcases hRo b hlt with ⟨et', cells', e, _⟩ | e
      · rw [e] at ho; cases ho
        exact ⟨by show 0 < rows.length; omega, Nat.zero_le _⟩
      · rw [e] at ho; cases ho
  have hG0 : GOk ι0 (envOf P rows.length).nG := fun g hg => by
    obtain ⟨l, a, b⟩ := hG g hg
    exact ⟨l, by simp only [ι0]; rw [if_pos (show g < rows.length from hg)]; exact a, b⟩
  have hL0 : ∀ {l : List Value}, l.all constOk = true → LRel ι0 l l := fun {l} hl => by
    induction l with
    | nil => exact .nil
    | cons a l ih =>
      simp only [List.all_cons, Bool.and_eq_true] at hl
      exact .cons (VRel.of_constOk hl.1) (ih hl.2)
  have := h1 w.heap.size ι0 w vs' hG0 hR0 (hL0 hvs)
  refine this.mono fun e w' ⟨v', ι', he, hr, hs⟩ => ⟨v, ι, by rw [he, hr.constOk_eq hv], VRel.of_constOk hv, ?_⟩
  have hsame : ∀ b l, ι b = some l → H.alive (H.obj b) = true → w'.heap[l.blk]? = w.heap[l.blk]? := fun b l hb ha => hs.low _ ((hR.obj b l hb ha).lt ha)
  have hrel : HRel P B0 ι H w' :=
    { base := Nat.le_trans hR.base hs.size, dom := hR.dom, obj := fun b l hb ha => (hR.obj b l hb ha).carry (Emb.le_refl _) (hsame b l hb ha), sep := hR.sep, grp := hR.grp }
  exact
    { le := Emb.le_refl _, new := fun _ _ h => .inl h, next := Nat.le_refl _, rel := hrel, size := hs.size, frame := fun c hc _ => hs.low c hc, low := fun c hc => hs.low c (Nat.lt_of_lt_of_le hc hR.base),
      fresh := fun b l h k => (by rw [h] at k; cases k), old := fun _ _ _ h => h, loc := fun _ _ _ => rfl, os := hs.os, tape := hs.tape, output := hs.output }
noncomputable def orcOne (rows : List AObj) (f : FuncId) (v : Value) : Orc := fun g vs H => by
  classical
  exact if g = f ∧ vs = [] ∧ Kro (startH rows) H then some (v, H) else none
theorem orcOne_ok {V : Env} {rows : List AObj} {f : FuncId} {v : Value} (h : ∀ H, Kro (startH rows) H → Sound V (.fn f) [] H v H) : OrcOk V (orcOne rows f v) := fun g vs H u H' hu => by
  unfold orcOne at hu
  split at hu
  · rename_i hc
    cases hu
    obtain ⟨rfl, rfl, hk⟩ := hc
    exact h H hk
  · cases hu
theorem orcOne_ne {rows : List AObj} {f : FuncId} {v : Value} {g : FuncId} (h : g ≠ f) (vs : List Value) (H : AH) : orcOne rows f v g vs H = none := by
  unfold orcOne
  rw [if_neg (fun e => h e.1)]
theorem orcOne_eq {rows : List AObj} {f : FuncId} {v : Value} {H : AH} (h : Kro (startH rows) H) : orcOne rows f v f [] H = some (v, H) := by
  unfold orcOne
  rw [if_pos ⟨rfl, rfl, h⟩]
end Go.Ev

/-
  EV, universal use, part n: closed calls that the kernel has run.
-/
namespace Go.Ev
open Go.RowKit
theorem closed_sound {P : Program} (hn : (P.funcs.toList.all fun fn => !(fn.name == "runtime.NumGoroutine")) = true) (hm : P.follows .mixedOrders = true) {rows : List AObj} (hrows : rows.all rowOk = true) {lf d : Nat} {f : FuncId} {v : Value} (hv : plain v = true)
    (h : runK (envOf P rows.length) rows lf d f = some v) {H : AH} (hk : Kro (startH rows) H) : Sound (envOf P rows.length) (.fn f) [] H v H := by
  rw [runK_eq] at h
  obtain ⟨⟨v0, H'⟩, h1, h2⟩ := map_some h
  simp only at h2
  subst h2
  exact plain_soundS hrows rfl (by unfold constOk; rw [hv]; rfl) (CallOk.iff.1 (fL_ok (V := envOf P rows.length) (fun t ti h => h) (fnOf_ok hn) hm lf d) _ _ _ _ _ h1) hk
end Go.Ev

/-
  EV, universal use, part i: slices of strings cut, slices of one's own.
-/
namespace Go.Ev
open Go.RowKit
variable {V : Env} {O : Orc}
section
variable {g : Ft} {H : AH}
theorem op_sliceS {x lo : Operand} {t : TypeId} {s : ByteArray} {n b : Nat} {z : Value} {k : IntKind} {i : Int} (hx : g x = some (.string s)) (hi : g lo = some (.int k i)) (ht : V.E t = some ⟨.string, n, b, z⟩) (h0 : 0 ≤ i) (h1 : i ≤ s.size) :
    aopG V g H (.slice t x (some lo) none none) = some (.string (s.extract i.toNat s.size), H) := by
  simp only [aopG, hx, gopt, hi, Option.map_some, aSlice, ht, optBound, bound]
  rw [if_pos ⟨h0, h1⟩]; rfl
theorem op_sliceS2 {x lo hi : Operand} {t : TypeId} {s : ByteArray} {n b : Nat} {z : Value} {k k' : IntKind} {i j : Int} (hx : g x = some (.string s)) (hl : g lo = some (.int k i)) (hj : g hi = some (.int k' j)) (ht : V.E t = some ⟨.string, n, b, z⟩) (h0 : 0 ≤ i) (h1 : i ≤ j) (h2 : j ≤ s.size) :
    aopG V g H (.slice t x (some lo) (some hi) none) = some (.string (s.extract i.toNat j.toNat), H) := by
  simp only [aopG, hx, gopt, hl, hj, Option.map_some, aSlice, ht, optBound, bound]
  rw [if_pos ⟨by omega, h2⟩]
  simp only
  rw [if_pos ⟨h0, by omega⟩]; rfl
end
def Own (H : AH) (e : TypeId) (sz : Nat) (v : Value) (n : Nat) (cells : List Value) : Prop :=
  cells.length = n * sz ∧ ((v = .slice none 0 0 ∧ n = 0) ∨ ∃ b g k, v = .slice (some ⟨b, 0, none⟩) n unk ∧ b < H.next ∧ H.obj b = .row e cells .loose g k ∧ H.ver g = k)
theorem Own.nil {H : AH} {e : TypeId} {sz : Nat} : Own H e sz (.slice none 0 0) 0 [] := ⟨by simp, .inl ⟨rfl, rfl⟩⟩
theorem Own.app {H : AH} {e : TypeId} {sz bytes n m : Nat} {v : Value} {cells new : List Value} (h : Own H e sz v n cells) (hm : 0 < m) (hz : 0 < sz) (hn : new.length = m * sz) (hb : (n + m) * bytes ≤ 140737488355328) (hl : n + m < 4611686018427387904) :
    ∃ v' H', H.app e sz bytes v m new = some (v', H') ∧ Own H' e sz v' (n + m) (cells ++ new) ∧ Kro H H' := by
  obtain ⟨hc, ⟨rfl, rfl⟩ | ⟨b, g, k, rfl, hlt, ho, hv⟩⟩ := h
  · have : cells = [] := List.length_eq_zero_iff.1 (by simpa using hc)
    subst this
    refine ⟨.slice (some ⟨H.next, 0, none⟩) (0 + m) unk, H.alloc (.row e new .loose H.next (H.ver H.next)), ?_, ⟨by simp [hn], .inr ⟨H.next, H.next, H.ver H.next, rfl, by simp, by simp, rfl⟩⟩, .alloc _ _⟩
    simp only [AH.app]
    rw [if_neg (by omega), if_pos ⟨by simpa using hb, by omega, hz⟩]
    simp
  · have hm' : 0 < m * sz := Nat.mul_pos hm hz
    refine ⟨.slice (some ⟨H.next, 0, none⟩) (n + m) unk, (H.put b (.row e cells .shared g k)).alloc (.row e (cells ++ new) .loose g k), ?_, ⟨by simp [hc, hn, Nat.add_mul], .inr ⟨H.next, g, k, rfl, by simp, by simp, by simpa using hv⟩⟩, ?_⟩
    · simp only [AH.app, ho]
      rw [if_neg (by omega), if_neg (fun h => h ⟨hb, hl, hz⟩), if_pos trivial, if_pos ⟨trivial, hv⟩, if_neg (by omega), if_pos (by omega)]
      simp
    · refine ⟨by simp, fun c et cs g' v' hc' ho' => ?_⟩
      rw [AH.obj_alloc, if_neg (show ¬ c = (H.put b (.row e cells .shared g k)).next by rw [AH.next_put]; omega), AH.obj_put]
      by_cases e : c = b
      · subst e; rw [ho] at ho'; cases ho'
      · rw [if_neg e]; exact ho'
theorem op_append {g : Ft} {H H' : AH} {x y : Operand} {t u e : TypeId} {n b n2 b2 : Nat} {z z2 : Value} {te : TI} {v v' : Value} {c off m cap : Nat} {new : List Value} (hx : g x = some v) (hy : g y = some (.slice (some ⟨c, off, none⟩) m cap)) (ht : V.E t = some ⟨.slice e, n, b, z⟩) (hu : V.E u = some ⟨.slice e, n2, b2, z2⟩) (he : V.E e = some te)
    (hm : 0 < m) (hr : H.rd c off (m * te.size) = some new) (h1 : new.all Value.oneCell' = true) (ha : H.app e te.size te.bytes v m new = some (v', H')) : aopG V g H (.call ⟨.builtin .append, #[x, y], #[t, u]⟩) = some (v', H') := by
  simp only [aopG, gvals, hx, hy, aBuiltin, ht, hu, he, srcLen, AH.src]
  rw [if_neg (by omega), hr]
  simp only [h1, if_true, ha]
theorem rd_alloc {H : AH} {e : TypeId} {cs : List Value} {n : Nat} (hn : cs.length = n) : (H.alloc (.row e cs .exact 0 0)).rd H.next 0 n = some cs := by
  subst hn
  unfold AH.rd
  simp [AH.lo, AH.alive]
theorem op_build {g : Ft} {H : AH} {t : TypeId} {ps : Array (Nat × Operand)} {vs : List (Nat × Value)} {v : Value} (hp : gparts g ps.toList = some vs) (h : aBuild V.E t vs = some v) : aopG V g H (.build t ps) = some (v, H) := by
  simp only [aopG, hp, h, Option.map_some]
theorem WP.seqK {live : Option Nat} {n : Nat} {a b : PC} {l : SL} {H : AH} {Q : Ex → SL → AH → Prop} (lit : SL) (H1 : AH) (F : Prop) (h : WP V O live n a l H (ThenL (fun l' H' => F ∧ Kn l' lit ∧ H' = H1) Q)) (k : F → WP V O live n b lit H1 Q) : WP V O live n (.seq a b) l H Q :=
  .seq (h.mono fun e l' H' hq => by
    cases e with
    | normal => obtain ⟨hf, hk, rfl⟩ := hq; exact (k hf).sub hk.look
    | exit id => exact hq
    | ret => exact hq)
end Go.Ev

