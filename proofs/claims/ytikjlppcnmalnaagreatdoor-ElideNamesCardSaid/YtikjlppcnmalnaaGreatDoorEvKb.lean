/-
  EV, kernel, part b: the abstract machine once more, each part handing on to the next: what is handed on is never a sum that is still to be done. Here: values, maps, heaps.
-/
import Derived.Test.YtikjlppcnmalnaaGreatDoorEvKa
namespace Go.Ev
open Go.RowKit

abbrev KR := Option Value

noncomputable section

/-! ### Values, worked out -/
def forceN (n : Nat) (k : Nat → KR) : KR := Nat.rec (motive := fun _ => KR) (k 0) (fun m _ => k (Nat.succ m)) n
theorem forceN_eq (n : Nat) (k : Nat → KR) : forceN n k = k n := by cases n <;> rfl

def forceI (n : Int) (k : Int → KR) : KR := Int.rec (motive := fun _ => KR) (fun m => forceN m fun m => k (Int.ofNat m)) (fun m => forceN m fun m => k (Int.negSucc m)) n
theorem forceI_eq (n : Int) (k : Int → KR) : forceI n k = k n := by cases n <;> simp [forceI, forceN_eq]

def forceB (b : Bool) (k : Bool → KR) : KR := Bool.rec (motive := fun _ => KR) (k false) (k true) b
theorem forceB_eq (b : Bool) (k : Bool → KR) : forceB b k = k b := by cases b <;> rfl

def forceY (l : List UInt8) (k : List UInt8 → KR) : KR :=
  List.rec (motive := fun _ => (List UInt8 → KR) → KR) (fun k => k []) (fun c _ ih k => forceN c.toNat fun n => ih fun l => k (UInt8.ofNat n :: l)) l k
theorem forceY_eq : ∀ (l : List UInt8) (k : List UInt8 → KR), forceY l k = k l
  | [], k => rfl
  | c :: l, k => by
    show forceN c.toNat (fun n => forceY l fun l => k (UInt8.ofNat n :: l)) = _
    rw [forceN_eq, forceY_eq l]; simp

def forceS (s : ByteArray) (k : ByteArray → KR) : KR := forceY s.data.toList fun l => k ⟨⟨l⟩⟩
theorem forceS_eq (s : ByteArray) (k : ByteArray → KR) : forceS s k = k s := by simp [forceS, forceY_eq]

def forceA (a : Option Addr) (k : Option Addr → KR) : KR :=
  match a with
  | none => k none
  | some ⟨b, off, none⟩ => forceN b fun b => forceN off fun off => k (some ⟨b, off, none⟩)
  | some ⟨b, off, some s⟩ => k (some ⟨b, off, some s⟩)
theorem forceA_eq (a : Option Addr) (k : Option Addr → KR) : forceA a k = k a := by
  unfold forceA; split <;> simp [forceN_eq]

def forceO (a : Option Nat) (k : Option Nat → KR) : KR :=
  match a with
  | none => k none
  | some n => forceN n fun n => k (some n)
theorem forceO_eq (a : Option Nat) (k : Option Nat → KR) : forceO a k = k a := by
  unfold forceO; split <;> simp [forceN_eq]

def force0 (v : Value) (k : Value → KR) : KR :=
  match v with
  | .bool b => forceB b fun b => k (.bool b)
  | .int d n => forceI n fun n => k (.int d n)
  | .float d n => forceN n fun n => k (.float d n)
  | .complex d n m => k (.complex d n m)
  | .string s => forceS s fun s => k (.string s)
  | .pointer a => forceA a fun a => k (.pointer a)
  | .slice a n c => forceA a fun a => forceN n fun n => forceN c fun c => k (.slice a n c)
  | .map r => forceO r fun r => k (.map r)
  | .chan r => k (.chan r)
  | .func f a b => k (.func f a b)
  | .nilFunc => k .nilFunc
  | .iface t v => k (.iface t v)
  | .nilIface => k .nilIface
  | .agg cs => k (.agg cs)
  | .tuple cs => k (.tuple cs)
theorem force0_eq (v : Value) (k : Value → KR) : force0 v k = k v := by
  unfold force0; split <;> simp [forceB_eq, forceI_eq, forceN_eq, forceS_eq, forceA_eq, forceO_eq]

def forceL0 (l : List Value) (k : List Value → KR) : KR :=
  List.rec (motive := fun _ => (List Value → KR) → KR) (fun k => k []) (fun v _ ih k => force0 v fun v => ih fun l => k (v :: l)) l k
theorem forceL0_eq : ∀ (l : List Value) (k : List Value → KR), forceL0 l k = k l
  | [], k => rfl
  | c :: l, k => by
    show force0 c (fun v => forceL0 l fun l => k (v :: l)) = _
    rw [force0_eq, forceL0_eq l]

def force1 (v : Value) (k : Value → KR) : KR :=
  match v with
  | .agg cs => forceL0 cs.toList fun l => k (.agg ⟨l⟩)
  | .iface t v => force0 v fun v => k (.iface t v)
  | .func f a b => forceL0 a.toList fun a => forceL0 b.toList fun b => k (.func f ⟨a⟩ ⟨b⟩)
  | .bool b => forceB b fun b => k (.bool b)
  | .int d n => forceI n fun n => k (.int d n)
  | .string s => forceS s fun s => k (.string s)
  | .pointer a => forceA a fun a => k (.pointer a)
  | .slice a n c => forceA a fun a => forceN n fun n => forceN c fun c => k (.slice a n c)
  | v => force0 v k
theorem force1_eq (v : Value) (k : Value → KR) : force1 v k = k v := by
  unfold force1; split <;> simp [forceL0_eq, forceB_eq, forceI_eq, forceN_eq, forceS_eq, forceA_eq, force0_eq]

def forceL1 (l : List Value) (k : List Value → KR) : KR :=
  List.rec (motive := fun _ => (List Value → KR) → KR) (fun k => k []) (fun v _ ih k => force1 v fun v => ih fun l => k (v :: l)) l k
theorem forceL1_eq : ∀ (l : List Value) (k : List Value → KR), forceL1 l k = k l
  | [], k => rfl
  | c :: l, k => by
    show force1 c (fun v => forceL1 l fun l => k (v :: l)) = _
    rw [force1_eq, forceL1_eq l]

/-- A value, worked out. -/
def forceV (v : Value) (k : Value → KR) : KR :=
  match v with
  | .tuple cs => forceL1 cs.toList fun l => k (.tuple ⟨l⟩)
  | .agg cs => forceL0 cs.toList fun l => k (.agg ⟨l⟩)
  | .bool b => forceB b fun b => k (.bool b)
  | .int d n => forceI n fun n => k (.int d n)
  | .string s => forceS s fun s => k (.string s)
  | .pointer a => forceA a fun a => k (.pointer a)
  | .slice a n c => forceA a fun a => forceN n fun n => forceN c fun c => k (.slice a n c)
  | v => force1 v k
theorem forceV_eq (v : Value) (k : Value → KR) : forceV v k = k v := by
  unfold forceV; split <;> simp [forceL1_eq, forceL0_eq, forceB_eq, forceI_eq, forceN_eq, forceS_eq, forceA_eq, force1_eq]

/-- A list's spine, worked out. -/
def forceL {α : Type} (l : List α) (k : List α → KR) : KR :=
  List.rec (motive := fun _ => (List α → KR) → KR) (fun k => k []) (fun v _ ih k => ih fun l => k (v :: l)) l k
theorem forceL_eq {α : Type} : ∀ (l : List α) (k : List α → KR), forceL l k = k l
  | [], k => rfl
  | c :: l, k => by
    show forceL l (fun l => k (c :: l)) = _
    rw [forceL_eq l]

/-! ### Maps keyed by numbers -/
def getK {α β : Type} (d : β) (s : α → β) (t : PTree α) : Nat → β :=
  PTree.rec (motive := fun _ => Nat → β) (fun _ => d) (fun _ o _ ihl ihr n =>
    Nat.rec (motive := fun _ => β) (Option.rec (motive := fun _ => β) d s o) (fun m _ => Bool.rec (motive := fun _ => β) (ihr (m / 2)) (ihl ((m + 1) / 2)) (Nat.beq (m % 2) 0)) n) t
theorem getK_eq {α β : Type} (d : β) (s : α → β) : ∀ (t : PTree α) (n : Nat), getK d s t n = match t.get n with
    | some v => s v
    | none => d
  | .leaf, n => rfl
  | .node l o r, 0 => by
    show Option.rec (motive := fun _ => β) d s o = _
    simp only [PTree.get]
    cases o <;> rfl
  | .node l o r, n + 1 => by
    show Bool.rec (motive := fun _ => β) (getK d s r (n / 2)) (getK d s l ((n + 1) / 2)) (Nat.beq (n % 2) 0) = _
    rw [getK_eq d s r, getK_eq d s l]
    simp only [PTree.get]
    cases Nat.beq (n % 2) 0 <;> rfl

def setK {α β : Type} (v : α) (f : Nat) : Nat → PTree α → (PTree α → β) → β :=
  Nat.rec (motive := fun _ => Nat → PTree α → (PTree α → β) → β) (fun _ t k => k t) (fun _ ih n t k =>
    PTree.rec (motive := fun _ => β)
      (Nat.rec (motive := fun _ => β) (k (.node .leaf (some v) .leaf)) (fun m _ => Bool.rec (motive := fun _ => β) (ih (m / 2) .leaf fun r => k (.node .leaf none r)) (ih ((m + 1) / 2) .leaf fun l => k (.node l none .leaf)) (Nat.beq (m % 2) 0)) n)
      (fun l o r _ _ => Nat.rec (motive := fun _ => β) (k (.node l (some v) r)) (fun m _ => Bool.rec (motive := fun _ => β) (ih (m / 2) r fun r => k (.node l o r)) (ih ((m + 1) / 2) l fun l => k (.node l o r)) (Nat.beq (m % 2) 0)) n) t) f
theorem setK_eq {α β : Type} (v : α) : ∀ (f n : Nat) (t : PTree α) (k : PTree α → β), setK v f n t k = k (PTree.setF v f n t)
  | 0, n, t, k => by simp only [PTree.setF]; rfl
  | f + 1, 0, .leaf, k => by simp only [PTree.setF]; rfl
  | f + 1, 0, .node l o r, k => by simp only [PTree.setF]; rfl
  | f + 1, n + 1, .leaf, k => by
    show Bool.rec (motive := fun _ => β) (setK v f (n / 2) .leaf fun r => k (.node .leaf none r)) (setK v f ((n + 1) / 2) .leaf fun l => k (.node l none .leaf)) (Nat.beq (n % 2) 0) = _
    rw [setK_eq v f, setK_eq v f]
    simp only [PTree.setF]
    cases Nat.beq (n % 2) 0 <;> rfl
  | f + 1, n + 1, .node l o r, k => by
    show Bool.rec (motive := fun _ => β) (setK v f (n / 2) r fun r => k (.node l o r)) (setK v f ((n + 1) / 2) l fun l => k (.node l o r)) (Nat.beq (n % 2) 0) = _
    rw [setK_eq v f, setK_eq v f]
    simp only [PTree.setF]
    cases Nat.beq (n % 2) 0 <;> rfl

def setTK {α β : Type} (t : PTree α) (n : Nat) (v : α) (k : PTree α → β) : β := setK v (Nat.succ n) n t k
theorem setTK_eq {α β : Type} (t : PTree α) (n : Nat) (v : α) (k : PTree α → β) : setTK t n v k = k (t.set n v) := setK_eq v _ _ _ _

/-! ### Heaps -/
def objK (H : AH) (b : Nat) (k : AObj → KR) : KR := AH.rec (motive := fun _ => KR) (fun tree _ _ => getK (k .dead) k tree b) H
theorem objK_eq (H : AH) (b : Nat) (k : AObj → KR) : objK H b k = k (H.obj b) := by
  obtain ⟨t, n, w⟩ := H
  show getK (k .dead) k t b = _
  rw [getK_eq]
  simp only [AH.obj]
  cases t.get b <;> rfl

def verK (H : AH) (g : Nat) (k : Nat → KR) : KR := AH.rec (motive := fun _ => KR) (fun _ _ wv => getK (k 0) k wv g) H
theorem verK_eq (H : AH) (g : Nat) (k : Nat → KR) : verK H g k = k (H.ver g) := by
  obtain ⟨t, n, w⟩ := H
  show getK (k 0) k w g = _
  rw [getK_eq]
  simp only [AH.ver]
  cases w.get g <;> rfl

def putK (H : AH) (b : Nat) (o : AObj) (k : AH → KR) : KR := AH.rec (motive := fun _ => KR) (fun tree next wv => setTK tree b o fun t => k ⟨t, next, wv⟩) H
theorem putK_eq (H : AH) (b : Nat) (o : AObj) (k : AH → KR) : putK H b o k = k (H.put b o) := by
  obtain ⟨t, n, w⟩ := H
  show setTK t b o _ = _
  rw [setTK_eq]; rfl

def allocK (H : AH) (o : AObj) (k : Nat → AH → KR) : KR := AH.rec (motive := fun _ => KR) (fun tree next wv => setTK tree next o fun t => forceN (Nat.succ next) fun n => k next ⟨t, n, wv⟩) H
theorem allocK_eq (H : AH) (o : AObj) (k : Nat → AH → KR) : allocK H o k = k H.next (H.alloc o) := by
  obtain ⟨t, n, w⟩ := H
  show setTK t n o _ = _
  rw [setTK_eq, forceN_eq]; rfl

def bumpK (H : AH) (g v : Nat) (k : AH → KR) : KR := AH.rec (motive := fun _ => KR) (fun tree next wv => setTK wv g v fun t => k ⟨tree, next, t⟩) H
theorem bumpK_eq (H : AH) (g v : Nat) (k : AH → KR) : bumpK H g v k = k (H.bump g v) := by
  obtain ⟨t, n, w⟩ := H
  show setTK w g v _ = _
  rw [setTK_eq]; rfl

def ifK (b : Bool) (y n : KR) : KR := Bool.rec (motive := fun _ => KR) n y b
theorem ifK_eq (b : Bool) (y n : KR) : ifK b y n = if b = true then y else n := by cases b <;> rfl

def loK (H : AH) (b : Nat) (k : AObj → KR) : KR := AH.rec (motive := fun _ => KR) (fun tree next _ => Bool.rec (motive := fun _ => KR) (k .dead) (getK (k .dead) k tree b) (Nat.blt b next)) H
theorem loK_eq (H : AH) (b : Nat) (k : AObj → KR) : loK H b k = k (H.lo b) := by
  have := objK_eq H b k
  obtain ⟨t, n, w⟩ := H
  show Bool.rec (motive := fun _ => KR) (k .dead) (getK (k .dead) k t b) (Nat.blt b n) = _
  unfold AH.lo
  cases h : Nat.blt b n with
  | true =>
    rw [if_pos (show b < (⟨t, n, w⟩ : AH).next from Nat.blt_eq.mp h)]
    exact this
  | false =>
    rw [if_neg (show ¬ b < (⟨t, n, w⟩ : AH).next from fun hb => by rw [Nat.blt_eq.mpr hb] at h; cases h)]

/-- A living row. -/
def rowK (H : AH) (b : Nat) (k : TypeId → List Value → RowSt → Nat → Nat → KR) : KR :=
  loK H b fun o => match o with
    | .row et cells .exact g v => k et cells .exact g v
    | .row et cells .ro g v => k et cells .ro g v
    | .row et cells .loose g v => verK H g fun u => ifK (Nat.beq u v) (k et cells .loose g v) none
    | .row et cells .shared g v => verK H g fun u => ifK (Nat.beq u v) (k et cells .shared g v) none
    | _ => none

theorem rowK_eq (H : AH) (b : Nat) (k : TypeId → List Value → RowSt → Nat → Nat → KR) : rowK H b k = match H.lo b with
    | .row et cells st g v => if H.alive (.row et cells st g v) = true then k et cells st g v else none
    | _ => none := by
  unfold rowK
  rw [loK_eq]
  cases H.lo b with
  | row et cells st g v => cases st <;> simp [AH.alive, verK_eq, ifK_eq]
  | _ => rfl

/-! ### Rows -/
def dropK (l : List Value) (n : Nat) (k : List Value → KR) : KR :=
  Nat.rec (motive := fun _ => List Value → KR) (fun l => k l) (fun _ ih l => List.rec (motive := fun _ => KR) none (fun _ l _ => ih l) l) n l
theorem dropK_eq (k : List Value → KR) : ∀ (n : Nat) (l : List Value), dropK l n k = if n ≤ l.length then k (l.drop n) else none
  | 0, l => by
    show k l = _
    simp
  | n + 1, [] => by simp [dropK]
  | n + 1, v :: l => by
    show dropK l n k = _
    rw [dropK_eq k n l]
    simp

def takeK (n : Nat) : List Value → (List Value → KR) → KR :=
  Nat.rec (motive := fun _ => List Value → (List Value → KR) → KR) (fun _ k => k []) (fun _ ih l k => List.rec (motive := fun _ => KR) none (fun v l _ => ih l fun r => k (v :: r)) l) n
theorem takeK_eq : ∀ (n : Nat) (l : List Value) (k : List Value → KR), takeK n l k = if n ≤ l.length then k (l.take n) else none
  | 0, l, k => by
    show k [] = _
    simp
  | n + 1, [], k => by simp [takeK]
  | n + 1, v :: l, k => by
    show takeK n l (fun r => k (v :: r)) = _
    rw [takeK_eq n l]
    simp

def partK (l : List Value) (off n : Nat) (k : List Value → KR) : KR := dropK l off fun l => takeK n l k
theorem partK_eq (l : List Value) (off n : Nat) (k : List Value → KR) : partK l off n k = if off + n ≤ l.length then k ((l.drop off).take n) else none := by
  unfold partK
  rw [dropK_eq]
  by_cases h : off ≤ l.length
  · rw [if_pos h, takeK_eq]
    by_cases h2 : n ≤ (l.drop off).length
    · rw [if_pos h2, if_pos (by simp at h2; omega)]
    · rw [if_neg h2, if_neg (by simp at h2; omega)]
  · rw [if_neg h, if_neg (by omega)]

def rdK (H : AH) (b off n : Nat) (k : List Value → KR) : KR := rowK H b fun _ cells _ _ _ => partK cells off n k
theorem rdK_eq (H : AH) (b off n : Nat) (k : List Value → KR) : rdK H b off n k = (H.rd b off n).bind k := by
  unfold rdK AH.rd
  rw [rowK_eq]
  cases H.lo b with
  | row et cells st g v =>
    simp only [partK_eq]
    by_cases h : H.alive (.row et cells st g v) = true
    · by_cases h2 : off + n ≤ cells.length <;> simp [h, h2]
    · simp [h]
  | _ => rfl

/-- One cell. -/
def nthK (l : List Value) (n : Nat) (k : Value → KR) : KR :=
  Nat.rec (motive := fun _ => List Value → KR) (fun l => List.rec (motive := fun _ => KR) none (fun v _ _ => k v) l) (fun _ ih l => List.rec (motive := fun _ => KR) none (fun _ l _ => ih l) l) n l
theorem nthK_eq (k : Value → KR) : ∀ (n : Nat) (l : List Value), nthK l n k = match l[n]? with
    | some v => k v
    | none => none
  | 0, [] => rfl
  | 0, v :: l => rfl
  | n + 1, [] => rfl
  | n + 1, v :: l => by
    show nthK l n k = _
    rw [nthK_eq k n l]; rfl
def rd1K (H : AH) (b off : Nat) (k : Value → KR) : KR := rowK H b fun _ cells _ _ _ => nthK cells off k
theorem rd1K_eq (H : AH) (b off : Nat) (k : Value → KR) : rd1K H b off k = match H.rd b off 1 with
    | some [v] => k v
    | _ => none := by
  unfold rd1K AH.rd
  rw [rowK_eq]
  cases H.lo b with
  | row et cells st g v =>
    simp only [nthK_eq]
    by_cases h : H.alive (.row et cells st g v) = true
    · by_cases h2 : off + 1 ≤ cells.length
      · have e : (cells.drop off).take 1 = [cells[off]] := by
          have hd := List.drop_eq_getElem_cons (l := cells) (i := off) (by omega)
          rw [hd]; rfl
        rw [if_pos h]
        simp only [h, h2, decide_true, Bool.and_self, if_true, e]
        rw [List.getElem?_eq_getElem (by omega)]
      · simp [h, h2]
        rw [List.getElem?_eq_none (by omega)]
    · simp [h]
  | _ => rfl

def overK (vs : List Value) : List Value → List Value := 
  List.rec (motive := fun _ => List Value → List Value) (fun l => l) (fun v _ ih l => v :: ih (List.rec (motive := fun _ => List Value) [] (fun _ l _ => l) l)) vs

/-- Values over a list's first. -/
def headK (vs : List Value) : List Value → (List Value → KR) → KR :=
  List.rec (motive := fun _ => List Value → (List Value → KR) → KR) (fun l k => k l) (fun v _ ih l k => List.rec (motive := fun _ => KR) (ih [] fun r => k (v :: r)) (fun _ l _ => ih l fun r => k (v :: r)) l) vs
theorem headK_eq : ∀ (vs l : List Value) (k : List Value → KR), headK vs l k = k (vs ++ l.drop vs.length)
  | [], l, k => by simp [headK]
  | v :: vs, [], k => by
    show headK vs [] (fun r => k (v :: r)) = _
    rw [headK_eq vs]; simp
  | v :: vs, u :: l, k => by
    show headK vs l (fun r => k (v :: r)) = _
    rw [headK_eq vs]; simp

def spliceK (vs : List Value) (off : Nat) : List Value → (List Value → KR) → KR :=
  Nat.rec (motive := fun _ => List Value → (List Value → KR) → KR) (fun l k => headK vs l k) (fun _ ih l k => List.rec (motive := fun _ => KR) (ih [] k) (fun v l _ => ih l fun r => k (v :: r)) l) off
theorem spliceK_eq (vs : List Value) : ∀ (off : Nat) (l : List Value) (k : List Value → KR), spliceK vs off l k = k (splice l off vs)
  | 0, l, k => by
    show headK vs l k = _
    rw [headK_eq]; simp [splice]
  | n + 1, [], k => by
    show spliceK vs n [] k = _
    rw [spliceK_eq vs n]; simp [splice]
  | n + 1, v :: l, k => by
    show spliceK vs n l (fun r => k (v :: r)) = _
    rw [spliceK_eq vs n]
    simp only [splice]
    rw [show n + 1 + vs.length = (n + vs.length) + 1 by omega]
    simp

def lenK (l : List Value) (k : Nat → KR) : KR := forceN l.length k

/-- Writing into a row. -/
def wrK (H : AH) (b off : Nat) (vs : List Value) (k : AH → KR) : KR :=
  ifK vs.isEmpty (k H) (objK H b fun o => match o with
    | .row et cells .exact g v => ifK (Nat.ble (off + vs.length) cells.length) (spliceK vs off cells fun r => putK H b (.row et r .exact g v) k) none
    | .row et cells .loose g v => verK H g fun u => ifK (Nat.beq u v && Nat.ble (off + vs.length) cells.length) (spliceK vs off cells fun r => forceN (Nat.succ v) fun v1 => putK H b (.row et r .loose g v1) fun H => bumpK H g v1 k) none
    | _ => none)
theorem wrK_eq (H : AH) (b off : Nat) (vs : List Value) (k : AH → KR) : wrK H b off vs k = (H.wr b off vs).bind k := by
  unfold wrK AH.wr
  rw [ifK_eq, objK_eq]
  by_cases he : vs.isEmpty = true
  · simp [he]
  · rw [if_neg he, if_neg he]
    cases H.obj b with
    | row et cells st g v =>
      cases st with
      | exact =>
        simp only [ifK_eq, Nat.ble_eq, spliceK_eq, putK_eq]
        split <;> simp
      | loose =>
        simp only [verK_eq, ifK_eq, Bool.and_eq_true, Nat.ble_eq, Nat.beq_eq, spliceK_eq, putK_eq, bumpK_eq, forceN_eq, beq_iff_eq, decide_eq_true_eq]
        split <;> simp
      | shared => rfl
      | ro => rfl
    | _ => rfl
end
end Go.Ev
