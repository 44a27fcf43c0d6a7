/-
  EV, kernel, part d: builtin functions, calls, code and functions, each handing on to the next.
-/
import Derived.Test.YtikjlppcnmalnaaGreatDoorEvLe
namespace Go.Ev
open Go.RowKit

noncomputable section
variable (V : Env)

/-! ### append, copy, clear -/
/-- Values ahead, another row behind. -/
def catK (a : List Value) (b : List Value) (k : List Value → KR) : KR := List.rec (motive := fun _ => (List Value → KR) → KR) (fun k => k b) (fun v _ ih k => ih fun r => k (v :: r)) a k
theorem catK_eq (b : List Value) : ∀ (a : List Value) (k : List Value → KR), catK a b k = k (a ++ b)
  | [], k => rfl
  | v :: a, k => by
    show catK a b (fun r => k (v :: r)) = _
    rw [catK_eq b a]; rfl

def appK (H : AH) (et : TypeId) (sz bytes : Nat) (s : Value) (n : Nat) (new : List Value) (k : Value → AH → KR) : KR :=
  match s with
  | .slice none 0 0 => ifK (Nat.beq n 0) (k (.slice none 0 0) H) (ifK (Nat.ble (n * bytes) 140737488355328 && Nat.blt n 4611686018427387904 && Nat.blt 0 sz)
      (verK H H.next fun u => forceN H.next fun g => allocK H (.row et new .loose g u) fun b H => k (.slice (some ⟨b, 0, none⟩) n unk) H) none)
  | .slice (some ⟨b, off, none⟩) len cap => ifK (Nat.beq n 0) (k (.slice (some ⟨b, off, none⟩) len cap) H) (ifK (Nat.ble ((len + n) * bytes) 140737488355328 && Nat.blt (len + n) 4611686018427387904 && Nat.blt 0 sz)
      (ifK (Nat.beq cap unk) (objK H b fun o => match o with
        | .row et' cells .loose g v => verK H g fun u => ifK (Nat.beq et' et && Nat.beq u v)
            (ifK (Nat.ble (off + len * sz + n * sz) cells.length) (wrK H b (off + len * sz) new fun H => forceN (len + n) fun m => k (.slice (some ⟨b, off, none⟩) m unk) H)
              (ifK (Nat.beq (off + len * sz) cells.length) (putK H b (.row et cells .shared g v) fun H => dropK cells off fun old => catK old new fun cs => allocK H (.row et cs .loose g v) fun c H => forceN (len + n) fun m => k (.slice (some ⟨c, 0, none⟩) m unk) H)
                (ifK (Nat.blt (off + len * sz) cells.length) (putK H b .dead fun H => forceN (Nat.succ v) fun v1 => bumpK H g v1 fun H => partK cells off (len * sz) fun old => catK old new fun cs => allocK H (.row et cs .loose g v1) fun c H => forceN (len + n) fun m => k (.slice (some ⟨c, 0, none⟩) m unk) H) none))) none
        | _ => none)
      (ifK (Nat.ble (len + n) cap) (wrK H b (off + len * sz) new fun H => forceN (len + n) fun m => k (.slice (some ⟨b, off, none⟩) m cap) H)
        (rdK H b off (len * sz) fun old => catK old new fun cs => verK H H.next fun u => forceN H.next fun g => allocK H (.row et cs .loose g u) fun c H => forceN (len + n) fun m => k (.slice (some ⟨c, 0, none⟩) m unk) H))) none)
  | _ => none

theorem appK_eq (H : AH) (et : TypeId) (sz bytes : Nat) (s : Value) (n : Nat) (new : List Value) (k : Value → AH → KR) : appK H et sz bytes s n new k = bk (H.app et sz bytes s n new) k := by
  unfold appK AH.app
  split
  · simp only [ifK_eq, Bool.and_eq_true, Nat.ble_eq, Nat.blt_eq, Nat.beq_eq, verK_eq, forceN_eq, allocK_eq]
    split
    · rfl
    · by_cases h : n * bytes ≤ 140737488355328 ∧ n < 4611686018427387904 ∧ 0 < sz
      · rw [if_pos h, if_pos ⟨⟨h.1, h.2.1⟩, h.2.2⟩]; rfl
      · rw [if_neg h, if_neg (fun e => h ⟨e.1.1, e.1.2, e.2⟩)]; rfl
  · rename_i b off len cap
    simp only [ifK_eq, Bool.and_eq_true, Nat.ble_eq, Nat.blt_eq, Nat.beq_eq, verK_eq, forceN_eq, allocK_eq, objK_eq, wrK_eq, putK_eq, dropK_eq, catK_eq, bumpK_eq, partK_eq, rdK_eq]
    split
    · rfl
    · by_cases h : (len + n) * bytes ≤ 140737488355328 ∧ len + n < 4611686018427387904 ∧ 0 < sz
      · rw [if_pos (show ((len + n) * bytes ≤ 140737488355328 ∧ len + n < 4611686018427387904) ∧ 0 < sz from ⟨⟨h.1, h.2.1⟩, h.2.2⟩), if_neg (not_not_intro h)]
        split
        · cases H.obj b with
          | row et' cells st g v =>
            cases st with
            | loose =>
              simp only
              split
              · split
                · cases H.wr b (off + len * sz) new <;> rfl
                · split
                  · rw [if_pos (by omega)]
                    rename_i he _ _
                    rfl
                  · split
                    · rw [if_pos (by omega)]; rfl
                    · rfl
              · rfl
            | _ => rfl
          | _ => rfl
        · split
          · cases H.wr b (off + len * sz) new <;> rfl
          · cases H.rd b off (len * sz) <;> rfl
      · rw [if_neg (fun e : ((len + n) * bytes ≤ 140737488355328 ∧ len + n < 4611686018427387904) ∧ 0 < sz => h ⟨e.1.1, e.1.2, e.2⟩), if_pos h]; rfl
  · rename_i h1 h2
    split
    · exact absurd rfl h1
    · exact absurd rfl (h2 _ _ _ _)
    · rfl

/-- What is appended, or copied. -/
def srcK (H : AH) (sz : Nat) (x : Value) (n : Nat) (k : List Value → KR) : KR :=
  match x with
  | .slice (some ⟨b, off, none⟩) _ _ => ifK (Nat.beq n 0) (k []) (rdK H b off (n * sz) k)
  | x => match H.src sz x n with
    | some vs => forceL0 vs k
    | none => none
theorem srcK_eq (H : AH) (sz : Nat) (x : Value) (n : Nat) (k : List Value → KR) : srcK H sz x n k = (H.src sz x n).bind k := by
  unfold srcK
  split
  · simp only [ifK_eq, rdK_eq, AH.src, Nat.beq_eq]
    split <;> rfl
  · cases H.src sz x n <;> simp [forceL0_eq]

def append0K (e : TypeId) (s x : Value) (H : AH) (k : Value → AH → KR) : KR :=
  match V.E e, x with
  | some te, .int _ (.ofNat n) => forceN n fun n => ifK (Nat.blt n 4611686018427387904 && Nat.ble (n * te.bytes) 140737488355328) (forceL0 (azeros te.zv.cells.toList n) fun vs => appK H e te.size te.bytes s n vs k) none
  | _, _ => none
theorem append0K_eq (e : TypeId) (s x : Value) (H : AH) (k : Value → AH → KR) : append0K V e s x H k = bk (append0 V.E H e s x) k := by
  unfold append0K append0
  cases V.E e with
  | none => rfl
  | some te =>
    cases x with
    | int kd n =>
      cases n with
      | ofNat n =>
        simp only [forceN_eq, ifK_eq, Bool.and_eq_true, Nat.blt_eq, Nat.ble_eq, forceL0_eq]
        split
        · rw [appK_eq]
        · rfl
      | negSucc n => rfl
    | _ => rfl

def appendK (t u : TypeId) (s x : Value) (H : AH) (k : Value → AH → KR) : KR :=
  match V.E t, V.E u with
  | some ⟨.slice e, _, _, _⟩, some tu => match tu.desc with
    | .int _ => append0K V e s x H k
    | _ => match V.E e, srcLen x with
      | some te, some n => forceN n fun n => srcK H te.size x n fun vs => ifK (vs.all Value.oneCell') (appK H e te.size te.bytes s n vs k) none
      | _, _ => none
  | _, _ => none

def copyK (t : TypeId) (dst src : Value) (H : AH) (k : Value → AH → KR) : KR :=
  match V.E t, srcLen src with
  | some ⟨.slice e, _, _, _⟩, some m => match V.E e, dst with
    | some _, .slice none 0 0 => k (.int .i64 0) H
    | some te, .slice (some ⟨b, off, none⟩) len _ => forceN (min m len) fun n => srcK H te.size src n fun vs => ifK (vs.all Value.oneCell') (wrK H b off vs fun H => k (.int .i64 (Int.ofNat n)) H) none
    | _, _ => none
  | _, _ => none

def clearK (t : TypeId) (x : Value) (H : AH) (k : Value → AH → KR) : KR :=
  match V.E t, x with
  | some ⟨.slice _, _, _, _⟩, .slice none 0 0 => k (.tuple #[]) H
  | some ⟨.slice e, _, _, _⟩, .slice (some ⟨b, off, none⟩) n _ => match V.E e with
    | some te => ifK (Nat.beq n 0) (k (.tuple #[]) H) (forceL0 (azeros te.zv.cells.toList n) fun cs => wrK H b off cs fun H => k (.tuple #[]) H)
    | none => none
  | some ⟨.map _ _, _, _, _⟩, .map (some b) => objK H b fun o => match o with
    | .map _ _ ck => putK H b (.map [] [] ck) fun H => k (.tuple #[]) H
    | _ => none
  | _, _ => none

/-- The place of a key. -/
def delSel (P : Program) (E : TypeId → Option TI) (kt : TypeId) (es : List (Value × Value)) (key : Value) : Option (Option Nat) :=
  match E kt with
  | some tk => match tk.desc with
    | .struct _ => if constOk key = true then match pureRun P (Instr.checkKey es.isEmpty 10000 kt key), findG P kt key es 0 with
        | some _, some (some (j, _)) => some (some j)
        | some _, some none => some none
        | _, _ => none
      else none
    | _ => if keyOk tk.desc key && entriesOk tk.desc es then some ((findA key es 0).map (·.1)) else none
  | none => none

def deleteK (t : TypeId) (m key : Value) (H : AH) (k : Value → AH → KR) : KR :=
  match V.E t, m with
  | some ⟨.map kt _, _, _, _⟩, .map (some b) => objK H b fun o => match o with
    | .map es bs ck => match delSel V.P V.E kt es key with
      | some (some j) => forceL (es.eraseIdx j) fun es => forceL (bs.eraseIdx j) fun bs => putK H b (.map es bs ck) fun H => k (.tuple #[]) H
      | some none => putK H b (.map es bs ck) fun H => k (.tuple #[]) H
      | none => none
    | _ => none
  | some ⟨.map _ _, _, _, _⟩, .map none => outK ((aDeleteX V.P V.E H t m key).map fun _ => .tuple #[]) H k
  | _, _ => none

/-- Does a heap stay at a builtin function that is not treated by itself? -/
def bltK (b : Builtin) (ts : List TypeId) (args : List Value) (H : AH) (k : Value → AH → KR) : KR :=
  match b, ts, args with
  | .len, [t], [x] => outK (aLen V.E H t x) H k
  | .append, [t, u], [s, x] => appendK V t u s x H k
  | .copy, [t, _], [d, x] => copyK V t d x H k
  | .clear, [t], [x] => clearK V t x H k
  | .delete, [t, _], [m, x] => deleteK V t m x H k
  | .max, _, args => outK (aPure V.P args (Builtin.max_ #[] 0 args.toArray)) H k
  | .min, _, args => outK (aPure V.P args (Builtin.min_ #[] 0 args.toArray)) H k
  | .cap, [t], [.slice _ _ c] => match V.E t with
    | some ⟨.slice _, _, _, _⟩ => ifK (Nat.blt c unk) (k (.int .i64 (Int.ofNat c)) H) none
    | _ => none
  | _, _, _ => none

theorem appendK_eq (t u : TypeId) (s x : Value) (H : AH) (k : Value → AH → KR) : appendK V t u s x H k = bk (aBuiltin V H .append [t, u] [s, x]) k := by
  simp only [appendK, aBuiltin]
  rcases V.E t with _ | ⟨d, sz, by_, zv⟩
  · rfl
  · cases d <;> try rfl
    rename_i e
    rcases V.E u with _ | tu
    · rfl
    · simp only
      cases tu.desc <;> try (first | exact append0K_eq V _ _ _ _ _ | rfl)
      all_goals
        try simp only
        cases V.E e with
        | none => rfl
        | some te =>
          cases srcLen x with
          | none => rfl
          | some n =>
            simp only [forceN_eq, srcK_eq, ifK_eq]
            cases H.src te.size x n with
            | none => rfl
            | some vs =>
              simp only [Option.bind_some]
              split
              · rw [appK_eq]
              · rfl

theorem copyK_eq (t u : TypeId) (d x : Value) (H : AH) (k : Value → AH → KR) : copyK V t d x H k = bk (aBuiltin V H .copy [t, u] [d, x]) k := by
  simp only [copyK, aBuiltin, aCopy]
  rcases V.E t with _ | ⟨dd, sz, by_, zv⟩
  · rfl
  · cases dd <;> try rfl
    rename_i e
    cases srcLen x with
    | none => rfl
    | some m =>
      simp only
      cases V.E e with
      | none => rfl
      | some te =>
        split
        · rename_i h1; cases h1; rfl
        · rename_i b off len _ h1
          cases h1
          simp only [forceN_eq, srcK_eq, ifK_eq, wrK_eq]
          cases H.src te.size x (min m len) with
          | none => rfl
          | some vs =>
            simp only [Option.bind_some]
            split
            · cases H.wr b off vs <;> rfl
            · rfl
        · rename_i h1 h2
          split
          · rename_i h3 h4; exact absurd rfl (h1 _ rfl)
          · rename_i h3 h4; exact absurd rfl (h2 _ _ _ _ _ rfl)
          · rfl

theorem clearK_eq (t : TypeId) (x : Value) (H : AH) (k : Value → AH → KR) : clearK V t x H k = bk (aBuiltin V H .clear [t] [x]) k := by
  simp only [clearK, aBuiltin, aClear]
  rcases V.E t with _ | ⟨dd, sz, by_, zv⟩
  · rfl
  · cases dd with
    | slice e =>
      cases x with
      | slice a n c =>
        rcases a with _ | ⟨b, off, sp⟩
        · rcases n with _ | n
          · rcases c with _ | c <;> rfl
          · rfl
        · rcases sp with _ | sp
          · simp only
            cases V.E e with
            | none => rfl
            | some te =>
              simp only [ifK_eq, Nat.beq_eq, forceL0_eq, wrK_eq]
              split
              · rfl
              · cases H.wr b off (azeros te.zv.cells.toList n) <;> rfl
          · rfl
      | _ => rfl
    | map kt et =>
      cases x with
      | map b =>
        cases b with
        | none => rfl
        | some b =>
          simp only [objK_eq]
          cases H.obj b with
          | map es bs ck => simp only [putK_eq]; rfl
          | _ => rfl
      | _ => rfl
    | _ => cases x with
      | map b => cases b <;> rfl
      | _ => rfl

theorem deleteK_eq (t u : TypeId) (m x : Value) (H : AH) (k : Value → AH → KR) : deleteK V t m x H k = bk (aBuiltin V H .delete [t, u] [m, x]) k := by
  simp only [deleteK, aBuiltin]
  rcases hE : V.E t with _ | ⟨d, sz, by_, zv⟩
  · simp [aDeleteX, structKeyed, aDelete, hE, bk]
  · cases d with
    | map kt et =>
      cases m with
      | map b =>
        cases b with
        | none =>
          simp only [aDeleteX, structKeyed, hE, outK_bk]
          rcases hk : V.E kt with _ | ⟨dk, sk, bk', zk⟩
          · simp [aDelete, hE, hk, bk]
          · cases dk with
            | struct fs => simp [aDeleteS, hE, bk]
            | _ => simp only [Bool.false_eq_true, if_false, aDelete, hE, hk]; split <;> rfl
        | some b =>
          simp only [objK_eq, aDeleteX, structKeyed, hE]
          rcases hk : V.E kt with _ | ⟨dk, sk, bk', zk⟩
          · simp only [Bool.false_eq_true, if_false, aDelete, hE, hk, delSel]
            cases H.obj b <;> rfl
          · cases dk with
            | struct fs =>
              simp only [if_true, aDeleteS, hE, hk, delSel]
              cases H.obj b with
              | map es bs ck =>
                simp only [forceL_eq, putK_eq]
                by_cases hc : constOk x = true
                · simp only [if_pos hc]
                  cases pureRun V.P (Instr.checkKey es.isEmpty 10000 kt x) with
                  | none => rfl
                  | some _ => rcases findG V.P kt x es 0 with _ | _ | ⟨j, y⟩ <;> rfl
                · simp only [if_neg hc]; rfl
              | _ => rfl
            | _ =>
              simp only [Bool.false_eq_true, if_false, aDelete, hE, hk, delSel]
              cases H.obj b with
              | map es bs ck =>
                simp only [forceL_eq, putK_eq]
                generalize (keyOk _ x && entriesOk _ es) = c
                cases c
                · rfl
                · simp only [if_true]; rcases findA x es 0 with _ | ⟨j, y⟩ <;> rfl
              | _ => rfl
      | _ => simp only [aDeleteX, aDeleteS, aDelete, hE]; split <;> rfl
    | _ => simp [aDeleteX, structKeyed, aDelete, hE, bk]

theorem bltK_eq (b : Builtin) (ts : List TypeId) (args : List Value) (H : AH) (k : Value → AH → KR) : bltK V b ts args H k = bk (aBuiltin V H b ts args) k := by
  unfold bltK
  split
  · rw [outK_bk]; rfl
  · exact appendK_eq V _ _ _ _ H k
  · exact copyK_eq V _ _ _ _ H k
  · exact clearK_eq V _ _ H k
  · exact deleteK_eq V _ _ _ _ H k
  · rw [outK_bk]; simp only [aBuiltin]
  · rw [outK_bk]; simp only [aBuiltin]
  · rename_i t a n c
    simp only [aBuiltin]
    rcases V.E t with _ | ⟨d, sz, by_, zv⟩
    · rfl
    · cases d <;> try rfl
      simp only [ifK_eq, Nat.blt_eq]
      split <;> rfl
  · have : aBuiltin V H b ts args = none := by
      unfold aBuiltin
      split
      all_goals first
        | rfl
        | (exfalso; simp_all; done)
        | (exfalso; simp_all; rename_i h; exact h _ _ _ _ rfl rfl rfl rfl)
        | (exfalso; simp_all; rename_i h; exact h _ _ rfl rfl)
    rw [this]; rfl
end
end Go.Ev
