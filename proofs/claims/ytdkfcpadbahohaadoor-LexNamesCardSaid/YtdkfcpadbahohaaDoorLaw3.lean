/-
  The two ways to find a token at the beginning are one.
-/
import Derived.Test.YtdkfcpadbahohaaDoorLaw2
import Derived.Test.YtdkfcpadbahohaaDoorEv5
set_option linter.all false
namespace Go.Proofs.YtdkfcpadbahohaaDoor.U
open Go Go.Ev
attribute [local irreducible] WL WP WH W
variable {O : Orc} {H : AH}
def valF (n : Nat) (l : List UInt8) : Nat := l.foldl (fun n c => n * 10 + (c.toNat - 48)) n
theorem valF_eq : ∀ (l : List UInt8) (n : Nat), valF n l = n * 10 ^ l.length + val l
  | [], n => by simp [valF, val]
  | c :: r, n => by
    have e1 : valF n (c :: r) = valF (n * 10 + (c.toNat - 48)) r := rfl
    have e2 : val (c :: r) = valF (0 * 10 + (c.toNat - 48)) r := rfl
    rw [e1, e2, valF_eq r, valF_eq r, List.length_cons, Nat.pow_succ, Nat.zero_mul, Nat.zero_add, Nat.add_mul, Nat.mul_assoc, Nat.mul_comm 10, Nat.add_assoc]
theorem val_cons (c : UInt8) (r : List UInt8) : val (c :: r) = (c.toNat - 48) * 10 ^ r.length + val r := by
  have e2 : val (c :: r) = valF (0 * 10 + (c.toNat - 48)) r := rfl
  rw [e2, valF_eq, Nat.zero_mul, Nat.zero_add]
theorem val_lt' {l : List UInt8} (hd : ∀ c ∈ l, dig c.toNat = true) : val l < 10 ^ l.length := by
  have := val_lt hd l.length (Nat.le_refl _)
  rwa [List.take_length] at this
theorem dig_iff {c : UInt8} : dig c.toNat = true ↔ 48 ≤ c.toNat ∧ c.toNat ≤ 57 := by
  simp only [dig, Bool.and_eq_true, decide_eq_true_eq]; omega
theorem less_val : ∀ {a b : List UInt8}, a.length = b.length → (∀ c ∈ a, dig c.toNat = true) → (∀ c ∈ b, dig c.toNat = true) → (Op.bytesLess a b || a == b) = decide (val a ≤ val b)
  | [], [], _, _, _ => by decide
  | [], _ :: _, h, _, _ => by simp at h
  | _ :: _, [], h, _, _ => by simp at h
  | x :: a, y :: b, h, ha, hb => by
    have hl : a.length = b.length := by simpa using h
    have ih := less_val hl (fun c hc => ha c (by simp [hc])) (fun c hc => hb c (by simp [hc]))
    have hx := dig_iff.1 (ha x (by simp))
    have hy := dig_iff.1 (hb y (by simp))
    have la := val_lt' (l := a) (fun c hc => ha c (by simp [hc]))
    have lb := val_lt' (l := b) (fun c hc => hb c (by simp [hc]))
    rw [val_cons, val_cons, hl]
    rw [hl] at la
    rcases Nat.lt_trichotomy x.toNat y.toNat with h1 | h1 | h1
    · have e : Op.bytesLess (x :: a) (y :: b) = true := by
        unfold Op.bytesLess
        have : x < y := UInt8.lt_iff_toNat_lt.2 h1
        simp [this]
      rw [e, Bool.true_or, eq_comm, decide_eq_true_eq]
      have : (x.toNat - 48 + 1) * 10 ^ b.length ≤ (y.toNat - 48) * 10 ^ b.length := Nat.mul_le_mul_right _ (by omega)
      rw [Nat.add_mul, Nat.one_mul] at this
      omega
    · obtain rfl : x = y := UInt8.toNat_inj.1 h1
      have e : (Op.bytesLess (x :: a) (x :: b) || (x :: a) == (x :: b)) = (Op.bytesLess a b || a == b) := by
        conv => lhs; unfold Op.bytesLess
        have : ¬ x < x := fun h => by have := UInt8.lt_iff_toNat_lt.1 h; omega
        simp [this]
      rw [e, ih, decide_eq_decide]
      omega
    · have e : Op.bytesLess (x :: a) (y :: b) = false := by
        unfold Op.bytesLess
        have h2 : ¬ x < y := fun h => by have := UInt8.lt_iff_toNat_lt.1 h; omega
        have h3 : ¬ x = y := fun h => by subst h; omega
        simp [h2, h3]
      have e2 : ((x :: a) == (y :: b)) = false := by
        have h3 : ¬ x = y := fun h => by subst h; omega
        simp [h3]
      rw [e, e2, Bool.false_or, eq_comm, decide_eq_false_iff_not]
      have : (y.toNat - 48 + 1) * 10 ^ b.length ≤ (x.toNat - 48) * 10 ^ b.length := Nat.mul_le_mul_right _ (by omega)
      rw [Nat.add_mul, Nat.one_mul] at this
      omega
theorem num_eq {l : List UInt8} (h0 : l ≠ []) (hd : ∀ c ∈ l, dig c.toNat = true) : numB (str l) = rnumB (str l) := by
  have e1 : (str l).data.toList = l := rfl
  have e2 : (str l).size = l.length := rfl
  have hlt := val_lt' hd
  unfold numB rnumB
  rw [e1, e2]
  obtain ⟨c, r, rfl⟩ : ∃ c r, l = c :: r := by cases l with | nil => exact absurd rfl h0 | cons c r => exact ⟨c, r, rfl⟩
  have hc := dig_iff.1 (hd c (by simp))
  simp only [List.headD_cons]
  have first : ((c :: r) == [48] || ((c.toNat : Int) != 48)) = !(decide (1 < (c :: r).length) && (c.toNat : Int) == 48) := by
    cases h : (c.toNat : Int) == 48
    · have : ((c.toNat : Int) != 48) = true := by rw [bne, h]; rfl
      rw [this, Bool.or_true, Bool.and_false]; rfl
    · have h' : (c.toNat : Int) = 48 := by simpa using h
      have : ((c.toNat : Int) != 48) = false := by rw [bne, h]; rfl
      have hc48 : c = 48 := UInt8.toNat_inj.1 (by show c.toNat = 48; omega)
      rw [this, Bool.or_false, Bool.and_true, hc48]
      cases r with
      | nil => decide
      | cons d r => simp
  rw [first]
  cases hb : !(decide (1 < (c :: r).length) && (c.toNat : Int) == 48)
  · rw [Bool.false_and, Bool.and_false, Bool.false_and]
  rw [Bool.true_and, Bool.and_true]
  rcases Nat.lt_trichotomy (c :: r).length 19 with h | h | h
  · rw [decide_eq_true (by omega : ((c :: r).length : Int) < 19), Bool.true_or, decide_eq_true (by omega : (c :: r).length ≤ 19), Bool.true_and, eq_comm, decide_eq_true_eq]
    have : 10 ^ (c :: r).length ≤ 10 ^ 18 := Nat.pow_le_pow_right (by omega) (by omega)
    have h18 : 10 ^ 18 = 1000000000000000000 := by decide
    omega
  · rw [decide_eq_false (by omega : ¬ ((c :: r).length : Int) < 19), Bool.false_or, decide_eq_true (by omega : (c :: r).length ≤ 19), Bool.true_and]
    have e3 : (((c :: r).length : Int) == 19) = true := by rw [beq_iff_eq]; omega
    rw [e3, Bool.true_and]
    have e4 : lessB (str (c :: r)) most = (Op.bytesLess (c :: r) most.data.toList || (c :: r) == most.data.toList) := by
      unfold lessB
      rw [ByteArray.toList_eq, ByteArray.toList_eq]; rfl
    rw [e4, less_val (by rw [h]; rfl) hd (by decide)]
    rfl
  · rw [decide_eq_false (by omega : ¬ ((c :: r).length : Int) < 19), Bool.false_or, decide_eq_false (by omega : ¬ (c :: r).length ≤ 19), Bool.false_and]
    have e3 : (((c :: r).length : Int) == 19) = false := by rw [beq_eq_false_iff_ne]; omega
    rw [e3, Bool.false_and]
theorem signs_eq : signs = two ++ one := rfl
theorem pre_list (s x : ByteArray) : pre s x = (decide (x.size ≤ s.size) && (s.data.toList.take x.size == x.data.toList)) := by
  rw [pre, ext_list, List.drop_zero, Nat.sub_zero]
theorem two_size : ∀ x ∈ two, x.size = 2 := by decide
theorem one_size : ∀ x ∈ one, x.size = 1 := by decide
theorem among_ext (s : ByteArray) (n : Nat) (strs : List ByteArray) (hn : n ≤ s.size) (hs : ∀ x ∈ strs, x.size = n) : among (s.extract 0 n) strs = strs.any (pre s) := by
  unfold among
  rw [Bool.eq_iff_iff, List.any_eq_true, List.any_eq_true]
  constructor
  · rintro ⟨x, hx, h⟩
    refine ⟨x, hx, ?_⟩
    rw [pre_list, hs x hx, decide_eq_true hn, Bool.true_and]
    rw [ext_list, List.drop_zero, Nat.sub_zero, beq_iff_eq] at h
    rw [h, beq_self_eq_true]
  · rintro ⟨x, hx, h⟩
    refine ⟨x, hx, ?_⟩
    rw [pre_list, hs x hx, decide_eq_true hn, Bool.true_and, beq_iff_eq] at h
    rw [ext_list, List.drop_zero, Nat.sub_zero, h, beq_self_eq_true]
theorem any_short (s : ByteArray) (n : Nat) (strs : List ByteArray) (hn : s.size < n) (hs : ∀ x ∈ strs, x.size = n) : strs.any (pre s) = false := by
  rw [Bool.eq_false_iff, Ne, List.any_eq_true]
  rintro ⟨x, hx, h⟩
  rw [pre_list, hs x hx, decide_eq_false (by omega)] at h
  cases h
theorem sign_eq {s : ByteArray} (h0 : 0 < s.size) : (match signs.find? (pre s) with | some x => (3, x.size, true) | none => (0, 0, false) : Nat × Nat × Bool) = if rsign s = 0 then (0, 0, false) else (3, rsign s, true) := by
  have e2 : (decide (1 < s.size) && among (s.extract 0 2) two) = two.any (pre s) := by
    rcases Nat.lt_or_ge 1 s.size with h | h
    · rw [decide_eq_true h, Bool.true_and, among_ext s 2 two h two_size]
    · rw [decide_eq_false (by omega), Bool.false_and, any_short s 2 two (by omega) two_size]
  have e1 : among (s.extract 0 1) one = one.any (pre s) := among_ext s 1 one h0 one_size
  unfold rsign
  rw [e2, e1, signs_eq, List.find?_append]
  cases h : two.find? (pre s) with
  | some x =>
    have hx := List.mem_of_find?_eq_some h
    have : two.any (pre s) = true := List.any_eq_true.2 ⟨x, hx, List.find?_some h⟩
    rw [this, if_pos rfl]
    show (3, x.size, true) = _
    rw [two_size x hx]; rfl
  | none =>
    have h2 : two.any (pre s) = false := by
      rw [Bool.eq_false_iff, Ne, List.any_eq_true]
      rintro ⟨x, hx, h'⟩
      exact (List.find?_eq_none.1 h x hx) h'
    simp only [h2, Bool.false_eq_true, if_false]
    show (match one.find? (pre s) with | some x => (3, x.size, true) | none => (0, 0, false) : Nat × Nat × Bool) = _
    cases h : one.find? (pre s) with
    | some x =>
      have hx := List.mem_of_find?_eq_some h
      have : one.any (pre s) = true := List.any_eq_true.2 ⟨x, hx, List.find?_some h⟩
      simp only [this, if_true]
      show (3, x.size, true) = _
      rw [one_size x hx]; rfl
    | none =>
      have h2 : one.any (pre s) = false := by
        rw [Bool.eq_false_iff, Ne, List.any_eq_true]
        rintro ⟨x, hx, h'⟩
        exact (List.find?_eq_none.1 h x hx) h'
      simp only [h2, Bool.false_eq_true, if_false]; rfl
variable {c : UInt8} {r : List UInt8}
theorem wordL_eq : wordL (c :: r) = if let_ c.toNat then ((c :: r).takeWhile fun b => wd b.toNat).length else 0 := rfl
theorem let_wd {c : UInt8} (h : let_ c.toNat = true) : wd c.toNat = true := by rw [wd, h]; rfl
theorem tokL_word (h : let_ c.toNat = true) : tokL (c :: r) = (1, ((c :: r).takeWhile fun b => wd b.toNat).length, decide (((c :: r).takeWhile fun b => wd b.toNat).length ≤ 32)) := by
  have e : wordL (c :: r) = ((c :: r).takeWhile fun b => wd b.toNat).length := by rw [wordL_eq, h]; rfl
  have h0 : 0 < wordL (c :: r) := by rw [e, List.takeWhile_cons, let_wd h]; simp
  unfold tokL tokB
  show (if 0 < wordL (c :: r) then (1, wordL (c :: r), decide (wordL (c :: r) ≤ 32)) else _) = _
  rw [if_pos h0, e]
theorem take_digits (l : List UInt8) : l.take (digL l) = l.takeWhile fun b => dig b.toNat := by
  unfold digL
  conv => lhs; rw [← List.takeWhile_append_dropWhile (p := fun b : UInt8 => dig b.toNat) (l := l)]
  rw [show ((l.takeWhile fun b => dig b.toNat) ++ l.dropWhile fun b => dig b.toNat).takeWhile (fun b => dig b.toNat) = l.takeWhile fun b => dig b.toNat by rw [List.takeWhile_append_dropWhile]]
  rw [List.take_left]
theorem digits_dig (l : List UInt8) : ∀ c ∈ l.take (digL l), dig c.toNat = true := fun c hc => by
  rw [take_digits] at hc
  exact List.all_eq_true.1 (List.all_takeWhile (p := fun b : UInt8 => dig b.toNat)) c hc
theorem digL_pos (h : dig c.toNat = true) : 0 < digL (c :: r) := by
  unfold digL; rw [List.takeWhile_cons, h]; simp
theorem tokL_num (h1 : let_ c.toNat = false) (h2 : dig c.toNat = true) : tokL (c :: r) = (2, digL (c :: r), rnumB (str ((c :: r).take (digL (c :: r)))) && (decide (digL (c :: r) = (c :: r).length) || !let_ (((c :: r).getD (digL (c :: r)) 0).toNat))) := by
  have e : wordL (c :: r) = 0 := by rw [wordL_eq, h1]; rfl
  have hd := digL_pos (r := r) h2
  unfold tokL tokB
  show (if 0 < wordL (c :: r) then _ else if 0 < digL (c :: r) then (2, digL (c :: r), numB ((str (c :: r)).extract 0 (digL (c :: r))) && (decide (digL (c :: r) = (c :: r).length) || !let_ (((c :: r).getD (digL (c :: r)) 0).toNat))) else _) = _
  rw [if_neg (by omega), if_pos hd]
  have : (str (c :: r)).extract 0 (digL (c :: r)) = str ((c :: r).take (digL (c :: r))) := by
    have := ext_str (str (c :: r)) 0 (digL (c :: r))
    rwa [Nat.zero_add, show (str (c :: r)).data.toList = c :: r from rfl, List.drop_zero] at this
  rw [this, num_eq (by rw [take_digits, List.takeWhile_cons, h2]; simp) (digits_dig _)]
theorem tokL_sign (h1 : let_ c.toNat = false) (h2 : dig c.toNat = false) : tokL (c :: r) = if rsign (str (c :: r)) = 0 then (0, 0, false) else (3, rsign (str (c :: r)), true) := by
  have e : wordL (c :: r) = 0 := by rw [wordL_eq, h1]; rfl
  have e2 : digL (c :: r) = 0 := by unfold digL; rw [List.takeWhile_cons, h2]; rfl
  unfold tokL tokB
  show (if 0 < wordL (c :: r) then _ else if 0 < digL (c :: r) then _ else _) = _
  rw [if_neg (by omega), if_neg (by omega)]
  exact sign_eq (s := str (c :: r)) (by show 0 < (c :: r).length; simp)
theorem takeWhile_self {α : Type} {p : α → Bool} : ∀ {l : List α}, (∀ b ∈ l, p b = true) → l.takeWhile p = l
  | [], _ => rfl
  | a :: l, h => by rw [List.takeWhile_cons, h a (by simp), if_pos rfl, takeWhile_self fun b hb => h b (by simp [hb])]
theorem names_eq (s : ByteArray) : nameB s = rname s := by
  have hsz : s.size = s.data.toList.length := rfl
  unfold nameB rname
  congr 1
  rcases Nat.eq_zero_or_pos s.size with h0 | h0
  · rw [decide_eq_false (by omega : ¬ 0 < s.size)]; simp
  cases hl : s.data.toList with
  | nil => rw [hl] at hsz; simp only [List.length_nil] at hsz; omega
  | cons c r =>
    rw [hl] at hsz
    rw [Bool.and_assoc (decide (0 < s.size) && _)]
    congr 1
    rw [wordL_eq, List.headD_cons]
    cases h : let_ c.toNat
    · rw [if_neg (by decide), List.all_cons, wd, h, Bool.false_or]
      have e : ((0 : Nat) == s.size) = false := by rw [beq_eq_false_iff_ne]; omega
      rw [e]
      cases dig c.toNat <;> rfl
    · have hd : dig c.toNat = false := by
        cases e : dig c.toNat
        · rfl
        · have h2 := dig_iff.1 e
          simp only [let_, Bool.or_eq_true, Bool.and_eq_true, decide_eq_true_eq, beq_iff_eq] at h
          omega
      rw [hd, if_pos rfl, Bool.not_false, Bool.true_and, hsz]
      rw [Bool.eq_iff_iff, beq_iff_eq, List.all_eq_true]
      constructor
      · intro he b hb
        have := (List.takeWhile_sublist (l := c :: r) (fun b : UInt8 => wd b.toNat)).eq_of_length he
        rw [← this] at hb
        exact List.all_eq_true.1 (List.all_takeWhile (p := fun b : UInt8 => wd b.toNat)) b hb
      · intro ha
        rw [takeWhile_self ha]
end Go.Proofs.YtdkfcpadbahohaaDoor.U

/-
  Contract of the document's Tokens.
-/
namespace Go.Proofs.YtdkfcpadbahohaaDoor.U
open Go Go.Ev
attribute [local irreducible] WL WP WH W
variable {O : Orc} {H : AH}
theorem bool_eq {a b : Bool} (h : a = b) : some (Value.bool a) = some (Value.bool b) := by rw [h]
theorem buildT {p : Int} : aBuild V.E 36 [(0, .int .u8 3), (2, .int .i64 p)] = some (.agg #[.int .u8 3, .string ⟨⟨[]⟩⟩, .int .i64 p]) := by kernel_rfl
theorem zeroT : te36.zv.cells.toList = [.int .u8 0, .string ⟨⟨[]⟩⟩, .int .i64 0] := by kernel_rfl
theorem tw_step {q : UInt8 → Bool} {l : List UInt8} {i : Nat} (h : i < l.length) (hq : q l[i] = true) : ((l.drop i).takeWhile q).length = 1 + ((l.drop (i + 1)).takeWhile q).length := by
  rw [List.drop_eq_getElem_cons h, List.takeWhile_cons, hq, if_pos rfl, List.length_cons, Nat.add_comm]
theorem tw_stop {q : UInt8 → Bool} {l : List UInt8} {i : Nat} (h : i < l.length) (hq : q l[i] = false) : ((l.drop i).takeWhile q).length = 0 := by
  rw [List.drop_eq_getElem_cons h, List.takeWhile_cons, hq]; rfl
theorem tw_end {q : UInt8 → Bool} {l : List UInt8} {i : Nat} (h : l.length ≤ i) : ((l.drop i).takeWhile q).length = 0 := by
  rw [List.drop_eq_nil_iff.2 h]; rfl
theorem int_eq {a b : Nat} (h : a = b) : some (Value.int .i64 a) = some (Value.int .i64 b) := by rw [h]
set_option maxHeartbeats 2000000 in
theorem rtokens_c (hO : ∀ f vs H, f ≠ 8 → O f vs H = none) {s : ByteArray} (hs : s.size ≤ maxLen) : LexC F_ref01_Tokens O H s := by
  have hsz : s.size = s.data.toList.length := rfl
  have hmx : maxLen = 9223372036854775807 := rfl
  generalize hl : s.data.toList = l at hsz
  have key : ∃ u H', Lc V O F_ref01_Tokens [.string s] H u H' ∧ ∃ v o, (u = .tuple #[v, .int .i64 (lexR l).2.1, .int .i64 (lexR l).2.2] ∧ Fr H H' ∧ Ow H' H.next 36 3 v (lexR l).1.length (tokCells (lexR l).1) o) := by
    refine Lc.ref01_Tokens (R := fun u H' => ∃ v o, (u = .tuple #[v, .int .i64 (lexR l).2.1, .int .i64 (lexR l).2.2] ∧ Fr H H' ∧ Ow H' H.next 36 3 v (lexR l).1.length (tokCells (lexR l).1) o)) (hO _ _ _ (by decide)) (Nat.le_of_ble_eq_true rfl) (by kernel_rfl) ?_
    have none_ : ∀ (a b : Nat) H', Fr H H' → lexR l = ([], a, b) → ∃ v o, (resOf [.slice none 0 0, .int .i64 a, .int .i64 b] = .tuple #[v, .int .i64 (lexR l).2.1, .int .i64 (lexR l).2.2] ∧ Fr H H' ∧ Ow H' H.next 36 3 v (lexR l).1.length (tokCells (lexR l).1) o) := fun a b H' hf e => by
      rw [e]; exact ⟨_, none, rfl, hf, .nil⟩
    unfold P_ref01_Tokens
    rcases Nat.lt_or_ge 65536 l.length with h1 | h1
    · have g1 : decide ((s.size : Int) > 65536) = true := decide_eq_true (by omega)
      (repeat first | refine zSeq ?_ | refine zReg ?_ | refine zBlk ?_ | refine zSkp ?_ | refine zExt ?_ | refine zNil rfl ?_ | refine zGet rfl ?_ | refine zOn rfl rfl ?_ | refine zOff rfl rfl ?_ | refine zU rfl ?_ | refine zOn rfl (by assumption) ?_ | refine zOff rfl (by assumption) ?_ | refine zMov rfl ?_ | refine zAsg rfl ?_ | refine zXtr rfl ?_ | refine zPT rfl rfl rfl ?_ | refine zPF rfl rfl rfl ?_ | refine zPT rfl (by assumption) rfl ?_ | refine zPF rfl (by assumption) rfl ?_ | refine zLss rfl rfl ?_ | refine zLeq rfl rfl ?_ | refine zGtr rfl rfl ?_ | refine zGeq rfl rfl ?_ | refine zEql rfl rfl ?_ | refine zNeq rfl rfl ?_ | refine zAdd rfl rfl (by omega) ?_ | refine zSub rfl rfl (by omega) ?_ | refine zLenS rfl E_string ?_ | refine zNot rfl ?_ | refine zEqS rfl rfl ?_ | refine zNeS rfl rfl ?_ | refine zT rfl rfl ?_ | refine zF rfl rfl ?_ | refine zT rfl (by assumption) ?_ | refine zF rfl (by assumption) ?_)
      exact WP.ret ⟨.inr rfl, _, rfl, none_ 0 40 H (.refl _) (by rw [lexR, if_pos h1])⟩
    have g1 : decide ((s.size : Int) > 65536) = false := decide_eq_false (by omega)
    (repeat first | refine zSeq ?_ | refine zReg ?_ | refine zBlk ?_ | refine zSkp ?_ | refine zExt ?_ | refine zNil rfl ?_ | refine zGet rfl ?_ | refine zOn rfl rfl ?_ | refine zOff rfl rfl ?_ | refine zU rfl ?_ | refine zOn rfl (by assumption) ?_ | refine zOff rfl (by assumption) ?_ | refine zMov rfl ?_ | refine zAsg rfl ?_ | refine zXtr rfl ?_ | refine zPT rfl rfl rfl ?_ | refine zPF rfl rfl rfl ?_ | refine zPT rfl (by assumption) rfl ?_ | refine zPF rfl (by assumption) rfl ?_ | refine zLss rfl rfl ?_ | refine zLeq rfl rfl ?_ | refine zGtr rfl rfl ?_ | refine zGeq rfl rfl ?_ | refine zEql rfl rfl ?_ | refine zNeq rfl rfl ?_ | refine zAdd rfl rfl (by omega) ?_ | refine zSub rfl rfl (by omega) ?_ | refine zLenS rfl E_string ?_ | refine zNot rfl ?_ | refine zEqS rfl rfl ?_ | refine zNeS rfl rfl ?_ | refine zT rfl rfl ?_ | refine zF rfl rfl ?_ | refine zT rfl (by assumption) ?_ | refine zF rfl (by assumption) ?_)
    refine WP.loopH (σ := Nat × Bool × List Tok × Value × Option (Nat × Nat)) (fun x => [(0, .string s), (5, x.2.2.2.1), (6, .bool x.2.1), (7, .int .i64 x.1)])
      (fun x H' => Fr H H' ∧ Ow H' H.next 36 3 x.2.2.2.1 x.2.2.1.length (tokCells x.2.2.1) x.2.2.2.2 ∧ x.1 ≤ l.length ∧ x.2.2.1.length ≤ x.1 ∧ toks false 0 l = (toks x.2.1 x.1 (l.drop x.1)).map (x.2.2.1 ++ ·)) (fun x => l.length - x.1) (0, false, [], .slice none 0 0, none)
      ⟨.refl _, .nil, by simp, by simp, by simp only [List.nil_append, List.drop_zero]; cases toks false 0 l <;> rfl⟩ ⟨rfl, rfl, rfl, rfl, trivial⟩ ?_
    rintro ⟨p, rem, acc, v, o⟩ H1 ⟨hf, hw, hp, hap, hsc⟩
    simp only at hf hw hp hap hsc ⊢
    rcases Nat.lt_or_ge p l.length with h2 | h2
    rotate_left
    · have g2 : decide ((p : Int) < s.size) = false := decide_eq_false (by omega)
      (repeat first | refine zSeq ?_ | refine zReg ?_ | refine zBlk ?_ | refine zSkp ?_ | refine zExt ?_ | refine zNil rfl ?_ | refine zGet rfl ?_ | refine zOn rfl rfl ?_ | refine zOff rfl rfl ?_ | refine zU rfl ?_ | refine zOn rfl (by assumption) ?_ | refine zOff rfl (by assumption) ?_ | refine zMov rfl ?_ | refine zAsg rfl ?_ | refine zXtr rfl ?_ | refine zPT rfl rfl rfl ?_ | refine zPF rfl rfl rfl ?_ | refine zPT rfl (by assumption) rfl ?_ | refine zPF rfl (by assumption) rfl ?_ | refine zLss rfl rfl ?_ | refine zLeq rfl rfl ?_ | refine zGtr rfl rfl ?_ | refine zGeq rfl rfl ?_ | refine zEql rfl rfl ?_ | refine zNeq rfl rfl ?_ | refine zAdd rfl rfl (by omega) ?_ | refine zSub rfl rfl (by omega) ?_ | refine zLenS rfl E_string ?_ | refine zNot rfl ?_ | refine zEqS rfl rfl ?_ | refine zNeS rfl rfl ?_ | refine zT rfl rfl ?_ | refine zF rfl rfl ?_ | refine zT rfl (by assumption) ?_ | refine zF rfl (by assumption) ?_)
      refine WP.ret ⟨.inr rfl, _, rfl, v, o, ?_, hf, ?_⟩
      all_goals rw [lexR_ok h1 (ts := acc) (by rw [hsc, List.drop_eq_nil_iff.2 h2, toks_nil]; simp [Except.map])]
      · rfl
      · exact hw
    have g2 : decide ((p : Int) < s.size) = true := decide_eq_true (by omega)
    have hd : l.drop p = l[p] :: l.drop (p + 1) := List.drop_eq_getElem_cons h2
    generalize hc : l[p] = c at hd
    generalize hr : l.drop (p + 1) = r at hd
    have hx : s.data.toList[(p : Int).toNat]? = some c := by rw [hl]; simp [h2, hc]
    have hlen : (c :: r).length = l.length - p := by rw [← hd]; simp
    (repeat first | refine zSeq ?_ | refine zReg ?_ | refine zBlk ?_ | refine zSkp ?_ | refine zExt ?_ | refine zNil rfl ?_ | refine zGet rfl ?_ | refine zOn rfl rfl ?_ | refine zOff rfl rfl ?_ | refine zU rfl ?_ | refine zOn rfl (by assumption) ?_ | refine zOff rfl (by assumption) ?_ | refine zMov rfl ?_ | refine zAsg rfl ?_ | refine zXtr rfl ?_ | refine zPT rfl rfl rfl ?_ | refine zPF rfl rfl rfl ?_ | refine zPT rfl (by assumption) rfl ?_ | refine zPF rfl (by assumption) rfl ?_ | refine zLss rfl rfl ?_ | refine zLeq rfl rfl ?_ | refine zGtr rfl rfl ?_ | refine zGeq rfl rfl ?_ | refine zEql rfl rfl ?_ | refine zNeq rfl rfl ?_ | refine zAdd rfl rfl (by omega) ?_ | refine zSub rfl rfl (by omega) ?_ | refine zLenS rfl E_string ?_ | refine zNot rfl ?_ | refine zEqS rfl rfl ?_ | refine zNeS rfl rfl ?_ | refine zT rfl rfl ?_ | refine zF rfl rfl ?_ | refine zT rfl (by assumption) ?_ | refine zF rfl (by assumption) ?_)
    refine WL.op (op_indexS rfl rfl E_string (by omega) hx) ?_
    (repeat first | refine zReg ?_ | refine zSkp ?_ | refine zExt ?_ | refine zNil rfl ?_ | refine zGet rfl ?_ | refine zOn rfl rfl ?_ | refine zOff rfl rfl ?_ | refine zU rfl ?_ | refine zOn rfl (by assumption) ?_ | refine zOff rfl (by assumption) ?_ | refine zMov rfl ?_ | refine zAsg rfl ?_ | refine zXtr rfl ?_ | refine zPT rfl rfl rfl ?_ | refine zPF rfl rfl rfl ?_ | refine zPT rfl (by assumption) rfl ?_ | refine zPF rfl (by assumption) rfl ?_ | refine zLss rfl rfl ?_ | refine zLeq rfl rfl ?_ | refine zGtr rfl rfl ?_ | refine zGeq rfl rfl ?_ | refine zEql rfl rfl ?_ | refine zNeq rfl rfl ?_ | refine zAdd rfl rfl (by omega) ?_ | refine zSub rfl rfl (by omega) ?_ | refine zLenS rfl E_string ?_ | refine zNot rfl ?_ | refine zEqS rfl rfl ?_ | refine zNeS rfl rfl ?_ | refine zT rfl rfl ?_ | refine zF rfl rfl ?_ | refine zT rfl (by assumption) ?_ | refine zF rfl (by assumption) ?_)
    refine WP.seq ?_
    refine WP.seqS (σ := Unit) (fun _ => [(0, .string s), (5, v), (6, .bool rem), (7, .int .i64 p), (8, .int .u8 c.toNat), (38, .bool (idleB rem c))]) (fun _ H' => H1 = H') ?_ ?_
    · (repeat' first | refine zReg ?_ | refine zSkp ?_ | refine zExt ?_ | refine zNil rfl ?_ | refine zGet rfl ?_ | refine zOn rfl rfl ?_ | refine zOff rfl rfl ?_ | refine zU rfl ?_ | refine zOn rfl (by assumption) ?_ | refine zOff rfl (by assumption) ?_ | refine zMov rfl ?_ | refine zAsg rfl ?_ | refine zXtr rfl ?_ | refine zPT rfl rfl rfl ?_ | refine zPF rfl rfl rfl ?_ | refine zPT rfl (by assumption) rfl ?_ | refine zPF rfl (by assumption) rfl ?_ | refine zLss rfl rfl ?_ | refine zLeq rfl rfl ?_ | refine zGtr rfl rfl ?_ | refine zGeq rfl rfl ?_ | refine zEql rfl rfl ?_ | refine zNeq rfl rfl ?_ | refine zAdd rfl rfl (by omega) ?_ | refine zSub rfl rfl (by omega) ?_ | refine zLenS rfl E_string ?_ | refine zNot rfl ?_ | refine zEqS rfl rfl ?_ | refine zNeS rfl rfl ?_ | refine zT rfl rfl ?_ | refine zF rfl rfl ?_ | refine zT rfl (by assumption) ?_ | refine zF rfl (by assumption) ?_ | refine zGd rfl (fun _ => ?_) (fun _ => ?_))
      all_goals refine ⟨(), rfl, rfl, rfl, rfl, rfl, rfl, bool_eq ?_, trivial⟩
      all_goals first | (simp only [idleB, sp_, *, Bool.not_true, Bool.not_false, Bool.true_or, Bool.or_true, Bool.false_or, Bool.or_false]; done) | (simp only [idleB, sp_, *, Bool.not_true, Bool.not_false, Bool.true_or, Bool.or_true, Bool.false_or, Bool.or_false]; rfl)
    rintro _ _ rfl
    cases hid : idleB rem c
    rotate_left
    · (repeat' first | refine zSeq ?_ | refine zReg ?_ | refine zBlk ?_ | refine zSkp ?_ | refine zExt ?_ | refine zNil rfl ?_ | refine zGet rfl ?_ | refine zOn rfl rfl ?_ | refine zOff rfl rfl ?_ | refine zU rfl ?_ | refine zOn rfl (by assumption) ?_ | refine zOff rfl (by assumption) ?_ | refine zMov rfl ?_ | refine zAsg rfl ?_ | refine zXtr rfl ?_ | refine zPT rfl rfl rfl ?_ | refine zPF rfl rfl rfl ?_ | refine zPT rfl (by assumption) rfl ?_ | refine zPF rfl (by assumption) rfl ?_ | refine zLss rfl rfl ?_ | refine zLeq rfl rfl ?_ | refine zGtr rfl rfl ?_ | refine zGeq rfl rfl ?_ | refine zEql rfl rfl ?_ | refine zNeq rfl rfl ?_ | refine zAdd rfl rfl (by omega) ?_ | refine zSub rfl rfl (by omega) ?_ | refine zLenS rfl E_string ?_ | refine zNot rfl ?_ | refine zEqS rfl rfl ?_ | refine zNeS rfl rfl ?_ | refine zT rfl rfl ?_ | refine zF rfl rfl ?_ | refine zT rfl (by assumption) ?_ | refine zF rfl (by assumption) ?_ | refine zGd rfl (fun _ => ?_) (fun _ => ?_) | refine zC rfl (fun _ => ?_) (fun _ => ?_))
      all_goals refine ⟨(p + 1, (rem || (c.toNat : Int) == 35) && (c.toNat : Int) != 10, acc, v, o), ⟨hf, hw, by simp only; omega, by simp only; omega, ?_⟩, by simp only; omega, rfl, rfl, bool_eq ?_, rfl, trivial⟩
      all_goals first
        | (simp only; rw [hsc, hd, toks_idle hid, hr]; done)
        | (simp only [*, Bool.not_true, Bool.not_false, Bool.true_or, Bool.or_true, Bool.false_or, Bool.or_false, Bool.true_and, Bool.and_true, Bool.false_and, Bool.and_false]; done)
        | (simp only [*, Bool.not_true, Bool.not_false, Bool.true_or, Bool.or_true, Bool.false_or, Bool.or_false, Bool.true_and, Bool.and_true, Bool.false_and, Bool.and_false]; rfl)
    (repeat first | refine zSeq ?_ | refine zReg ?_ | refine zBlk ?_ | refine zSkp ?_ | refine zExt ?_ | refine zNil rfl ?_ | refine zGet rfl ?_ | refine zOn rfl rfl ?_ | refine zOff rfl rfl ?_ | refine zU rfl ?_ | refine zOn rfl (by assumption) ?_ | refine zOff rfl (by assumption) ?_ | refine zMov rfl ?_ | refine zAsg rfl ?_ | refine zXtr rfl ?_ | refine zPT rfl rfl rfl ?_ | refine zPF rfl rfl rfl ?_ | refine zPT rfl (by assumption) rfl ?_ | refine zPF rfl (by assumption) rfl ?_ | refine zLss rfl rfl ?_ | refine zLeq rfl rfl ?_ | refine zGtr rfl rfl ?_ | refine zGeq rfl rfl ?_ | refine zEql rfl rfl ?_ | refine zNeq rfl rfl ?_ | refine zAdd rfl rfl (by omega) ?_ | refine zSub rfl rfl (by omega) ?_ | refine zLenS rfl E_string ?_ | refine zNot rfl ?_ | refine zEqS rfl rfl ?_ | refine zNeS rfl rfl ?_ | refine zT rfl rfl ?_ | refine zF rfl rfl ?_ | refine zT rfl (by assumption) ?_ | refine zF rfl (by assumption) ?_)
    refine WL.op (op_build rfl buildT) ?_
    refine WL.op (op_alloc E36 zeroT) ?_
    obtain ⟨Ha, hwa, hba, hfa, hna⟩ := (Bx.new (H := H1) (et := 36) (cs := [.int .u8 0, .string ⟨⟨[]⟩⟩, .int .i64 0])).wr (off := 0) (vs := [.int .u8 3, .string ⟨⟨[]⟩⟩, .int .i64 p]) (by simp) (by simp)
    refine WL.op (op_store rfl rfl E36 (by rw [te36_size]; rfl) rfl hwa) ?_
    have hfa1 : Fr H1 Ha := (Fr.alloc H1 _).young hfa (by simp) (by simp)
    generalize hb0 : H1.next = b0 at hba hfa
    have hba' : Bx Ha b0 36 [.int .u8 3, .string ⟨⟨[]⟩⟩, .int .i64 p] := hba
    clear hba hwa hfa
    (repeat first | refine zReg ?_ | refine zSkp ?_ | refine zExt ?_ | refine zNil rfl ?_ | refine zGet rfl ?_ | refine zOn rfl rfl ?_ | refine zOff rfl rfl ?_ | refine zU rfl ?_ | refine zOn rfl (by assumption) ?_ | refine zOff rfl (by assumption) ?_ | refine zMov rfl ?_ | refine zAsg rfl ?_ | refine zXtr rfl ?_ | refine zPT rfl rfl rfl ?_ | refine zPF rfl rfl rfl ?_ | refine zPT rfl (by assumption) rfl ?_ | refine zPF rfl (by assumption) rfl ?_ | refine zLss rfl rfl ?_ | refine zLeq rfl rfl ?_ | refine zGtr rfl rfl ?_ | refine zGeq rfl rfl ?_ | refine zEql rfl rfl ?_ | refine zNeq rfl rfl ?_ | refine zAdd rfl rfl (by omega) ?_ | refine zSub rfl rfl (by omega) ?_ | refine zLenS rfl E_string ?_ | refine zNot rfl ?_ | refine zEqS rfl rfl ?_ | refine zNeS rfl rfl ?_ | refine zT rfl rfl ?_ | refine zF rfl rfl ?_ | refine zT rfl (by assumption) ?_ | refine zF rfl (by assumption) ?_)
    refine WP.seq ?_
    (repeat first | refine zReg ?_ | refine zSkp ?_ | refine zExt ?_ | refine zNil rfl ?_ | refine zGet rfl ?_ | refine zOn rfl rfl ?_ | refine zOff rfl rfl ?_ | refine zU rfl ?_ | refine zOn rfl (by assumption) ?_ | refine zOff rfl (by assumption) ?_ | refine zMov rfl ?_ | refine zAsg rfl ?_ | refine zXtr rfl ?_ | refine zPT rfl rfl rfl ?_ | refine zPF rfl rfl rfl ?_ | refine zPT rfl (by assumption) rfl ?_ | refine zPF rfl (by assumption) rfl ?_ | refine zLss rfl rfl ?_ | refine zLeq rfl rfl ?_ | refine zGtr rfl rfl ?_ | refine zGeq rfl rfl ?_ | refine zEql rfl rfl ?_ | refine zNeq rfl rfl ?_ | refine zAdd rfl rfl (by omega) ?_ | refine zSub rfl rfl (by omega) ?_ | refine zLenS rfl E_string ?_ | refine zNot rfl ?_ | refine zEqS rfl rfl ?_ | refine zNeS rfl rfl ?_ | refine zT rfl rfl ?_ | refine zF rfl rfl ?_ | refine zT rfl (by assumption) ?_ | refine zF rfl (by assumption) ?_)
    refine WP.seq ?_
    (repeat first | refine zReg ?_ | refine zSkp ?_ | refine zExt ?_ | refine zNil rfl ?_ | refine zGet rfl ?_ | refine zOn rfl rfl ?_ | refine zOff rfl rfl ?_ | refine zU rfl ?_ | refine zOn rfl (by assumption) ?_ | refine zOff rfl (by assumption) ?_ | refine zMov rfl ?_ | refine zAsg rfl ?_ | refine zXtr rfl ?_ | refine zPT rfl rfl rfl ?_ | refine zPF rfl rfl rfl ?_ | refine zPT rfl (by assumption) rfl ?_ | refine zPF rfl (by assumption) rfl ?_ | refine zLss rfl rfl ?_ | refine zLeq rfl rfl ?_ | refine zGtr rfl rfl ?_ | refine zGeq rfl rfl ?_ | refine zEql rfl rfl ?_ | refine zNeq rfl rfl ?_ | refine zAdd rfl rfl (by omega) ?_ | refine zSub rfl rfl (by omega) ?_ | refine zLenS rfl E_string ?_ | refine zNot rfl ?_ | refine zEqS rfl rfl ?_ | refine zNeS rfl rfl ?_ | refine zT rfl rfl ?_ | refine zF rfl rfl ?_ | refine zT rfl (by assumption) ?_ | refine zF rfl (by assumption) ?_)
    refine WP.seqS (σ := Nat × Nat × Bool) (fun x => [(0, .string s), (5, v), (6, .bool rem), (7, .int .i64 p), (9, .pointer (some ⟨b0, 0, none⟩)), (10, .int .i64 x.2.1), (11, .bool x.2.2)])
      (fun x H' => Fr H1 H' ∧ Bx H' b0 36 [.int .u8 x.1, .string ⟨⟨[]⟩⟩, .int .i64 p] ∧ x.2.2 = (tokL (c :: r)).2.2 ∧ (x.2.2 = true → x.1 = (tokL (c :: r)).1 ∧ x.2.1 = p + (tokL (c :: r)).2.1) ∧ p ≤ x.2.1 ∧ x.2.1 ≤ l.length) ?_ ?_
    · have young : ∀ {H' H'' : AH}, Fr H1 H' → FrX [b0] [] H' H'' → Fr H1 H'' := fun h k => h.young k (by simp; omega) (by simp)
      (repeat first | refine zSeq ?_ | refine zReg ?_ | refine zBlk ?_ | refine zSkp ?_ | refine zExt ?_ | refine zNil rfl ?_ | refine zGet rfl ?_ | refine zOn rfl rfl ?_ | refine zOff rfl rfl ?_ | refine zU rfl ?_ | refine zOn rfl (by assumption) ?_ | refine zOff rfl (by assumption) ?_ | refine zMov rfl ?_ | refine zAsg rfl ?_ | refine zXtr rfl ?_ | refine zPT rfl rfl rfl ?_ | refine zPF rfl rfl rfl ?_ | refine zPT rfl (by assumption) rfl ?_ | refine zPF rfl (by assumption) rfl ?_ | refine zLss rfl rfl ?_ | refine zLeq rfl rfl ?_ | refine zGtr rfl rfl ?_ | refine zGeq rfl rfl ?_ | refine zEql rfl rfl ?_ | refine zNeq rfl rfl ?_ | refine zAdd rfl rfl (by omega) ?_ | refine zSub rfl rfl (by omega) ?_ | refine zLenS rfl E_string ?_ | refine zNot rfl ?_ | refine zEqS rfl rfl ?_ | refine zNeS rfl rfl ?_ | refine zT rfl rfl ?_ | refine zF rfl rfl ?_ | refine zT rfl (by assumption) ?_ | refine zF rfl (by assumption) ?_)
      refine WL.call rfl rfl is_ref01_letter (rletter_c hO) ?_
      cases hL : let_ c.toNat
      · (repeat first | refine zSeq ?_ | refine zReg ?_ | refine zBlk ?_ | refine zSkp ?_ | refine zExt ?_ | refine zNil rfl ?_ | refine zGet rfl ?_ | refine zOn rfl rfl ?_ | refine zOff rfl rfl ?_ | refine zU rfl ?_ | refine zOn rfl (by assumption) ?_ | refine zOff rfl (by assumption) ?_ | refine zMov rfl ?_ | refine zAsg rfl ?_ | refine zXtr rfl ?_ | refine zPT rfl rfl rfl ?_ | refine zPF rfl rfl rfl ?_ | refine zPT rfl (by assumption) rfl ?_ | refine zPF rfl (by assumption) rfl ?_ | refine zLss rfl rfl ?_ | refine zLeq rfl rfl ?_ | refine zGtr rfl rfl ?_ | refine zGeq rfl rfl ?_ | refine zEql rfl rfl ?_ | refine zNeq rfl rfl ?_ | refine zAdd rfl rfl (by omega) ?_ | refine zSub rfl rfl (by omega) ?_ | refine zLenS rfl E_string ?_ | refine zNot rfl ?_ | refine zEqS rfl rfl ?_ | refine zNeS rfl rfl ?_ | refine zT rfl rfl ?_ | refine zF rfl rfl ?_ | refine zT rfl (by assumption) ?_ | refine zF rfl (by assumption) ?_)
        refine WL.call rfl rfl is_ref01_digit (rdigit_c hO) ?_
        cases hD : dig c.toNat
        · have hk := tokL_sign (r := r) hL hD
          have hxt : s.extract (p : Int).toNat s.size = str (c :: r) := by rw [← hd, ← hl]; exact ext_end s p
          (repeat first | refine zSeq ?_ | refine zReg ?_ | refine zBlk ?_ | refine zSkp ?_ | refine zExt ?_ | refine zNil rfl ?_ | refine zGet rfl ?_ | refine zOn rfl rfl ?_ | refine zOff rfl rfl ?_ | refine zU rfl ?_ | refine zOn rfl (by assumption) ?_ | refine zOff rfl (by assumption) ?_ | refine zMov rfl ?_ | refine zAsg rfl ?_ | refine zXtr rfl ?_ | refine zPT rfl rfl rfl ?_ | refine zPF rfl rfl rfl ?_ | refine zPT rfl (by assumption) rfl ?_ | refine zPF rfl (by assumption) rfl ?_ | refine zLss rfl rfl ?_ | refine zLeq rfl rfl ?_ | refine zGtr rfl rfl ?_ | refine zGeq rfl rfl ?_ | refine zEql rfl rfl ?_ | refine zNeq rfl rfl ?_ | refine zAdd rfl rfl (by omega) ?_ | refine zSub rfl rfl (by omega) ?_ | refine zLenS rfl E_string ?_ | refine zNot rfl ?_ | refine zEqS rfl rfl ?_ | refine zNeS rfl rfl ?_ | refine zT rfl rfl ?_ | refine zF rfl rfl ?_ | refine zT rfl (by assumption) ?_ | refine zF rfl (by assumption) ?_)
          refine WL.op (op_sliceS rfl rfl E_string (by omega) (by omega)) ?_
          rw [hxt]
          obtain ⟨H2, hsg, hf2⟩ := rsign_c (H := Ha) hO (s := str (c :: r)) (by show 0 < (c :: r).length; simp)
          refine WL.call rfl rfl is_ref01_sign hsg ?_
          have hle : rsign (str (c :: r)) ≤ 2 := by
            unfold rsign; split
            · omega
            · split <;> omega
          have hle2 : rsign (str (c :: r)) ≤ l.length - p := by
            by_cases h0 : rsign (str (c :: r)) = 0
            · omega
            · have := tok_pos (l := c :: r) (by rw [hk, if_neg h0])
              rw [hk, if_neg h0, hlen] at this
              exact this.2
          (repeat first | refine zSeq ?_ | refine zReg ?_ | refine zBlk ?_ | refine zSkp ?_ | refine zExt ?_ | refine zNil rfl ?_ | refine zGet rfl ?_ | refine zOn rfl rfl ?_ | refine zOff rfl rfl ?_ | refine zU rfl ?_ | refine zOn rfl (by assumption) ?_ | refine zOff rfl (by assumption) ?_ | refine zMov rfl ?_ | refine zAsg rfl ?_ | refine zXtr rfl ?_ | refine zPT rfl rfl rfl ?_ | refine zPF rfl rfl rfl ?_ | refine zPT rfl (by assumption) rfl ?_ | refine zPF rfl (by assumption) rfl ?_ | refine zLss rfl rfl ?_ | refine zLeq rfl rfl ?_ | refine zGtr rfl rfl ?_ | refine zGeq rfl rfl ?_ | refine zEql rfl rfl ?_ | refine zNeq rfl rfl ?_ | refine zAdd rfl rfl (by omega) ?_ | refine zSub rfl rfl (by omega) ?_ | refine zLenS rfl E_string ?_ | refine zNot rfl ?_ | refine zEqS rfl rfl ?_ | refine zNeS rfl rfl ?_ | refine zT rfl rfl ?_ | refine zF rfl rfl ?_ | refine zT rfl (by assumption) ?_ | refine zF rfl (by assumption) ?_)
          refine ⟨(3, p + rsign (str (c :: r)), decide (p + rsign (str (c :: r)) > p)), ⟨hfa1.trans hf2, hba'.fr hf2, ?_, ?_, by simp only; omega, by simp only; omega⟩, rfl, rfl, rfl, rfl, rfl, rfl, bool_eq ?_, trivial⟩
          · simp only; rw [hk]
            by_cases h0 : rsign (str (c :: r)) = 0
            · rw [if_pos h0, h0]; simp
            · rw [if_neg h0, decide_eq_true (by omega)]
          · simp only [decide_eq_true_eq]
            intro h; rw [hk, if_neg (by omega)]; exact ⟨rfl, rfl⟩
          · simp only; rw [decide_eq_decide]; omega
        · have hk := tokL_num (r := r) hL hD
          (repeat first | refine zSeq ?_ | refine zReg ?_ | refine zBlk ?_ | refine zSkp ?_ | refine zExt ?_ | refine zNil rfl ?_ | refine zGet rfl ?_ | refine zOn rfl rfl ?_ | refine zOff rfl rfl ?_ | refine zU rfl ?_ | refine zOn rfl (by assumption) ?_ | refine zOff rfl (by assumption) ?_ | refine zMov rfl ?_ | refine zAsg rfl ?_ | refine zXtr rfl ?_ | refine zPT rfl rfl rfl ?_ | refine zPF rfl rfl rfl ?_ | refine zPT rfl (by assumption) rfl ?_ | refine zPF rfl (by assumption) rfl ?_ | refine zLss rfl rfl ?_ | refine zLeq rfl rfl ?_ | refine zGtr rfl rfl ?_ | refine zGeq rfl rfl ?_ | refine zEql rfl rfl ?_ | refine zNeq rfl rfl ?_ | refine zAdd rfl rfl (by omega) ?_ | refine zSub rfl rfl (by omega) ?_ | refine zLenS rfl E_string ?_ | refine zNot rfl ?_ | refine zEqS rfl rfl ?_ | refine zNeS rfl rfl ?_ | refine zT rfl rfl ?_ | refine zF rfl rfl ?_ | refine zT rfl (by assumption) ?_ | refine zF rfl (by assumption) ?_)
          refine WL.op (op_fieldAddr rfl O_api_Token_Kind) ?_
          obtain ⟨Hb, hwb, hbb, hfb, hnb⟩ := hba'.wr (off := 0 + 0) (vs := [.int .u8 2]) (by simp) (by simp)
          refine WL.op (op_store rfl rfl E_uint8 rfl rfl hwb) ?_
          have hfb1 := young hfa1 hfb
          have hbb' : Bx Hb b0 36 [.int .u8 2, .string ⟨⟨[]⟩⟩, .int .i64 p] := hbb
          (repeat first | refine zReg ?_ | refine zSkp ?_ | refine zExt ?_ | refine zNil rfl ?_ | refine zGet rfl ?_ | refine zOn rfl rfl ?_ | refine zOff rfl rfl ?_ | refine zU rfl ?_ | refine zOn rfl (by assumption) ?_ | refine zOff rfl (by assumption) ?_ | refine zMov rfl ?_ | refine zAsg rfl ?_ | refine zXtr rfl ?_ | refine zPT rfl rfl rfl ?_ | refine zPF rfl rfl rfl ?_ | refine zPT rfl (by assumption) rfl ?_ | refine zPF rfl (by assumption) rfl ?_ | refine zLss rfl rfl ?_ | refine zLeq rfl rfl ?_ | refine zGtr rfl rfl ?_ | refine zGeq rfl rfl ?_ | refine zEql rfl rfl ?_ | refine zNeq rfl rfl ?_ | refine zAdd rfl rfl (by omega) ?_ | refine zSub rfl rfl (by omega) ?_ | refine zLenS rfl E_string ?_ | refine zNot rfl ?_ | refine zEqS rfl rfl ?_ | refine zNeS rfl rfl ?_ | refine zT rfl rfl ?_ | refine zF rfl rfl ?_ | refine zT rfl (by assumption) ?_ | refine zF rfl (by assumption) ?_)
          refine WP.seqS (σ := Unit) (fun _ => [(0, .string s), (5, v), (6, .bool rem), (7, .int .i64 p), (9, .pointer (some ⟨b0, 0, none⟩)), (10, .int .i64 (p + digL (c :: r) : Nat))]) (fun _ H' => Hb = H') ?_ ?_
          · (repeat first | refine zSeq ?_ | refine zReg ?_ | refine zBlk ?_ | refine zSkp ?_ | refine zExt ?_ | refine zNil rfl ?_ | refine zGet rfl ?_ | refine zOn rfl rfl ?_ | refine zOff rfl rfl ?_ | refine zU rfl ?_ | refine zOn rfl (by assumption) ?_ | refine zOff rfl (by assumption) ?_ | refine zMov rfl ?_ | refine zAsg rfl ?_ | refine zXtr rfl ?_ | refine zPT rfl rfl rfl ?_ | refine zPF rfl rfl rfl ?_ | refine zPT rfl (by assumption) rfl ?_ | refine zPF rfl (by assumption) rfl ?_ | refine zLss rfl rfl ?_ | refine zLeq rfl rfl ?_ | refine zGtr rfl rfl ?_ | refine zGeq rfl rfl ?_ | refine zEql rfl rfl ?_ | refine zNeq rfl rfl ?_ | refine zAdd rfl rfl (by omega) ?_ | refine zSub rfl rfl (by omega) ?_ | refine zLenS rfl E_string ?_ | refine zNot rfl ?_ | refine zEqS rfl rfl ?_ | refine zNeS rfl rfl ?_ | refine zT rfl rfl ?_ | refine zF rfl rfl ?_ | refine zT rfl (by assumption) ?_ | refine zF rfl (by assumption) ?_)
            refine WP.loopH (σ := Nat) (fun x => [(0, .string s), (5, v), (6, .bool rem), (7, .int .i64 p), (9, .pointer (some ⟨b0, 0, none⟩)), (10, .int .i64 x)]) (fun x H' => Hb = H' ∧ p ≤ x ∧ x ≤ l.length ∧ digL (c :: r) = (x - p) + ((l.drop x).takeWhile fun b => dig b.toNat).length) (fun x => l.length - x) p
              ⟨rfl, Nat.le_refl _, hp, by rw [Nat.sub_self, Nat.zero_add, hd]; rfl⟩ ⟨rfl, rfl, rfl, rfl, rfl, rfl, trivial⟩ ?_
            rintro x _ ⟨rfl, hx1, hx2, hx3⟩
            rcases Nat.lt_or_ge x l.length with h3 | h3
            · have g3 : decide ((x : Int) < s.size) = true := decide_eq_true (by omega)
              have hxx : s.data.toList[(x : Int).toNat]? = some l[x] := by rw [hl]; simp [h3]
              (repeat first | refine zSeq ?_ | refine zReg ?_ | refine zBlk ?_ | refine zSkp ?_ | refine zExt ?_ | refine zNil rfl ?_ | refine zGet rfl ?_ | refine zOn rfl rfl ?_ | refine zOff rfl rfl ?_ | refine zU rfl ?_ | refine zOn rfl (by assumption) ?_ | refine zOff rfl (by assumption) ?_ | refine zMov rfl ?_ | refine zAsg rfl ?_ | refine zXtr rfl ?_ | refine zPT rfl rfl rfl ?_ | refine zPF rfl rfl rfl ?_ | refine zPT rfl (by assumption) rfl ?_ | refine zPF rfl (by assumption) rfl ?_ | refine zLss rfl rfl ?_ | refine zLeq rfl rfl ?_ | refine zGtr rfl rfl ?_ | refine zGeq rfl rfl ?_ | refine zEql rfl rfl ?_ | refine zNeq rfl rfl ?_ | refine zAdd rfl rfl (by omega) ?_ | refine zSub rfl rfl (by omega) ?_ | refine zLenS rfl E_string ?_ | refine zNot rfl ?_ | refine zEqS rfl rfl ?_ | refine zNeS rfl rfl ?_ | refine zT rfl rfl ?_ | refine zF rfl rfl ?_ | refine zT rfl (by assumption) ?_ | refine zF rfl (by assumption) ?_)
              refine WL.op (op_indexS rfl rfl E_string (by omega) hxx) ?_
              (repeat first | refine zSeq ?_ | refine zReg ?_ | refine zBlk ?_ | refine zSkp ?_ | refine zExt ?_ | refine zNil rfl ?_ | refine zGet rfl ?_ | refine zOn rfl rfl ?_ | refine zOff rfl rfl ?_ | refine zU rfl ?_ | refine zOn rfl (by assumption) ?_ | refine zOff rfl (by assumption) ?_ | refine zMov rfl ?_ | refine zAsg rfl ?_ | refine zXtr rfl ?_ | refine zPT rfl rfl rfl ?_ | refine zPF rfl rfl rfl ?_ | refine zPT rfl (by assumption) rfl ?_ | refine zPF rfl (by assumption) rfl ?_ | refine zLss rfl rfl ?_ | refine zLeq rfl rfl ?_ | refine zGtr rfl rfl ?_ | refine zGeq rfl rfl ?_ | refine zEql rfl rfl ?_ | refine zNeq rfl rfl ?_ | refine zAdd rfl rfl (by omega) ?_ | refine zSub rfl rfl (by omega) ?_ | refine zLenS rfl E_string ?_ | refine zNot rfl ?_ | refine zEqS rfl rfl ?_ | refine zNeS rfl rfl ?_ | refine zT rfl rfl ?_ | refine zF rfl rfl ?_ | refine zT rfl (by assumption) ?_ | refine zF rfl (by assumption) ?_)
              refine WL.call rfl rfl is_ref01_digit (rdigit_c hO) ?_
              cases hq : dig l[x].toNat
              · (repeat first | refine zSeq ?_ | refine zReg ?_ | refine zBlk ?_ | refine zSkp ?_ | refine zExt ?_ | refine zNil rfl ?_ | refine zGet rfl ?_ | refine zOn rfl rfl ?_ | refine zOff rfl rfl ?_ | refine zU rfl ?_ | refine zOn rfl (by assumption) ?_ | refine zOff rfl (by assumption) ?_ | refine zMov rfl ?_ | refine zAsg rfl ?_ | refine zXtr rfl ?_ | refine zPT rfl rfl rfl ?_ | refine zPF rfl rfl rfl ?_ | refine zPT rfl (by assumption) rfl ?_ | refine zPF rfl (by assumption) rfl ?_ | refine zLss rfl rfl ?_ | refine zLeq rfl rfl ?_ | refine zGtr rfl rfl ?_ | refine zGeq rfl rfl ?_ | refine zEql rfl rfl ?_ | refine zNeq rfl rfl ?_ | refine zAdd rfl rfl (by omega) ?_ | refine zSub rfl rfl (by omega) ?_ | refine zLenS rfl E_string ?_ | refine zNot rfl ?_ | refine zEqS rfl rfl ?_ | refine zNeS rfl rfl ?_ | refine zT rfl rfl ?_ | refine zF rfl rfl ?_ | refine zT rfl (by assumption) ?_ | refine zF rfl (by assumption) ?_)
                exact ⟨(), rfl, rfl, rfl, rfl, rfl, rfl, int_eq (by rw [hx3, tw_stop h3 hq]; omega), trivial⟩
              · (repeat first | refine zSeq ?_ | refine zReg ?_ | refine zBlk ?_ | refine zSkp ?_ | refine zExt ?_ | refine zNil rfl ?_ | refine zGet rfl ?_ | refine zOn rfl rfl ?_ | refine zOff rfl rfl ?_ | refine zU rfl ?_ | refine zOn rfl (by assumption) ?_ | refine zOff rfl (by assumption) ?_ | refine zMov rfl ?_ | refine zAsg rfl ?_ | refine zXtr rfl ?_ | refine zPT rfl rfl rfl ?_ | refine zPF rfl rfl rfl ?_ | refine zPT rfl (by assumption) rfl ?_ | refine zPF rfl (by assumption) rfl ?_ | refine zLss rfl rfl ?_ | refine zLeq rfl rfl ?_ | refine zGtr rfl rfl ?_ | refine zGeq rfl rfl ?_ | refine zEql rfl rfl ?_ | refine zNeq rfl rfl ?_ | refine zAdd rfl rfl (by omega) ?_ | refine zSub rfl rfl (by omega) ?_ | refine zLenS rfl E_string ?_ | refine zNot rfl ?_ | refine zEqS rfl rfl ?_ | refine zNeS rfl rfl ?_ | refine zT rfl rfl ?_ | refine zF rfl rfl ?_ | refine zT rfl (by assumption) ?_ | refine zF rfl (by assumption) ?_)
                exact ⟨x + 1, ⟨rfl, by omega, by omega, by rw [hx3, tw_step h3 hq]; omega⟩, by omega, rfl, rfl, rfl, rfl, rfl, rfl, trivial⟩
            · have g3 : decide ((x : Int) < s.size) = false := decide_eq_false (by omega)
              (repeat first | refine zSeq ?_ | refine zReg ?_ | refine zBlk ?_ | refine zSkp ?_ | refine zExt ?_ | refine zNil rfl ?_ | refine zGet rfl ?_ | refine zOn rfl rfl ?_ | refine zOff rfl rfl ?_ | refine zU rfl ?_ | refine zOn rfl (by assumption) ?_ | refine zOff rfl (by assumption) ?_ | refine zMov rfl ?_ | refine zAsg rfl ?_ | refine zXtr rfl ?_ | refine zPT rfl rfl rfl ?_ | refine zPF rfl rfl rfl ?_ | refine zPT rfl (by assumption) rfl ?_ | refine zPF rfl (by assumption) rfl ?_ | refine zLss rfl rfl ?_ | refine zLeq rfl rfl ?_ | refine zGtr rfl rfl ?_ | refine zGeq rfl rfl ?_ | refine zEql rfl rfl ?_ | refine zNeq rfl rfl ?_ | refine zAdd rfl rfl (by omega) ?_ | refine zSub rfl rfl (by omega) ?_ | refine zLenS rfl E_string ?_ | refine zNot rfl ?_ | refine zEqS rfl rfl ?_ | refine zNeS rfl rfl ?_ | refine zT rfl rfl ?_ | refine zF rfl rfl ?_ | refine zT rfl (by assumption) ?_ | refine zF rfl (by assumption) ?_)
              exact ⟨(), rfl, rfl, rfl, rfl, rfl, rfl, int_eq (by rw [hx3, tw_end h3]; omega), trivial⟩
          · rintro _ _ rfl
            have hpos := digL_pos (r := r) hD
            have hDle : digL (c :: r) ≤ l.length - p := by rw [← hlen]; exact (List.takeWhile_sublist _).length_le
            have hxt : s.extract (p : Int).toNat ((p + digL (c :: r) : Nat) : Int).toNat = str ((c :: r).take (digL (c :: r))) := by rw [← hd, ← hl]; exact ext_str s p _
            (repeat first | refine zSeq ?_ | refine zReg ?_ | refine zBlk ?_ | refine zSkp ?_ | refine zExt ?_ | refine zNil rfl ?_ | refine zGet rfl ?_ | refine zOn rfl rfl ?_ | refine zOff rfl rfl ?_ | refine zU rfl ?_ | refine zOn rfl (by assumption) ?_ | refine zOff rfl (by assumption) ?_ | refine zMov rfl ?_ | refine zAsg rfl ?_ | refine zXtr rfl ?_ | refine zPT rfl rfl rfl ?_ | refine zPF rfl rfl rfl ?_ | refine zPT rfl (by assumption) rfl ?_ | refine zPF rfl (by assumption) rfl ?_ | refine zLss rfl rfl ?_ | refine zLeq rfl rfl ?_ | refine zGtr rfl rfl ?_ | refine zGeq rfl rfl ?_ | refine zEql rfl rfl ?_ | refine zNeq rfl rfl ?_ | refine zAdd rfl rfl (by omega) ?_ | refine zSub rfl rfl (by omega) ?_ | refine zLenS rfl E_string ?_ | refine zNot rfl ?_ | refine zEqS rfl rfl ?_ | refine zNeS rfl rfl ?_ | refine zT rfl rfl ?_ | refine zF rfl rfl ?_ | refine zT rfl (by assumption) ?_ | refine zF rfl (by assumption) ?_)
            refine WL.op (op_sliceS2 rfl rfl rfl E_string (by omega) (by omega) (by omega)) ?_
            rw [hxt]
            refine WL.call rfl rfl is_ref01_number (rnumber_c hO (s := str ((c :: r).take (digL (c :: r)))) (by show 0 < ((c :: r).take (digL (c :: r))).length; rw [List.length_take]; omega) (digits_dig _)) ?_
            have fin : ∀ ok : Bool, (tokL (c :: r)).2.2 = ok → (Fr H1 Hb ∧ Bx Hb b0 36 [.int .u8 2, .string ⟨⟨[]⟩⟩, .int .i64 p] ∧ ok = (tokL (c :: r)).2.2 ∧ (ok = true → 2 = (tokL (c :: r)).1 ∧ p + digL (c :: r) = p + (tokL (c :: r)).2.1) ∧ p ≤ p + digL (c :: r) ∧ p + digL (c :: r) ≤ l.length) := fun ok h => ⟨hfb1, hbb', h.symm, fun _ => by rw [hk]; exact ⟨rfl, rfl⟩, by omega, by omega⟩
            cases hN : rnumB (str ((c :: r).take (digL (c :: r))))
            · (repeat first | refine zSeq ?_ | refine zReg ?_ | refine zBlk ?_ | refine zSkp ?_ | refine zExt ?_ | refine zNil rfl ?_ | refine zGet rfl ?_ | refine zOn rfl rfl ?_ | refine zOff rfl rfl ?_ | refine zU rfl ?_ | refine zOn rfl (by assumption) ?_ | refine zOff rfl (by assumption) ?_ | refine zMov rfl ?_ | refine zAsg rfl ?_ | refine zXtr rfl ?_ | refine zPT rfl rfl rfl ?_ | refine zPF rfl rfl rfl ?_ | refine zPT rfl (by assumption) rfl ?_ | refine zPF rfl (by assumption) rfl ?_ | refine zLss rfl rfl ?_ | refine zLeq rfl rfl ?_ | refine zGtr rfl rfl ?_ | refine zGeq rfl rfl ?_ | refine zEql rfl rfl ?_ | refine zNeq rfl rfl ?_ | refine zAdd rfl rfl (by omega) ?_ | refine zSub rfl rfl (by omega) ?_ | refine zLenS rfl E_string ?_ | refine zNot rfl ?_ | refine zEqS rfl rfl ?_ | refine zNeS rfl rfl ?_ | refine zT rfl rfl ?_ | refine zF rfl rfl ?_ | refine zT rfl (by assumption) ?_ | refine zF rfl (by assumption) ?_)
              exact ⟨(2, p + digL (c :: r), false), fin false (by rw [hk, hN]; rfl), rfl, rfl, rfl, rfl, rfl, rfl, rfl, trivial⟩
            · rcases Nat.lt_or_ge (p + digL (c :: r)) l.length with h3 | h3
              · have g3 : decide (((p + digL (c :: r) : Nat) : Int) < s.size) = true := decide_eq_true (by omega)
                have hxx : s.data.toList[((p + digL (c :: r) : Nat) : Int).toNat]? = some ((c :: r).getD (digL (c :: r)) 0) := by
                  clear hxt fin
                  generalize digL (c :: r) = D at h3 ⊢
                  rw [hl, ← hd, List.getD_eq_getElem?_getD, List.getElem?_drop, show ((p + D : Nat) : Int).toNat = p + D from rfl, List.getElem?_eq_getElem h3]; rfl
                (repeat first | refine zSeq ?_ | refine zReg ?_ | refine zBlk ?_ | refine zSkp ?_ | refine zExt ?_ | refine zNil rfl ?_ | refine zGet rfl ?_ | refine zOn rfl rfl ?_ | refine zOff rfl rfl ?_ | refine zU rfl ?_ | refine zOn rfl (by assumption) ?_ | refine zOff rfl (by assumption) ?_ | refine zMov rfl ?_ | refine zAsg rfl ?_ | refine zXtr rfl ?_ | refine zPT rfl rfl rfl ?_ | refine zPF rfl rfl rfl ?_ | refine zPT rfl (by assumption) rfl ?_ | refine zPF rfl (by assumption) rfl ?_ | refine zLss rfl rfl ?_ | refine zLeq rfl rfl ?_ | refine zGtr rfl rfl ?_ | refine zGeq rfl rfl ?_ | refine zEql rfl rfl ?_ | refine zNeq rfl rfl ?_ | refine zAdd rfl rfl (by omega) ?_ | refine zSub rfl rfl (by omega) ?_ | refine zLenS rfl E_string ?_ | refine zNot rfl ?_ | refine zEqS rfl rfl ?_ | refine zNeS rfl rfl ?_ | refine zT rfl rfl ?_ | refine zF rfl rfl ?_ | refine zT rfl (by assumption) ?_ | refine zF rfl (by assumption) ?_)
                refine WL.op (op_indexS rfl rfl E_string (by omega) hxx) ?_
                (repeat first | refine zSeq ?_ | refine zReg ?_ | refine zBlk ?_ | refine zSkp ?_ | refine zExt ?_ | refine zNil rfl ?_ | refine zGet rfl ?_ | refine zOn rfl rfl ?_ | refine zOff rfl rfl ?_ | refine zU rfl ?_ | refine zOn rfl (by assumption) ?_ | refine zOff rfl (by assumption) ?_ | refine zMov rfl ?_ | refine zAsg rfl ?_ | refine zXtr rfl ?_ | refine zPT rfl rfl rfl ?_ | refine zPF rfl rfl rfl ?_ | refine zPT rfl (by assumption) rfl ?_ | refine zPF rfl (by assumption) rfl ?_ | refine zLss rfl rfl ?_ | refine zLeq rfl rfl ?_ | refine zGtr rfl rfl ?_ | refine zGeq rfl rfl ?_ | refine zEql rfl rfl ?_ | refine zNeq rfl rfl ?_ | refine zAdd rfl rfl (by omega) ?_ | refine zSub rfl rfl (by omega) ?_ | refine zLenS rfl E_string ?_ | refine zNot rfl ?_ | refine zEqS rfl rfl ?_ | refine zNeS rfl rfl ?_ | refine zT rfl rfl ?_ | refine zF rfl rfl ?_ | refine zT rfl (by assumption) ?_ | refine zF rfl (by assumption) ?_)
                refine WL.call rfl rfl is_ref01_letter (rletter_c hO) ?_
                (repeat first | refine zSeq ?_ | refine zReg ?_ | refine zBlk ?_ | refine zSkp ?_ | refine zExt ?_ | refine zNil rfl ?_ | refine zGet rfl ?_ | refine zOn rfl rfl ?_ | refine zOff rfl rfl ?_ | refine zU rfl ?_ | refine zOn rfl (by assumption) ?_ | refine zOff rfl (by assumption) ?_ | refine zMov rfl ?_ | refine zAsg rfl ?_ | refine zXtr rfl ?_ | refine zPT rfl rfl rfl ?_ | refine zPF rfl rfl rfl ?_ | refine zPT rfl (by assumption) rfl ?_ | refine zPF rfl (by assumption) rfl ?_ | refine zLss rfl rfl ?_ | refine zLeq rfl rfl ?_ | refine zGtr rfl rfl ?_ | refine zGeq rfl rfl ?_ | refine zEql rfl rfl ?_ | refine zNeq rfl rfl ?_ | refine zAdd rfl rfl (by omega) ?_ | refine zSub rfl rfl (by omega) ?_ | refine zLenS rfl E_string ?_ | refine zNot rfl ?_ | refine zEqS rfl rfl ?_ | refine zNeS rfl rfl ?_ | refine zT rfl rfl ?_ | refine zF rfl rfl ?_ | refine zT rfl (by assumption) ?_ | refine zF rfl (by assumption) ?_)
                exact ⟨(2, p + digL (c :: r), !let_ (((c :: r).getD (digL (c :: r)) 0).toNat)), fin _ (by rw [hk, hN, decide_eq_false (by omega), Bool.true_and, Bool.false_or]), rfl, rfl, rfl, rfl, rfl, rfl, rfl, trivial⟩
              · have g3 : decide (((p + digL (c :: r) : Nat) : Int) < s.size) = false := decide_eq_false (by omega)
                (repeat first | refine zSeq ?_ | refine zReg ?_ | refine zBlk ?_ | refine zSkp ?_ | refine zExt ?_ | refine zNil rfl ?_ | refine zGet rfl ?_ | refine zOn rfl rfl ?_ | refine zOff rfl rfl ?_ | refine zU rfl ?_ | refine zOn rfl (by assumption) ?_ | refine zOff rfl (by assumption) ?_ | refine zMov rfl ?_ | refine zAsg rfl ?_ | refine zXtr rfl ?_ | refine zPT rfl rfl rfl ?_ | refine zPF rfl rfl rfl ?_ | refine zPT rfl (by assumption) rfl ?_ | refine zPF rfl (by assumption) rfl ?_ | refine zLss rfl rfl ?_ | refine zLeq rfl rfl ?_ | refine zGtr rfl rfl ?_ | refine zGeq rfl rfl ?_ | refine zEql rfl rfl ?_ | refine zNeq rfl rfl ?_ | refine zAdd rfl rfl (by omega) ?_ | refine zSub rfl rfl (by omega) ?_ | refine zLenS rfl E_string ?_ | refine zNot rfl ?_ | refine zEqS rfl rfl ?_ | refine zNeS rfl rfl ?_ | refine zT rfl rfl ?_ | refine zF rfl rfl ?_ | refine zT rfl (by assumption) ?_ | refine zF rfl (by assumption) ?_)
                exact ⟨(2, p + digL (c :: r), true), fin true (by rw [hk, hN, decide_eq_true (by omega)]; rfl), rfl, rfl, rfl, rfl, rfl, rfl, rfl, trivial⟩
      · have hk := tokL_word (r := r) hL
        generalize hW : ((c :: r).takeWhile fun b => wd b.toNat).length = W at hk
        have hWle : W ≤ l.length - p := by rw [← hlen, ← hW]; exact (List.takeWhile_sublist _).length_le
        (repeat first | refine zSeq ?_ | refine zReg ?_ | refine zBlk ?_ | refine zSkp ?_ | refine zExt ?_ | refine zNil rfl ?_ | refine zGet rfl ?_ | refine zOn rfl rfl ?_ | refine zOff rfl rfl ?_ | refine zU rfl ?_ | refine zOn rfl (by assumption) ?_ | refine zOff rfl (by assumption) ?_ | refine zMov rfl ?_ | refine zAsg rfl ?_ | refine zXtr rfl ?_ | refine zPT rfl rfl rfl ?_ | refine zPF rfl rfl rfl ?_ | refine zPT rfl (by assumption) rfl ?_ | refine zPF rfl (by assumption) rfl ?_ | refine zLss rfl rfl ?_ | refine zLeq rfl rfl ?_ | refine zGtr rfl rfl ?_ | refine zGeq rfl rfl ?_ | refine zEql rfl rfl ?_ | refine zNeq rfl rfl ?_ | refine zAdd rfl rfl (by omega) ?_ | refine zSub rfl rfl (by omega) ?_ | refine zLenS rfl E_string ?_ | refine zNot rfl ?_ | refine zEqS rfl rfl ?_ | refine zNeS rfl rfl ?_ | refine zT rfl rfl ?_ | refine zF rfl rfl ?_ | refine zT rfl (by assumption) ?_ | refine zF rfl (by assumption) ?_)
        refine WL.op (op_fieldAddr rfl O_api_Token_Kind) ?_
        obtain ⟨Hb, hwb, hbb, hfb, hnb⟩ := hba'.wr (off := 0 + 0) (vs := [.int .u8 1]) (by simp) (by simp)
        refine WL.op (op_store rfl rfl E_uint8 rfl rfl hwb) ?_
        have hfb1 := young hfa1 hfb
        have hbb' : Bx Hb b0 36 [.int .u8 1, .string ⟨⟨[]⟩⟩, .int .i64 p] := hbb
        (repeat first | refine zReg ?_ | refine zSkp ?_ | refine zExt ?_ | refine zNil rfl ?_ | refine zGet rfl ?_ | refine zOn rfl rfl ?_ | refine zOff rfl rfl ?_ | refine zU rfl ?_ | refine zOn rfl (by assumption) ?_ | refine zOff rfl (by assumption) ?_ | refine zMov rfl ?_ | refine zAsg rfl ?_ | refine zXtr rfl ?_ | refine zPT rfl rfl rfl ?_ | refine zPF rfl rfl rfl ?_ | refine zPT rfl (by assumption) rfl ?_ | refine zPF rfl (by assumption) rfl ?_ | refine zLss rfl rfl ?_ | refine zLeq rfl rfl ?_ | refine zGtr rfl rfl ?_ | refine zGeq rfl rfl ?_ | refine zEql rfl rfl ?_ | refine zNeq rfl rfl ?_ | refine zAdd rfl rfl (by omega) ?_ | refine zSub rfl rfl (by omega) ?_ | refine zLenS rfl E_string ?_ | refine zNot rfl ?_ | refine zEqS rfl rfl ?_ | refine zNeS rfl rfl ?_ | refine zT rfl rfl ?_ | refine zF rfl rfl ?_ | refine zT rfl (by assumption) ?_ | refine zF rfl (by assumption) ?_)
        refine WP.seqS (σ := Unit) (fun _ => [(0, .string s), (5, v), (6, .bool rem), (7, .int .i64 p), (9, .pointer (some ⟨b0, 0, none⟩)), (10, .int .i64 (p + W : Nat))]) (fun _ H' => Hb = H') ?_ ?_
        · (repeat first | refine zSeq ?_ | refine zReg ?_ | refine zBlk ?_ | refine zSkp ?_ | refine zExt ?_ | refine zNil rfl ?_ | refine zGet rfl ?_ | refine zOn rfl rfl ?_ | refine zOff rfl rfl ?_ | refine zU rfl ?_ | refine zOn rfl (by assumption) ?_ | refine zOff rfl (by assumption) ?_ | refine zMov rfl ?_ | refine zAsg rfl ?_ | refine zXtr rfl ?_ | refine zPT rfl rfl rfl ?_ | refine zPF rfl rfl rfl ?_ | refine zPT rfl (by assumption) rfl ?_ | refine zPF rfl (by assumption) rfl ?_ | refine zLss rfl rfl ?_ | refine zLeq rfl rfl ?_ | refine zGtr rfl rfl ?_ | refine zGeq rfl rfl ?_ | refine zEql rfl rfl ?_ | refine zNeq rfl rfl ?_ | refine zAdd rfl rfl (by omega) ?_ | refine zSub rfl rfl (by omega) ?_ | refine zLenS rfl E_string ?_ | refine zNot rfl ?_ | refine zEqS rfl rfl ?_ | refine zNeS rfl rfl ?_ | refine zT rfl rfl ?_ | refine zF rfl rfl ?_ | refine zT rfl (by assumption) ?_ | refine zF rfl (by assumption) ?_)
          refine WP.loopH (σ := Nat) (fun x => [(0, .string s), (5, v), (6, .bool rem), (7, .int .i64 p), (9, .pointer (some ⟨b0, 0, none⟩)), (10, .int .i64 x)]) (fun x H' => Hb = H' ∧ p ≤ x ∧ x ≤ l.length ∧ W = (x - p) + ((l.drop x).takeWhile fun b => wd b.toNat).length) (fun x => l.length - x) p
            ⟨rfl, Nat.le_refl _, hp, by rw [Nat.sub_self, Nat.zero_add, hd, hW]⟩ ⟨rfl, rfl, rfl, rfl, rfl, rfl, trivial⟩ ?_
          rintro x _ ⟨rfl, hx1, hx2, hx3⟩
          rcases Nat.lt_or_ge x l.length with h3 | h3
          · have g3 : decide ((x : Int) < s.size) = true := decide_eq_true (by omega)
            have hxx : s.data.toList[(x : Int).toNat]? = some l[x] := by rw [hl]; simp [h3]
            (repeat first | refine zSeq ?_ | refine zReg ?_ | refine zBlk ?_ | refine zSkp ?_ | refine zExt ?_ | refine zNil rfl ?_ | refine zGet rfl ?_ | refine zOn rfl rfl ?_ | refine zOff rfl rfl ?_ | refine zU rfl ?_ | refine zOn rfl (by assumption) ?_ | refine zOff rfl (by assumption) ?_ | refine zMov rfl ?_ | refine zAsg rfl ?_ | refine zXtr rfl ?_ | refine zPT rfl rfl rfl ?_ | refine zPF rfl rfl rfl ?_ | refine zPT rfl (by assumption) rfl ?_ | refine zPF rfl (by assumption) rfl ?_ | refine zLss rfl rfl ?_ | refine zLeq rfl rfl ?_ | refine zGtr rfl rfl ?_ | refine zGeq rfl rfl ?_ | refine zEql rfl rfl ?_ | refine zNeq rfl rfl ?_ | refine zAdd rfl rfl (by omega) ?_ | refine zSub rfl rfl (by omega) ?_ | refine zLenS rfl E_string ?_ | refine zNot rfl ?_ | refine zEqS rfl rfl ?_ | refine zNeS rfl rfl ?_ | refine zT rfl rfl ?_ | refine zF rfl rfl ?_ | refine zT rfl (by assumption) ?_ | refine zF rfl (by assumption) ?_)
            refine WL.op (op_indexS rfl rfl E_string (by omega) hxx) ?_
            (repeat first | refine zSeq ?_ | refine zReg ?_ | refine zBlk ?_ | refine zSkp ?_ | refine zExt ?_ | refine zNil rfl ?_ | refine zGet rfl ?_ | refine zOn rfl rfl ?_ | refine zOff rfl rfl ?_ | refine zU rfl ?_ | refine zOn rfl (by assumption) ?_ | refine zOff rfl (by assumption) ?_ | refine zMov rfl ?_ | refine zAsg rfl ?_ | refine zXtr rfl ?_ | refine zPT rfl rfl rfl ?_ | refine zPF rfl rfl rfl ?_ | refine zPT rfl (by assumption) rfl ?_ | refine zPF rfl (by assumption) rfl ?_ | refine zLss rfl rfl ?_ | refine zLeq rfl rfl ?_ | refine zGtr rfl rfl ?_ | refine zGeq rfl rfl ?_ | refine zEql rfl rfl ?_ | refine zNeq rfl rfl ?_ | refine zAdd rfl rfl (by omega) ?_ | refine zSub rfl rfl (by omega) ?_ | refine zLenS rfl E_string ?_ | refine zNot rfl ?_ | refine zEqS rfl rfl ?_ | refine zNeS rfl rfl ?_ | refine zT rfl rfl ?_ | refine zF rfl rfl ?_ | refine zT rfl (by assumption) ?_ | refine zF rfl (by assumption) ?_)
            refine WL.call rfl rfl is_ref01_letter (rletter_c hO) ?_
            cases hq : let_ l[x].toNat
            · (repeat first | refine zSeq ?_ | refine zReg ?_ | refine zBlk ?_ | refine zSkp ?_ | refine zExt ?_ | refine zNil rfl ?_ | refine zGet rfl ?_ | refine zOn rfl rfl ?_ | refine zOff rfl rfl ?_ | refine zU rfl ?_ | refine zOn rfl (by assumption) ?_ | refine zOff rfl (by assumption) ?_ | refine zMov rfl ?_ | refine zAsg rfl ?_ | refine zXtr rfl ?_ | refine zPT rfl rfl rfl ?_ | refine zPF rfl rfl rfl ?_ | refine zPT rfl (by assumption) rfl ?_ | refine zPF rfl (by assumption) rfl ?_ | refine zLss rfl rfl ?_ | refine zLeq rfl rfl ?_ | refine zGtr rfl rfl ?_ | refine zGeq rfl rfl ?_ | refine zEql rfl rfl ?_ | refine zNeq rfl rfl ?_ | refine zAdd rfl rfl (by omega) ?_ | refine zSub rfl rfl (by omega) ?_ | refine zLenS rfl E_string ?_ | refine zNot rfl ?_ | refine zEqS rfl rfl ?_ | refine zNeS rfl rfl ?_ | refine zT rfl rfl ?_ | refine zF rfl rfl ?_ | refine zT rfl (by assumption) ?_ | refine zF rfl (by assumption) ?_)
              refine WL.op (op_indexS rfl rfl E_string (by omega) hxx) ?_
              (repeat first | refine zSeq ?_ | refine zReg ?_ | refine zBlk ?_ | refine zSkp ?_ | refine zExt ?_ | refine zNil rfl ?_ | refine zGet rfl ?_ | refine zOn rfl rfl ?_ | refine zOff rfl rfl ?_ | refine zU rfl ?_ | refine zOn rfl (by assumption) ?_ | refine zOff rfl (by assumption) ?_ | refine zMov rfl ?_ | refine zAsg rfl ?_ | refine zXtr rfl ?_ | refine zPT rfl rfl rfl ?_ | refine zPF rfl rfl rfl ?_ | refine zPT rfl (by assumption) rfl ?_ | refine zPF rfl (by assumption) rfl ?_ | refine zLss rfl rfl ?_ | refine zLeq rfl rfl ?_ | refine zGtr rfl rfl ?_ | refine zGeq rfl rfl ?_ | refine zEql rfl rfl ?_ | refine zNeq rfl rfl ?_ | refine zAdd rfl rfl (by omega) ?_ | refine zSub rfl rfl (by omega) ?_ | refine zLenS rfl E_string ?_ | refine zNot rfl ?_ | refine zEqS rfl rfl ?_ | refine zNeS rfl rfl ?_ | refine zT rfl rfl ?_ | refine zF rfl rfl ?_ | refine zT rfl (by assumption) ?_ | refine zF rfl (by assumption) ?_)
              refine WL.call rfl rfl is_ref01_digit (rdigit_c hO) ?_
              cases hq2 : dig l[x].toNat
              · (repeat first | refine zSeq ?_ | refine zReg ?_ | refine zBlk ?_ | refine zSkp ?_ | refine zExt ?_ | refine zNil rfl ?_ | refine zGet rfl ?_ | refine zOn rfl rfl ?_ | refine zOff rfl rfl ?_ | refine zU rfl ?_ | refine zOn rfl (by assumption) ?_ | refine zOff rfl (by assumption) ?_ | refine zMov rfl ?_ | refine zAsg rfl ?_ | refine zXtr rfl ?_ | refine zPT rfl rfl rfl ?_ | refine zPF rfl rfl rfl ?_ | refine zPT rfl (by assumption) rfl ?_ | refine zPF rfl (by assumption) rfl ?_ | refine zLss rfl rfl ?_ | refine zLeq rfl rfl ?_ | refine zGtr rfl rfl ?_ | refine zGeq rfl rfl ?_ | refine zEql rfl rfl ?_ | refine zNeq rfl rfl ?_ | refine zAdd rfl rfl (by omega) ?_ | refine zSub rfl rfl (by omega) ?_ | refine zLenS rfl E_string ?_ | refine zNot rfl ?_ | refine zEqS rfl rfl ?_ | refine zNeS rfl rfl ?_ | refine zT rfl rfl ?_ | refine zF rfl rfl ?_ | refine zT rfl (by assumption) ?_ | refine zF rfl (by assumption) ?_)
                exact ⟨(), rfl, rfl, rfl, rfl, rfl, rfl, int_eq (by rw [hx3, tw_stop h3 (by rw [wd, hq, hq2]; rfl)]; omega), trivial⟩
              · (repeat first | refine zSeq ?_ | refine zReg ?_ | refine zBlk ?_ | refine zSkp ?_ | refine zExt ?_ | refine zNil rfl ?_ | refine zGet rfl ?_ | refine zOn rfl rfl ?_ | refine zOff rfl rfl ?_ | refine zU rfl ?_ | refine zOn rfl (by assumption) ?_ | refine zOff rfl (by assumption) ?_ | refine zMov rfl ?_ | refine zAsg rfl ?_ | refine zXtr rfl ?_ | refine zPT rfl rfl rfl ?_ | refine zPF rfl rfl rfl ?_ | refine zPT rfl (by assumption) rfl ?_ | refine zPF rfl (by assumption) rfl ?_ | refine zLss rfl rfl ?_ | refine zLeq rfl rfl ?_ | refine zGtr rfl rfl ?_ | refine zGeq rfl rfl ?_ | refine zEql rfl rfl ?_ | refine zNeq rfl rfl ?_ | refine zAdd rfl rfl (by omega) ?_ | refine zSub rfl rfl (by omega) ?_ | refine zLenS rfl E_string ?_ | refine zNot rfl ?_ | refine zEqS rfl rfl ?_ | refine zNeS rfl rfl ?_ | refine zT rfl rfl ?_ | refine zF rfl rfl ?_ | refine zT rfl (by assumption) ?_ | refine zF rfl (by assumption) ?_)
                exact ⟨x + 1, ⟨rfl, by omega, by omega, by rw [hx3, tw_step h3 (by rw [wd, hq, hq2]; rfl)]; omega⟩, by omega, rfl, rfl, rfl, rfl, rfl, rfl, trivial⟩
            · (repeat first | refine zSeq ?_ | refine zReg ?_ | refine zBlk ?_ | refine zSkp ?_ | refine zExt ?_ | refine zNil rfl ?_ | refine zGet rfl ?_ | refine zOn rfl rfl ?_ | refine zOff rfl rfl ?_ | refine zU rfl ?_ | refine zOn rfl (by assumption) ?_ | refine zOff rfl (by assumption) ?_ | refine zMov rfl ?_ | refine zAsg rfl ?_ | refine zXtr rfl ?_ | refine zPT rfl rfl rfl ?_ | refine zPF rfl rfl rfl ?_ | refine zPT rfl (by assumption) rfl ?_ | refine zPF rfl (by assumption) rfl ?_ | refine zLss rfl rfl ?_ | refine zLeq rfl rfl ?_ | refine zGtr rfl rfl ?_ | refine zGeq rfl rfl ?_ | refine zEql rfl rfl ?_ | refine zNeq rfl rfl ?_ | refine zAdd rfl rfl (by omega) ?_ | refine zSub rfl rfl (by omega) ?_ | refine zLenS rfl E_string ?_ | refine zNot rfl ?_ | refine zEqS rfl rfl ?_ | refine zNeS rfl rfl ?_ | refine zT rfl rfl ?_ | refine zF rfl rfl ?_ | refine zT rfl (by assumption) ?_ | refine zF rfl (by assumption) ?_)
              exact ⟨x + 1, ⟨rfl, by omega, by omega, by rw [hx3, tw_step h3 (by rw [wd, hq]; rfl)]; omega⟩, by omega, rfl, rfl, rfl, rfl, rfl, rfl, trivial⟩
          · have g3 : decide ((x : Int) < s.size) = false := decide_eq_false (by omega)
            (repeat first | refine zSeq ?_ | refine zReg ?_ | refine zBlk ?_ | refine zSkp ?_ | refine zExt ?_ | refine zNil rfl ?_ | refine zGet rfl ?_ | refine zOn rfl rfl ?_ | refine zOff rfl rfl ?_ | refine zU rfl ?_ | refine zOn rfl (by assumption) ?_ | refine zOff rfl (by assumption) ?_ | refine zMov rfl ?_ | refine zAsg rfl ?_ | refine zXtr rfl ?_ | refine zPT rfl rfl rfl ?_ | refine zPF rfl rfl rfl ?_ | refine zPT rfl (by assumption) rfl ?_ | refine zPF rfl (by assumption) rfl ?_ | refine zLss rfl rfl ?_ | refine zLeq rfl rfl ?_ | refine zGtr rfl rfl ?_ | refine zGeq rfl rfl ?_ | refine zEql rfl rfl ?_ | refine zNeq rfl rfl ?_ | refine zAdd rfl rfl (by omega) ?_ | refine zSub rfl rfl (by omega) ?_ | refine zLenS rfl E_string ?_ | refine zNot rfl ?_ | refine zEqS rfl rfl ?_ | refine zNeS rfl rfl ?_ | refine zT rfl rfl ?_ | refine zF rfl rfl ?_ | refine zT rfl (by assumption) ?_ | refine zF rfl (by assumption) ?_)
            exact ⟨(), rfl, rfl, rfl, rfl, rfl, rfl, int_eq (by rw [hx3, tw_end h3]; omega), trivial⟩
        · rintro _ _ rfl
          (repeat first | refine zSeq ?_ | refine zReg ?_ | refine zBlk ?_ | refine zSkp ?_ | refine zExt ?_ | refine zNil rfl ?_ | refine zGet rfl ?_ | refine zOn rfl rfl ?_ | refine zOff rfl rfl ?_ | refine zU rfl ?_ | refine zOn rfl (by assumption) ?_ | refine zOff rfl (by assumption) ?_ | refine zMov rfl ?_ | refine zAsg rfl ?_ | refine zXtr rfl ?_ | refine zPT rfl rfl rfl ?_ | refine zPF rfl rfl rfl ?_ | refine zPT rfl (by assumption) rfl ?_ | refine zPF rfl (by assumption) rfl ?_ | refine zLss rfl rfl ?_ | refine zLeq rfl rfl ?_ | refine zGtr rfl rfl ?_ | refine zGeq rfl rfl ?_ | refine zEql rfl rfl ?_ | refine zNeq rfl rfl ?_ | refine zAdd rfl rfl (by omega) ?_ | refine zSub rfl rfl (by omega) ?_ | refine zLenS rfl E_string ?_ | refine zNot rfl ?_ | refine zEqS rfl rfl ?_ | refine zNeS rfl rfl ?_ | refine zT rfl rfl ?_ | refine zF rfl rfl ?_ | refine zT rfl (by assumption) ?_ | refine zF rfl (by assumption) ?_)
          refine ⟨(1, p + W, decide (W ≤ 32)), ⟨hfb1, hbb', by rw [hk], fun _ => by rw [hk]; exact ⟨rfl, rfl⟩, by simp only; omega, by simp only; omega⟩, rfl, rfl, rfl, rfl, rfl, rfl, bool_eq ?_, trivial⟩
          simp only; rw [decide_eq_decide]; omega
    · rintro ⟨kk, to, ok⟩ H3 ⟨hf3, hb3, hok, hk, hto, hto2⟩
      simp only at hok hk hf3 hb3 hto hto2 ⊢
      cases ok
      · (repeat first | refine zSeq ?_ | refine zReg ?_ | refine zBlk ?_ | refine zSkp ?_ | refine zExt ?_ | refine zNil rfl ?_ | refine zGet rfl ?_ | refine zOn rfl rfl ?_ | refine zOff rfl rfl ?_ | refine zU rfl ?_ | refine zOn rfl (by assumption) ?_ | refine zOff rfl (by assumption) ?_ | refine zMov rfl ?_ | refine zAsg rfl ?_ | refine zXtr rfl ?_ | refine zPT rfl rfl rfl ?_ | refine zPF rfl rfl rfl ?_ | refine zPT rfl (by assumption) rfl ?_ | refine zPF rfl (by assumption) rfl ?_ | refine zLss rfl rfl ?_ | refine zLeq rfl rfl ?_ | refine zGtr rfl rfl ?_ | refine zGeq rfl rfl ?_ | refine zEql rfl rfl ?_ | refine zNeq rfl rfl ?_ | refine zAdd rfl rfl (by omega) ?_ | refine zSub rfl rfl (by omega) ?_ | refine zLenS rfl E_string ?_ | refine zNot rfl ?_ | refine zEqS rfl rfl ?_ | refine zNeS rfl rfl ?_ | refine zT rfl rfl ?_ | refine zF rfl rfl ?_ | refine zT rfl (by assumption) ?_ | refine zF rfl (by assumption) ?_)
        refine WP.ret ⟨.inr rfl, _, rfl, none_ p 63 H3 (hf.trans hf3) (lexR_bad h1 ?_)⟩
        rw [hsc, hd, toks_bad hid hok.symm]; rfl
      · obtain ⟨k1, k2⟩ := hk rfl
        have hpos := tok_pos hok.symm
        rw [hlen] at hpos
        generalize hnn : (tokL (c :: r)).2.1 = nn at hpos k2
        have hxt : s.extract (p : Int).toNat (to : Int).toNat = str ((c :: r).take nn) := by rw [k2, ← hd, ← hl]; exact ext_str s p nn
        (repeat first | refine zSeq ?_ | refine zReg ?_ | refine zBlk ?_ | refine zSkp ?_ | refine zExt ?_ | refine zNil rfl ?_ | refine zGet rfl ?_ | refine zOn rfl rfl ?_ | refine zOff rfl rfl ?_ | refine zU rfl ?_ | refine zOn rfl (by assumption) ?_ | refine zOff rfl (by assumption) ?_ | refine zMov rfl ?_ | refine zAsg rfl ?_ | refine zXtr rfl ?_ | refine zPT rfl rfl rfl ?_ | refine zPF rfl rfl rfl ?_ | refine zPT rfl (by assumption) rfl ?_ | refine zPF rfl (by assumption) rfl ?_ | refine zLss rfl rfl ?_ | refine zLeq rfl rfl ?_ | refine zGtr rfl rfl ?_ | refine zGeq rfl rfl ?_ | refine zEql rfl rfl ?_ | refine zNeq rfl rfl ?_ | refine zAdd rfl rfl (by omega) ?_ | refine zSub rfl rfl (by omega) ?_ | refine zLenS rfl E_string ?_ | refine zNot rfl ?_ | refine zEqS rfl rfl ?_ | refine zNeS rfl rfl ?_ | refine zT rfl rfl ?_ | refine zF rfl rfl ?_ | refine zT rfl (by assumption) ?_ | refine zF rfl (by assumption) ?_)
        refine WL.op (op_sliceS2 rfl rfl rfl E_string (by omega) (by omega) (by omega)) ?_
        rw [hxt]
        refine WL.op (op_fieldAddr rfl O_api_Token_Text) ?_
        obtain ⟨H4, hw4, hb4, hf4, hn4⟩ := hb3.wr (off := 0 + 1) (vs := [.string (str ((c :: r).take nn))]) (by simp) (by simp)
        refine WL.op (op_store rfl rfl E_string rfl rfl hw4) ?_
        have hb4' : Bx H4 b0 36 [.int .u8 kk, .string (str ((c :: r).take nn)), .int .i64 p] := hb4
        have hf14 : Fr H1 H4 := hf3.young hf4 (by simp; omega) (by simp)
        (repeat first | refine zSeq ?_ | refine zReg ?_ | refine zBlk ?_ | refine zSkp ?_ | refine zExt ?_ | refine zNil rfl ?_ | refine zGet rfl ?_ | refine zOn rfl rfl ?_ | refine zOff rfl rfl ?_ | refine zU rfl ?_ | refine zOn rfl (by assumption) ?_ | refine zOff rfl (by assumption) ?_ | refine zMov rfl ?_ | refine zAsg rfl ?_ | refine zXtr rfl ?_ | refine zPT rfl rfl rfl ?_ | refine zPF rfl rfl rfl ?_ | refine zPT rfl (by assumption) rfl ?_ | refine zPF rfl (by assumption) rfl ?_ | refine zLss rfl rfl ?_ | refine zLeq rfl rfl ?_ | refine zGtr rfl rfl ?_ | refine zGeq rfl rfl ?_ | refine zEql rfl rfl ?_ | refine zNeq rfl rfl ?_ | refine zAdd rfl rfl (by omega) ?_ | refine zSub rfl rfl (by omega) ?_ | refine zLenS rfl E_string ?_ | refine zNot rfl ?_ | refine zEqS rfl rfl ?_ | refine zNeS rfl rfl ?_ | refine zT rfl rfl ?_ | refine zF rfl rfl ?_ | refine zT rfl (by assumption) ?_ | refine zF rfl (by assumption) ?_)
        refine WL.op (op_load rfl ((hb4'.rd (n := 3) rfl).loadN E36 te_api_Token_agg te36_size)) ?_
        refine WL.op (op_buildSlice rfl E30 E36 (by rw [te36_size]; decide) fill36) ?_
        obtain ⟨v', H5, o', ha, hw', hfx, ho1, ho2⟩ := ((hw.fr hf14).fr (.alloc H4 (.row 36 [.int .u8 kk, .string (str ((c :: r).take nn)), .int .i64 p] .exact 0 0))).app (m := 1) (bytes := 32) (new := [.int .u8 kk, .string (str ((c :: r).take nn)), .int .i64 p])
          (by decide) (by decide) rfl (by omega) (by omega) (by have := hf.1; have := hf14.1; simp; omega)
        refine WL.op (op_append rfl rfl E30 E30 E36 (by decide) (by rw [te36_size]; exact rd_alloc rfl) rfl (by rw [te36_size, te36_bytes]; exact ha)) ?_
        (repeat first | refine zSeq ?_ | refine zReg ?_ | refine zBlk ?_ | refine zSkp ?_ | refine zExt ?_ | refine zNil rfl ?_ | refine zGet rfl ?_ | refine zOn rfl rfl ?_ | refine zOff rfl rfl ?_ | refine zU rfl ?_ | refine zOn rfl (by assumption) ?_ | refine zOff rfl (by assumption) ?_ | refine zMov rfl ?_ | refine zAsg rfl ?_ | refine zXtr rfl ?_ | refine zPT rfl rfl rfl ?_ | refine zPF rfl rfl rfl ?_ | refine zPT rfl (by assumption) rfl ?_ | refine zPF rfl (by assumption) rfl ?_ | refine zLss rfl rfl ?_ | refine zLeq rfl rfl ?_ | refine zGtr rfl rfl ?_ | refine zGeq rfl rfl ?_ | refine zEql rfl rfl ?_ | refine zNeq rfl rfl ?_ | refine zAdd rfl rfl (by omega) ?_ | refine zSub rfl rfl (by omega) ?_ | refine zLenS rfl E_string ?_ | refine zNot rfl ?_ | refine zEqS rfl rfl ?_ | refine zNeS rfl rfl ?_ | refine zT rfl rfl ?_ | refine zF rfl rfl ?_ | refine zT rfl (by assumption) ?_ | refine zF rfl (by assumption) ?_)
        have hf5 : Fr H H5 := ((hf.trans hf14).trans (.alloc _ _)).young hfx (fun b hb => hw.young.1 b hb) (fun b hb => hw.young.2.1 b hb)
        refine ⟨(to, rem, acc ++ [⟨kk, (c :: r).take nn, p⟩], v', o'), ⟨hf5, ?_, by simp only; omega, by simp; omega, ?_⟩, by simp only; omega, rfl, rfl, rfl, rfl, trivial⟩
        · simp only [List.length_append, tokCells_app]; exact hw'
        · have hrem : rem = false := by
            cases rem
            · rfl
            · cases hid
          subst hrem
          simp only
          rw [hsc, hd, toks_tok hid hok.symm, hnn, ← k1, ← k2, ← hd, List.drop_drop, ← k2]
          cases toks false to (l.drop to) <;> simp [Except.map]
  obtain ⟨u, H', h, v, o, rfl, h1, h2⟩ := key
  unfold LexC
  rw [hl]
  exact ⟨v, H', o, h, h1, h2⟩
end Go.Proofs.YtdkfcpadbahohaaDoor.U

/-
  LexTokens: the walk.
-/
namespace Go.Proofs.YtdkfcpadbahohaaDoor.U
open Go Go.Ev
attribute [local irreducible] WL WP WH W
variable {O : Orc} {H : AH}
noncomputable def fs36 : Array Field := match V.P.underlying 36 with
  | some (.struct fs) => fs
  | _ => #[]
theorem us36 : V.P.underlying 36 = some (.struct fs36) := by kernel_rfl
noncomputable def f36 (i : Nat) : Field := fs36.getD i default
theorem fs36_list : fs36.toList = [f36 0, f36 1, f36 2] := by kernel_rfl
theorem n36_0 : (f36 0).name ≠ "_" := by have : ((f36 0).name == "_") = false := by kernel_rfl
                                         simpa using this
theorem n36_1 : (f36 1).name ≠ "_" := by have : ((f36 1).name == "_") = false := by kernel_rfl
                                         simpa using this
theorem n36_2 : (f36 2).name ≠ "_" := by have : ((f36 2).name == "_") = false := by kernel_rfl
                                         simpa using this
theorem t36_0 : (f36 0).type = 5 := by kernel_rfl
theorem t36_1 : (f36 1).type = 9 := by kernel_rfl
theorem t36_2 : (f36 2).type = 3 := by kernel_rfl
theorem o36_0 : (f36 0).offset = 0 := by kernel_rfl
theorem o36_1 : (f36 1).offset = 1 := by kernel_rfl
theorem o36_2 : (f36 2).offset = 2 := by kernel_rfl
theorem s36 : V.P.stoodInHeld 36 = false := by kernel_rfl
theorem g36 : V.P.eqGuardType V.P.depth 36 = false := by kernel_rfl
theorem uu9 : V.P.underlying 9 = some .string := by kernel_rfl
theorem uu3 : V.P.underlying 3 = some (.int .i64) := by kernel_rfl
theorem uu4 : V.P.underlying 4 = some .bool := by kernel_rfl
theorem neTok {ox oy : Operand} (a b : Tok) : aBin V.P V.E .neq 36 ox oy (.agg a.cells.toArray) (.agg b.cells.toArray) = some (.bool !([(a.kind : Int) == b.kind, a.text == b.text, (a.at_ : Int) == b.at_].all id)) := by
  refine (aBin_eqAgg rfl rfl g36 (equal_struct (d := 9999) us36 s36 ?_)).2
  rw [fs36_list]
  refine .cons n36_0 (part_one (by rw [t36_0]; exact u5) rfl (by rw [o36_0]; rfl)) (part_one (by rw [t36_0]; exact u5) rfl (by rw [o36_0]; rfl)) (by rw [t36_0]; exact equal_int (d := 9998) u5) ?_
  refine .cons n36_1 (part_one (by rw [t36_1]; exact uu9) rfl (by rw [o36_1]; rfl)) (part_one (by rw [t36_1]; exact uu9) rfl (by rw [o36_1]; rfl)) (by rw [t36_1]; exact equal_str (d := 9998) uu9) ?_
  exact .cons n36_2 (part_one (by rw [t36_2]; exact uu3) rfl (by rw [o36_2]; rfl)) (part_one (by rw [t36_2]; exact uu3) rfl (by rw [o36_2]; rfl)) (by rw [t36_2]; exact equal_int (d := 9998) uu3) .nil
theorem tok_at : ∀ {l : List Tok} {i : Nat} (h : i < l.length), ((tokCells l).drop (i * 3)).take 3 = l[i].cells
  | a :: l, 0, _ => rfl
  | a :: l, i + 1, h => by
    have e : (i + 1) * 3 = i * 3 + 3 := by omega
    have e2 : tokCells (a :: l) = a.cells ++ tokCells l := rfl
    rw [e, e2, List.getElem_cons_succ, ← tok_at (l := l) (i := i) (by simpa using h), List.drop_append, show a.cells.length = 3 from rfl, List.drop_eq_nil_iff.2 (by show 3 ≤ _; omega), List.nil_append, Nat.add_sub_cancel]
theorem same_c (hO : ∀ f vs H, f ≠ 8 → O f vs H = none) {ts : List Tok} {v w : Value} (hv : Sl H v 3 ts.length (tokCells ts)) (hw : Sl H w 3 ts.length (tokCells ts)) : Lc V O F_ref01_Same [v, w] H (.bool true) H := Lc.of_eq <| by
  have hlen := hv.2.1
  refine Lc.ref01_Same (hO _ _ _ (by decide)) (Nat.le_of_ble_eq_true rfl) (by kernel_rfl) ?_
  unfold P_ref01_Same
  have g0 : ((ts.length : Int) != ts.length) = false := by simp
  (repeat first | refine zSeq ?_ | refine zReg ?_ | refine zBlk ?_ | refine zSkp ?_ | refine zExt ?_ | refine zNil rfl ?_ | refine zGet rfl ?_ | refine zOn rfl rfl ?_ | refine zOff rfl rfl ?_ | refine zU rfl ?_ | refine zOn rfl (by assumption) ?_ | refine zOff rfl (by assumption) ?_ | refine zMov rfl ?_ | refine zAsg rfl ?_ | refine zXtr rfl ?_ | refine zPT rfl rfl rfl ?_ | refine zPF rfl rfl rfl ?_ | refine zPT rfl (by assumption) rfl ?_ | refine zPF rfl (by assumption) rfl ?_ | refine zLss rfl rfl ?_ | refine zLeq rfl rfl ?_ | refine zGtr rfl rfl ?_ | refine zGeq rfl rfl ?_ | refine zEql rfl rfl ?_ | refine zNeq rfl rfl ?_ | refine zAdd rfl rfl (by omega) ?_ | refine zSub rfl rfl (by omega) ?_ | refine zLenS rfl E_string ?_ | refine zNot rfl ?_ | refine zEqS rfl rfl ?_ | refine zNeS rfl rfl ?_ | refine zT rfl rfl ?_ | refine zF rfl rfl ?_ | refine zT rfl (by assumption) ?_ | refine zF rfl (by assumption) ?_)
  refine WL.op (op_len rfl (hv.len E30)) ?_
  (repeat first | refine zSeq ?_ | refine zReg ?_ | refine zBlk ?_ | refine zSkp ?_ | refine zExt ?_ | refine zNil rfl ?_ | refine zGet rfl ?_ | refine zOn rfl rfl ?_ | refine zOff rfl rfl ?_ | refine zU rfl ?_ | refine zOn rfl (by assumption) ?_ | refine zOff rfl (by assumption) ?_ | refine zMov rfl ?_ | refine zAsg rfl ?_ | refine zXtr rfl ?_ | refine zPT rfl rfl rfl ?_ | refine zPF rfl rfl rfl ?_ | refine zPT rfl (by assumption) rfl ?_ | refine zPF rfl (by assumption) rfl ?_ | refine zLss rfl rfl ?_ | refine zLeq rfl rfl ?_ | refine zGtr rfl rfl ?_ | refine zGeq rfl rfl ?_ | refine zEql rfl rfl ?_ | refine zNeq rfl rfl ?_ | refine zAdd rfl rfl (by omega) ?_ | refine zSub rfl rfl (by omega) ?_ | refine zLenS rfl E_string ?_ | refine zNot rfl ?_ | refine zEqS rfl rfl ?_ | refine zNeS rfl rfl ?_ | refine zT rfl rfl ?_ | refine zF rfl rfl ?_ | refine zT rfl (by assumption) ?_ | refine zF rfl (by assumption) ?_)
  refine WL.op (op_len rfl (hw.len E30)) ?_
  (repeat first | refine zSeq ?_ | refine zReg ?_ | refine zBlk ?_ | refine zSkp ?_ | refine zExt ?_ | refine zNil rfl ?_ | refine zGet rfl ?_ | refine zOn rfl rfl ?_ | refine zOff rfl rfl ?_ | refine zU rfl ?_ | refine zOn rfl (by assumption) ?_ | refine zOff rfl (by assumption) ?_ | refine zMov rfl ?_ | refine zAsg rfl ?_ | refine zXtr rfl ?_ | refine zPT rfl rfl rfl ?_ | refine zPF rfl rfl rfl ?_ | refine zPT rfl (by assumption) rfl ?_ | refine zPF rfl (by assumption) rfl ?_ | refine zLss rfl rfl ?_ | refine zLeq rfl rfl ?_ | refine zGtr rfl rfl ?_ | refine zGeq rfl rfl ?_ | refine zEql rfl rfl ?_ | refine zNeq rfl rfl ?_ | refine zAdd rfl rfl (by omega) ?_ | refine zSub rfl rfl (by omega) ?_ | refine zLenS rfl E_string ?_ | refine zNot rfl ?_ | refine zEqS rfl rfl ?_ | refine zNeS rfl rfl ?_ | refine zT rfl rfl ?_ | refine zF rfl rfl ?_ | refine zT rfl (by assumption) ?_ | refine zF rfl (by assumption) ?_)
  refine WP.loopH (σ := Nat) (fun i => [(0, v), (1, w), (5, .int .i64 i)]) (fun i H' => H = H' ∧ i ≤ ts.length) (fun i => ts.length - i) 0 ⟨rfl, by omega⟩ ⟨rfl, rfl, rfl, trivial⟩ ?_
  rintro i _ ⟨rfl, hi⟩
  (repeat first | refine zSeq ?_ | refine zReg ?_ | refine zBlk ?_ | refine zSkp ?_ | refine zExt ?_ | refine zNil rfl ?_ | refine zGet rfl ?_ | refine zOn rfl rfl ?_ | refine zOff rfl rfl ?_ | refine zU rfl ?_ | refine zOn rfl (by assumption) ?_ | refine zOff rfl (by assumption) ?_ | refine zMov rfl ?_ | refine zAsg rfl ?_ | refine zXtr rfl ?_ | refine zPT rfl rfl rfl ?_ | refine zPF rfl rfl rfl ?_ | refine zPT rfl (by assumption) rfl ?_ | refine zPF rfl (by assumption) rfl ?_ | refine zLss rfl rfl ?_ | refine zLeq rfl rfl ?_ | refine zGtr rfl rfl ?_ | refine zGeq rfl rfl ?_ | refine zEql rfl rfl ?_ | refine zNeq rfl rfl ?_ | refine zAdd rfl rfl (by omega) ?_ | refine zSub rfl rfl (by omega) ?_ | refine zLenS rfl E_string ?_ | refine zNot rfl ?_ | refine zEqS rfl rfl ?_ | refine zNeS rfl rfl ?_ | refine zT rfl rfl ?_ | refine zF rfl rfl ?_ | refine zT rfl (by assumption) ?_ | refine zF rfl (by assumption) ?_)
  refine WL.op (op_len rfl (hv.len E30)) ?_
  rcases Nat.lt_or_ge i ts.length with h | h
  · have g1 : decide ((i : Int) < ts.length) = true := decide_eq_true (by omega)
    obtain ⟨b, off, ha, hr⟩ := hv.at E30 E36 te36_size (kd := .i64) (i := i) (by omega) (by omega)
    obtain ⟨b', off', ha', hr'⟩ := hw.at E30 E36 te36_size (kd := .i64) (i := i) (by omega) (by omega)
    rw [show (i : Int).toNat = i from rfl, tok_at h] at hr hr'
    have g2 : (!([(ts[i].kind : Int) == ts[i].kind, ts[i].text == ts[i].text, (ts[i].at_ : Int) == ts[i].at_].all id)) = false := by simp
    (repeat first | refine zSeq ?_ | refine zReg ?_ | refine zBlk ?_ | refine zSkp ?_ | refine zExt ?_ | refine zNil rfl ?_ | refine zGet rfl ?_ | refine zOn rfl rfl ?_ | refine zOff rfl rfl ?_ | refine zU rfl ?_ | refine zOn rfl (by assumption) ?_ | refine zOff rfl (by assumption) ?_ | refine zMov rfl ?_ | refine zAsg rfl ?_ | refine zXtr rfl ?_ | refine zPT rfl rfl rfl ?_ | refine zPF rfl rfl rfl ?_ | refine zPT rfl (by assumption) rfl ?_ | refine zPF rfl (by assumption) rfl ?_ | refine zLss rfl rfl ?_ | refine zLeq rfl rfl ?_ | refine zGtr rfl rfl ?_ | refine zGeq rfl rfl ?_ | refine zEql rfl rfl ?_ | refine zNeq rfl rfl ?_ | refine zAdd rfl rfl (by omega) ?_ | refine zSub rfl rfl (by omega) ?_ | refine zLenS rfl E_string ?_ | refine zNot rfl ?_ | refine zEqS rfl rfl ?_ | refine zNeS rfl rfl ?_ | refine zT rfl rfl ?_ | refine zF rfl rfl ?_ | refine zT rfl (by assumption) ?_ | refine zF rfl (by assumption) ?_)
    refine WL.op (op_indexAddr rfl rfl ha) ?_
    refine WL.op (op_load rfl (hr.loadN E36 te_api_Token_agg te36_size)) ?_
    (repeat first | refine zSeq ?_ | refine zReg ?_ | refine zBlk ?_ | refine zSkp ?_ | refine zExt ?_ | refine zNil rfl ?_ | refine zGet rfl ?_ | refine zOn rfl rfl ?_ | refine zOff rfl rfl ?_ | refine zU rfl ?_ | refine zOn rfl (by assumption) ?_ | refine zOff rfl (by assumption) ?_ | refine zMov rfl ?_ | refine zAsg rfl ?_ | refine zXtr rfl ?_ | refine zPT rfl rfl rfl ?_ | refine zPF rfl rfl rfl ?_ | refine zPT rfl (by assumption) rfl ?_ | refine zPF rfl (by assumption) rfl ?_ | refine zLss rfl rfl ?_ | refine zLeq rfl rfl ?_ | refine zGtr rfl rfl ?_ | refine zGeq rfl rfl ?_ | refine zEql rfl rfl ?_ | refine zNeq rfl rfl ?_ | refine zAdd rfl rfl (by omega) ?_ | refine zSub rfl rfl (by omega) ?_ | refine zLenS rfl E_string ?_ | refine zNot rfl ?_ | refine zEqS rfl rfl ?_ | refine zNeS rfl rfl ?_ | refine zT rfl rfl ?_ | refine zF rfl rfl ?_ | refine zT rfl (by assumption) ?_ | refine zF rfl (by assumption) ?_)
    refine WL.op (op_indexAddr rfl rfl ha') ?_
    refine WL.op (op_load rfl (hr'.loadN E36 te_api_Token_agg te36_size)) ?_
    refine WL.op (op_bin rfl rfl (neTok _ _)) ?_
    (repeat first | refine zSeq ?_ | refine zReg ?_ | refine zBlk ?_ | refine zSkp ?_ | refine zExt ?_ | refine zNil rfl ?_ | refine zGet rfl ?_ | refine zOn rfl rfl ?_ | refine zOff rfl rfl ?_ | refine zU rfl ?_ | refine zOn rfl (by assumption) ?_ | refine zOff rfl (by assumption) ?_ | refine zMov rfl ?_ | refine zAsg rfl ?_ | refine zXtr rfl ?_ | refine zPT rfl rfl rfl ?_ | refine zPF rfl rfl rfl ?_ | refine zPT rfl (by assumption) rfl ?_ | refine zPF rfl (by assumption) rfl ?_ | refine zLss rfl rfl ?_ | refine zLeq rfl rfl ?_ | refine zGtr rfl rfl ?_ | refine zGeq rfl rfl ?_ | refine zEql rfl rfl ?_ | refine zNeq rfl rfl ?_ | refine zAdd rfl rfl (by omega) ?_ | refine zSub rfl rfl (by omega) ?_ | refine zLenS rfl E_string ?_ | refine zNot rfl ?_ | refine zEqS rfl rfl ?_ | refine zNeS rfl rfl ?_ | refine zT rfl rfl ?_ | refine zF rfl rfl ?_ | refine zT rfl (by assumption) ?_ | refine zF rfl (by assumption) ?_)
    exact ⟨i + 1, ⟨rfl, by omega⟩, by omega, rfl, rfl, rfl, trivial⟩
  · have g1 : decide ((i : Int) < ts.length) = false := decide_eq_false (by omega)
    (repeat first | refine zSeq ?_ | refine zReg ?_ | refine zBlk ?_ | refine zSkp ?_ | refine zExt ?_ | refine zNil rfl ?_ | refine zGet rfl ?_ | refine zOn rfl rfl ?_ | refine zOff rfl rfl ?_ | refine zU rfl ?_ | refine zOn rfl (by assumption) ?_ | refine zOff rfl (by assumption) ?_ | refine zMov rfl ?_ | refine zAsg rfl ?_ | refine zXtr rfl ?_ | refine zPT rfl rfl rfl ?_ | refine zPF rfl rfl rfl ?_ | refine zPT rfl (by assumption) rfl ?_ | refine zPF rfl (by assumption) rfl ?_ | refine zLss rfl rfl ?_ | refine zLeq rfl rfl ?_ | refine zGtr rfl rfl ?_ | refine zGeq rfl rfl ?_ | refine zEql rfl rfl ?_ | refine zNeq rfl rfl ?_ | refine zAdd rfl rfl (by omega) ?_ | refine zSub rfl rfl (by omega) ?_ | refine zLenS rfl E_string ?_ | refine zNot rfl ?_ | refine zEqS rfl rfl ?_ | refine zNeS rfl rfl ?_ | refine zT rfl rfl ?_ | refine zF rfl rfl ?_ | refine zT rfl (by assumption) ?_ | refine zF rfl (by assumption) ?_)
    exact WP.ret ⟨.inr rfl, _, rfl, rfl, rfl⟩
theorem buildQ : aBuild V.E 36 [(1, .string ⟨⟨[63]⟩⟩)] = some (.agg #[.int .u8 0, .string ⟨⟨[63]⟩⟩, .int .i64 0]) := by kernel_rfl
set_option maxHeartbeats 1000000 in
theorem lextokens_c (hO : ∀ f vs H, f ≠ 8 → O f vs H = none) (hS : HasSigns H) {s : ByteArray} (hs : s.size ≤ maxLen) : ∃ H', Lc V O F_law01_LexTokens [.string s] H (.bool true) H' := by
  have hmx : maxLen = 9223372036854775807 := rfl
  have key : ∃ u H', Lc V O F_law01_LexTokens [.string s] H u H' ∧ u = .bool true := by
    refine Lc.law01_LexTokens (R := fun u _ => u = .bool true) (hO _ _ _ (by decide)) (Nat.le_of_ble_eq_true rfl) (by kernel_rfl) ?_
    unfold P_law01_LexTokens
    rcases Nat.lt_or_ge 70000 s.size with h | h
    · have g1 : decide ((s.size : Int) > 70000) = true := decide_eq_true (by omega)
      (repeat first | refine zSeq ?_ | refine zReg ?_ | refine zBlk ?_ | refine zSkp ?_ | refine zExt ?_ | refine zNil rfl ?_ | refine zGet rfl ?_ | refine zOn rfl rfl ?_ | refine zOff rfl rfl ?_ | refine zU rfl ?_ | refine zOn rfl (by assumption) ?_ | refine zOff rfl (by assumption) ?_ | refine zMov rfl ?_ | refine zAsg rfl ?_ | refine zXtr rfl ?_ | refine zPT rfl rfl rfl ?_ | refine zPF rfl rfl rfl ?_ | refine zPT rfl (by assumption) rfl ?_ | refine zPF rfl (by assumption) rfl ?_ | refine zLss rfl rfl ?_ | refine zLeq rfl rfl ?_ | refine zGtr rfl rfl ?_ | refine zGeq rfl rfl ?_ | refine zEql rfl rfl ?_ | refine zNeq rfl rfl ?_ | refine zAdd rfl rfl (by omega) ?_ | refine zSub rfl rfl (by omega) ?_ | refine zLenS rfl E_string ?_ | refine zNot rfl ?_ | refine zEqS rfl rfl ?_ | refine zNeS rfl rfl ?_ | refine zT rfl rfl ?_ | refine zF rfl rfl ?_ | refine zT rfl (by assumption) ?_ | refine zF rfl (by assumption) ?_)
      exact WP.ret ⟨.inr rfl, _, rfl, rfl⟩
    have g1 : decide ((s.size : Int) > 70000) = false := decide_eq_false (by omega)
    (repeat first | refine zSeq ?_ | refine zReg ?_ | refine zBlk ?_ | refine zSkp ?_ | refine zExt ?_ | refine zNil rfl ?_ | refine zGet rfl ?_ | refine zOn rfl rfl ?_ | refine zOff rfl rfl ?_ | refine zU rfl ?_ | refine zOn rfl (by assumption) ?_ | refine zOff rfl (by assumption) ?_ | refine zMov rfl ?_ | refine zAsg rfl ?_ | refine zXtr rfl ?_ | refine zPT rfl rfl rfl ?_ | refine zPF rfl rfl rfl ?_ | refine zPT rfl (by assumption) rfl ?_ | refine zPF rfl (by assumption) rfl ?_ | refine zLss rfl rfl ?_ | refine zLeq rfl rfl ?_ | refine zGtr rfl rfl ?_ | refine zGeq rfl rfl ?_ | refine zEql rfl rfl ?_ | refine zNeq rfl rfl ?_ | refine zAdd rfl rfl (by omega) ?_ | refine zSub rfl rfl (by omega) ?_ | refine zLenS rfl E_string ?_ | refine zNot rfl ?_ | refine zEqS rfl rfl ?_ | refine zNeS rfl rfl ?_ | refine zT rfl rfl ?_ | refine zF rfl rfl ?_ | refine zT rfl (by assumption) ?_ | refine zF rfl (by assumption) ?_)
    obtain ⟨v, H1, o, ht, hf, hw⟩ := rtokens_c (H := H) hO hs
    refine WL.call rfl rfl is_ref01_Tokens ht ?_
    generalize hR : lexR s.data.toList = R at ht hw
    (repeat first | refine zReg ?_ | refine zSkp ?_ | refine zExt ?_ | refine zNil rfl ?_ | refine zGet rfl ?_ | refine zOn rfl rfl ?_ | refine zOff rfl rfl ?_ | refine zU rfl ?_ | refine zOn rfl (by assumption) ?_ | refine zOff rfl (by assumption) ?_ | refine zMov rfl ?_ | refine zAsg rfl ?_ | refine zXtr rfl ?_ | refine zPT rfl rfl rfl ?_ | refine zPF rfl rfl rfl ?_ | refine zPT rfl (by assumption) rfl ?_ | refine zPF rfl (by assumption) rfl ?_ | refine zLss rfl rfl ?_ | refine zLeq rfl rfl ?_ | refine zGtr rfl rfl ?_ | refine zGeq rfl rfl ?_ | refine zEql rfl rfl ?_ | refine zNeq rfl rfl ?_ | refine zAdd rfl rfl (by omega) ?_ | refine zSub rfl rfl (by omega) ?_ | refine zLenS rfl E_string ?_ | refine zNot rfl ?_ | refine zEqS rfl rfl ?_ | refine zNeS rfl rfl ?_ | refine zT rfl rfl ?_ | refine zF rfl rfl ?_ | refine zT rfl (by assumption) ?_ | refine zF rfl (by assumption) ?_)
    refine WP.seqS (σ := Unit) (fun _ => [(0, .string s)]) (fun _ _ => True) ?_ ?_
    · (repeat first | refine zSeq ?_ | refine zReg ?_ | refine zBlk ?_ | refine zSkp ?_ | refine zExt ?_ | refine zNil rfl ?_ | refine zGet rfl ?_ | refine zOn rfl rfl ?_ | refine zOff rfl rfl ?_ | refine zU rfl ?_ | refine zOn rfl (by assumption) ?_ | refine zOff rfl (by assumption) ?_ | refine zMov rfl ?_ | refine zAsg rfl ?_ | refine zXtr rfl ?_ | refine zPT rfl rfl rfl ?_ | refine zPF rfl rfl rfl ?_ | refine zPT rfl (by assumption) rfl ?_ | refine zPF rfl (by assumption) rfl ?_ | refine zLss rfl rfl ?_ | refine zLeq rfl rfl ?_ | refine zGtr rfl rfl ?_ | refine zGeq rfl rfl ?_ | refine zEql rfl rfl ?_ | refine zNeq rfl rfl ?_ | refine zAdd rfl rfl (by omega) ?_ | refine zSub rfl rfl (by omega) ?_ | refine zLenS rfl E_string ?_ | refine zNot rfl ?_ | refine zEqS rfl rfl ?_ | refine zNeS rfl rfl ?_ | refine zT rfl rfl ?_ | refine zF rfl rfl ?_ | refine zT rfl (by assumption) ?_ | refine zF rfl (by assumption) ?_)
      refine WP.loopH (σ := Nat) (fun i => [(0, .string s), (3, v), (4, .int .i64 R.2.1), (5, .int .i64 R.2.2), (6, .int .i64 i)]) (fun i H' => Fr H1 H' ∧ i ≤ 2) (fun i => 2 - i) 0 ⟨.refl _, by omega⟩ ⟨rfl, rfl, rfl, rfl, rfl, trivial⟩ ?_
      rintro i Hr ⟨hfr, hi⟩
      rcases Nat.lt_or_ge i 2 with h2 | h2
      rotate_left
      · have g2 : decide ((i : Int) < 2) = false := decide_eq_false (by omega)
        (repeat first | refine zSeq ?_ | refine zReg ?_ | refine zBlk ?_ | refine zSkp ?_ | refine zExt ?_ | refine zNil rfl ?_ | refine zGet rfl ?_ | refine zOn rfl rfl ?_ | refine zOff rfl rfl ?_ | refine zU rfl ?_ | refine zOn rfl (by assumption) ?_ | refine zOff rfl (by assumption) ?_ | refine zMov rfl ?_ | refine zAsg rfl ?_ | refine zXtr rfl ?_ | refine zPT rfl rfl rfl ?_ | refine zPF rfl rfl rfl ?_ | refine zPT rfl (by assumption) rfl ?_ | refine zPF rfl (by assumption) rfl ?_ | refine zLss rfl rfl ?_ | refine zLeq rfl rfl ?_ | refine zGtr rfl rfl ?_ | refine zGeq rfl rfl ?_ | refine zEql rfl rfl ?_ | refine zNeq rfl rfl ?_ | refine zAdd rfl rfl (by omega) ?_ | refine zSub rfl rfl (by omega) ?_ | refine zLenS rfl E_string ?_ | refine zNot rfl ?_ | refine zEqS rfl rfl ?_ | refine zNeS rfl rfl ?_ | refine zT rfl rfl ?_ | refine zF rfl rfl ?_ | refine zT rfl (by assumption) ?_ | refine zF rfl (by assumption) ?_)
        exact ⟨(), trivial, rfl, trivial⟩
      have g2 : decide ((i : Int) < 2) = true := decide_eq_true (by omega)
      (repeat first | refine zSeq ?_ | refine zReg ?_ | refine zBlk ?_ | refine zSkp ?_ | refine zExt ?_ | refine zNil rfl ?_ | refine zGet rfl ?_ | refine zOn rfl rfl ?_ | refine zOff rfl rfl ?_ | refine zU rfl ?_ | refine zOn rfl (by assumption) ?_ | refine zOff rfl (by assumption) ?_ | refine zMov rfl ?_ | refine zAsg rfl ?_ | refine zXtr rfl ?_ | refine zPT rfl rfl rfl ?_ | refine zPF rfl rfl rfl ?_ | refine zPT rfl (by assumption) rfl ?_ | refine zPF rfl (by assumption) rfl ?_ | refine zLss rfl rfl ?_ | refine zLeq rfl rfl ?_ | refine zGtr rfl rfl ?_ | refine zGeq rfl rfl ?_ | refine zEql rfl rfl ?_ | refine zNeq rfl rfl ?_ | refine zAdd rfl rfl (by omega) ?_ | refine zSub rfl rfl (by omega) ?_ | refine zLenS rfl E_string ?_ | refine zNot rfl ?_ | refine zEqS rfl rfl ?_ | refine zNeS rfl rfl ?_ | refine zT rfl rfl ?_ | refine zF rfl rfl ?_ | refine zT rfl (by assumption) ?_ | refine zF rfl (by assumption) ?_)
      obtain ⟨w, H2, o2, ht2, hf2, hw2⟩ := tokens_c (H := Hr) hO (hS.fr (hf.trans hfr)) hs
      rw [hR] at ht2 hw2
      refine WL.call rfl rfl is_lex_Tokens ht2 ?_
      have g3 : ((R.2.1 : Int) != R.2.1) = false := by simp
      have g4 : ((R.2.2 : Int) != R.2.2) = false := by simp
      (repeat first | refine zSeq ?_ | refine zReg ?_ | refine zBlk ?_ | refine zSkp ?_ | refine zExt ?_ | refine zNil rfl ?_ | refine zGet rfl ?_ | refine zOn rfl rfl ?_ | refine zOff rfl rfl ?_ | refine zU rfl ?_ | refine zOn rfl (by assumption) ?_ | refine zOff rfl (by assumption) ?_ | refine zMov rfl ?_ | refine zAsg rfl ?_ | refine zXtr rfl ?_ | refine zPT rfl rfl rfl ?_ | refine zPF rfl rfl rfl ?_ | refine zPT rfl (by assumption) rfl ?_ | refine zPF rfl (by assumption) rfl ?_ | refine zLss rfl rfl ?_ | refine zLeq rfl rfl ?_ | refine zGtr rfl rfl ?_ | refine zGeq rfl rfl ?_ | refine zEql rfl rfl ?_ | refine zNeq rfl rfl ?_ | refine zAdd rfl rfl (by omega) ?_ | refine zSub rfl rfl (by omega) ?_ | refine zLenS rfl E_string ?_ | refine zNot rfl ?_ | refine zEqS rfl rfl ?_ | refine zNeS rfl rfl ?_ | refine zT rfl rfl ?_ | refine zF rfl rfl ?_ | refine zT rfl (by assumption) ?_ | refine zF rfl (by assumption) ?_)
      refine WL.call rfl rfl is_ref01_Same (same_c hO hw2.sl (hw.sl.fr (hfr.trans hf2))) ?_
      (repeat first | refine zSeq ?_ | refine zReg ?_ | refine zBlk ?_ | refine zSkp ?_ | refine zExt ?_ | refine zNil rfl ?_ | refine zGet rfl ?_ | refine zOn rfl rfl ?_ | refine zOff rfl rfl ?_ | refine zU rfl ?_ | refine zOn rfl (by assumption) ?_ | refine zOff rfl (by assumption) ?_ | refine zMov rfl ?_ | refine zAsg rfl ?_ | refine zXtr rfl ?_ | refine zPT rfl rfl rfl ?_ | refine zPF rfl rfl rfl ?_ | refine zPT rfl (by assumption) rfl ?_ | refine zPF rfl (by assumption) rfl ?_ | refine zLss rfl rfl ?_ | refine zLeq rfl rfl ?_ | refine zGtr rfl rfl ?_ | refine zGeq rfl rfl ?_ | refine zEql rfl rfl ?_ | refine zNeq rfl rfl ?_ | refine zAdd rfl rfl (by omega) ?_ | refine zSub rfl rfl (by omega) ?_ | refine zLenS rfl E_string ?_ | refine zNot rfl ?_ | refine zEqS rfl rfl ?_ | refine zNeS rfl rfl ?_ | refine zT rfl rfl ?_ | refine zF rfl rfl ?_ | refine zT rfl (by assumption) ?_ | refine zF rfl (by assumption) ?_)
      refine WP.loopH (σ := Nat × List Value) (fun x => [(0, .string s), (3, v), (4, .int .i64 R.2.1), (5, .int .i64 R.2.2), (6, .int .i64 i), (7, w), (10, .int .i64 x.1)]) (fun x H' => Fr H1 H' ∧ Ow H' Hr.next 36 3 w R.1.length x.2 o2 ∧ x.1 ≤ R.1.length) (fun x => R.1.length - x.1) (0, tokCells R.1)
        ⟨hfr.trans hf2, hw2, by simp⟩ ⟨rfl, rfl, rfl, rfl, rfl, rfl, rfl, trivial⟩ ?_
      rintro ⟨k, cs⟩ H3 ⟨hf3, hw3, hk⟩
      simp only at hf3 hw3 hk ⊢
      have hlen := hw3.2.1
      (repeat first | refine zSeq ?_ | refine zReg ?_ | refine zBlk ?_ | refine zSkp ?_ | refine zExt ?_ | refine zNil rfl ?_ | refine zGet rfl ?_ | refine zOn rfl rfl ?_ | refine zOff rfl rfl ?_ | refine zU rfl ?_ | refine zOn rfl (by assumption) ?_ | refine zOff rfl (by assumption) ?_ | refine zMov rfl ?_ | refine zAsg rfl ?_ | refine zXtr rfl ?_ | refine zPT rfl rfl rfl ?_ | refine zPF rfl rfl rfl ?_ | refine zPT rfl (by assumption) rfl ?_ | refine zPF rfl (by assumption) rfl ?_ | refine zLss rfl rfl ?_ | refine zLeq rfl rfl ?_ | refine zGtr rfl rfl ?_ | refine zGeq rfl rfl ?_ | refine zEql rfl rfl ?_ | refine zNeq rfl rfl ?_ | refine zAdd rfl rfl (by omega) ?_ | refine zSub rfl rfl (by omega) ?_ | refine zLenS rfl E_string ?_ | refine zNot rfl ?_ | refine zEqS rfl rfl ?_ | refine zNeS rfl rfl ?_ | refine zT rfl rfl ?_ | refine zF rfl rfl ?_ | refine zT rfl (by assumption) ?_ | refine zF rfl (by assumption) ?_)
      refine WL.op (op_len rfl (hw3.sl.len E30)) ?_
      rcases Nat.lt_or_ge k R.1.length with h3 | h3
      · have g5 : decide ((k : Int) < R.1.length) = true := decide_eq_true (by omega)
        obtain ⟨b, off, H4, ha, _, hwr, hw4, hf4, _⟩ := hw3.set E30 E36 te36_size (kd := .i64) (i := k) (by omega) (by omega) (vs := [.int .u8 0, .string ⟨⟨[63]⟩⟩, .int .i64 0]) (by simp) (k := 0) (by simp)
        (repeat first | refine zSeq ?_ | refine zReg ?_ | refine zBlk ?_ | refine zSkp ?_ | refine zExt ?_ | refine zNil rfl ?_ | refine zGet rfl ?_ | refine zOn rfl rfl ?_ | refine zOff rfl rfl ?_ | refine zU rfl ?_ | refine zOn rfl (by assumption) ?_ | refine zOff rfl (by assumption) ?_ | refine zMov rfl ?_ | refine zAsg rfl ?_ | refine zXtr rfl ?_ | refine zPT rfl rfl rfl ?_ | refine zPF rfl rfl rfl ?_ | refine zPT rfl (by assumption) rfl ?_ | refine zPF rfl (by assumption) rfl ?_ | refine zLss rfl rfl ?_ | refine zLeq rfl rfl ?_ | refine zGtr rfl rfl ?_ | refine zGeq rfl rfl ?_ | refine zEql rfl rfl ?_ | refine zNeq rfl rfl ?_ | refine zAdd rfl rfl (by omega) ?_ | refine zSub rfl rfl (by omega) ?_ | refine zLenS rfl E_string ?_ | refine zNot rfl ?_ | refine zEqS rfl rfl ?_ | refine zNeS rfl rfl ?_ | refine zT rfl rfl ?_ | refine zF rfl rfl ?_ | refine zT rfl (by assumption) ?_ | refine zF rfl (by assumption) ?_)
        refine WL.op (op_build rfl buildQ) ?_
        refine WL.op (op_indexAddr rfl rfl ha) ?_
        refine WL.op (op_store rfl rfl E36 (by rw [te36_size]; rfl) rfl hwr) ?_
        (repeat first | refine zSeq ?_ | refine zReg ?_ | refine zBlk ?_ | refine zSkp ?_ | refine zExt ?_ | refine zNil rfl ?_ | refine zGet rfl ?_ | refine zOn rfl rfl ?_ | refine zOff rfl rfl ?_ | refine zU rfl ?_ | refine zOn rfl (by assumption) ?_ | refine zOff rfl (by assumption) ?_ | refine zMov rfl ?_ | refine zAsg rfl ?_ | refine zXtr rfl ?_ | refine zPT rfl rfl rfl ?_ | refine zPF rfl rfl rfl ?_ | refine zPT rfl (by assumption) rfl ?_ | refine zPF rfl (by assumption) rfl ?_ | refine zLss rfl rfl ?_ | refine zLeq rfl rfl ?_ | refine zGtr rfl rfl ?_ | refine zGeq rfl rfl ?_ | refine zEql rfl rfl ?_ | refine zNeq rfl rfl ?_ | refine zAdd rfl rfl (by omega) ?_ | refine zSub rfl rfl (by omega) ?_ | refine zLenS rfl E_string ?_ | refine zNot rfl ?_ | refine zEqS rfl rfl ?_ | refine zNeS rfl rfl ?_ | refine zT rfl rfl ?_ | refine zF rfl rfl ?_ | refine zT rfl (by assumption) ?_ | refine zF rfl (by assumption) ?_)
        exact ⟨(k + 1, _), ⟨hf3.young hf4 (fun b hb => Nat.le_trans hfr.1 (hw3.young.1 b hb)) (fun b hb => Nat.le_trans hfr.1 (hw3.young.2.1 b hb)), hw4, by simp only; omega⟩, by simp only; omega, rfl, rfl, rfl, rfl, rfl, rfl, rfl, trivial⟩
      · have g5 : decide ((k : Int) < R.1.length) = false := decide_eq_false (by omega)
        (repeat first | refine zSeq ?_ | refine zReg ?_ | refine zBlk ?_ | refine zSkp ?_ | refine zExt ?_ | refine zNil rfl ?_ | refine zGet rfl ?_ | refine zOn rfl rfl ?_ | refine zOff rfl rfl ?_ | refine zU rfl ?_ | refine zOn rfl (by assumption) ?_ | refine zOff rfl (by assumption) ?_ | refine zMov rfl ?_ | refine zAsg rfl ?_ | refine zXtr rfl ?_ | refine zPT rfl rfl rfl ?_ | refine zPF rfl rfl rfl ?_ | refine zPT rfl (by assumption) rfl ?_ | refine zPF rfl (by assumption) rfl ?_ | refine zLss rfl rfl ?_ | refine zLeq rfl rfl ?_ | refine zGtr rfl rfl ?_ | refine zGeq rfl rfl ?_ | refine zEql rfl rfl ?_ | refine zNeq rfl rfl ?_ | refine zAdd rfl rfl (by omega) ?_ | refine zSub rfl rfl (by omega) ?_ | refine zLenS rfl E_string ?_ | refine zNot rfl ?_ | refine zEqS rfl rfl ?_ | refine zNeS rfl rfl ?_ | refine zT rfl rfl ?_ | refine zF rfl rfl ?_ | refine zT rfl (by assumption) ?_ | refine zF rfl (by assumption) ?_)
        exact ⟨i + 1, ⟨hf3, by omega⟩, by omega, rfl, rfl, rfl, rfl, rfl, trivial⟩
    · rintro _ H2 _
      have g1 : (nameB s == rname s) = true := by rw [names_eq]; simp
      have g2 : (resv s == resv s) = true := by simp
      obtain ⟨H3, hn, _⟩ := name_c (H := H2) hO hs
      obtain ⟨H4, hrn, _⟩ := rname_c (H := H3) hO (s := s)
      have hres := reserved_c (H := H4) hO (s := s)
      obtain ⟨H5, hrr, _⟩ := rreserved_c (H := H4.alloc (.row 9 (words.map .string) .exact 0 0)) hO (s := s)
      (repeat first | refine zSeq ?_ | refine zReg ?_ | refine zBlk ?_ | refine zSkp ?_ | refine zExt ?_ | refine zNil rfl ?_ | refine zGet rfl ?_ | refine zOn rfl rfl ?_ | refine zOff rfl rfl ?_ | refine zU rfl ?_ | refine zOn rfl (by assumption) ?_ | refine zOff rfl (by assumption) ?_ | refine zMov rfl ?_ | refine zAsg rfl ?_ | refine zXtr rfl ?_ | refine zPT rfl rfl rfl ?_ | refine zPF rfl rfl rfl ?_ | refine zPT rfl (by assumption) rfl ?_ | refine zPF rfl (by assumption) rfl ?_ | refine zLss rfl rfl ?_ | refine zLeq rfl rfl ?_ | refine zGtr rfl rfl ?_ | refine zGeq rfl rfl ?_ | refine zEql rfl rfl ?_ | refine zNeq rfl rfl ?_ | refine zAdd rfl rfl (by omega) ?_ | refine zSub rfl rfl (by omega) ?_ | refine zLenS rfl E_string ?_ | refine zNot rfl ?_ | refine zEqS rfl rfl ?_ | refine zNeS rfl rfl ?_ | refine zT rfl rfl ?_ | refine zF rfl rfl ?_ | refine zT rfl (by assumption) ?_ | refine zF rfl (by assumption) ?_)
      refine WL.call rfl rfl is_lex_Name hn ?_
      (repeat first | refine zSeq ?_ | refine zReg ?_ | refine zBlk ?_ | refine zSkp ?_ | refine zExt ?_ | refine zNil rfl ?_ | refine zGet rfl ?_ | refine zOn rfl rfl ?_ | refine zOff rfl rfl ?_ | refine zU rfl ?_ | refine zOn rfl (by assumption) ?_ | refine zOff rfl (by assumption) ?_ | refine zMov rfl ?_ | refine zAsg rfl ?_ | refine zXtr rfl ?_ | refine zPT rfl rfl rfl ?_ | refine zPF rfl rfl rfl ?_ | refine zPT rfl (by assumption) rfl ?_ | refine zPF rfl (by assumption) rfl ?_ | refine zLss rfl rfl ?_ | refine zLeq rfl rfl ?_ | refine zGtr rfl rfl ?_ | refine zGeq rfl rfl ?_ | refine zEql rfl rfl ?_ | refine zNeq rfl rfl ?_ | refine zAdd rfl rfl (by omega) ?_ | refine zSub rfl rfl (by omega) ?_ | refine zLenS rfl E_string ?_ | refine zNot rfl ?_ | refine zEqS rfl rfl ?_ | refine zNeS rfl rfl ?_ | refine zT rfl rfl ?_ | refine zF rfl rfl ?_ | refine zT rfl (by assumption) ?_ | refine zF rfl (by assumption) ?_)
      refine WL.call rfl rfl is_ref01_Name hrn ?_
      refine WL.op (op_bin rfl rfl (aBin_eqB uu4)) ?_
      (repeat first | refine zSeq ?_ | refine zReg ?_ | refine zBlk ?_ | refine zSkp ?_ | refine zExt ?_ | refine zNil rfl ?_ | refine zGet rfl ?_ | refine zOn rfl rfl ?_ | refine zOff rfl rfl ?_ | refine zU rfl ?_ | refine zOn rfl (by assumption) ?_ | refine zOff rfl (by assumption) ?_ | refine zMov rfl ?_ | refine zAsg rfl ?_ | refine zXtr rfl ?_ | refine zPT rfl rfl rfl ?_ | refine zPF rfl rfl rfl ?_ | refine zPT rfl (by assumption) rfl ?_ | refine zPF rfl (by assumption) rfl ?_ | refine zLss rfl rfl ?_ | refine zLeq rfl rfl ?_ | refine zGtr rfl rfl ?_ | refine zGeq rfl rfl ?_ | refine zEql rfl rfl ?_ | refine zNeq rfl rfl ?_ | refine zAdd rfl rfl (by omega) ?_ | refine zSub rfl rfl (by omega) ?_ | refine zLenS rfl E_string ?_ | refine zNot rfl ?_ | refine zEqS rfl rfl ?_ | refine zNeS rfl rfl ?_ | refine zT rfl rfl ?_ | refine zF rfl rfl ?_ | refine zT rfl (by assumption) ?_ | refine zF rfl (by assumption) ?_)
      refine WL.call rfl rfl is_lex_Reserved hres ?_
      (repeat first | refine zSeq ?_ | refine zReg ?_ | refine zBlk ?_ | refine zSkp ?_ | refine zExt ?_ | refine zNil rfl ?_ | refine zGet rfl ?_ | refine zOn rfl rfl ?_ | refine zOff rfl rfl ?_ | refine zU rfl ?_ | refine zOn rfl (by assumption) ?_ | refine zOff rfl (by assumption) ?_ | refine zMov rfl ?_ | refine zAsg rfl ?_ | refine zXtr rfl ?_ | refine zPT rfl rfl rfl ?_ | refine zPF rfl rfl rfl ?_ | refine zPT rfl (by assumption) rfl ?_ | refine zPF rfl (by assumption) rfl ?_ | refine zLss rfl rfl ?_ | refine zLeq rfl rfl ?_ | refine zGtr rfl rfl ?_ | refine zGeq rfl rfl ?_ | refine zEql rfl rfl ?_ | refine zNeq rfl rfl ?_ | refine zAdd rfl rfl (by omega) ?_ | refine zSub rfl rfl (by omega) ?_ | refine zLenS rfl E_string ?_ | refine zNot rfl ?_ | refine zEqS rfl rfl ?_ | refine zNeS rfl rfl ?_ | refine zT rfl rfl ?_ | refine zF rfl rfl ?_ | refine zT rfl (by assumption) ?_ | refine zF rfl (by assumption) ?_)
      refine WL.call rfl rfl is_ref01_Reserved hrr ?_
      (repeat first | refine zSeq ?_ | refine zReg ?_ | refine zBlk ?_ | refine zSkp ?_ | refine zExt ?_ | refine zNil rfl ?_ | refine zGet rfl ?_ | refine zOn rfl rfl ?_ | refine zOff rfl rfl ?_ | refine zU rfl ?_ | refine zOn rfl (by assumption) ?_ | refine zOff rfl (by assumption) ?_ | refine zMov rfl ?_ | refine zAsg rfl ?_ | refine zXtr rfl ?_ | refine zPT rfl rfl rfl ?_ | refine zPF rfl rfl rfl ?_ | refine zPT rfl (by assumption) rfl ?_ | refine zPF rfl (by assumption) rfl ?_ | refine zLss rfl rfl ?_ | refine zLeq rfl rfl ?_ | refine zGtr rfl rfl ?_ | refine zGeq rfl rfl ?_ | refine zEql rfl rfl ?_ | refine zNeq rfl rfl ?_ | refine zAdd rfl rfl (by omega) ?_ | refine zSub rfl rfl (by omega) ?_ | refine zLenS rfl E_string ?_ | refine zNot rfl ?_ | refine zEqS rfl rfl ?_ | refine zNeS rfl rfl ?_ | refine zT rfl rfl ?_ | refine zF rfl rfl ?_ | refine zT rfl (by assumption) ?_ | refine zF rfl (by assumption) ?_)
      refine WL.op (op_bin rfl rfl (aBin_eqB uu4)) ?_
      (repeat first | refine zSeq ?_ | refine zReg ?_ | refine zBlk ?_ | refine zSkp ?_ | refine zExt ?_ | refine zNil rfl ?_ | refine zGet rfl ?_ | refine zOn rfl rfl ?_ | refine zOff rfl rfl ?_ | refine zU rfl ?_ | refine zOn rfl (by assumption) ?_ | refine zOff rfl (by assumption) ?_ | refine zMov rfl ?_ | refine zAsg rfl ?_ | refine zXtr rfl ?_ | refine zPT rfl rfl rfl ?_ | refine zPF rfl rfl rfl ?_ | refine zPT rfl (by assumption) rfl ?_ | refine zPF rfl (by assumption) rfl ?_ | refine zLss rfl rfl ?_ | refine zLeq rfl rfl ?_ | refine zGtr rfl rfl ?_ | refine zGeq rfl rfl ?_ | refine zEql rfl rfl ?_ | refine zNeq rfl rfl ?_ | refine zAdd rfl rfl (by omega) ?_ | refine zSub rfl rfl (by omega) ?_ | refine zLenS rfl E_string ?_ | refine zNot rfl ?_ | refine zEqS rfl rfl ?_ | refine zNeS rfl rfl ?_ | refine zT rfl rfl ?_ | refine zF rfl rfl ?_ | refine zT rfl (by assumption) ?_ | refine zF rfl (by assumption) ?_)
      exact WP.ret ⟨.inr rfl, _, rfl, by rw [g2]; rfl⟩
  obtain ⟨u, H', h, rfl⟩ := key
  exact ⟨H', h⟩
end Go.Proofs.YtdkfcpadbahohaaDoor.U

/-
  Laws of tokens, in plain words.
-/
namespace Go.Proofs.YtdkfcpadbahohaaDoor.U
open Go Go.Ev
attribute [local irreducible] WL WP WH W
theorem let_false {c : UInt8} (h : c = 32 ∨ c = 10) : let_ c.toNat = false := by rcases h with rfl | rfl <;> decide
theorem wd_false {c : UInt8} (h : c = 32 ∨ c = 10) : wd c.toNat = false := by rcases h with rfl | rfl <;> decide
theorem dig_false {c : UInt8} (h : c = 32 ∨ c = 10) : dig c.toNat = false := by rcases h with rfl | rfl <;> decide
def Alike (y y' : List UInt8) : Prop := y'.head? = y.head? ∨ y'.head? = some 32 ∨ y'.head? = some 10
theorem tw_left {q : UInt8 → Bool} : ∀ {x y : List UInt8}, ((x ++ y).takeWhile q).length = x.length → (∀ c ∈ x, q c = true) ∧ ∀ c, y.head? = some c → q c = false
  | [], y, h => by
    refine ⟨by simp, fun c hc => ?_⟩
    cases y with
    | nil => cases hc
    | cons d y =>
      cases hc
      cases e : q c
      · rfl
      · rw [List.nil_append, List.takeWhile_cons, e] at h; simp at h
  | a :: x, y, h => by
    rw [List.cons_append, List.takeWhile_cons] at h
    cases e : q a
    · rw [e] at h; simp at h
    · rw [e, if_pos rfl, List.length_cons, List.length_cons] at h
      obtain ⟨h1, h2⟩ := tw_left (q := q) (x := x) (y := y) (by omega)
      exact ⟨fun c hc => by
        rcases List.mem_cons.1 hc with rfl | hc
        · exact e
        · exact h1 c hc, h2⟩
theorem tw_right {q : UInt8 → Bool} {x y : List UInt8} (h1 : ∀ c ∈ x, q c = true) (h2 : ∀ c, y.head? = some c → q c = false) : (x ++ y).takeWhile q = x := by
  rw [List.takeWhile_append_of_pos h1]
  cases y with
  | nil => simp
  | cons d y => rw [List.takeWhile_cons, h2 d rfl]; simp
theorem tw_alike {q : UInt8 → Bool} (hq : ∀ c : UInt8, c = 32 ∨ c = 10 → q c = false) {x y y' : List UInt8} (ha : Alike y y') (h : ((x ++ y).takeWhile q).length = x.length) : (x ++ y').takeWhile q = x := by
  obtain ⟨h1, h2⟩ := tw_left h
  refine tw_right h1 fun c hc => ?_
  rcases ha with e | e | e
  · exact h2 c (e ▸ hc)
  · rw [e] at hc; cases hc; exact hq _ (.inl rfl)
  · rw [e] at hc; cases hc; exact hq _ (.inr rfl)
def rsL (l : List UInt8) : Nat := if decide (1 < l.length) && among (str (l.take 2)) two then 2 else if among (str (l.take 1)) one then 1 else 0
theorem rsign_list (l : List UInt8) : rsign (str l) = rsL l := by
  have e1 := ext_str (str l) 0 1
  have e2 := ext_str (str l) 0 2
  rw [Nat.zero_add, List.drop_zero] at e1 e2
  unfold rsign rsL
  rw [e1, e2]; rfl
theorem two_second : ∀ b ∈ two, b.data.toList.getD 1 0 ≠ 32 ∧ b.data.toList.getD 1 0 ≠ 10 := by decide
theorem among_second {a d : UInt8} (h : d = 32 ∨ d = 10) : among (str [a, d]) two = false := by
  rw [Bool.eq_false_iff]
  intro e
  obtain ⟨b, hb, e⟩ := List.any_eq_true.1 e
  have e' : b.data.toList = [a, d] := beq_iff_eq.1 e
  have := two_second b hb
  rw [e'] at this
  rcases h with rfl | rfl
  · exact this.1 rfl
  · exact this.2 rfl
theorem rsL_alike {x y y' : List UInt8} (hx : x ≠ []) (ha : Alike y y') (h : rsL (x ++ y) = x.length) : rsL (x ++ y') = x.length := by
  match x, hx with
  | [a], _ =>
    unfold rsL at h ⊢
    have t1 : ∀ z : List UInt8, ([a] ++ z).take 1 = [a] := fun z => rfl
    rw [t1] at h ⊢
    have hc : (decide (1 < ([a] ++ y).length) && among (str (([a] ++ y).take 2)) two) = false := by
      cases e : decide (1 < ([a] ++ y).length) && among (str (([a] ++ y).take 2)) two
      · rfl
      · rw [e, if_pos rfl] at h; simp at h
    rw [hc, if_neg (by decide)] at h
    have hc' : (decide (1 < ([a] ++ y').length) && among (str (([a] ++ y').take 2)) two) = false := by
      cases y' with
      | nil => rfl
      | cons d z =>
        have e2 : ([a] ++ d :: z).take 2 = [a, d] := rfl
        rw [e2]
        rcases ha with e | e | e
        · cases y with
          | nil => cases e
          | cons d' z' =>
            cases e
            have e3 : ([a] ++ d :: z').take 2 = [a, d] := rfl
            rw [e3] at hc
            have e4 : decide (1 < ([a] ++ d :: z').length) = true := by simp
            rw [e4, Bool.true_and] at hc
            rw [hc, Bool.and_false]
        · cases e; rw [among_second (.inl rfl), Bool.and_false]
        · cases e; rw [among_second (.inr rfl), Bool.and_false]
    rw [hc', if_neg (by decide)]
    exact h
  | [a, b], _ =>
    unfold rsL at h ⊢
    have t2 : ∀ z : List UInt8, ([a, b] ++ z).take 2 = [a, b] := fun z => rfl
    have l2 : ∀ z : List UInt8, decide (1 < ([a, b] ++ z).length) = true := fun z => by simp
    rw [t2, l2, Bool.true_and] at h ⊢
    cases e : among (str [a, b]) two
    · rw [e] at h
      rw [if_neg (by decide)] at h
      split at h <;> simp at h
    · rw [if_pos rfl]; rfl
  | a :: b :: c :: z, _ =>
    unfold rsL at h
    simp only [List.length_cons] at h
    split at h
    · omega
    · split at h <;> omega
theorem tok_ext {x y y' : List UInt8} {k : Nat} (hx : x ≠ []) (ha : Alike y y') (h : tokL (x ++ y) = (k, x.length, true)) : tokL (x ++ y') = (k, x.length, true) := by
  match x, hx with
  | c :: x, hx =>
    have hc : ∀ z, c :: x ++ z = c :: (x ++ z) := fun _ => rfl
    cases hL : let_ c.toNat
    · cases hD : dig c.toNat
      · rw [hc, tokL_sign hL hD, ← hc, rsign_list] at h ⊢
        by_cases h0 : rsL (c :: x ++ y) = 0
        · rw [if_pos h0] at h; simp at h
        · rw [if_neg h0, Prod.mk.injEq, Prod.mk.injEq] at h
          obtain ⟨rfl, h1, _⟩ := h
          have h2 := rsL_alike hx ha h1
          rw [if_neg (by rw [h2]; simp), h2]
      · rw [hc, tokL_num hL hD, ← hc, Prod.mk.injEq, Prod.mk.injEq] at h
        obtain ⟨rfl, h1, h2⟩ := h
        have hy : digL (c :: x ++ y') = (c :: x).length := by
          unfold digL
          rw [tw_alike (fun c => dig_false) ha h1]
        rw [hc, tokL_num hL hD, ← hc, hy]
        rw [h1, Bool.and_eq_true] at h2
        rw [List.take_left] at h2 ⊢
        rw [h2.1, Bool.true_and]
        have : (decide ((c :: x).length = (c :: x ++ y').length) || !let_ ((c :: x ++ y').getD (c :: x).length 0).toNat) = true := by
          rw [Bool.or_eq_true]
          cases y' with
          | nil => exact .inl (by simp)
          | cons d z =>
            refine .inr ?_
            have e : (c :: x ++ d :: z).getD (c :: x).length 0 = d := by
              rw [List.getD_eq_getElem?_getD, List.getElem?_append_right (Nat.le_refl _), Nat.sub_self]; rfl
            rw [e]
            rcases ha with e | e | e
            · cases y with
              | nil => cases e
              | cons d' z' =>
                cases e
                have e : (c :: x ++ d :: z').getD (c :: x).length 0 = d := by
                  rw [List.getD_eq_getElem?_getD, List.getElem?_append_right (Nat.le_refl _), Nat.sub_self]; rfl
                rw [e] at h2
                have h3 := h2.2
                rw [Bool.or_eq_true] at h3
                rcases h3 with h3 | h3
                · simp at h3
                · exact h3
            · cases e; rw [let_false (.inl rfl)]; rfl
            · cases e; rw [let_false (.inr rfl)]; rfl
        rw [this]
    · rw [hc, tokL_word hL, ← hc, Prod.mk.injEq, Prod.mk.injEq] at h
      obtain ⟨rfl, h1, h2⟩ := h
      rw [hc, tokL_word hL, ← hc, tw_alike (fun c => wd_false) ha h1]
      rw [h1] at h2
      rw [h2]
theorem map_ok {α β : Type} {f : α → β} {x : Except Nat α} {y : β} (h : x.map f = .ok y) : ∃ a, x = .ok a ∧ f a = y := by
  cases x with
  | error e => cases h
  | ok a => cases h; exact ⟨a, rfl, rfl⟩
theorem toks_ind {P : Bool → Nat → List UInt8 → List Tok → Prop} (hn : ∀ rem p, P rem p [] [])
    (hi : ∀ rem p c r ts, idleB rem c = true → toks ((rem || (c.toNat : Int) == 35) && (c.toNat : Int) != 10) (p + 1) r = .ok ts → P ((rem || (c.toNat : Int) == 35) && (c.toNat : Int) != 10) (p + 1) r ts → P rem p (c :: r) ts)
    (ht : ∀ rem p c x y k ts, idleB rem c = false → tokL (c :: x ++ y) = (k, (c :: x).length, true) → P false (p + (c :: x).length) y ts → P rem p (c :: x ++ y) (⟨k, c :: x, p⟩ :: ts)) :
    ∀ (n : Nat) (rem : Bool) (p : Nat) (l : List UInt8) (ts : List Tok), l.length ≤ n → toks rem p l = .ok ts → P rem p l ts
  | _, rem, p, [], ts, _, h => by cases h; exact hn _ _
  | 0, _, _, _ :: _, _, h, _ => by simp at h
  | n + 1, rem, p, c :: r, ts, hl, h => by
    simp only [List.length_cons] at hl
    cases e : idleB rem c
    · cases k : (tokL (c :: r)).2.2
      · rw [toks_bad e k] at h; cases h
      · rw [toks_tok e k] at h
        obtain ⟨ts', h1, rfl⟩ := map_ok h
        obtain ⟨p1, p2⟩ := tok_pos k
        generalize hn' : (tokL (c :: r)).2.1 = m at h1 p1 p2 ⊢
        obtain ⟨m, rfl⟩ : ∃ m', m = m' + 1 := ⟨m - 1, by omega⟩
        have hx : (c :: r).take (m + 1) = c :: r.take m := rfl
        have hlen : (c :: r.take m).length = m + 1 := by simp at p2 ⊢; omega
        have hxy : c :: r = c :: r.take m ++ r.drop m := by rw [List.cons_append, List.take_append_drop]
        have ih := toks_ind hn hi ht n false (p + (m + 1)) (r.drop m) ts' (by simp; omega) h1
        have := ht rem p c (r.take m) (r.drop m) (tokL (c :: r)).1 ts' e (by rw [← hxy, hlen]; rw [← hn', ← k]) (by rw [hlen]; exact ih)
        rw [← hxy] at this
        exact this
    · rw [toks_idle e] at h
      exact hi rem p c r ts e h (toks_ind hn hi ht n _ _ r ts (by omega) h)
theorem toks_case {P : Bool → Nat → List UInt8 → List Tok → Prop} (hn : ∀ rem p, P rem p [] [])
    (hi : ∀ rem p c r ts, idleB rem c = true → toks ((rem || (c.toNat : Int) == 35) && (c.toNat : Int) != 10) (p + 1) r = .ok ts → P ((rem || (c.toNat : Int) == 35) && (c.toNat : Int) != 10) (p + 1) r ts → P rem p (c :: r) ts)
    (ht : ∀ rem p c x y k ts, idleB rem c = false → tokL (c :: x ++ y) = (k, (c :: x).length, true) → P false (p + (c :: x).length) y ts → P rem p (c :: x ++ y) (⟨k, c :: x, p⟩ :: ts))
    {rem : Bool} {p : Nat} {l : List UInt8} {ts : List Tok} (h : toks rem p l = .ok ts) : P rem p l ts := toks_ind hn hi ht l.length rem p l ts (Nat.le_refl _) h
theorem toks_at {rem : Bool} {p k : Nat} {c : UInt8} {x y : List UInt8} (h : idleB rem c = false) (ht : tokL (c :: x ++ y) = (k, (c :: x).length, true)) : toks rem p (c :: x ++ y) = (toks false (p + (c :: x).length) y).map (⟨k, c :: x, p⟩ :: ·) := by
  have e : c :: x ++ y = c :: (x ++ y) := rfl
  rw [e] at ht
  rw [e, toks_tok h (by rw [ht]), ht]
  simp only
  rw [← e, List.drop_left, List.take_left]
def again (ts : List Tok) : List UInt8 := ts.flatMap fun t => t.text ++ [32]
theorem idle_false {rem : Bool} {c : UInt8} (h : idleB rem c = false) : idleB false c = false := by
  unfold idleB at h ⊢
  rw [Bool.or_eq_false_iff, Bool.or_eq_false_iff] at h
  rw [h.1.2, h.2]; rfl
theorem again_ok {rem : Bool} {p : Nat} {l : List UInt8} {ts : List Tok} (h : toks rem p l = .ok ts) : ∀ q, ∃ ts', toks false q (again ts) = .ok ts' ∧ ts'.map (fun t => (t.kind, t.text)) = ts.map (fun t => (t.kind, t.text)) := by
  refine toks_case (P := fun _ _ _ ts => ∀ q, ∃ ts', toks false q (again ts) = .ok ts' ∧ ts'.map (fun t => (t.kind, t.text)) = ts.map (fun t => (t.kind, t.text))) (fun _ _ q => ⟨[], rfl, rfl⟩) (fun _ _ _ _ _ _ _ ih => ih) (fun rem p c x y k ts hid ht ih q => ?_) h
  obtain ⟨ts', h1, h2⟩ := ih (q + (c :: x).length + 1)
  have e : again (⟨k, c :: x, p⟩ :: ts) = c :: x ++ 32 :: again ts := by
    simp [again]
  have ht' := tok_ext (y' := 32 :: again ts) (List.cons_ne_nil _ _) (.inr (.inl rfl)) ht
  rw [e, toks_at (idle_false hid) ht', toks_idle (by rfl)]
  refine ⟨⟨k, c :: x, q⟩ :: ts', ?_, by simp [h2]⟩
  have : toks ((false || ((32 : UInt8).toNat : Int) == 35) && ((32 : UInt8).toNat : Int) != 10) (q + (c :: x).length + 1) (again ts) = .ok ts' := h1
  rw [this]; rfl
theorem again_len {rem : Bool} {p : Nat} {l : List UInt8} {ts : List Tok} (h : toks rem p l = .ok ts) : (again ts).length ≤ 2 * l.length := by
  refine toks_case (P := fun _ _ l ts => (again ts).length ≤ 2 * l.length) (fun _ _ => by simp [again]) (fun _ _ _ _ _ _ _ ih => by simp only [List.length_cons]; omega) (fun rem p c x y k ts hid ht ih => ?_) h
  have e : again (⟨k, c :: x, p⟩ :: ts) = c :: x ++ 32 :: again ts := by
    simp [again]
  rw [e]
  simp only [List.length_append, List.length_cons] at ih ⊢
  omega
theorem toks_len {rem : Bool} {p : Nat} {l : List UInt8} {ts : List Tok} (h : toks rem p l = .ok ts) : ts.length ≤ l.length := by
  refine toks_case (P := fun _ _ l ts => ts.length ≤ l.length) (fun _ _ => by simp) (fun _ _ _ _ _ _ _ ih => by simp only [List.length_cons]; omega) (fun rem p c x y k ts hid ht ih => ?_) h
  simp only [List.length_append, List.length_cons] at ih ⊢
  omega
theorem toks_app {rem : Bool} {p : Nat} {l : List UInt8} {ts : List Tok} (h : toks rem p l = .ok ts) : ∀ m, toks rem p (l ++ 10 :: m) = (toks false (p + l.length + 1) m).map (ts ++ ·) := by
  refine toks_case (P := fun rem p l ts => ∀ m, toks rem p (l ++ 10 :: m) = (toks false (p + l.length + 1) m).map (ts ++ ·)) (fun rem p m => ?_) (fun rem p c r ts hid _ ih m => ?_) (fun rem p c x y k ts hid ht ih m => ?_) h
  · rw [List.nil_append, toks_idle (by cases rem <;> rfl)]
    have : ((rem || ((10 : UInt8).toNat : Int) == 35) && ((10 : UInt8).toNat : Int) != 10) = false := by cases rem <;> rfl
    rw [this]
    cases toks false (p + 1) m <;> rfl
  · rw [List.cons_append, toks_idle hid, ih m, List.length_cons]
    have : p + 1 + r.length + 1 = p + (r.length + 1) + 1 := by omega
    rw [this]
  · have ha : Alike y (y ++ 10 :: m) := by
      cases y with
      | nil => exact .inr (.inr rfl)
      | cons d y => exact .inl rfl
    rw [List.append_assoc, toks_at hid (tok_ext (List.cons_ne_nil _ _) ha ht), ih m, List.length_append]
    have : p + (c :: x).length + y.length + 1 = p + ((c :: x).length + y.length) + 1 := by omega
    rw [this]
    cases toks false (p + ((c :: x).length + y.length) + 1) m <;> rfl
def Tok.shift (q : Nat) (t : Tok) : Tok := ⟨t.kind, t.text, t.at_ + q⟩
def shiftR (q : Nat) : Except Nat (List Tok) → Except Nat (List Tok)
  | .ok ts => .ok (ts.map (Tok.shift q))
  | .error k => .error (k + q)
theorem toks_shift (q : Nat) : ∀ (n : Nat) (rem : Bool) (p : Nat) (l : List UInt8), l.length ≤ n → toks rem (p + q) l = shiftR q (toks rem p l)
  | _, _, _, [], _ => rfl
  | 0, _, _, _ :: _, h => by simp at h
  | n + 1, rem, p, c :: r, hl => by
    simp only [List.length_cons] at hl
    cases e : idleB rem c
    · cases k : (tokL (c :: r)).2.2
      · rw [toks_bad e k, toks_bad e k]; rfl
      · obtain ⟨p1, p2⟩ := tok_pos k
        rw [toks_tok e k, toks_tok e k, Nat.add_right_comm, toks_shift q n false _ _ (by simp at p2 ⊢; omega)]
        cases toks false (p + (tokL (c :: r)).2.1) ((c :: r).drop (tokL (c :: r)).2.1) <;> rfl
    · rw [toks_idle e, toks_idle e, Nat.add_right_comm, toks_shift q n _ _ r (by omega)]
def idleRun : Bool → List UInt8 → Option Bool
  | rem, [] => some rem
  | rem, c :: r => if idleB rem c then idleRun ((rem || (c.toNat : Int) == 35) && (c.toNat : Int) != 10) r else none
theorem idleRun_app : ∀ (rem : Bool) (a b : List UInt8), idleRun rem (a ++ b) = (idleRun rem a).bind fun r => idleRun r b
  | _, [], _ => rfl
  | rem, c :: a, b => by
    have e : ∀ r, idleRun rem (c :: r) = if idleB rem c then idleRun ((rem || (c.toNat : Int) == 35) && (c.toNat : Int) != 10) r else none := fun _ => rfl
    rw [List.cons_append, e, e]
    split
    · exact idleRun_app _ a b
    · rfl
theorem toks_skip : ∀ {rem rem' : Bool} {w : List UInt8}, idleRun rem w = some rem' → ∀ (p : Nat) (l : List UInt8), toks rem p (w ++ l) = toks rem' (p + w.length) l
  | rem, rem', [], h, p, l => by cases h; rfl
  | rem, rem', c :: w, h, p, l => by
    unfold idleRun at h
    split at h
    · rename_i e
      rw [List.cons_append, toks_idle e, toks_skip h, List.length_cons, Nat.add_assoc, Nat.add_comm 1]
    · cases h
def Cov (L : List UInt8) (a : Nat) : List Tok → Prop
  | [] => a ≤ L.length ∧ (idleRun false (L.drop a)).isSome = true
  | t :: ts => a ≤ t.at_ ∧ t.at_ + t.text.length ≤ L.length ∧ (idleRun false ((L.take t.at_).drop a)).isSome = true ∧ t.text ≠ [] ∧ (L.drop t.at_).take t.text.length = t.text ∧ Cov L (t.at_ + t.text.length) ts
theorem cov_ok {L : List UInt8} {ts : List Tok} (h : toks false 0 L = .ok ts) : Cov L 0 ts := by
  refine toks_case (P := fun rem p l ts => ∀ a, a ≤ p → L.drop p = l → p ≤ L.length → idleRun false ((L.take p).drop a) = some rem → Cov L a ts) (fun rem p a hap hd hp hr => ?_) (fun rem p c r ts hid _ ih a hap hd hp hr => ?_) (fun rem p c x y k ts hid ht ih a hap hd hp hr => ?_) h 0 (Nat.le_refl _) rfl (Nat.zero_le _) rfl
  · have : L.length ≤ p := by
      have := congrArg List.length hd
      simp at this; omega
    rw [List.take_of_length_le this] at hr
    exact ⟨by omega, by rw [hr]; rfl⟩
  · have hlt : p < L.length := by
      have := congrArg List.length hd
      simp at this; omega
    have hc : L[p] = c ∧ L.drop (p + 1) = r := by
      rw [List.drop_eq_getElem_cons hlt] at hd
      exact ⟨(List.cons.inj hd).1, (List.cons.inj hd).2⟩
    refine ih a (by omega) hc.2 (by omega) ?_
    have : L.take (p + 1) = L.take p ++ [c] := by rw [List.take_add_one, List.getElem?_eq_getElem hlt, hc.1]; rfl
    rw [this, List.drop_append_of_le_length (by simp; omega), idleRun_app, hr]
    show idleRun rem [c] = _
    unfold idleRun
    rw [if_pos hid]; rfl
  · have hlen := congrArg List.length hd
    simp only [List.length_drop, List.length_append] at hlen
    refine ⟨hap, ?_, by simp only; rw [hr]; rfl, List.cons_ne_nil _ _, ?_, ?_⟩
    · simp only; omega
    · simp only; rw [hd, List.take_left]
    · simp only
      refine ih _ (Nat.le_refl _) ?_ (by omega) ?_
      · rw [← List.drop_drop, hd, List.drop_left]
      · rw [List.drop_eq_nil_iff.2 (by simp; omega)]; rfl
end Go.Proofs.YtdkfcpadbahohaaDoor.U

/-
  LexCovers: the walk.
-/
namespace Go.Proofs.YtdkfcpadbahohaaDoor.U
open Go Go.Ev
attribute [local irreducible] WL WP WH W
variable {O : Orc} {H : AH}
theorem idle_not (rem : Bool) (c : UInt8) : (!idleB rem c) = (!((rem || (c.toNat : Int) == 35) && (c.toNat : Int) != 10) && (c.toNat : Int) != 32 && (c.toNat : Int) != 9 && (c.toNat : Int) != 10) := by
  unfold idleB sp_ bne
  cases rem <;> cases (c.toNat : Int) == 35 <;> cases (c.toNat : Int) == 32 <;> cases (c.toNat : Int) == 9 <;> cases (c.toNat : Int) == 10 <;> rfl
theorem idle_c (hO : ∀ f vs H, f ≠ 8 → O f vs H = none) {s : ByteArray} (hs : s.size ≤ maxLen) : Lc V O F_ref01_Idle [.string s] H (.bool (idleRun false s.data.toList).isSome) H := Lc.of_eq <| by
  have hsz : s.size = s.data.toList.length := rfl
  have hmx : maxLen = 9223372036854775807 := rfl
  generalize hl : s.data.toList = l at hsz
  refine Lc.ref01_Idle (hO _ _ _ (by decide)) (Nat.le_of_ble_eq_true rfl) (by kernel_rfl) ?_
  unfold P_ref01_Idle
  (repeat first | refine zSeq ?_ | refine zReg ?_ | refine zBlk ?_ | refine zSkp ?_ | refine zExt ?_ | refine zNil rfl ?_ | refine zGet rfl ?_ | refine zOn rfl rfl ?_ | refine zOff rfl rfl ?_ | refine zU rfl ?_ | refine zOn rfl (by assumption) ?_ | refine zOff rfl (by assumption) ?_ | refine zMov rfl ?_ | refine zAsg rfl ?_ | refine zXtr rfl ?_ | refine zPT rfl rfl rfl ?_ | refine zPF rfl rfl rfl ?_ | refine zPT rfl (by assumption) rfl ?_ | refine zPF rfl (by assumption) rfl ?_ | refine zLss rfl rfl ?_ | refine zLeq rfl rfl ?_ | refine zGtr rfl rfl ?_ | refine zGeq rfl rfl ?_ | refine zEql rfl rfl ?_ | refine zNeq rfl rfl ?_ | refine zAdd rfl rfl (by omega) ?_ | refine zSub rfl rfl (by omega) ?_ | refine zLenS rfl E_string ?_ | refine zNot rfl ?_ | refine zEqS rfl rfl ?_ | refine zNeS rfl rfl ?_ | refine zT rfl rfl ?_ | refine zF rfl rfl ?_ | refine zT rfl (by assumption) ?_ | refine zF rfl (by assumption) ?_ | refine WL.op (o := .index _ _ _) (op_indexS rfl rfl E_string hix hx) ?_ | refine zIdx rfl rfl ha ?_ | refine zFld (f := 0) rfl O_api_Token_Kind ?_ | refine zFld (f := 1) rfl O_api_Token_Text ?_ | refine zFld (f := 2) rfl O_api_Token_At ?_ | refine zLd (ty := 3) rfl hlA ?_ | refine zLd (ty := 9) rfl hlT ?_ | refine zLd (ty := 5) rfl hlK ?_)
  refine WP.loopH (σ := Nat × Bool) (fun x => [(0, .string s), (3, .bool x.2), (4, .int .i64 x.1)]) (fun x H' => H = H' ∧ x.1 ≤ l.length ∧ (idleRun false l).isSome = (idleRun x.2 (l.drop x.1)).isSome) (fun x => l.length - x.1) (0, false) ⟨rfl, by simp, by simp⟩ ⟨rfl, rfl, rfl, trivial⟩ ?_
  rintro ⟨i, rem⟩ _ ⟨rfl, hi, hp⟩
  simp only at hi hp ⊢
  rcases Nat.lt_or_ge i l.length with h | h
  rotate_left
  · have g1 : decide ((i : Int) < s.size) = false := decide_eq_false (by omega)
    (repeat first | refine zSeq ?_ | refine zReg ?_ | refine zBlk ?_ | refine zSkp ?_ | refine zExt ?_ | refine zNil rfl ?_ | refine zGet rfl ?_ | refine zOn rfl rfl ?_ | refine zOff rfl rfl ?_ | refine zU rfl ?_ | refine zOn rfl (by assumption) ?_ | refine zOff rfl (by assumption) ?_ | refine zMov rfl ?_ | refine zAsg rfl ?_ | refine zXtr rfl ?_ | refine zPT rfl rfl rfl ?_ | refine zPF rfl rfl rfl ?_ | refine zPT rfl (by assumption) rfl ?_ | refine zPF rfl (by assumption) rfl ?_ | refine zLss rfl rfl ?_ | refine zLeq rfl rfl ?_ | refine zGtr rfl rfl ?_ | refine zGeq rfl rfl ?_ | refine zEql rfl rfl ?_ | refine zNeq rfl rfl ?_ | refine zAdd rfl rfl (by omega) ?_ | refine zSub rfl rfl (by omega) ?_ | refine zLenS rfl E_string ?_ | refine zNot rfl ?_ | refine zEqS rfl rfl ?_ | refine zNeS rfl rfl ?_ | refine zT rfl rfl ?_ | refine zF rfl rfl ?_ | refine zT rfl (by assumption) ?_ | refine zF rfl (by assumption) ?_ | refine WL.op (o := .index _ _ _) (op_indexS rfl rfl E_string hix hx) ?_ | refine zIdx rfl rfl ha ?_ | refine zFld (f := 0) rfl O_api_Token_Kind ?_ | refine zFld (f := 1) rfl O_api_Token_Text ?_ | refine zFld (f := 2) rfl O_api_Token_At ?_ | refine zLd (ty := 3) rfl hlA ?_ | refine zLd (ty := 9) rfl hlT ?_ | refine zLd (ty := 5) rfl hlK ?_)
    refine WP.ret ⟨.inr rfl, _, rfl, ?_, rfl⟩
    rw [hp, List.drop_eq_nil_iff.2 h]; rfl
  have g1 : decide ((i : Int) < s.size) = true := decide_eq_true (by omega)
  have hd : l.drop i = l[i] :: l.drop (i + 1) := List.drop_eq_getElem_cons h
  have hx : s.data.toList[(i : Int).toNat]? = some l[i] := by rw [hl]; simp [h]
  generalize l[i] = c at hd hx
  have hix : (0 : Int) ≤ i := by omega
  (repeat first | refine zReg ?_ | refine zSkp ?_ | refine zExt ?_ | refine zNil rfl ?_ | refine zGet rfl ?_ | refine zOn rfl rfl ?_ | refine zOff rfl rfl ?_ | refine zU rfl ?_ | refine zOn rfl (by assumption) ?_ | refine zOff rfl (by assumption) ?_ | refine zMov rfl ?_ | refine zAsg rfl ?_ | refine zXtr rfl ?_ | refine zPT rfl rfl rfl ?_ | refine zPF rfl rfl rfl ?_ | refine zPT rfl (by assumption) rfl ?_ | refine zPF rfl (by assumption) rfl ?_ | refine zLss rfl rfl ?_ | refine zLeq rfl rfl ?_ | refine zGtr rfl rfl ?_ | refine zGeq rfl rfl ?_ | refine zEql rfl rfl ?_ | refine zNeq rfl rfl ?_ | refine zAdd rfl rfl (by omega) ?_ | refine zSub rfl rfl (by omega) ?_ | refine zLenS rfl E_string ?_ | refine zNot rfl ?_ | refine zEqS rfl rfl ?_ | refine zNeS rfl rfl ?_ | refine zT rfl rfl ?_ | refine zF rfl rfl ?_ | refine zT rfl (by assumption) ?_ | refine zF rfl (by assumption) ?_ | refine WL.op (o := .index _ _ _) (op_indexS rfl rfl E_string hix hx) ?_ | refine zIdx rfl rfl ha ?_ | refine zFld (f := 0) rfl O_api_Token_Kind ?_ | refine zFld (f := 1) rfl O_api_Token_Text ?_ | refine zFld (f := 2) rfl O_api_Token_At ?_ | refine zLd (ty := 3) rfl hlA ?_ | refine zLd (ty := 9) rfl hlT ?_ | refine zLd (ty := 5) rfl hlK ?_)
  refine WP.seq ?_
  refine WP.seq ?_
  (repeat first | refine zReg ?_ | refine zSkp ?_ | refine zExt ?_ | refine zNil rfl ?_ | refine zGet rfl ?_ | refine zOn rfl rfl ?_ | refine zOff rfl rfl ?_ | refine zU rfl ?_ | refine zOn rfl (by assumption) ?_ | refine zOff rfl (by assumption) ?_ | refine zMov rfl ?_ | refine zAsg rfl ?_ | refine zXtr rfl ?_ | refine zPT rfl rfl rfl ?_ | refine zPF rfl rfl rfl ?_ | refine zPT rfl (by assumption) rfl ?_ | refine zPF rfl (by assumption) rfl ?_ | refine zLss rfl rfl ?_ | refine zLeq rfl rfl ?_ | refine zGtr rfl rfl ?_ | refine zGeq rfl rfl ?_ | refine zEql rfl rfl ?_ | refine zNeq rfl rfl ?_ | refine zAdd rfl rfl (by omega) ?_ | refine zSub rfl rfl (by omega) ?_ | refine zLenS rfl E_string ?_ | refine zNot rfl ?_ | refine zEqS rfl rfl ?_ | refine zNeS rfl rfl ?_ | refine zT rfl rfl ?_ | refine zF rfl rfl ?_ | refine zT rfl (by assumption) ?_ | refine zF rfl (by assumption) ?_ | refine WL.op (o := .index _ _ _) (op_indexS rfl rfl E_string hix hx) ?_ | refine zIdx rfl rfl ha ?_ | refine zFld (f := 0) rfl O_api_Token_Kind ?_ | refine zFld (f := 1) rfl O_api_Token_Text ?_ | refine zFld (f := 2) rfl O_api_Token_At ?_ | refine zLd (ty := 3) rfl hlA ?_ | refine zLd (ty := 9) rfl hlT ?_ | refine zLd (ty := 5) rfl hlK ?_)
  refine WP.seq ?_
  refine WP.block ?_
  generalize hrem : ((rem || (c.toNat : Int) == 35) && (c.toNat : Int) != 10) = rem'
  refine WP.seqS (σ := Unit) (fun _ => [(0, .string s), (3, .bool rem'), (4, .int .i64 i)]) (fun _ H' => H = H') ?_ ?_
  · rw [← hrem]
    (repeat' first | refine zReg ?_ | refine zSkp ?_ | refine zExt ?_ | refine zNil rfl ?_ | refine zGet rfl ?_ | refine zOn rfl rfl ?_ | refine zOff rfl rfl ?_ | refine zU rfl ?_ | refine zOn rfl (by assumption) ?_ | refine zOff rfl (by assumption) ?_ | refine zMov rfl ?_ | refine zAsg rfl ?_ | refine zXtr rfl ?_ | refine zPT rfl rfl rfl ?_ | refine zPF rfl rfl rfl ?_ | refine zPT rfl (by assumption) rfl ?_ | refine zPF rfl (by assumption) rfl ?_ | refine zLss rfl rfl ?_ | refine zLeq rfl rfl ?_ | refine zGtr rfl rfl ?_ | refine zGeq rfl rfl ?_ | refine zEql rfl rfl ?_ | refine zNeq rfl rfl ?_ | refine zAdd rfl rfl (by omega) ?_ | refine zSub rfl rfl (by omega) ?_ | refine zLenS rfl E_string ?_ | refine zNot rfl ?_ | refine zEqS rfl rfl ?_ | refine zNeS rfl rfl ?_ | refine zT rfl rfl ?_ | refine zF rfl rfl ?_ | refine zT rfl (by assumption) ?_ | refine zF rfl (by assumption) ?_ | refine WL.op (o := .index _ _ _) (op_indexS rfl rfl E_string hix hx) ?_ | refine zIdx rfl rfl ha ?_ | refine zFld (f := 0) rfl O_api_Token_Kind ?_ | refine zFld (f := 1) rfl O_api_Token_Text ?_ | refine zFld (f := 2) rfl O_api_Token_At ?_ | refine zLd (ty := 3) rfl hlA ?_ | refine zLd (ty := 9) rfl hlT ?_ | refine zLd (ty := 5) rfl hlK ?_ | refine zGd rfl (fun _ => ?_) (fun _ => ?_))
    all_goals refine ⟨(), rfl, rfl, bool_eq ?_, rfl, trivial⟩
    all_goals first | (simp only [*, Bool.not_true, Bool.not_false, Bool.true_or, Bool.or_true, Bool.false_or, Bool.or_false, Bool.true_and, Bool.and_true, Bool.false_and, Bool.and_false]; done) | (simp only [*, Bool.not_true, Bool.not_false, Bool.true_or, Bool.or_true, Bool.false_or, Bool.or_false, Bool.true_and, Bool.and_true, Bool.false_and, Bool.and_false]; rfl)
  rintro _ _ rfl
  refine WP.seqS (σ := Unit) (fun _ => [(0, .string s), (3, .bool rem'), (4, .int .i64 i), (43, .bool (!idleB rem c))]) (fun _ H' => H = H') ?_ ?_
  · rw [idle_not, hrem]
    clear hrem
    (repeat' first | refine zReg ?_ | refine zSkp ?_ | refine zExt ?_ | refine zNil rfl ?_ | refine zGet rfl ?_ | refine zOn rfl rfl ?_ | refine zOff rfl rfl ?_ | refine zU rfl ?_ | refine zOn rfl (by assumption) ?_ | refine zOff rfl (by assumption) ?_ | refine zMov rfl ?_ | refine zAsg rfl ?_ | refine zXtr rfl ?_ | refine zPT rfl rfl rfl ?_ | refine zPF rfl rfl rfl ?_ | refine zPT rfl (by assumption) rfl ?_ | refine zPF rfl (by assumption) rfl ?_ | refine zLss rfl rfl ?_ | refine zLeq rfl rfl ?_ | refine zGtr rfl rfl ?_ | refine zGeq rfl rfl ?_ | refine zEql rfl rfl ?_ | refine zNeq rfl rfl ?_ | refine zAdd rfl rfl (by omega) ?_ | refine zSub rfl rfl (by omega) ?_ | refine zLenS rfl E_string ?_ | refine zNot rfl ?_ | refine zEqS rfl rfl ?_ | refine zNeS rfl rfl ?_ | refine zT rfl rfl ?_ | refine zF rfl rfl ?_ | refine zT rfl (by assumption) ?_ | refine zF rfl (by assumption) ?_ | refine WL.op (o := .index _ _ _) (op_indexS rfl rfl E_string hix hx) ?_ | refine zIdx rfl rfl ha ?_ | refine zFld (f := 0) rfl O_api_Token_Kind ?_ | refine zFld (f := 1) rfl O_api_Token_Text ?_ | refine zFld (f := 2) rfl O_api_Token_At ?_ | refine zLd (ty := 3) rfl hlA ?_ | refine zLd (ty := 9) rfl hlT ?_ | refine zLd (ty := 5) rfl hlK ?_ | refine zGd rfl (fun _ => ?_) (fun _ => ?_))
    all_goals refine ⟨(), rfl, rfl, rfl, rfl, bool_eq ?_, trivial⟩
    all_goals first | (simp only [*, Bool.not_true, Bool.not_false, Bool.true_or, Bool.or_true, Bool.false_or, Bool.or_false, Bool.true_and, Bool.and_true, Bool.false_and, Bool.and_false]; done) | (simp only [*, Bool.not_true, Bool.not_false, Bool.true_or, Bool.or_true, Bool.false_or, Bool.or_false, Bool.true_and, Bool.and_true, Bool.false_and, Bool.and_false]; rfl)
  rintro _ _ rfl
  have hrun : idleRun rem (l.drop i) = if idleB rem c then idleRun rem' (l.drop (i + 1)) else none := by rw [hd, ← hrem]; rfl
  cases hid : idleB rem c
  · (repeat first | refine zSeq ?_ | refine zReg ?_ | refine zBlk ?_ | refine zSkp ?_ | refine zExt ?_ | refine zNil rfl ?_ | refine zGet rfl ?_ | refine zOn rfl rfl ?_ | refine zOff rfl rfl ?_ | refine zU rfl ?_ | refine zOn rfl (by assumption) ?_ | refine zOff rfl (by assumption) ?_ | refine zMov rfl ?_ | refine zAsg rfl ?_ | refine zXtr rfl ?_ | refine zPT rfl rfl rfl ?_ | refine zPF rfl rfl rfl ?_ | refine zPT rfl (by assumption) rfl ?_ | refine zPF rfl (by assumption) rfl ?_ | refine zLss rfl rfl ?_ | refine zLeq rfl rfl ?_ | refine zGtr rfl rfl ?_ | refine zGeq rfl rfl ?_ | refine zEql rfl rfl ?_ | refine zNeq rfl rfl ?_ | refine zAdd rfl rfl (by omega) ?_ | refine zSub rfl rfl (by omega) ?_ | refine zLenS rfl E_string ?_ | refine zNot rfl ?_ | refine zEqS rfl rfl ?_ | refine zNeS rfl rfl ?_ | refine zT rfl rfl ?_ | refine zF rfl rfl ?_ | refine zT rfl (by assumption) ?_ | refine zF rfl (by assumption) ?_ | refine WL.op (o := .index _ _ _) (op_indexS rfl rfl E_string hix hx) ?_ | refine zIdx rfl rfl ha ?_ | refine zFld (f := 0) rfl O_api_Token_Kind ?_ | refine zFld (f := 1) rfl O_api_Token_Text ?_ | refine zFld (f := 2) rfl O_api_Token_At ?_ | refine zLd (ty := 3) rfl hlA ?_ | refine zLd (ty := 9) rfl hlT ?_ | refine zLd (ty := 5) rfl hlK ?_)
    refine WP.ret ⟨.inr rfl, _, rfl, ?_, rfl⟩
    rw [hp, hrun, hid]; rfl
  · (repeat first | refine zSeq ?_ | refine zReg ?_ | refine zBlk ?_ | refine zSkp ?_ | refine zExt ?_ | refine zNil rfl ?_ | refine zGet rfl ?_ | refine zOn rfl rfl ?_ | refine zOff rfl rfl ?_ | refine zU rfl ?_ | refine zOn rfl (by assumption) ?_ | refine zOff rfl (by assumption) ?_ | refine zMov rfl ?_ | refine zAsg rfl ?_ | refine zXtr rfl ?_ | refine zPT rfl rfl rfl ?_ | refine zPF rfl rfl rfl ?_ | refine zPT rfl (by assumption) rfl ?_ | refine zPF rfl (by assumption) rfl ?_ | refine zLss rfl rfl ?_ | refine zLeq rfl rfl ?_ | refine zGtr rfl rfl ?_ | refine zGeq rfl rfl ?_ | refine zEql rfl rfl ?_ | refine zNeq rfl rfl ?_ | refine zAdd rfl rfl (by omega) ?_ | refine zSub rfl rfl (by omega) ?_ | refine zLenS rfl E_string ?_ | refine zNot rfl ?_ | refine zEqS rfl rfl ?_ | refine zNeS rfl rfl ?_ | refine zT rfl rfl ?_ | refine zF rfl rfl ?_ | refine zT rfl (by assumption) ?_ | refine zF rfl (by assumption) ?_ | refine WL.op (o := .index _ _ _) (op_indexS rfl rfl E_string hix hx) ?_ | refine zIdx rfl rfl ha ?_ | refine zFld (f := 0) rfl O_api_Token_Kind ?_ | refine zFld (f := 1) rfl O_api_Token_Text ?_ | refine zFld (f := 2) rfl O_api_Token_At ?_ | refine zLd (ty := 3) rfl hlA ?_ | refine zLd (ty := 9) rfl hlT ?_ | refine zLd (ty := 5) rfl hlK ?_)
    exact ⟨(i + 1, rem'), ⟨rfl, by simp only; omega, by rw [hp, hrun, hid]; rfl⟩, by simp only; omega, rfl, rfl, rfl, trivial⟩
end Go.Proofs.YtdkfcpadbahohaaDoor.U

