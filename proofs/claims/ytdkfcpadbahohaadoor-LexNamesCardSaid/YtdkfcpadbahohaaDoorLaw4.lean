/-
  LexCovers: the walk.
-/
import Derived.Test.YtdkfcpadbahohaaDoorLaw3
import Derived.Test.YtdkfcpadbahohaaDoorLaw2
import Derived.Test.YtdkfcpadbahohaaDoorEv5
import Derived.Test.YtdkfcpadbahohaaDoorRows
import Derived.Test.YtdkfcpadbahohaaDoorCards
import Derived.Test.YtdkfcpadbahohaaDoorTie
import Derived.WalkKit
import Derived.ProofKit
import Derived.OpenShut
import Derived.Deep.DeepHandedRow
set_option linter.all false
namespace Go.Proofs.YtdkfcpadbahohaaDoor.U
open Go Go.Ev
attribute [local irreducible] WL WP WH W
variable {O : Orc} {H : AH}
theorem app_str (a b : List UInt8) : str a ++ str b = str (a ++ b) := by
  apply ByteArray.ext; apply Array.ext'
  show (str a ++ str b).data.toList = a ++ b
  rw [ByteArray.data_append, Array.toList_append]; rfl
theorem str_of (s : ByteArray) : s = str s.data.toList := rfl
theorem cov_at {L : List UInt8} : ∀ {ts : List Tok} {a i : Nat} (h : i < ts.length), Cov L a (ts.drop i) → a ≤ ts[i].at_ ∧ ts[i].at_ + ts[i].text.length ≤ L.length ∧ (idleRun false ((L.take ts[i].at_).drop a)).isSome = true ∧ ts[i].text ≠ [] ∧ (L.drop ts[i].at_).take ts[i].text.length = ts[i].text ∧ Cov L (ts[i].at_ + ts[i].text.length) (ts.drop (i + 1)) := fun h hc => by
  rw [List.drop_eq_getElem_cons h] at hc; exact hc
theorem again_take {ts : List Tok} {i : Nat} (h : i < ts.length) : again (ts.take (i + 1)) = again (ts.take i) ++ ts[i].text ++ [32] := by
  rw [List.take_add_one, List.getElem?_eq_getElem h, again, List.flatMap_append, again, List.append_assoc, Option.toList_some, List.flatMap_singleton]
theorem again_take_len {ts : List Tok} (i : Nat) : (again (ts.take i)).length ≤ (again ts).length := by
  conv => rhs; rw [← List.take_append_drop i ts]
  simp only [again, List.flatMap_append, List.length_append]; omega
theorem sl_at {v : Value} {ts : List Tok} (h : Sl H v 3 ts.length (tokCells ts)) {i : Nat} (hi : i < ts.length) :
    ∃ b off, aIndex V.E 30 v (.int .i64 i) = some (.pointer (some ⟨b, off, none⟩)) ∧ aLoad V.E H 5 (.pointer (some ⟨b, off + 0, none⟩)) = some (.int .u8 ts[i].kind) ∧ aLoad V.E H 9 (.pointer (some ⟨b, off + 1, none⟩)) = some (.string (str ts[i].text)) ∧ aLoad V.E H 3 (.pointer (some ⟨b, off + 2, none⟩)) = some (.int .i64 ts[i].at_) := by
  obtain ⟨b, off, ha, hr⟩ := h.at E30 E36 te36_size (kd := .i64) (i := i) (by omega) (by omega)
  rw [show (i : Int).toNat = i from rfl, tok_at hi] at hr
  exact ⟨b, off, ha, (hr.at1 (i := 0) rfl).load1 E_uint8 rfl, (hr.at1 (i := 1) rfl).load1 E_string rfl, (hr.at1 (i := 2) rfl).load1 E_int rfl⟩
theorem lexR_cases {l : List UInt8} (h : l.length ≤ 65536) : (∃ ts, toks false 0 l = .ok ts ∧ lexR l = (ts, 0, 0)) ∨ ∃ p, toks false 0 l = .error p ∧ lexR l = ([], p, 63) := by
  cases e : toks false 0 l with
  | ok ts => exact .inl ⟨ts, rfl, lexR_ok h e⟩
  | error p => exact .inr ⟨p, rfl, lexR_bad h e⟩
theorem tokCells_one (l : List Tok) : (tokCells l).all Value.oneCell' = true := by
  induction l with
  | nil => rfl
  | cons a l ih =>
    have e : tokCells (a :: l) = a.cells ++ tokCells l := rfl
    rw [e, List.all_append, ih]; rfl
theorem splice_tok {x : Nat} : ∀ {l : List Tok} {i : Nat} (h : i < l.length), splice (tokCells l) (i * 3 + 2) [.int .i64 x] = tokCells (l.set i ⟨l[i].kind, l[i].text, x⟩)
  | a :: l, 0, _ => rfl
  | a :: l, i + 1, h => by
    have e : (i + 1) * 3 + 2 = i * 3 + 2 + 3 := by omega
    have ih := splice_tok (x := x) (l := l) (i := i) (by simpa using h)
    have e1 : splice (tokCells (a :: l)) (i * 3 + 2 + 3) [.int .i64 x] = a.cells ++ splice (tokCells l) (i * 3 + 2) [.int .i64 x] := by
      unfold splice
      have e2 : tokCells (a :: l) = a.cells ++ tokCells l := rfl
      rw [e2]
      have e3 : (a.cells ++ tokCells l).take (i * 3 + 2 + 3) = a.cells ++ (tokCells l).take (i * 3 + 2) := rfl
      have e4 : (a.cells ++ tokCells l).drop (i * 3 + 2 + 3 + [Value.int .i64 x].length) = (tokCells l).drop (i * 3 + 2 + [Value.int .i64 x].length) := by
        show (a.cells ++ tokCells l).drop (i * 3 + 2 + 1 + 3) = _
        rfl
      rw [e3, e4, List.append_assoc, List.append_assoc, List.append_assoc]
    rw [e, e1, ih]; rfl
def half (q i : Nat) (ms : List Tok) : List Tok := (ms.take i).map (Tok.shift q) ++ ms.drop i
theorem half_len (q i : Nat) (ms : List Tok) : (half q i ms).length = ms.length := by simp [half]; omega
theorem half_get {q i : Nat} {ms : List Tok} (h : i < ms.length) : (half q i ms)[i]'(by rw [half_len]; exact h) = ms[i] := by
  unfold half
  rw [List.getElem_append_right (by simp; omega)]
  simp [Nat.min_eq_left (Nat.le_of_lt h)]
theorem half_set {q i : Nat} {ms : List Tok} (h : i < ms.length) : (half q i ms).set i (ms[i].shift q) = half q (i + 1) ms := by
  unfold half
  rw [List.set_append_right _ _ (by simp; omega), List.length_map, List.length_take, Nat.min_eq_left (Nat.le_of_lt h), Nat.sub_self, List.drop_eq_getElem_cons h, List.set_cons_zero, List.take_add_one, List.getElem?_eq_getElem h, List.map_append, List.append_assoc]
  rfl
theorem toks_at_le {rem : Bool} {p : Nat} {l : List UInt8} {ts : List Tok} (h : toks rem p l = .ok ts) : ∀ t ∈ ts, t.at_ ≤ p + l.length := by
  refine toks_case (P := fun _ p l ts => ∀ t ∈ ts, t.at_ ≤ p + l.length) (fun _ _ t ht => by cases ht) (fun _ _ _ _ _ _ _ ih t ht => by have := ih t ht; simp only [List.length_cons]; omega) (fun rem p c x y k ts hid ht ih t htm => ?_) h
  simp only [List.length_append, List.length_cons]
  rcases List.mem_cons.1 htm with rfl | htm
  · simp only; omega
  · have := ih t htm
    simp only [List.length_cons] at this
    omega
theorem toks_error {p : Nat} : ∀ (n : Nat) (rem : Bool) (q : Nat) (l : List UInt8), l.length ≤ n → toks rem q l = .error p → p ≤ q + l.length
  | _, _, _, [], _, h => by cases h
  | 0, _, _, _ :: _, h, _ => by simp at h
  | n + 1, rem, q, c :: r, hl, h => by
    simp only [List.length_cons] at hl ⊢
    cases e : idleB rem c
    · cases k : (tokL (c :: r)).2.2
      · rw [toks_bad e k] at h; cases h; omega
      · obtain ⟨p1, p2⟩ := tok_pos k
        rw [toks_tok e k] at h
        cases hx : toks false (q + (tokL (c :: r)).2.1) ((c :: r).drop (tokL (c :: r)).2.1) with
        | ok ts => rw [hx] at h; cases h
        | error p' =>
          rw [hx] at h; cases h
          have := toks_error n false _ _ (by simp at p2 ⊢; omega) hx
          simp at this p2; omega
    · rw [toks_idle e] at h
      have := toks_error n _ _ _ (by omega) h
      omega
set_option maxHeartbeats 4000000 in
theorem lexcovers_c (hO : ∀ f vs H, f ≠ 8 → O f vs H = none) (hW : ∀ H', Kro H H' → O 8 [] H' = some (.bool true, H')) (hS : HasSigns H) {s t : ByteArray} (hs : s.size ≤ maxLen) (ht : t.size ≤ maxLen) : ∃ H', Lc V O F_law01_LexCovers [.string s, .string t] H (.bool true) H' := by
  have hmx : maxLen = 9223372036854775807 := rfl
  have key : ∃ u H', Lc V O F_law01_LexCovers [.string s, .string t] H u H' ∧ u = .bool true := by
    refine Lc.law01_LexCovers (R := fun u _ => u = .bool true) (hO _ _ _ (by decide)) (Nat.le_of_ble_eq_true rfl) (by kernel_rfl) ?_
    unfold P_law01_LexCovers
    have works := fun {H'} (h : Kro H H') => Lc.orc (V := V) (hW H' h)
    have fn8 : (V.F 8).isSome = true := by kernel_rfl
    rcases Nat.lt_or_ge 20000 s.size with h1 | h1
    · have g1 : decide ((s.size : Int) > 20000) = true := decide_eq_true (by omega)
      (repeat first | refine zSeq ?_ | refine zReg ?_ | refine zBlk ?_ | refine zSkp ?_ | refine zExt ?_ | refine zNil rfl ?_ | refine zGet rfl ?_ | refine zOn rfl rfl ?_ | refine zOff rfl rfl ?_ | refine zU rfl ?_ | refine zOn rfl (by assumption) ?_ | refine zOff rfl (by assumption) ?_ | refine zMov rfl ?_ | refine zAsg rfl ?_ | refine zXtr rfl ?_ | refine zPT rfl rfl rfl ?_ | refine zPF rfl rfl rfl ?_ | refine zPT rfl (by assumption) rfl ?_ | refine zPF rfl (by assumption) rfl ?_ | refine zLss rfl rfl ?_ | refine zLeq rfl rfl ?_ | refine zGtr rfl rfl ?_ | refine zGeq rfl rfl ?_ | refine zEql rfl rfl ?_ | refine zNeq rfl rfl ?_ | refine zAdd rfl rfl (by omega) ?_ | refine zSub rfl rfl (by omega) ?_ | refine zLenS rfl E_string ?_ | refine zNot rfl ?_ | refine zEqS rfl rfl ?_ | refine zNeS rfl rfl ?_ | refine zT rfl rfl ?_ | refine zF rfl rfl ?_ | refine zT rfl (by assumption) ?_ | refine zF rfl (by assumption) ?_ | refine WL.op (o := .index _ _ _) (op_indexS rfl rfl E_string hix hx) ?_ | refine zIdx rfl rfl ha ?_ | refine zFld (f := 0) rfl O_api_Token_Kind ?_ | refine zFld (f := 1) rfl O_api_Token_Text ?_ | refine zFld (f := 2) rfl O_api_Token_At ?_ | refine zLd (ty := 3) rfl hlA ?_ | refine zLd (ty := 9) rfl hlT ?_ | refine zLd (ty := 5) rfl hlK ?_ | refine zLen rfl (hv.len E30) ?_ | refine zLen rfl (hv3.len E30) ?_ | refine zIdx rfl rfl ha' ?_ | refine zLd (ty := 3) rfl hlA' ?_ | refine zLd (ty := 9) rfl hlT' ?_ | refine zLd (ty := 5) rfl hlK' ?_)
      refine WL.call rfl rfl fn8 (works (.refl _)) ?_
      (repeat first | refine zSeq ?_ | refine zReg ?_ | refine zBlk ?_ | refine zSkp ?_ | refine zExt ?_ | refine zNil rfl ?_ | refine zGet rfl ?_ | refine zOn rfl rfl ?_ | refine zOff rfl rfl ?_ | refine zU rfl ?_ | refine zOn rfl (by assumption) ?_ | refine zOff rfl (by assumption) ?_ | refine zMov rfl ?_ | refine zAsg rfl ?_ | refine zXtr rfl ?_ | refine zPT rfl rfl rfl ?_ | refine zPF rfl rfl rfl ?_ | refine zPT rfl (by assumption) rfl ?_ | refine zPF rfl (by assumption) rfl ?_ | refine zLss rfl rfl ?_ | refine zLeq rfl rfl ?_ | refine zGtr rfl rfl ?_ | refine zGeq rfl rfl ?_ | refine zEql rfl rfl ?_ | refine zNeq rfl rfl ?_ | refine zAdd rfl rfl (by omega) ?_ | refine zSub rfl rfl (by omega) ?_ | refine zLenS rfl E_string ?_ | refine zNot rfl ?_ | refine zEqS rfl rfl ?_ | refine zNeS rfl rfl ?_ | refine zT rfl rfl ?_ | refine zF rfl rfl ?_ | refine zT rfl (by assumption) ?_ | refine zF rfl (by assumption) ?_ | refine WL.op (o := .index _ _ _) (op_indexS rfl rfl E_string hix hx) ?_ | refine zIdx rfl rfl ha ?_ | refine zFld (f := 0) rfl O_api_Token_Kind ?_ | refine zFld (f := 1) rfl O_api_Token_Text ?_ | refine zFld (f := 2) rfl O_api_Token_At ?_ | refine zLd (ty := 3) rfl hlA ?_ | refine zLd (ty := 9) rfl hlT ?_ | refine zLd (ty := 5) rfl hlK ?_ | refine zLen rfl (hv.len E30) ?_ | refine zLen rfl (hv3.len E30) ?_ | refine zIdx rfl rfl ha' ?_ | refine zLd (ty := 3) rfl hlA' ?_ | refine zLd (ty := 9) rfl hlT' ?_ | refine zLd (ty := 5) rfl hlK' ?_)
      refine WL.call rfl rfl fn8 (works (.refl _)) ?_
      (repeat first | refine zSeq ?_ | refine zReg ?_ | refine zBlk ?_ | refine zSkp ?_ | refine zExt ?_ | refine zNil rfl ?_ | refine zGet rfl ?_ | refine zOn rfl rfl ?_ | refine zOff rfl rfl ?_ | refine zU rfl ?_ | refine zOn rfl (by assumption) ?_ | refine zOff rfl (by assumption) ?_ | refine zMov rfl ?_ | refine zAsg rfl ?_ | refine zXtr rfl ?_ | refine zPT rfl rfl rfl ?_ | refine zPF rfl rfl rfl ?_ | refine zPT rfl (by assumption) rfl ?_ | refine zPF rfl (by assumption) rfl ?_ | refine zLss rfl rfl ?_ | refine zLeq rfl rfl ?_ | refine zGtr rfl rfl ?_ | refine zGeq rfl rfl ?_ | refine zEql rfl rfl ?_ | refine zNeq rfl rfl ?_ | refine zAdd rfl rfl (by omega) ?_ | refine zSub rfl rfl (by omega) ?_ | refine zLenS rfl E_string ?_ | refine zNot rfl ?_ | refine zEqS rfl rfl ?_ | refine zNeS rfl rfl ?_ | refine zT rfl rfl ?_ | refine zF rfl rfl ?_ | refine zT rfl (by assumption) ?_ | refine zF rfl (by assumption) ?_ | refine WL.op (o := .index _ _ _) (op_indexS rfl rfl E_string hix hx) ?_ | refine zIdx rfl rfl ha ?_ | refine zFld (f := 0) rfl O_api_Token_Kind ?_ | refine zFld (f := 1) rfl O_api_Token_Text ?_ | refine zFld (f := 2) rfl O_api_Token_At ?_ | refine zLd (ty := 3) rfl hlA ?_ | refine zLd (ty := 9) rfl hlT ?_ | refine zLd (ty := 5) rfl hlK ?_ | refine zLen rfl (hv.len E30) ?_ | refine zLen rfl (hv3.len E30) ?_ | refine zIdx rfl rfl ha' ?_ | refine zLd (ty := 3) rfl hlA' ?_ | refine zLd (ty := 9) rfl hlT' ?_ | refine zLd (ty := 5) rfl hlK' ?_)
      exact WP.ret ⟨.inr rfl, _, rfl, rfl⟩
    have g1 : decide ((s.size : Int) > 20000) = false := decide_eq_false (by omega)
    rcases Nat.lt_or_ge 20000 t.size with h2 | h2
    · have g2 : decide ((t.size : Int) > 20000) = true := decide_eq_true (by omega)
      (repeat first | refine zSeq ?_ | refine zReg ?_ | refine zBlk ?_ | refine zSkp ?_ | refine zExt ?_ | refine zNil rfl ?_ | refine zGet rfl ?_ | refine zOn rfl rfl ?_ | refine zOff rfl rfl ?_ | refine zU rfl ?_ | refine zOn rfl (by assumption) ?_ | refine zOff rfl (by assumption) ?_ | refine zMov rfl ?_ | refine zAsg rfl ?_ | refine zXtr rfl ?_ | refine zPT rfl rfl rfl ?_ | refine zPF rfl rfl rfl ?_ | refine zPT rfl (by assumption) rfl ?_ | refine zPF rfl (by assumption) rfl ?_ | refine zLss rfl rfl ?_ | refine zLeq rfl rfl ?_ | refine zGtr rfl rfl ?_ | refine zGeq rfl rfl ?_ | refine zEql rfl rfl ?_ | refine zNeq rfl rfl ?_ | refine zAdd rfl rfl (by omega) ?_ | refine zSub rfl rfl (by omega) ?_ | refine zLenS rfl E_string ?_ | refine zNot rfl ?_ | refine zEqS rfl rfl ?_ | refine zNeS rfl rfl ?_ | refine zT rfl rfl ?_ | refine zF rfl rfl ?_ | refine zT rfl (by assumption) ?_ | refine zF rfl (by assumption) ?_ | refine WL.op (o := .index _ _ _) (op_indexS rfl rfl E_string hix hx) ?_ | refine zIdx rfl rfl ha ?_ | refine zFld (f := 0) rfl O_api_Token_Kind ?_ | refine zFld (f := 1) rfl O_api_Token_Text ?_ | refine zFld (f := 2) rfl O_api_Token_At ?_ | refine zLd (ty := 3) rfl hlA ?_ | refine zLd (ty := 9) rfl hlT ?_ | refine zLd (ty := 5) rfl hlK ?_ | refine zLen rfl (hv.len E30) ?_ | refine zLen rfl (hv3.len E30) ?_ | refine zIdx rfl rfl ha' ?_ | refine zLd (ty := 3) rfl hlA' ?_ | refine zLd (ty := 9) rfl hlT' ?_ | refine zLd (ty := 5) rfl hlK' ?_)
      refine WL.call rfl rfl fn8 (works (.refl _)) ?_
      (repeat first | refine zSeq ?_ | refine zReg ?_ | refine zBlk ?_ | refine zSkp ?_ | refine zExt ?_ | refine zNil rfl ?_ | refine zGet rfl ?_ | refine zOn rfl rfl ?_ | refine zOff rfl rfl ?_ | refine zU rfl ?_ | refine zOn rfl (by assumption) ?_ | refine zOff rfl (by assumption) ?_ | refine zMov rfl ?_ | refine zAsg rfl ?_ | refine zXtr rfl ?_ | refine zPT rfl rfl rfl ?_ | refine zPF rfl rfl rfl ?_ | refine zPT rfl (by assumption) rfl ?_ | refine zPF rfl (by assumption) rfl ?_ | refine zLss rfl rfl ?_ | refine zLeq rfl rfl ?_ | refine zGtr rfl rfl ?_ | refine zGeq rfl rfl ?_ | refine zEql rfl rfl ?_ | refine zNeq rfl rfl ?_ | refine zAdd rfl rfl (by omega) ?_ | refine zSub rfl rfl (by omega) ?_ | refine zLenS rfl E_string ?_ | refine zNot rfl ?_ | refine zEqS rfl rfl ?_ | refine zNeS rfl rfl ?_ | refine zT rfl rfl ?_ | refine zF rfl rfl ?_ | refine zT rfl (by assumption) ?_ | refine zF rfl (by assumption) ?_ | refine WL.op (o := .index _ _ _) (op_indexS rfl rfl E_string hix hx) ?_ | refine zIdx rfl rfl ha ?_ | refine zFld (f := 0) rfl O_api_Token_Kind ?_ | refine zFld (f := 1) rfl O_api_Token_Text ?_ | refine zFld (f := 2) rfl O_api_Token_At ?_ | refine zLd (ty := 3) rfl hlA ?_ | refine zLd (ty := 9) rfl hlT ?_ | refine zLd (ty := 5) rfl hlK ?_ | refine zLen rfl (hv.len E30) ?_ | refine zLen rfl (hv3.len E30) ?_ | refine zIdx rfl rfl ha' ?_ | refine zLd (ty := 3) rfl hlA' ?_ | refine zLd (ty := 9) rfl hlT' ?_ | refine zLd (ty := 5) rfl hlK' ?_)
      refine WL.call rfl rfl fn8 (works (.refl _)) ?_
      (repeat first | refine zSeq ?_ | refine zReg ?_ | refine zBlk ?_ | refine zSkp ?_ | refine zExt ?_ | refine zNil rfl ?_ | refine zGet rfl ?_ | refine zOn rfl rfl ?_ | refine zOff rfl rfl ?_ | refine zU rfl ?_ | refine zOn rfl (by assumption) ?_ | refine zOff rfl (by assumption) ?_ | refine zMov rfl ?_ | refine zAsg rfl ?_ | refine zXtr rfl ?_ | refine zPT rfl rfl rfl ?_ | refine zPF rfl rfl rfl ?_ | refine zPT rfl (by assumption) rfl ?_ | refine zPF rfl (by assumption) rfl ?_ | refine zLss rfl rfl ?_ | refine zLeq rfl rfl ?_ | refine zGtr rfl rfl ?_ | refine zGeq rfl rfl ?_ | refine zEql rfl rfl ?_ | refine zNeq rfl rfl ?_ | refine zAdd rfl rfl (by omega) ?_ | refine zSub rfl rfl (by omega) ?_ | refine zLenS rfl E_string ?_ | refine zNot rfl ?_ | refine zEqS rfl rfl ?_ | refine zNeS rfl rfl ?_ | refine zT rfl rfl ?_ | refine zF rfl rfl ?_ | refine zT rfl (by assumption) ?_ | refine zF rfl (by assumption) ?_ | refine WL.op (o := .index _ _ _) (op_indexS rfl rfl E_string hix hx) ?_ | refine zIdx rfl rfl ha ?_ | refine zFld (f := 0) rfl O_api_Token_Kind ?_ | refine zFld (f := 1) rfl O_api_Token_Text ?_ | refine zFld (f := 2) rfl O_api_Token_At ?_ | refine zLd (ty := 3) rfl hlA ?_ | refine zLd (ty := 9) rfl hlT ?_ | refine zLd (ty := 5) rfl hlK ?_ | refine zLen rfl (hv.len E30) ?_ | refine zLen rfl (hv3.len E30) ?_ | refine zIdx rfl rfl ha' ?_ | refine zLd (ty := 3) rfl hlA' ?_ | refine zLd (ty := 9) rfl hlT' ?_ | refine zLd (ty := 5) rfl hlK' ?_)
      exact WP.ret ⟨.inr rfl, _, rfl, rfl⟩
    have g2 : decide ((t.size : Int) > 20000) = false := decide_eq_false (by omega)
    (repeat first | refine zSeq ?_ | refine zReg ?_ | refine zBlk ?_ | refine zSkp ?_ | refine zExt ?_ | refine zNil rfl ?_ | refine zGet rfl ?_ | refine zOn rfl rfl ?_ | refine zOff rfl rfl ?_ | refine zU rfl ?_ | refine zOn rfl (by assumption) ?_ | refine zOff rfl (by assumption) ?_ | refine zMov rfl ?_ | refine zAsg rfl ?_ | refine zXtr rfl ?_ | refine zPT rfl rfl rfl ?_ | refine zPF rfl rfl rfl ?_ | refine zPT rfl (by assumption) rfl ?_ | refine zPF rfl (by assumption) rfl ?_ | refine zLss rfl rfl ?_ | refine zLeq rfl rfl ?_ | refine zGtr rfl rfl ?_ | refine zGeq rfl rfl ?_ | refine zEql rfl rfl ?_ | refine zNeq rfl rfl ?_ | refine zAdd rfl rfl (by omega) ?_ | refine zSub rfl rfl (by omega) ?_ | refine zLenS rfl E_string ?_ | refine zNot rfl ?_ | refine zEqS rfl rfl ?_ | refine zNeS rfl rfl ?_ | refine zT rfl rfl ?_ | refine zF rfl rfl ?_ | refine zT rfl (by assumption) ?_ | refine zF rfl (by assumption) ?_ | refine WL.op (o := .index _ _ _) (op_indexS rfl rfl E_string hix hx) ?_ | refine zIdx rfl rfl ha ?_ | refine zFld (f := 0) rfl O_api_Token_Kind ?_ | refine zFld (f := 1) rfl O_api_Token_Text ?_ | refine zFld (f := 2) rfl O_api_Token_At ?_ | refine zLd (ty := 3) rfl hlA ?_ | refine zLd (ty := 9) rfl hlT ?_ | refine zLd (ty := 5) rfl hlK ?_ | refine zLen rfl (hv.len E30) ?_ | refine zLen rfl (hv3.len E30) ?_ | refine zIdx rfl rfl ha' ?_ | refine zLd (ty := 3) rfl hlA' ?_ | refine zLd (ty := 9) rfl hlT' ?_ | refine zLd (ty := 5) rfl hlK' ?_)
    refine WL.call rfl rfl fn8 (works (.refl _)) ?_
    (repeat first | refine zSeq ?_ | refine zReg ?_ | refine zBlk ?_ | refine zSkp ?_ | refine zExt ?_ | refine zNil rfl ?_ | refine zGet rfl ?_ | refine zOn rfl rfl ?_ | refine zOff rfl rfl ?_ | refine zU rfl ?_ | refine zOn rfl (by assumption) ?_ | refine zOff rfl (by assumption) ?_ | refine zMov rfl ?_ | refine zAsg rfl ?_ | refine zXtr rfl ?_ | refine zPT rfl rfl rfl ?_ | refine zPF rfl rfl rfl ?_ | refine zPT rfl (by assumption) rfl ?_ | refine zPF rfl (by assumption) rfl ?_ | refine zLss rfl rfl ?_ | refine zLeq rfl rfl ?_ | refine zGtr rfl rfl ?_ | refine zGeq rfl rfl ?_ | refine zEql rfl rfl ?_ | refine zNeq rfl rfl ?_ | refine zAdd rfl rfl (by omega) ?_ | refine zSub rfl rfl (by omega) ?_ | refine zLenS rfl E_string ?_ | refine zNot rfl ?_ | refine zEqS rfl rfl ?_ | refine zNeS rfl rfl ?_ | refine zT rfl rfl ?_ | refine zF rfl rfl ?_ | refine zT rfl (by assumption) ?_ | refine zF rfl (by assumption) ?_ | refine WL.op (o := .index _ _ _) (op_indexS rfl rfl E_string hix hx) ?_ | refine zIdx rfl rfl ha ?_ | refine zFld (f := 0) rfl O_api_Token_Kind ?_ | refine zFld (f := 1) rfl O_api_Token_Text ?_ | refine zFld (f := 2) rfl O_api_Token_At ?_ | refine zLd (ty := 3) rfl hlA ?_ | refine zLd (ty := 9) rfl hlT ?_ | refine zLd (ty := 5) rfl hlK ?_ | refine zLen rfl (hv.len E30) ?_ | refine zLen rfl (hv3.len E30) ?_ | refine zIdx rfl rfl ha' ?_ | refine zLd (ty := 3) rfl hlA' ?_ | refine zLd (ty := 9) rfl hlT' ?_ | refine zLd (ty := 5) rfl hlK' ?_)
    have hsz : s.size = s.data.toList.length := rfl
    have htz : t.size = t.data.toList.length := rfl
    obtain ⟨v1, H1, o1, ht1, hf1, hw1⟩ := tokens_c (H := H) hO hS hs
    refine WL.call rfl rfl is_lex_Tokens ht1 ?_
    (repeat first | refine zSeq ?_ | refine zReg ?_ | refine zBlk ?_ | refine zSkp ?_ | refine zExt ?_ | refine zNil rfl ?_ | refine zGet rfl ?_ | refine zOn rfl rfl ?_ | refine zOff rfl rfl ?_ | refine zU rfl ?_ | refine zOn rfl (by assumption) ?_ | refine zOff rfl (by assumption) ?_ | refine zMov rfl ?_ | refine zAsg rfl ?_ | refine zXtr rfl ?_ | refine zPT rfl rfl rfl ?_ | refine zPF rfl rfl rfl ?_ | refine zPT rfl (by assumption) rfl ?_ | refine zPF rfl (by assumption) rfl ?_ | refine zLss rfl rfl ?_ | refine zLeq rfl rfl ?_ | refine zGtr rfl rfl ?_ | refine zGeq rfl rfl ?_ | refine zEql rfl rfl ?_ | refine zNeq rfl rfl ?_ | refine zAdd rfl rfl (by omega) ?_ | refine zSub rfl rfl (by omega) ?_ | refine zLenS rfl E_string ?_ | refine zNot rfl ?_ | refine zEqS rfl rfl ?_ | refine zNeS rfl rfl ?_ | refine zT rfl rfl ?_ | refine zF rfl rfl ?_ | refine zT rfl (by assumption) ?_ | refine zF rfl (by assumption) ?_ | refine WL.op (o := .index _ _ _) (op_indexS rfl rfl E_string hix hx) ?_ | refine zIdx rfl rfl ha ?_ | refine zFld (f := 0) rfl O_api_Token_Kind ?_ | refine zFld (f := 1) rfl O_api_Token_Text ?_ | refine zFld (f := 2) rfl O_api_Token_At ?_ | refine zLd (ty := 3) rfl hlA ?_ | refine zLd (ty := 9) rfl hlT ?_ | refine zLd (ty := 5) rfl hlK ?_ | refine zLen rfl (hv.len E30) ?_ | refine zLen rfl (hv3.len E30) ?_ | refine zIdx rfl rfl ha' ?_ | refine zLd (ty := 3) rfl hlA' ?_ | refine zLd (ty := 9) rfl hlT' ?_ | refine zLd (ty := 5) rfl hlK' ?_)
    obtain ⟨v2, H2, o2, ht2, hf2, hw2⟩ := tokens_c (H := H1) hO (hS.fr hf1) ht
    refine WL.call rfl rfl is_lex_Tokens ht2 ?_
    clear ht1 ht2
    generalize hls : s.data.toList = ls at hsz hw1
    generalize hlt : t.data.toList = lt at htz hw2
    rcases lexR_cases (l := ls) (by omega) with ⟨ts, hts, hR1⟩ | ⟨p, hts, hR1⟩
    rotate_left
    · rw [hR1]
      (repeat first | refine zSeq ?_ | refine zReg ?_ | refine zBlk ?_ | refine zSkp ?_ | refine zExt ?_ | refine zNil rfl ?_ | refine zGet rfl ?_ | refine zOn rfl rfl ?_ | refine zOff rfl rfl ?_ | refine zU rfl ?_ | refine zOn rfl (by assumption) ?_ | refine zOff rfl (by assumption) ?_ | refine zMov rfl ?_ | refine zAsg rfl ?_ | refine zXtr rfl ?_ | refine zPT rfl rfl rfl ?_ | refine zPF rfl rfl rfl ?_ | refine zPT rfl (by assumption) rfl ?_ | refine zPF rfl (by assumption) rfl ?_ | refine zLss rfl rfl ?_ | refine zLeq rfl rfl ?_ | refine zGtr rfl rfl ?_ | refine zGeq rfl rfl ?_ | refine zEql rfl rfl ?_ | refine zNeq rfl rfl ?_ | refine zAdd rfl rfl (by omega) ?_ | refine zSub rfl rfl (by omega) ?_ | refine zLenS rfl E_string ?_ | refine zNot rfl ?_ | refine zEqS rfl rfl ?_ | refine zNeS rfl rfl ?_ | refine zT rfl rfl ?_ | refine zF rfl rfl ?_ | refine zT rfl (by assumption) ?_ | refine zF rfl (by assumption) ?_ | refine WL.op (o := .index _ _ _) (op_indexS rfl rfl E_string hix hx) ?_ | refine zIdx rfl rfl ha ?_ | refine zFld (f := 0) rfl O_api_Token_Kind ?_ | refine zFld (f := 1) rfl O_api_Token_Text ?_ | refine zFld (f := 2) rfl O_api_Token_At ?_ | refine zLd (ty := 3) rfl hlA ?_ | refine zLd (ty := 9) rfl hlT ?_ | refine zLd (ty := 5) rfl hlK ?_ | refine zLen rfl (hv.len E30) ?_ | refine zLen rfl (hv3.len E30) ?_ | refine zIdx rfl rfl ha' ?_ | refine zLd (ty := 3) rfl hlA' ?_ | refine zLd (ty := 9) rfl hlT' ?_ | refine zLd (ty := 5) rfl hlK' ?_)
      exact WP.ret ⟨.inr rfl, _, rfl, rfl⟩
    rw [hR1] at hw1 ⊢
    simp only at hw1
    have hv := hw1.sl.fr hf2
    have hcov := cov_ok hts
    have hag := again_len hts
    have htl := toks_len hts
    have ht62 := hv.2.1
    (repeat first | refine zReg ?_ | refine zSkp ?_ | refine zExt ?_ | refine zNil rfl ?_ | refine zGet rfl ?_ | refine zOn rfl rfl ?_ | refine zOff rfl rfl ?_ | refine zU rfl ?_ | refine zOn rfl (by assumption) ?_ | refine zOff rfl (by assumption) ?_ | refine zMov rfl ?_ | refine zAsg rfl ?_ | refine zXtr rfl ?_ | refine zPT rfl rfl rfl ?_ | refine zPF rfl rfl rfl ?_ | refine zPT rfl (by assumption) rfl ?_ | refine zPF rfl (by assumption) rfl ?_ | refine zLss rfl rfl ?_ | refine zLeq rfl rfl ?_ | refine zGtr rfl rfl ?_ | refine zGeq rfl rfl ?_ | refine zEql rfl rfl ?_ | refine zNeq rfl rfl ?_ | refine zAdd rfl rfl (by omega) ?_ | refine zSub rfl rfl (by omega) ?_ | refine zLenS rfl E_string ?_ | refine zNot rfl ?_ | refine zEqS rfl rfl ?_ | refine zNeS rfl rfl ?_ | refine zT rfl rfl ?_ | refine zF rfl rfl ?_ | refine zT rfl (by assumption) ?_ | refine zF rfl (by assumption) ?_ | refine WL.op (o := .index _ _ _) (op_indexS rfl rfl E_string hix hx) ?_ | refine zIdx rfl rfl ha ?_ | refine zFld (f := 0) rfl O_api_Token_Kind ?_ | refine zFld (f := 1) rfl O_api_Token_Text ?_ | refine zFld (f := 2) rfl O_api_Token_At ?_ | refine zLd (ty := 3) rfl hlA ?_ | refine zLd (ty := 9) rfl hlT ?_ | refine zLd (ty := 5) rfl hlK ?_ | refine zLen rfl (hv.len E30) ?_ | refine zLen rfl (hv3.len E30) ?_ | refine zIdx rfl rfl ha' ?_ | refine zLd (ty := 3) rfl hlA' ?_ | refine zLd (ty := 9) rfl hlT' ?_ | refine zLd (ty := 5) rfl hlK' ?_)
    refine WP.seq ?_
    (repeat first | refine zReg ?_ | refine zSkp ?_ | refine zExt ?_ | refine zNil rfl ?_ | refine zGet rfl ?_ | refine zOn rfl rfl ?_ | refine zOff rfl rfl ?_ | refine zU rfl ?_ | refine zOn rfl (by assumption) ?_ | refine zOff rfl (by assumption) ?_ | refine zMov rfl ?_ | refine zAsg rfl ?_ | refine zXtr rfl ?_ | refine zPT rfl rfl rfl ?_ | refine zPF rfl rfl rfl ?_ | refine zPT rfl (by assumption) rfl ?_ | refine zPF rfl (by assumption) rfl ?_ | refine zLss rfl rfl ?_ | refine zLeq rfl rfl ?_ | refine zGtr rfl rfl ?_ | refine zGeq rfl rfl ?_ | refine zEql rfl rfl ?_ | refine zNeq rfl rfl ?_ | refine zAdd rfl rfl (by omega) ?_ | refine zSub rfl rfl (by omega) ?_ | refine zLenS rfl E_string ?_ | refine zNot rfl ?_ | refine zEqS rfl rfl ?_ | refine zNeS rfl rfl ?_ | refine zT rfl rfl ?_ | refine zF rfl rfl ?_ | refine zT rfl (by assumption) ?_ | refine zF rfl (by assumption) ?_ | refine WL.op (o := .index _ _ _) (op_indexS rfl rfl E_string hix hx) ?_ | refine zIdx rfl rfl ha ?_ | refine zFld (f := 0) rfl O_api_Token_Kind ?_ | refine zFld (f := 1) rfl O_api_Token_Text ?_ | refine zFld (f := 2) rfl O_api_Token_At ?_ | refine zLd (ty := 3) rfl hlA ?_ | refine zLd (ty := 9) rfl hlT ?_ | refine zLd (ty := 5) rfl hlK ?_ | refine zLen rfl (hv.len E30) ?_ | refine zLen rfl (hv3.len E30) ?_ | refine zIdx rfl rfl ha' ?_ | refine zLd (ty := 3) rfl hlA' ?_ | refine zLd (ty := 9) rfl hlT' ?_ | refine zLd (ty := 5) rfl hlK' ?_)
    refine WP.seq ?_
    (repeat first | refine zReg ?_ | refine zSkp ?_ | refine zExt ?_ | refine zNil rfl ?_ | refine zGet rfl ?_ | refine zOn rfl rfl ?_ | refine zOff rfl rfl ?_ | refine zU rfl ?_ | refine zOn rfl (by assumption) ?_ | refine zOff rfl (by assumption) ?_ | refine zMov rfl ?_ | refine zAsg rfl ?_ | refine zXtr rfl ?_ | refine zPT rfl rfl rfl ?_ | refine zPF rfl rfl rfl ?_ | refine zPT rfl (by assumption) rfl ?_ | refine zPF rfl (by assumption) rfl ?_ | refine zLss rfl rfl ?_ | refine zLeq rfl rfl ?_ | refine zGtr rfl rfl ?_ | refine zGeq rfl rfl ?_ | refine zEql rfl rfl ?_ | refine zNeq rfl rfl ?_ | refine zAdd rfl rfl (by omega) ?_ | refine zSub rfl rfl (by omega) ?_ | refine zLenS rfl E_string ?_ | refine zNot rfl ?_ | refine zEqS rfl rfl ?_ | refine zNeS rfl rfl ?_ | refine zT rfl rfl ?_ | refine zF rfl rfl ?_ | refine zT rfl (by assumption) ?_ | refine zF rfl (by assumption) ?_ | refine WL.op (o := .index _ _ _) (op_indexS rfl rfl E_string hix hx) ?_ | refine zIdx rfl rfl ha ?_ | refine zFld (f := 0) rfl O_api_Token_Kind ?_ | refine zFld (f := 1) rfl O_api_Token_Text ?_ | refine zFld (f := 2) rfl O_api_Token_At ?_ | refine zLd (ty := 3) rfl hlA ?_ | refine zLd (ty := 9) rfl hlT ?_ | refine zLd (ty := 5) rfl hlK ?_ | refine zLen rfl (hv.len E30) ?_ | refine zLen rfl (hv3.len E30) ?_ | refine zIdx rfl rfl ha' ?_ | refine zLd (ty := 3) rfl hlA' ?_ | refine zLd (ty := 9) rfl hlT' ?_ | refine zLd (ty := 5) rfl hlK' ?_)
    refine WP.seq ?_
    (repeat first | refine zReg ?_ | refine zSkp ?_ | refine zExt ?_ | refine zNil rfl ?_ | refine zGet rfl ?_ | refine zOn rfl rfl ?_ | refine zOff rfl rfl ?_ | refine zU rfl ?_ | refine zOn rfl (by assumption) ?_ | refine zOff rfl (by assumption) ?_ | refine zMov rfl ?_ | refine zAsg rfl ?_ | refine zXtr rfl ?_ | refine zPT rfl rfl rfl ?_ | refine zPF rfl rfl rfl ?_ | refine zPT rfl (by assumption) rfl ?_ | refine zPF rfl (by assumption) rfl ?_ | refine zLss rfl rfl ?_ | refine zLeq rfl rfl ?_ | refine zGtr rfl rfl ?_ | refine zGeq rfl rfl ?_ | refine zEql rfl rfl ?_ | refine zNeq rfl rfl ?_ | refine zAdd rfl rfl (by omega) ?_ | refine zSub rfl rfl (by omega) ?_ | refine zLenS rfl E_string ?_ | refine zNot rfl ?_ | refine zEqS rfl rfl ?_ | refine zNeS rfl rfl ?_ | refine zT rfl rfl ?_ | refine zF rfl rfl ?_ | refine zT rfl (by assumption) ?_ | refine zF rfl (by assumption) ?_ | refine WL.op (o := .index _ _ _) (op_indexS rfl rfl E_string hix hx) ?_ | refine zIdx rfl rfl ha ?_ | refine zFld (f := 0) rfl O_api_Token_Kind ?_ | refine zFld (f := 1) rfl O_api_Token_Text ?_ | refine zFld (f := 2) rfl O_api_Token_At ?_ | refine zLd (ty := 3) rfl hlA ?_ | refine zLd (ty := 9) rfl hlT ?_ | refine zLd (ty := 5) rfl hlK ?_ | refine zLen rfl (hv.len E30) ?_ | refine zLen rfl (hv3.len E30) ?_ | refine zIdx rfl rfl ha' ?_ | refine zLd (ty := 3) rfl hlA' ?_ | refine zLd (ty := 9) rfl hlT' ?_ | refine zLd (ty := 5) rfl hlK' ?_)
    refine WP.seq ?_
    (repeat first | refine zReg ?_ | refine zSkp ?_ | refine zExt ?_ | refine zNil rfl ?_ | refine zGet rfl ?_ | refine zOn rfl rfl ?_ | refine zOff rfl rfl ?_ | refine zU rfl ?_ | refine zOn rfl (by assumption) ?_ | refine zOff rfl (by assumption) ?_ | refine zMov rfl ?_ | refine zAsg rfl ?_ | refine zXtr rfl ?_ | refine zPT rfl rfl rfl ?_ | refine zPF rfl rfl rfl ?_ | refine zPT rfl (by assumption) rfl ?_ | refine zPF rfl (by assumption) rfl ?_ | refine zLss rfl rfl ?_ | refine zLeq rfl rfl ?_ | refine zGtr rfl rfl ?_ | refine zGeq rfl rfl ?_ | refine zEql rfl rfl ?_ | refine zNeq rfl rfl ?_ | refine zAdd rfl rfl (by omega) ?_ | refine zSub rfl rfl (by omega) ?_ | refine zLenS rfl E_string ?_ | refine zNot rfl ?_ | refine zEqS rfl rfl ?_ | refine zNeS rfl rfl ?_ | refine zT rfl rfl ?_ | refine zF rfl rfl ?_ | refine zT rfl (by assumption) ?_ | refine zF rfl (by assumption) ?_ | refine WL.op (o := .index _ _ _) (op_indexS rfl rfl E_string hix hx) ?_ | refine zIdx rfl rfl ha ?_ | refine zFld (f := 0) rfl O_api_Token_Kind ?_ | refine zFld (f := 1) rfl O_api_Token_Text ?_ | refine zFld (f := 2) rfl O_api_Token_At ?_ | refine zLd (ty := 3) rfl hlA ?_ | refine zLd (ty := 9) rfl hlT ?_ | refine zLd (ty := 5) rfl hlK ?_ | refine zLen rfl (hv.len E30) ?_ | refine zLen rfl (hv3.len E30) ?_ | refine zIdx rfl rfl ha' ?_ | refine zLd (ty := 3) rfl hlA' ?_ | refine zLd (ty := 9) rfl hlT' ?_ | refine zLd (ty := 5) rfl hlK' ?_)
    refine WP.seqS (σ := Nat) (fun a => [(0, .string s), (1, .string t), (5, v1), (8, v2), (9, .int .i64 (lexR lt).2.1), (10, .int .i64 (lexR lt).2.2), (11, .int .i64 a), (12, .string (str (again ts)))]) (fun a H' => H2 = H' ∧ Cov ls a []) ?_ ?_
    · (repeat first | refine zSeq ?_ | refine zReg ?_ | refine zBlk ?_ | refine zSkp ?_ | refine zExt ?_ | refine zNil rfl ?_ | refine zGet rfl ?_ | refine zOn rfl rfl ?_ | refine zOff rfl rfl ?_ | refine zU rfl ?_ | refine zOn rfl (by assumption) ?_ | refine zOff rfl (by assumption) ?_ | refine zMov rfl ?_ | refine zAsg rfl ?_ | refine zXtr rfl ?_ | refine zPT rfl rfl rfl ?_ | refine zPF rfl rfl rfl ?_ | refine zPT rfl (by assumption) rfl ?_ | refine zPF rfl (by assumption) rfl ?_ | refine zLss rfl rfl ?_ | refine zLeq rfl rfl ?_ | refine zGtr rfl rfl ?_ | refine zGeq rfl rfl ?_ | refine zEql rfl rfl ?_ | refine zNeq rfl rfl ?_ | refine zAdd rfl rfl (by omega) ?_ | refine zSub rfl rfl (by omega) ?_ | refine zLenS rfl E_string ?_ | refine zNot rfl ?_ | refine zEqS rfl rfl ?_ | refine zNeS rfl rfl ?_ | refine zT rfl rfl ?_ | refine zF rfl rfl ?_ | refine zT rfl (by assumption) ?_ | refine zF rfl (by assumption) ?_ | refine WL.op (o := .index _ _ _) (op_indexS rfl rfl E_string hix hx) ?_ | refine zIdx rfl rfl ha ?_ | refine zFld (f := 0) rfl O_api_Token_Kind ?_ | refine zFld (f := 1) rfl O_api_Token_Text ?_ | refine zFld (f := 2) rfl O_api_Token_At ?_ | refine zLd (ty := 3) rfl hlA ?_ | refine zLd (ty := 9) rfl hlT ?_ | refine zLd (ty := 5) rfl hlK ?_ | refine zLen rfl (hv.len E30) ?_ | refine zLen rfl (hv3.len E30) ?_ | refine zIdx rfl rfl ha' ?_ | refine zLd (ty := 3) rfl hlA' ?_ | refine zLd (ty := 9) rfl hlT' ?_ | refine zLd (ty := 5) rfl hlK' ?_)
      refine WP.loopH (σ := Nat × Nat) (fun x => [(0, .string s), (1, .string t), (5, v1), (8, v2), (9, .int .i64 (lexR lt).2.1), (10, .int .i64 (lexR lt).2.2), (11, .int .i64 x.2), (12, .string (str (again (ts.take x.1)))), (13, .int .i64 x.1)])
        (fun x H' => H2 = H' ∧ x.1 ≤ ts.length ∧ Cov ls x.2 (ts.drop x.1)) (fun x => ts.length - x.1) (0, 0) ⟨rfl, by simp, hcov⟩ ⟨rfl, rfl, rfl, rfl, rfl, rfl, rfl, rfl, rfl, trivial⟩ ?_
      rintro ⟨i, a⟩ _ ⟨rfl, hi, hc⟩
      simp only at hi hc ⊢
      rcases Nat.lt_or_ge i ts.length with h3 | h3
      rotate_left
      · have g3 : decide ((i : Int) < ts.length) = false := decide_eq_false (by omega)
        (repeat first | refine zSeq ?_ | refine zReg ?_ | refine zBlk ?_ | refine zSkp ?_ | refine zExt ?_ | refine zNil rfl ?_ | refine zGet rfl ?_ | refine zOn rfl rfl ?_ | refine zOff rfl rfl ?_ | refine zU rfl ?_ | refine zOn rfl (by assumption) ?_ | refine zOff rfl (by assumption) ?_ | refine zMov rfl ?_ | refine zAsg rfl ?_ | refine zXtr rfl ?_ | refine zPT rfl rfl rfl ?_ | refine zPF rfl rfl rfl ?_ | refine zPT rfl (by assumption) rfl ?_ | refine zPF rfl (by assumption) rfl ?_ | refine zLss rfl rfl ?_ | refine zLeq rfl rfl ?_ | refine zGtr rfl rfl ?_ | refine zGeq rfl rfl ?_ | refine zEql rfl rfl ?_ | refine zNeq rfl rfl ?_ | refine zAdd rfl rfl (by omega) ?_ | refine zSub rfl rfl (by omega) ?_ | refine zLenS rfl E_string ?_ | refine zNot rfl ?_ | refine zEqS rfl rfl ?_ | refine zNeS rfl rfl ?_ | refine zT rfl rfl ?_ | refine zF rfl rfl ?_ | refine zT rfl (by assumption) ?_ | refine zF rfl (by assumption) ?_ | refine WL.op (o := .index _ _ _) (op_indexS rfl rfl E_string hix hx) ?_ | refine zIdx rfl rfl ha ?_ | refine zFld (f := 0) rfl O_api_Token_Kind ?_ | refine zFld (f := 1) rfl O_api_Token_Text ?_ | refine zFld (f := 2) rfl O_api_Token_At ?_ | refine zLd (ty := 3) rfl hlA ?_ | refine zLd (ty := 9) rfl hlT ?_ | refine zLd (ty := 5) rfl hlK ?_ | refine zLen rfl (hv.len E30) ?_ | refine zLen rfl (hv3.len E30) ?_ | refine zIdx rfl rfl ha' ?_ | refine zLd (ty := 3) rfl hlA' ?_ | refine zLd (ty := 9) rfl hlT' ?_ | refine zLd (ty := 5) rfl hlK' ?_)
        rw [List.drop_eq_nil_iff.2 h3] at hc
        rw [List.take_of_length_le h3]
        exact ⟨a, ⟨rfl, hc⟩, rfl, rfl, rfl, rfl, rfl, rfl, rfl, rfl, trivial⟩
      have g3 : decide ((i : Int) < ts.length) = true := decide_eq_true (by omega)
      obtain ⟨c1, c2, c3, c4, c5, c6⟩ := cov_at h3 hc
      have hat := again_take h3
      have hal := again_take_len (ts := ts) i
      have hal2 := again_take_len (ts := ts) (i + 1)
      obtain ⟨b, off, ha, hlK, hlT, hlA⟩ := sl_at hv h3
      generalize ts[i] = tk at c1 c2 c3 c4 c5 c6 hat hlK hlT hlA
      have hz : (str tk.text).size = tk.text.length := rfl
      have g4 : decide ((tk.at_ : Int) < a) = false := decide_eq_false (by omega)
      have g5 : (idleRun false (s.extract (a : Int).toNat (tk.at_ : Int).toNat).data.toList).isSome = true := by
        rw [ext_list, hls]
        show (idleRun false ((ls.drop a).take (tk.at_ - a))).isSome = true
        rw [← List.drop_take]; exact c3
      have g6 : ((str tk.text).data.toList == (⟨⟨[]⟩⟩ : ByteArray).data.toList) = false := by
        rw [beq_eq_false_iff_ne]; exact c4
      have g7 : (!((s.extract (tk.at_ : Int).toNat ((tk.at_ : Int) + ((str tk.text).size : Int)).toNat).data.toList == (str tk.text).data.toList)) = false := by
        have e1 : ((tk.at_ : Int) + ((str tk.text).size : Int)).toNat = tk.at_ + tk.text.length := rfl
        rw [e1, ext_list, hls, show (tk.at_ : Int).toNat = tk.at_ from rfl, Nat.add_sub_cancel_left, c5]
        show (!(tk.text == tk.text)) = false
        simp
      (repeat first | refine zReg ?_ | refine zSkp ?_ | refine zExt ?_ | refine zNil rfl ?_ | refine zGet rfl ?_ | refine zOn rfl rfl ?_ | refine zOff rfl rfl ?_ | refine zU rfl ?_ | refine zOn rfl (by assumption) ?_ | refine zOff rfl (by assumption) ?_ | refine zMov rfl ?_ | refine zAsg rfl ?_ | refine zXtr rfl ?_ | refine zPT rfl rfl rfl ?_ | refine zPF rfl rfl rfl ?_ | refine zPT rfl (by assumption) rfl ?_ | refine zPF rfl (by assumption) rfl ?_ | refine zLss rfl rfl ?_ | refine zLeq rfl rfl ?_ | refine zGtr rfl rfl ?_ | refine zGeq rfl rfl ?_ | refine zEql rfl rfl ?_ | refine zNeq rfl rfl ?_ | refine zAdd rfl rfl (by omega) ?_ | refine zSub rfl rfl (by omega) ?_ | refine zLenS rfl E_string ?_ | refine zNot rfl ?_ | refine zEqS rfl rfl ?_ | refine zNeS rfl rfl ?_ | refine zT rfl rfl ?_ | refine zF rfl rfl ?_ | refine zT rfl (by assumption) ?_ | refine zF rfl (by assumption) ?_ | refine WL.op (o := .index _ _ _) (op_indexS rfl rfl E_string hix hx) ?_ | refine zIdx rfl rfl ha ?_ | refine zFld (f := 0) rfl O_api_Token_Kind ?_ | refine zFld (f := 1) rfl O_api_Token_Text ?_ | refine zFld (f := 2) rfl O_api_Token_At ?_ | refine zLd (ty := 3) rfl hlA ?_ | refine zLd (ty := 9) rfl hlT ?_ | refine zLd (ty := 5) rfl hlK ?_ | refine zLen rfl (hv.len E30) ?_ | refine zLen rfl (hv3.len E30) ?_ | refine zIdx rfl rfl ha' ?_ | refine zLd (ty := 3) rfl hlA' ?_ | refine zLd (ty := 9) rfl hlT' ?_ | refine zLd (ty := 5) rfl hlK' ?_)
      refine WP.seq ?_
      refine WP.seq ?_
      (repeat first | refine zReg ?_ | refine zSkp ?_ | refine zExt ?_ | refine zNil rfl ?_ | refine zGet rfl ?_ | refine zOn rfl rfl ?_ | refine zOff rfl rfl ?_ | refine zU rfl ?_ | refine zOn rfl (by assumption) ?_ | refine zOff rfl (by assumption) ?_ | refine zMov rfl ?_ | refine zAsg rfl ?_ | refine zXtr rfl ?_ | refine zPT rfl rfl rfl ?_ | refine zPF rfl rfl rfl ?_ | refine zPT rfl (by assumption) rfl ?_ | refine zPF rfl (by assumption) rfl ?_ | refine zLss rfl rfl ?_ | refine zLeq rfl rfl ?_ | refine zGtr rfl rfl ?_ | refine zGeq rfl rfl ?_ | refine zEql rfl rfl ?_ | refine zNeq rfl rfl ?_ | refine zAdd rfl rfl (by omega) ?_ | refine zSub rfl rfl (by omega) ?_ | refine zLenS rfl E_string ?_ | refine zNot rfl ?_ | refine zEqS rfl rfl ?_ | refine zNeS rfl rfl ?_ | refine zT rfl rfl ?_ | refine zF rfl rfl ?_ | refine zT rfl (by assumption) ?_ | refine zF rfl (by assumption) ?_ | refine WL.op (o := .index _ _ _) (op_indexS rfl rfl E_string hix hx) ?_ | refine zIdx rfl rfl ha ?_ | refine zFld (f := 0) rfl O_api_Token_Kind ?_ | refine zFld (f := 1) rfl O_api_Token_Text ?_ | refine zFld (f := 2) rfl O_api_Token_At ?_ | refine zLd (ty := 3) rfl hlA ?_ | refine zLd (ty := 9) rfl hlT ?_ | refine zLd (ty := 5) rfl hlK ?_ | refine zLen rfl (hv.len E30) ?_ | refine zLen rfl (hv3.len E30) ?_ | refine zIdx rfl rfl ha' ?_ | refine zLd (ty := 3) rfl hlA' ?_ | refine zLd (ty := 9) rfl hlT' ?_ | refine zLd (ty := 5) rfl hlK' ?_)
      refine WP.seq ?_
      (repeat first | refine zReg ?_ | refine zSkp ?_ | refine zExt ?_ | refine zNil rfl ?_ | refine zGet rfl ?_ | refine zOn rfl rfl ?_ | refine zOff rfl rfl ?_ | refine zU rfl ?_ | refine zOn rfl (by assumption) ?_ | refine zOff rfl (by assumption) ?_ | refine zMov rfl ?_ | refine zAsg rfl ?_ | refine zXtr rfl ?_ | refine zPT rfl rfl rfl ?_ | refine zPF rfl rfl rfl ?_ | refine zPT rfl (by assumption) rfl ?_ | refine zPF rfl (by assumption) rfl ?_ | refine zLss rfl rfl ?_ | refine zLeq rfl rfl ?_ | refine zGtr rfl rfl ?_ | refine zGeq rfl rfl ?_ | refine zEql rfl rfl ?_ | refine zNeq rfl rfl ?_ | refine zAdd rfl rfl (by omega) ?_ | refine zSub rfl rfl (by omega) ?_ | refine zLenS rfl E_string ?_ | refine zNot rfl ?_ | refine zEqS rfl rfl ?_ | refine zNeS rfl rfl ?_ | refine zT rfl rfl ?_ | refine zF rfl rfl ?_ | refine zT rfl (by assumption) ?_ | refine zF rfl (by assumption) ?_ | refine WL.op (o := .index _ _ _) (op_indexS rfl rfl E_string hix hx) ?_ | refine zIdx rfl rfl ha ?_ | refine zFld (f := 0) rfl O_api_Token_Kind ?_ | refine zFld (f := 1) rfl O_api_Token_Text ?_ | refine zFld (f := 2) rfl O_api_Token_At ?_ | refine zLd (ty := 3) rfl hlA ?_ | refine zLd (ty := 9) rfl hlT ?_ | refine zLd (ty := 5) rfl hlK ?_ | refine zLen rfl (hv.len E30) ?_ | refine zLen rfl (hv3.len E30) ?_ | refine zIdx rfl rfl ha' ?_ | refine zLd (ty := 3) rfl hlA' ?_ | refine zLd (ty := 9) rfl hlT' ?_ | refine zLd (ty := 5) rfl hlK' ?_)
      (repeat first | refine zSeq ?_ | refine zReg ?_ | refine zBlk ?_ | refine zSkp ?_ | refine zExt ?_ | refine zNil rfl ?_ | refine zGet rfl ?_ | refine zOn rfl rfl ?_ | refine zOff rfl rfl ?_ | refine zU rfl ?_ | refine zOn rfl (by assumption) ?_ | refine zOff rfl (by assumption) ?_ | refine zMov rfl ?_ | refine zAsg rfl ?_ | refine zXtr rfl ?_ | refine zPT rfl rfl rfl ?_ | refine zPF rfl rfl rfl ?_ | refine zPT rfl (by assumption) rfl ?_ | refine zPF rfl (by assumption) rfl ?_ | refine zLss rfl rfl ?_ | refine zLeq rfl rfl ?_ | refine zGtr rfl rfl ?_ | refine zGeq rfl rfl ?_ | refine zEql rfl rfl ?_ | refine zNeq rfl rfl ?_ | refine zAdd rfl rfl (by omega) ?_ | refine zSub rfl rfl (by omega) ?_ | refine zLenS rfl E_string ?_ | refine zNot rfl ?_ | refine zEqS rfl rfl ?_ | refine zNeS rfl rfl ?_ | refine zT rfl rfl ?_ | refine zF rfl rfl ?_ | refine zT rfl (by assumption) ?_ | refine zF rfl (by assumption) ?_ | refine WL.op (o := .index _ _ _) (op_indexS rfl rfl E_string hix hx) ?_ | refine zIdx rfl rfl ha ?_ | refine zFld (f := 0) rfl O_api_Token_Kind ?_ | refine zFld (f := 1) rfl O_api_Token_Text ?_ | refine zFld (f := 2) rfl O_api_Token_At ?_ | refine zLd (ty := 3) rfl hlA ?_ | refine zLd (ty := 9) rfl hlT ?_ | refine zLd (ty := 5) rfl hlK ?_ | refine zLen rfl (hv.len E30) ?_ | refine zLen rfl (hv3.len E30) ?_ | refine zIdx rfl rfl ha' ?_ | refine zLd (ty := 3) rfl hlA' ?_ | refine zLd (ty := 9) rfl hlT' ?_ | refine zLd (ty := 5) rfl hlK' ?_)
      have hex : ∀ a b, (s.extract a b).size ≤ maxLen := fun a b => by rw [ByteArray.size_extract]; omega
      refine WL.op (op_sliceS2 rfl rfl rfl E_string (by omega) (by omega) (by omega)) ?_
      (repeat first | refine zSeq ?_ | refine zReg ?_ | refine zBlk ?_ | refine zSkp ?_ | refine zExt ?_ | refine zNil rfl ?_ | refine zGet rfl ?_ | refine zOn rfl rfl ?_ | refine zOff rfl rfl ?_ | refine zU rfl ?_ | refine zOn rfl (by assumption) ?_ | refine zOff rfl (by assumption) ?_ | refine zMov rfl ?_ | refine zAsg rfl ?_ | refine zXtr rfl ?_ | refine zPT rfl rfl rfl ?_ | refine zPF rfl rfl rfl ?_ | refine zPT rfl (by assumption) rfl ?_ | refine zPF rfl (by assumption) rfl ?_ | refine zLss rfl rfl ?_ | refine zLeq rfl rfl ?_ | refine zGtr rfl rfl ?_ | refine zGeq rfl rfl ?_ | refine zEql rfl rfl ?_ | refine zNeq rfl rfl ?_ | refine zAdd rfl rfl (by omega) ?_ | refine zSub rfl rfl (by omega) ?_ | refine zLenS rfl E_string ?_ | refine zNot rfl ?_ | refine zEqS rfl rfl ?_ | refine zNeS rfl rfl ?_ | refine zT rfl rfl ?_ | refine zF rfl rfl ?_ | refine zT rfl (by assumption) ?_ | refine zF rfl (by assumption) ?_ | refine WL.op (o := .index _ _ _) (op_indexS rfl rfl E_string hix hx) ?_ | refine zIdx rfl rfl ha ?_ | refine zFld (f := 0) rfl O_api_Token_Kind ?_ | refine zFld (f := 1) rfl O_api_Token_Text ?_ | refine zFld (f := 2) rfl O_api_Token_At ?_ | refine zLd (ty := 3) rfl hlA ?_ | refine zLd (ty := 9) rfl hlT ?_ | refine zLd (ty := 5) rfl hlK ?_ | refine zLen rfl (hv.len E30) ?_ | refine zLen rfl (hv3.len E30) ?_ | refine zIdx rfl rfl ha' ?_ | refine zLd (ty := 3) rfl hlA' ?_ | refine zLd (ty := 9) rfl hlT' ?_ | refine zLd (ty := 5) rfl hlK' ?_)
      refine WL.call rfl rfl is_ref01_Idle (idle_c hO (hex _ _)) ?_
      rw [g5]
      (repeat first | refine zSeq ?_ | refine zReg ?_ | refine zBlk ?_ | refine zSkp ?_ | refine zExt ?_ | refine zNil rfl ?_ | refine zGet rfl ?_ | refine zOn rfl rfl ?_ | refine zOff rfl rfl ?_ | refine zU rfl ?_ | refine zOn rfl (by assumption) ?_ | refine zOff rfl (by assumption) ?_ | refine zMov rfl ?_ | refine zAsg rfl ?_ | refine zXtr rfl ?_ | refine zPT rfl rfl rfl ?_ | refine zPF rfl rfl rfl ?_ | refine zPT rfl (by assumption) rfl ?_ | refine zPF rfl (by assumption) rfl ?_ | refine zLss rfl rfl ?_ | refine zLeq rfl rfl ?_ | refine zGtr rfl rfl ?_ | refine zGeq rfl rfl ?_ | refine zEql rfl rfl ?_ | refine zNeq rfl rfl ?_ | refine zAdd rfl rfl (by omega) ?_ | refine zSub rfl rfl (by omega) ?_ | refine zLenS rfl E_string ?_ | refine zNot rfl ?_ | refine zEqS rfl rfl ?_ | refine zNeS rfl rfl ?_ | refine zT rfl rfl ?_ | refine zF rfl rfl ?_ | refine zT rfl (by assumption) ?_ | refine zF rfl (by assumption) ?_ | refine WL.op (o := .index _ _ _) (op_indexS rfl rfl E_string hix hx) ?_ | refine zIdx rfl rfl ha ?_ | refine zFld (f := 0) rfl O_api_Token_Kind ?_ | refine zFld (f := 1) rfl O_api_Token_Text ?_ | refine zFld (f := 2) rfl O_api_Token_At ?_ | refine zLd (ty := 3) rfl hlA ?_ | refine zLd (ty := 9) rfl hlT ?_ | refine zLd (ty := 5) rfl hlK ?_ | refine zLen rfl (hv.len E30) ?_ | refine zLen rfl (hv3.len E30) ?_ | refine zIdx rfl rfl ha' ?_ | refine zLd (ty := 3) rfl hlA' ?_ | refine zLd (ty := 9) rfl hlT' ?_ | refine zLd (ty := 5) rfl hlK' ?_)
      refine WL.op (op_sliceS2 rfl rfl rfl E_string (by omega) (by omega) (by omega)) ?_
      (repeat first | refine zSeq ?_ | refine zReg ?_ | refine zBlk ?_ | refine zSkp ?_ | refine zExt ?_ | refine zNil rfl ?_ | refine zGet rfl ?_ | refine zOn rfl rfl ?_ | refine zOff rfl rfl ?_ | refine zU rfl ?_ | refine zOn rfl (by assumption) ?_ | refine zOff rfl (by assumption) ?_ | refine zMov rfl ?_ | refine zAsg rfl ?_ | refine zXtr rfl ?_ | refine zPT rfl rfl rfl ?_ | refine zPF rfl rfl rfl ?_ | refine zPT rfl (by assumption) rfl ?_ | refine zPF rfl (by assumption) rfl ?_ | refine zLss rfl rfl ?_ | refine zLeq rfl rfl ?_ | refine zGtr rfl rfl ?_ | refine zGeq rfl rfl ?_ | refine zEql rfl rfl ?_ | refine zNeq rfl rfl ?_ | refine zAdd rfl rfl (by omega) ?_ | refine zSub rfl rfl (by omega) ?_ | refine zLenS rfl E_string ?_ | refine zNot rfl ?_ | refine zEqS rfl rfl ?_ | refine zNeS rfl rfl ?_ | refine zT rfl rfl ?_ | refine zF rfl rfl ?_ | refine zT rfl (by assumption) ?_ | refine zF rfl (by assumption) ?_ | refine WL.op (o := .index _ _ _) (op_indexS rfl rfl E_string hix hx) ?_ | refine zIdx rfl rfl ha ?_ | refine zFld (f := 0) rfl O_api_Token_Kind ?_ | refine zFld (f := 1) rfl O_api_Token_Text ?_ | refine zFld (f := 2) rfl O_api_Token_At ?_ | refine zLd (ty := 3) rfl hlA ?_ | refine zLd (ty := 9) rfl hlT ?_ | refine zLd (ty := 5) rfl hlK ?_ | refine zLen rfl (hv.len E30) ?_ | refine zLen rfl (hv3.len E30) ?_ | refine zIdx rfl rfl ha' ?_ | refine zLd (ty := 3) rfl hlA' ?_ | refine zLd (ty := 9) rfl hlT' ?_ | refine zLd (ty := 5) rfl hlK' ?_)
      have z1 : (str (again (ts.take i))).size = (again (ts.take i)).length := rfl
      refine WL.op (o := .binOp .add _ _ _ _) (op_addS rfl rfl (by omega)) ?_
      rw [app_str]
      have z2 : (str (again (ts.take i) ++ tk.text)).size = (again (ts.take i)).length + tk.text.length := List.length_append
      have z3 : (⟨⟨[32]⟩⟩ : ByteArray).size = 1 := rfl
      have z4 : ∀ x, str x ++ (⟨⟨[32]⟩⟩ : ByteArray) = str (x ++ [32]) := fun x => app_str x [32]
      refine WL.op (o := .binOp .add _ _ _ _) (op_addS rfl rfl (by omega)) ?_
      rw [z4]
      (repeat first | refine zSeq ?_ | refine zReg ?_ | refine zBlk ?_ | refine zSkp ?_ | refine zExt ?_ | refine zNil rfl ?_ | refine zGet rfl ?_ | refine zOn rfl rfl ?_ | refine zOff rfl rfl ?_ | refine zU rfl ?_ | refine zOn rfl (by assumption) ?_ | refine zOff rfl (by assumption) ?_ | refine zMov rfl ?_ | refine zAsg rfl ?_ | refine zXtr rfl ?_ | refine zPT rfl rfl rfl ?_ | refine zPF rfl rfl rfl ?_ | refine zPT rfl (by assumption) rfl ?_ | refine zPF rfl (by assumption) rfl ?_ | refine zLss rfl rfl ?_ | refine zLeq rfl rfl ?_ | refine zGtr rfl rfl ?_ | refine zGeq rfl rfl ?_ | refine zEql rfl rfl ?_ | refine zNeq rfl rfl ?_ | refine zAdd rfl rfl (by omega) ?_ | refine zSub rfl rfl (by omega) ?_ | refine zLenS rfl E_string ?_ | refine zNot rfl ?_ | refine zEqS rfl rfl ?_ | refine zNeS rfl rfl ?_ | refine zT rfl rfl ?_ | refine zF rfl rfl ?_ | refine zT rfl (by assumption) ?_ | refine zF rfl (by assumption) ?_ | refine WL.op (o := .index _ _ _) (op_indexS rfl rfl E_string hix hx) ?_ | refine zIdx rfl rfl ha ?_ | refine zFld (f := 0) rfl O_api_Token_Kind ?_ | refine zFld (f := 1) rfl O_api_Token_Text ?_ | refine zFld (f := 2) rfl O_api_Token_At ?_ | refine zLd (ty := 3) rfl hlA ?_ | refine zLd (ty := 9) rfl hlT ?_ | refine zLd (ty := 5) rfl hlK ?_ | refine zLen rfl (hv.len E30) ?_ | refine zLen rfl (hv3.len E30) ?_ | refine zIdx rfl rfl ha' ?_ | refine zLd (ty := 3) rfl hlA' ?_ | refine zLd (ty := 9) rfl hlT' ?_ | refine zLd (ty := 5) rfl hlK' ?_)
      exact ⟨(i + 1, tk.at_ + tk.text.length), ⟨rfl, by simp only; omega, c6⟩, by simp only; omega, rfl, rfl, rfl, rfl, rfl, rfl, rfl, congrArg (fun z => some (Value.string (str z))) hat.symm, rfl, trivial⟩
    · rintro a _ ⟨rfl, k1, k2⟩
      have hex : ∀ a b, (s.extract a b).size ≤ maxLen := fun a b => by rw [ByteArray.size_extract]; omega
      have g5 : (idleRun false (s.extract (a : Int).toNat s.size).data.toList).isSome = true := by
        rw [show (a : Int).toNat = a from rfl, ext_end, hls]; exact k2
      (repeat first | refine zSeq ?_ | refine zReg ?_ | refine zBlk ?_ | refine zSkp ?_ | refine zExt ?_ | refine zNil rfl ?_ | refine zGet rfl ?_ | refine zOn rfl rfl ?_ | refine zOff rfl rfl ?_ | refine zU rfl ?_ | refine zOn rfl (by assumption) ?_ | refine zOff rfl (by assumption) ?_ | refine zMov rfl ?_ | refine zAsg rfl ?_ | refine zXtr rfl ?_ | refine zPT rfl rfl rfl ?_ | refine zPF rfl rfl rfl ?_ | refine zPT rfl (by assumption) rfl ?_ | refine zPF rfl (by assumption) rfl ?_ | refine zLss rfl rfl ?_ | refine zLeq rfl rfl ?_ | refine zGtr rfl rfl ?_ | refine zGeq rfl rfl ?_ | refine zEql rfl rfl ?_ | refine zNeq rfl rfl ?_ | refine zAdd rfl rfl (by omega) ?_ | refine zSub rfl rfl (by omega) ?_ | refine zLenS rfl E_string ?_ | refine zNot rfl ?_ | refine zEqS rfl rfl ?_ | refine zNeS rfl rfl ?_ | refine zT rfl rfl ?_ | refine zF rfl rfl ?_ | refine zT rfl (by assumption) ?_ | refine zF rfl (by assumption) ?_ | refine WL.op (o := .index _ _ _) (op_indexS rfl rfl E_string hix hx) ?_ | refine zIdx rfl rfl ha ?_ | refine zFld (f := 0) rfl O_api_Token_Kind ?_ | refine zFld (f := 1) rfl O_api_Token_Text ?_ | refine zFld (f := 2) rfl O_api_Token_At ?_ | refine zLd (ty := 3) rfl hlA ?_ | refine zLd (ty := 9) rfl hlT ?_ | refine zLd (ty := 5) rfl hlK ?_ | refine zLen rfl (hv.len E30) ?_ | refine zLen rfl (hv3.len E30) ?_ | refine zIdx rfl rfl ha' ?_ | refine zLd (ty := 3) rfl hlA' ?_ | refine zLd (ty := 9) rfl hlT' ?_ | refine zLd (ty := 5) rfl hlK' ?_)
      refine WL.op (op_sliceS rfl rfl E_string (by omega) (by omega)) ?_
      refine WL.call rfl rfl is_ref01_Idle (idle_c hO (hex _ _)) ?_
      rw [g5]
      (repeat first | refine zSeq ?_ | refine zReg ?_ | refine zBlk ?_ | refine zSkp ?_ | refine zExt ?_ | refine zNil rfl ?_ | refine zGet rfl ?_ | refine zOn rfl rfl ?_ | refine zOff rfl rfl ?_ | refine zU rfl ?_ | refine zOn rfl (by assumption) ?_ | refine zOff rfl (by assumption) ?_ | refine zMov rfl ?_ | refine zAsg rfl ?_ | refine zXtr rfl ?_ | refine zPT rfl rfl rfl ?_ | refine zPF rfl rfl rfl ?_ | refine zPT rfl (by assumption) rfl ?_ | refine zPF rfl (by assumption) rfl ?_ | refine zLss rfl rfl ?_ | refine zLeq rfl rfl ?_ | refine zGtr rfl rfl ?_ | refine zGeq rfl rfl ?_ | refine zEql rfl rfl ?_ | refine zNeq rfl rfl ?_ | refine zAdd rfl rfl (by omega) ?_ | refine zSub rfl rfl (by omega) ?_ | refine zLenS rfl E_string ?_ | refine zNot rfl ?_ | refine zEqS rfl rfl ?_ | refine zNeS rfl rfl ?_ | refine zT rfl rfl ?_ | refine zF rfl rfl ?_ | refine zT rfl (by assumption) ?_ | refine zF rfl (by assumption) ?_ | refine WL.op (o := .index _ _ _) (op_indexS rfl rfl E_string hix hx) ?_ | refine zIdx rfl rfl ha ?_ | refine zFld (f := 0) rfl O_api_Token_Kind ?_ | refine zFld (f := 1) rfl O_api_Token_Text ?_ | refine zFld (f := 2) rfl O_api_Token_At ?_ | refine zLd (ty := 3) rfl hlA ?_ | refine zLd (ty := 9) rfl hlT ?_ | refine zLd (ty := 5) rfl hlK ?_ | refine zLen rfl (hv.len E30) ?_ | refine zLen rfl (hv3.len E30) ?_ | refine zIdx rfl rfl ha' ?_ | refine zLd (ty := 3) rfl hlA' ?_ | refine zLd (ty := 9) rfl hlT' ?_ | refine zLd (ty := 5) rfl hlK' ?_)
      obtain ⟨ts3, h3, h4⟩ := again_ok hts 0
      have z1 : (str (again ts)).size = (again ts).length := rfl
      obtain ⟨v3, H3, o3, ht3, hf3, hw3⟩ := tokens_c (H := H2) hO (hS.fr (hf1.trans hf2)) (s := str (again ts)) (by omega)
      refine WL.call rfl rfl is_lex_Tokens ht3 ?_
      have hR3 : lexR (str (again ts)).data.toList = (ts3, 0, 0) := lexR_ok (by show (again ts).length ≤ _; omega) h3
      rw [hR3] at hw3 ⊢
      simp only at hw3
      have hv3 := hw3.sl
      replace hv := hv.fr hf3
      have hlen : ts3.length = ts.length := by have := congrArg List.length h4; simpa using this
      have g6 : ((ts3.length : Int) != ts.length) = false := by rw [hlen]; simp
      (repeat first | refine zSeq ?_ | refine zReg ?_ | refine zBlk ?_ | refine zSkp ?_ | refine zExt ?_ | refine zNil rfl ?_ | refine zGet rfl ?_ | refine zOn rfl rfl ?_ | refine zOff rfl rfl ?_ | refine zU rfl ?_ | refine zOn rfl (by assumption) ?_ | refine zOff rfl (by assumption) ?_ | refine zMov rfl ?_ | refine zAsg rfl ?_ | refine zXtr rfl ?_ | refine zPT rfl rfl rfl ?_ | refine zPF rfl rfl rfl ?_ | refine zPT rfl (by assumption) rfl ?_ | refine zPF rfl (by assumption) rfl ?_ | refine zLss rfl rfl ?_ | refine zLeq rfl rfl ?_ | refine zGtr rfl rfl ?_ | refine zGeq rfl rfl ?_ | refine zEql rfl rfl ?_ | refine zNeq rfl rfl ?_ | refine zAdd rfl rfl (by omega) ?_ | refine zSub rfl rfl (by omega) ?_ | refine zLenS rfl E_string ?_ | refine zNot rfl ?_ | refine zEqS rfl rfl ?_ | refine zNeS rfl rfl ?_ | refine zT rfl rfl ?_ | refine zF rfl rfl ?_ | refine zT rfl (by assumption) ?_ | refine zF rfl (by assumption) ?_ | refine WL.op (o := .index _ _ _) (op_indexS rfl rfl E_string hix hx) ?_ | refine zIdx rfl rfl ha ?_ | refine zFld (f := 0) rfl O_api_Token_Kind ?_ | refine zFld (f := 1) rfl O_api_Token_Text ?_ | refine zFld (f := 2) rfl O_api_Token_At ?_ | refine zLd (ty := 3) rfl hlA ?_ | refine zLd (ty := 9) rfl hlT ?_ | refine zLd (ty := 5) rfl hlK ?_ | refine zLen rfl (hv.len E30) ?_ | refine zLen rfl (hv3.len E30) ?_ | refine zIdx rfl rfl ha' ?_ | refine zLd (ty := 3) rfl hlA' ?_ | refine zLd (ty := 9) rfl hlT' ?_ | refine zLd (ty := 5) rfl hlK' ?_)
      refine WP.loopH (σ := Nat) (fun x => [(0, .string s), (1, .string t), (5, v1), (8, v2), (9, .int .i64 (lexR lt).2.1), (10, .int .i64 (lexR lt).2.2), (14, v3), (17, .int .i64 x)])
        (fun x H' => H3 = H' ∧ x ≤ ts.length) (fun x => ts.length - x) 0 ⟨rfl, by simp⟩ ⟨rfl, rfl, rfl, rfl, rfl, rfl, rfl, rfl, trivial⟩ ?_
      rintro i _ ⟨rfl, hi⟩
      rcases Nat.lt_or_ge i ts.length with h5 | h5
      · have g3 : decide ((i : Int) < ts.length) = true := decide_eq_true (by omega)
        obtain ⟨b, off, ha, hlK, hlT, hlA⟩ := sl_at hv h5
        obtain ⟨b', off', ha', hlK', hlT', hlA'⟩ := sl_at hv3 (i := i) (by omega)
        have hkt : ts3[i].kind = ts[i].kind ∧ ts3[i].text = ts[i].text := by
          have e1 : (ts3.map (fun t => (t.kind, t.text)))[i]? = some (ts3[i].kind, ts3[i].text) := by simp [hlen, h5]
          rw [h4] at e1
          simp [h5] at e1
          exact ⟨e1.1.symm, e1.2.symm⟩
        have g4 : ((ts3[i].kind : Int) != ts[i].kind) = false := by rw [hkt.1]; simp
        have g5 : (!((str ts3[i].text).data.toList == (str ts[i].text).data.toList)) = false := by rw [hkt.2]; simp
        (repeat first | refine zSeq ?_ | refine zReg ?_ | refine zBlk ?_ | refine zSkp ?_ | refine zExt ?_ | refine zNil rfl ?_ | refine zGet rfl ?_ | refine zOn rfl rfl ?_ | refine zOff rfl rfl ?_ | refine zU rfl ?_ | refine zOn rfl (by assumption) ?_ | refine zOff rfl (by assumption) ?_ | refine zMov rfl ?_ | refine zAsg rfl ?_ | refine zXtr rfl ?_ | refine zPT rfl rfl rfl ?_ | refine zPF rfl rfl rfl ?_ | refine zPT rfl (by assumption) rfl ?_ | refine zPF rfl (by assumption) rfl ?_ | refine zLss rfl rfl ?_ | refine zLeq rfl rfl ?_ | refine zGtr rfl rfl ?_ | refine zGeq rfl rfl ?_ | refine zEql rfl rfl ?_ | refine zNeq rfl rfl ?_ | refine zAdd rfl rfl (by omega) ?_ | refine zSub rfl rfl (by omega) ?_ | refine zLenS rfl E_string ?_ | refine zNot rfl ?_ | refine zEqS rfl rfl ?_ | refine zNeS rfl rfl ?_ | refine zT rfl rfl ?_ | refine zF rfl rfl ?_ | refine zT rfl (by assumption) ?_ | refine zF rfl (by assumption) ?_ | refine WL.op (o := .index _ _ _) (op_indexS rfl rfl E_string hix hx) ?_ | refine zIdx rfl rfl ha ?_ | refine zFld (f := 0) rfl O_api_Token_Kind ?_ | refine zFld (f := 1) rfl O_api_Token_Text ?_ | refine zFld (f := 2) rfl O_api_Token_At ?_ | refine zLd (ty := 3) rfl hlA ?_ | refine zLd (ty := 9) rfl hlT ?_ | refine zLd (ty := 5) rfl hlK ?_ | refine zLen rfl (hv.len E30) ?_ | refine zLen rfl (hv3.len E30) ?_ | refine zIdx rfl rfl ha' ?_ | refine zLd (ty := 3) rfl hlA' ?_ | refine zLd (ty := 9) rfl hlT' ?_ | refine zLd (ty := 5) rfl hlK' ?_)
        exact ⟨i + 1, ⟨rfl, by omega⟩, by omega, rfl, rfl, rfl, rfl, rfl, rfl, rfl, rfl, trivial⟩
      have g3 : decide ((i : Int) < ts.length) = false := decide_eq_false (by omega)
      (repeat first | refine zSeq ?_ | refine zReg ?_ | refine zBlk ?_ | refine zSkp ?_ | refine zExt ?_ | refine zNil rfl ?_ | refine zGet rfl ?_ | refine zOn rfl rfl ?_ | refine zOff rfl rfl ?_ | refine zU rfl ?_ | refine zOn rfl (by assumption) ?_ | refine zOff rfl (by assumption) ?_ | refine zMov rfl ?_ | refine zAsg rfl ?_ | refine zXtr rfl ?_ | refine zPT rfl rfl rfl ?_ | refine zPF rfl rfl rfl ?_ | refine zPT rfl (by assumption) rfl ?_ | refine zPF rfl (by assumption) rfl ?_ | refine zLss rfl rfl ?_ | refine zLeq rfl rfl ?_ | refine zGtr rfl rfl ?_ | refine zGeq rfl rfl ?_ | refine zEql rfl rfl ?_ | refine zNeq rfl rfl ?_ | refine zAdd rfl rfl (by omega) ?_ | refine zSub rfl rfl (by omega) ?_ | refine zLenS rfl E_string ?_ | refine zNot rfl ?_ | refine zEqS rfl rfl ?_ | refine zNeS rfl rfl ?_ | refine zT rfl rfl ?_ | refine zF rfl rfl ?_ | refine zT rfl (by assumption) ?_ | refine zF rfl (by assumption) ?_ | refine WL.op (o := .index _ _ _) (op_indexS rfl rfl E_string hix hx) ?_ | refine zIdx rfl rfl ha ?_ | refine zFld (f := 0) rfl O_api_Token_Kind ?_ | refine zFld (f := 1) rfl O_api_Token_Text ?_ | refine zFld (f := 2) rfl O_api_Token_At ?_ | refine zLd (ty := 3) rfl hlA ?_ | refine zLd (ty := 9) rfl hlT ?_ | refine zLd (ty := 5) rfl hlK ?_ | refine zLen rfl (hv.len E30) ?_ | refine zLen rfl (hv3.len E30) ?_ | refine zIdx rfl rfl ha' ?_ | refine zLd (ty := 3) rfl hlA' ?_ | refine zLd (ty := 9) rfl hlT' ?_ | refine zLd (ty := 5) rfl hlK' ?_)
      have z2 : (⟨⟨[10]⟩⟩ : ByteArray).size = 1 := rfl
      refine WL.op (o := .binOp .add _ _ _ _) (op_addS rfl rfl (by omega)) ?_
      have z4 : s ++ (⟨⟨[10]⟩⟩ : ByteArray) = str (ls ++ [10]) := by rw [← app_str, ← hls]; rfl
      rw [z4]
      (repeat first | refine zSeq ?_ | refine zReg ?_ | refine zBlk ?_ | refine zSkp ?_ | refine zExt ?_ | refine zNil rfl ?_ | refine zGet rfl ?_ | refine zOn rfl rfl ?_ | refine zOff rfl rfl ?_ | refine zU rfl ?_ | refine zOn rfl (by assumption) ?_ | refine zOff rfl (by assumption) ?_ | refine zMov rfl ?_ | refine zAsg rfl ?_ | refine zXtr rfl ?_ | refine zPT rfl rfl rfl ?_ | refine zPF rfl rfl rfl ?_ | refine zPT rfl (by assumption) rfl ?_ | refine zPF rfl (by assumption) rfl ?_ | refine zLss rfl rfl ?_ | refine zLeq rfl rfl ?_ | refine zGtr rfl rfl ?_ | refine zGeq rfl rfl ?_ | refine zEql rfl rfl ?_ | refine zNeq rfl rfl ?_ | refine zAdd rfl rfl (by omega) ?_ | refine zSub rfl rfl (by omega) ?_ | refine zLenS rfl E_string ?_ | refine zNot rfl ?_ | refine zEqS rfl rfl ?_ | refine zNeS rfl rfl ?_ | refine zT rfl rfl ?_ | refine zF rfl rfl ?_ | refine zT rfl (by assumption) ?_ | refine zF rfl (by assumption) ?_ | refine WL.op (o := .index _ _ _) (op_indexS rfl rfl E_string hix hx) ?_ | refine zIdx rfl rfl ha ?_ | refine zFld (f := 0) rfl O_api_Token_Kind ?_ | refine zFld (f := 1) rfl O_api_Token_Text ?_ | refine zFld (f := 2) rfl O_api_Token_At ?_ | refine zLd (ty := 3) rfl hlA ?_ | refine zLd (ty := 9) rfl hlT ?_ | refine zLd (ty := 5) rfl hlK ?_ | refine zLen rfl (hv.len E30) ?_ | refine zLen rfl (hv3.len E30) ?_ | refine zIdx rfl rfl ha' ?_ | refine zLd (ty := 3) rfl hlA' ?_ | refine zLd (ty := 9) rfl hlT' ?_ | refine zLd (ty := 5) rfl hlK' ?_)
      have z5 : (str (ls ++ [10])).size = ls.length + 1 := List.length_append
      refine WL.op (o := .binOp .add _ _ _ _) (op_addS rfl rfl (by omega)) ?_
      have z6 : str (ls ++ [10]) ++ t = str (ls ++ 10 :: lt) := by rw [str_of t, hlt, app_str, List.append_assoc]; rfl
      rw [z6]
      have z7 : (str (ls ++ 10 :: lt)).size = ls.length + 1 + lt.length := by show (ls ++ 10 :: lt).length = _; simp; omega
      obtain ⟨v4, H4, o4, ht4, hf4, hw4⟩ := tokens_c (H := H3) hO (hS.fr ((hf1.trans hf2).trans hf3)) (s := str (ls ++ 10 :: lt)) (by omega)
      refine WL.call rfl rfl is_lex_Tokens ht4 ?_
      have happ : toks false 0 (ls ++ 10 :: lt) = (shiftR (ls.length + 1) (toks false 0 lt)).map (ts ++ ·) := by
        rw [toks_app hts, ← toks_shift (ls.length + 1) lt.length false 0 lt (Nat.le_refl _)]
        simp only [Nat.zero_add]
      have hl4 : (ls ++ 10 :: lt).length ≤ 65536 := by have : (str (ls ++ 10 :: lt)).size = (ls ++ 10 :: lt).length := rfl; omega
      rcases lexR_cases (l := lt) (by omega) with ⟨ms, hms, hR2⟩ | ⟨p, hms, hR2⟩
      · have hR4 : lexR (str (ls ++ 10 :: lt)).data.toList = (ts ++ ms.map (Tok.shift (ls.length + 1)), 0, 0) := lexR_ok (l := ls ++ 10 :: lt) hl4 (by rw [happ, hms]; rfl)
        rw [hR4] at hw4 ⊢
        rw [hR2] at hw2 ⊢
        simp only at hw2 hw4
        have mlen := toks_len hms
        have sp12b : ∀ b ∈ obs o1, b ∉ obs o2 := fun b h1 h2 => by have := hw1.young.2.2.1 b h1; have := hw2.young.1 b h2; omega
        have sp12g : ∀ b ∈ ogs o1, b ∉ ogs o2 := fun b h1 h2 => by have := hw1.young.2.2.2 b h1; have := hw2.young.2.1 b h2; omega
        have sp42b : ∀ b ∈ obs o4, b ∉ obs o2 := fun b h1 h2 => by have := hw4.young.1 b h1; have := hw2.young.2.2.1 b h2; have := hf3.1; omega
        have sp42g : ∀ b ∈ ogs o4, b ∉ ogs o2 := fun b h1 h2 => by have := hw4.young.2.1 b h1; have := hw2.young.2.2.2 b h2; have := hf3.1; omega
        have sp41b : ∀ b ∈ obs o4, b ∉ obs o1 := fun b h1 h2 => by have := hw4.young.1 b h1; have := hw1.young.2.2.1 b h2; have := hf3.1; have := hf2.1; omega
        have sp41g : ∀ b ∈ ogs o4, b ∉ ogs o1 := fun b h1 h2 => by have := hw4.young.2.1 b h1; have := hw1.young.2.2.2 b h2; have := hf3.1; have := hf2.1; omega
        have hn1 := hf1.1
        have hn2 := hf2.1
        have hn3 := hf3.1
        have hn4 := hf4.1
        clear ht3 ht4 hcov hag hex k2
        (repeat first | refine zSeq ?_ | refine zReg ?_ | refine zBlk ?_ | refine zSkp ?_ | refine zExt ?_ | refine zNil rfl ?_ | refine zGet rfl ?_ | refine zOn rfl rfl ?_ | refine zOff rfl rfl ?_ | refine zU rfl ?_ | refine zOn rfl (by assumption) ?_ | refine zOff rfl (by assumption) ?_ | refine zMov rfl ?_ | refine zAsg rfl ?_ | refine zXtr rfl ?_ | refine zPT rfl rfl rfl ?_ | refine zPF rfl rfl rfl ?_ | refine zPT rfl (by assumption) rfl ?_ | refine zPF rfl (by assumption) rfl ?_ | refine zLss rfl rfl ?_ | refine zLeq rfl rfl ?_ | refine zGtr rfl rfl ?_ | refine zGeq rfl rfl ?_ | refine zEql rfl rfl ?_ | refine zNeq rfl rfl ?_ | refine zAdd rfl rfl (by omega) ?_ | refine zSub rfl rfl (by omega) ?_ | refine zLenS rfl E_string ?_ | refine zNot rfl ?_ | refine zEqS rfl rfl ?_ | refine zNeS rfl rfl ?_ | refine zT rfl rfl ?_ | refine zF rfl rfl ?_ | refine zT rfl (by assumption) ?_ | refine zF rfl (by assumption) ?_ | refine WL.op (o := .index _ _ _) (op_indexS rfl rfl E_string hix hx) ?_ | refine zIdx rfl rfl ha ?_ | refine zFld (f := 0) rfl O_api_Token_Kind ?_ | refine zFld (f := 1) rfl O_api_Token_Text ?_ | refine zFld (f := 2) rfl O_api_Token_At ?_ | refine zLd (ty := 3) rfl hlA ?_ | refine zLd (ty := 9) rfl hlT ?_ | refine zLd (ty := 5) rfl hlK ?_ | refine zLen rfl (hv.len E30) ?_ | refine zLen rfl (hv3.len E30) ?_ | refine zIdx rfl rfl ha' ?_ | refine zLd (ty := 3) rfl hlA' ?_ | refine zLd (ty := 9) rfl hlT' ?_ | refine zLd (ty := 5) rfl hlK' ?_)
        refine WP.loopH (σ := Nat) (fun x => [(0, .string s), (5, v1), (8, v2), (18, v4), (20, .int .i64 (0 : Nat)), (21, .int .i64 x)])
          (fun x H' => H4.next ≤ H'.next ∧ x ≤ ms.length ∧ Ow H' H.next 36 3 v1 ts.length (tokCells ts) o1 ∧ Ow H' H1.next 36 3 v2 ms.length (tokCells (half (ls.length + 1) x ms)) o2 ∧ Ow H' H3.next 36 3 v4 (ts ++ ms.map (Tok.shift (ls.length + 1))).length (tokCells (ts ++ ms.map (Tok.shift (ls.length + 1)))) o4) (fun x => ms.length - x) 0
          ⟨Nat.le_refl _, by simp, hw1.fr ((hf2.trans hf3).trans hf4), (by simpa [half] using hw2.fr (hf3.trans hf4)), hw4⟩ ⟨rfl, rfl, rfl, rfl, rfl, rfl, trivial⟩ ?_
        rintro i H5 ⟨hn5, hi, q1, q2, q4⟩
        have hv := q2.sl
        have hq2 := q2.2.1
        rcases Nat.lt_or_ge i ms.length with h6 | h6
        · have g3 : decide ((i : Int) < ms.length) = true := decide_eq_true (by omega)
          have hle : ms[i].at_ ≤ lt.length := by have := toks_at_le hms ms[i] (List.getElem_mem _); omega
          have hlen6 : i < (half (ls.length + 1) i ms).length := by rw [half_len]; exact h6
          obtain ⟨b, off, H6, ha, hr, hwr, q2', f6, n6⟩ := q2.set E30 E36 te36_size (kd := .i64) (i := i) (by omega) (by omega) (vs := [.int .i64 (ms[i].at_ + (ls.length + 1) : Nat)]) (by simp) (k := 2) (by simp)
          rw [show (i : Int).toNat = i from rfl, tok_at hlen6, half_get h6] at hr
          have hlA := (hr.at1 (i := 2) rfl).load1 (V := V) E_int rfl
          rw [show (i : Int).toNat = i from rfl, splice_tok hlen6, half_get h6] at q2'
          have q2'' : Ow H6 H1.next 36 3 v2 ms.length (tokCells (half (ls.length + 1) (i + 1) ms)) o2 := by rw [← half_set h6]; exact q2'
          have e9 : (ms[i].at_ : Int) + (s.size : Int) + 1 = ((ms[i].at_ + (ls.length + 1) : Nat) : Int) := by omega
          (repeat first | refine zSeq ?_ | refine zReg ?_ | refine zBlk ?_ | refine zSkp ?_ | refine zExt ?_ | refine zNil rfl ?_ | refine zGet rfl ?_ | refine zOn rfl rfl ?_ | refine zOff rfl rfl ?_ | refine zU rfl ?_ | refine zOn rfl (by assumption) ?_ | refine zOff rfl (by assumption) ?_ | refine zMov rfl ?_ | refine zAsg rfl ?_ | refine zXtr rfl ?_ | refine zPT rfl rfl rfl ?_ | refine zPF rfl rfl rfl ?_ | refine zPT rfl (by assumption) rfl ?_ | refine zPF rfl (by assumption) rfl ?_ | refine zLss rfl rfl ?_ | refine zLeq rfl rfl ?_ | refine zGtr rfl rfl ?_ | refine zGeq rfl rfl ?_ | refine zEql rfl rfl ?_ | refine zNeq rfl rfl ?_ | refine zAdd rfl rfl (by omega) ?_ | refine zSub rfl rfl (by omega) ?_ | refine zLenS rfl E_string ?_ | refine zNot rfl ?_ | refine zEqS rfl rfl ?_ | refine zNeS rfl rfl ?_ | refine zT rfl rfl ?_ | refine zF rfl rfl ?_ | refine zT rfl (by assumption) ?_ | refine zF rfl (by assumption) ?_ | refine WL.op (o := .index _ _ _) (op_indexS rfl rfl E_string hix hx) ?_ | refine zIdx rfl rfl ha ?_ | refine zFld (f := 0) rfl O_api_Token_Kind ?_ | refine zFld (f := 1) rfl O_api_Token_Text ?_ | refine zFld (f := 2) rfl O_api_Token_At ?_ | refine zLd (ty := 3) rfl hlA ?_ | refine zLd (ty := 9) rfl hlT ?_ | refine zLd (ty := 5) rfl hlK ?_ | refine zLen rfl (hv.len E30) ?_ | refine zLen rfl (hv3.len E30) ?_ | refine zIdx rfl rfl ha' ?_ | refine zLd (ty := 3) rfl hlA' ?_ | refine zLd (ty := 9) rfl hlT' ?_ | refine zLd (ty := 5) rfl hlK' ?_)
          rw [e9]
          refine WL.op (op_store rfl rfl E_int rfl rfl hwr) ?_
          (repeat first | refine zSeq ?_ | refine zReg ?_ | refine zBlk ?_ | refine zSkp ?_ | refine zExt ?_ | refine zNil rfl ?_ | refine zGet rfl ?_ | refine zOn rfl rfl ?_ | refine zOff rfl rfl ?_ | refine zU rfl ?_ | refine zOn rfl (by assumption) ?_ | refine zOff rfl (by assumption) ?_ | refine zMov rfl ?_ | refine zAsg rfl ?_ | refine zXtr rfl ?_ | refine zPT rfl rfl rfl ?_ | refine zPF rfl rfl rfl ?_ | refine zPT rfl (by assumption) rfl ?_ | refine zPF rfl (by assumption) rfl ?_ | refine zLss rfl rfl ?_ | refine zLeq rfl rfl ?_ | refine zGtr rfl rfl ?_ | refine zGeq rfl rfl ?_ | refine zEql rfl rfl ?_ | refine zNeq rfl rfl ?_ | refine zAdd rfl rfl (by omega) ?_ | refine zSub rfl rfl (by omega) ?_ | refine zLenS rfl E_string ?_ | refine zNot rfl ?_ | refine zEqS rfl rfl ?_ | refine zNeS rfl rfl ?_ | refine zT rfl rfl ?_ | refine zF rfl rfl ?_ | refine zT rfl (by assumption) ?_ | refine zF rfl (by assumption) ?_ | refine WL.op (o := .index _ _ _) (op_indexS rfl rfl E_string hix hx) ?_ | refine zIdx rfl rfl ha ?_ | refine zFld (f := 0) rfl O_api_Token_Kind ?_ | refine zFld (f := 1) rfl O_api_Token_Text ?_ | refine zFld (f := 2) rfl O_api_Token_At ?_ | refine zLd (ty := 3) rfl hlA ?_ | refine zLd (ty := 9) rfl hlT ?_ | refine zLd (ty := 5) rfl hlK ?_ | refine zLen rfl (hv.len E30) ?_ | refine zLen rfl (hv3.len E30) ?_ | refine zIdx rfl rfl ha' ?_ | refine zLd (ty := 3) rfl hlA' ?_ | refine zLd (ty := 9) rfl hlT' ?_ | refine zLd (ty := 5) rfl hlK' ?_)
          exact ⟨i + 1, ⟨by omega, by omega, q1.frX f6 sp12b sp12g, q2'', q4.frX f6 sp42b sp42g⟩, by omega, rfl, rfl, rfl, rfl, rfl, rfl, trivial⟩
        · have g3 : decide ((i : Int) < ms.length) = false := decide_eq_false (by omega)
          have hh : half (ls.length + 1) i ms = ms.map (Tok.shift (ls.length + 1)) := by rw [half, List.take_of_length_le h6, List.drop_eq_nil_iff.2 h6, List.append_nil]
          rw [hh] at q2
          (repeat first | refine zSeq ?_ | refine zReg ?_ | refine zBlk ?_ | refine zSkp ?_ | refine zExt ?_ | refine zNil rfl ?_ | refine zGet rfl ?_ | refine zOn rfl rfl ?_ | refine zOff rfl rfl ?_ | refine zU rfl ?_ | refine zOn rfl (by assumption) ?_ | refine zOff rfl (by assumption) ?_ | refine zMov rfl ?_ | refine zAsg rfl ?_ | refine zXtr rfl ?_ | refine zPT rfl rfl rfl ?_ | refine zPF rfl rfl rfl ?_ | refine zPT rfl (by assumption) rfl ?_ | refine zPF rfl (by assumption) rfl ?_ | refine zLss rfl rfl ?_ | refine zLeq rfl rfl ?_ | refine zGtr rfl rfl ?_ | refine zGeq rfl rfl ?_ | refine zEql rfl rfl ?_ | refine zNeq rfl rfl ?_ | refine zAdd rfl rfl (by omega) ?_ | refine zSub rfl rfl (by omega) ?_ | refine zLenS rfl E_string ?_ | refine zNot rfl ?_ | refine zEqS rfl rfl ?_ | refine zNeS rfl rfl ?_ | refine zT rfl rfl ?_ | refine zF rfl rfl ?_ | refine zT rfl (by assumption) ?_ | refine zF rfl (by assumption) ?_ | refine WL.op (o := .index _ _ _) (op_indexS rfl rfl E_string hix hx) ?_ | refine zIdx rfl rfl ha ?_ | refine zFld (f := 0) rfl O_api_Token_Kind ?_ | refine zFld (f := 1) rfl O_api_Token_Text ?_ | refine zFld (f := 2) rfl O_api_Token_At ?_ | refine zLd (ty := 3) rfl hlA ?_ | refine zLd (ty := 9) rfl hlT ?_ | refine zLd (ty := 5) rfl hlK ?_ | refine zLen rfl (hv.len E30) ?_ | refine zLen rfl (hv3.len E30) ?_ | refine zIdx rfl rfl ha' ?_ | refine zLd (ty := 3) rfl hlA' ?_ | refine zLd (ty := 9) rfl hlT' ?_ | refine zLd (ty := 5) rfl hlK' ?_)
          obtain ⟨v5, H6, o5, hap, q5, f6, _, _⟩ := q1.appSl q2.sl (bytes := 32) (by decide) (by omega) (by omega) (by omega) (tokCells_one _) E30 E30 E36 te36_size te36_bytes
          refine WL.op (hap rfl rfl) ?_
          (repeat first | refine zSeq ?_ | refine zReg ?_ | refine zBlk ?_ | refine zSkp ?_ | refine zExt ?_ | refine zNil rfl ?_ | refine zGet rfl ?_ | refine zOn rfl rfl ?_ | refine zOff rfl rfl ?_ | refine zU rfl ?_ | refine zOn rfl (by assumption) ?_ | refine zOff rfl (by assumption) ?_ | refine zMov rfl ?_ | refine zAsg rfl ?_ | refine zXtr rfl ?_ | refine zPT rfl rfl rfl ?_ | refine zPF rfl rfl rfl ?_ | refine zPT rfl (by assumption) rfl ?_ | refine zPF rfl (by assumption) rfl ?_ | refine zLss rfl rfl ?_ | refine zLeq rfl rfl ?_ | refine zGtr rfl rfl ?_ | refine zGeq rfl rfl ?_ | refine zEql rfl rfl ?_ | refine zNeq rfl rfl ?_ | refine zAdd rfl rfl (by omega) ?_ | refine zSub rfl rfl (by omega) ?_ | refine zLenS rfl E_string ?_ | refine zNot rfl ?_ | refine zEqS rfl rfl ?_ | refine zNeS rfl rfl ?_ | refine zT rfl rfl ?_ | refine zF rfl rfl ?_ | refine zT rfl (by assumption) ?_ | refine zF rfl (by assumption) ?_ | refine WL.op (o := .index _ _ _) (op_indexS rfl rfl E_string hix hx) ?_ | refine zIdx rfl rfl ha ?_ | refine zFld (f := 0) rfl O_api_Token_Kind ?_ | refine zFld (f := 1) rfl O_api_Token_Text ?_ | refine zFld (f := 2) rfl O_api_Token_At ?_ | refine zLd (ty := 3) rfl hlA ?_ | refine zLd (ty := 9) rfl hlT ?_ | refine zLd (ty := 5) rfl hlK ?_ | refine zLen rfl (hv.len E30) ?_ | refine zLen rfl (hv3.len E30) ?_ | refine zIdx rfl rfl ha' ?_ | refine zLd (ty := 3) rfl hlA' ?_ | refine zLd (ty := 9) rfl hlT' ?_ | refine zLd (ty := 5) rfl hlK' ?_)
          have q4' := q4.frX f6 sp41b sp41g
          rw [← tokCells_app, show ts.length + ms.length = (ts ++ ms.map (Tok.shift (ls.length + 1))).length by simp] at q5
          refine WL.call rfl rfl is_ref01_Same (same_c hO q4'.sl q5.sl) ?_
          (repeat first | refine zSeq ?_ | refine zReg ?_ | refine zBlk ?_ | refine zSkp ?_ | refine zExt ?_ | refine zNil rfl ?_ | refine zGet rfl ?_ | refine zOn rfl rfl ?_ | refine zOff rfl rfl ?_ | refine zU rfl ?_ | refine zOn rfl (by assumption) ?_ | refine zOff rfl (by assumption) ?_ | refine zMov rfl ?_ | refine zAsg rfl ?_ | refine zXtr rfl ?_ | refine zPT rfl rfl rfl ?_ | refine zPF rfl rfl rfl ?_ | refine zPT rfl (by assumption) rfl ?_ | refine zPF rfl (by assumption) rfl ?_ | refine zLss rfl rfl ?_ | refine zLeq rfl rfl ?_ | refine zGtr rfl rfl ?_ | refine zGeq rfl rfl ?_ | refine zEql rfl rfl ?_ | refine zNeq rfl rfl ?_ | refine zAdd rfl rfl (by omega) ?_ | refine zSub rfl rfl (by omega) ?_ | refine zLenS rfl E_string ?_ | refine zNot rfl ?_ | refine zEqS rfl rfl ?_ | refine zNeS rfl rfl ?_ | refine zT rfl rfl ?_ | refine zF rfl rfl ?_ | refine zT rfl (by assumption) ?_ | refine zF rfl (by assumption) ?_ | refine WL.op (o := .index _ _ _) (op_indexS rfl rfl E_string hix hx) ?_ | refine zIdx rfl rfl ha ?_ | refine zFld (f := 0) rfl O_api_Token_Kind ?_ | refine zFld (f := 1) rfl O_api_Token_Text ?_ | refine zFld (f := 2) rfl O_api_Token_At ?_ | refine zLd (ty := 3) rfl hlA ?_ | refine zLd (ty := 9) rfl hlT ?_ | refine zLd (ty := 5) rfl hlK ?_ | refine zLen rfl (hv.len E30) ?_ | refine zLen rfl (hv3.len E30) ?_ | refine zIdx rfl rfl ha' ?_ | refine zLd (ty := 3) rfl hlA' ?_ | refine zLd (ty := 9) rfl hlT' ?_ | refine zLd (ty := 5) rfl hlK' ?_)
          exact WP.ret ⟨.inr rfl, _, rfl, rfl⟩
      · have hR4 : lexR (str (ls ++ 10 :: lt)).data.toList = ([], p + (ls.length + 1), 63) := lexR_bad (l := ls ++ 10 :: lt) hl4 (by rw [happ, hms]; rfl)
        rw [hR4, hR2]
        dsimp only
        have hp : p ≤ lt.length := by have := toks_error lt.length false 0 lt (Nat.le_refl _) hms; omega
        have g9 : (((p + (ls.length + 1) : Nat) : Int) == (s.size : Int) + 1 + p) = true := by rw [beq_iff_eq]; omega
        (repeat first | refine zSeq ?_ | refine zReg ?_ | refine zBlk ?_ | refine zSkp ?_ | refine zExt ?_ | refine zNil rfl ?_ | refine zGet rfl ?_ | refine zOn rfl rfl ?_ | refine zOff rfl rfl ?_ | refine zU rfl ?_ | refine zOn rfl (by assumption) ?_ | refine zOff rfl (by assumption) ?_ | refine zMov rfl ?_ | refine zAsg rfl ?_ | refine zXtr rfl ?_ | refine zPT rfl rfl rfl ?_ | refine zPF rfl rfl rfl ?_ | refine zPT rfl (by assumption) rfl ?_ | refine zPF rfl (by assumption) rfl ?_ | refine zLss rfl rfl ?_ | refine zLeq rfl rfl ?_ | refine zGtr rfl rfl ?_ | refine zGeq rfl rfl ?_ | refine zEql rfl rfl ?_ | refine zNeq rfl rfl ?_ | refine zAdd rfl rfl (by omega) ?_ | refine zSub rfl rfl (by omega) ?_ | refine zLenS rfl E_string ?_ | refine zNot rfl ?_ | refine zEqS rfl rfl ?_ | refine zNeS rfl rfl ?_ | refine zT rfl rfl ?_ | refine zF rfl rfl ?_ | refine zT rfl (by assumption) ?_ | refine zF rfl (by assumption) ?_ | refine WL.op (o := .index _ _ _) (op_indexS rfl rfl E_string hix hx) ?_ | refine zIdx rfl rfl ha ?_ | refine zFld (f := 0) rfl O_api_Token_Kind ?_ | refine zFld (f := 1) rfl O_api_Token_Text ?_ | refine zFld (f := 2) rfl O_api_Token_At ?_ | refine zLd (ty := 3) rfl hlA ?_ | refine zLd (ty := 9) rfl hlT ?_ | refine zLd (ty := 5) rfl hlK ?_ | refine zLen rfl (hv.len E30) ?_ | refine zLen rfl (hv3.len E30) ?_ | refine zIdx rfl rfl ha' ?_ | refine zLd (ty := 3) rfl hlA' ?_ | refine zLd (ty := 9) rfl hlT' ?_ | refine zLd (ty := 5) rfl hlK' ?_)
        exact WP.ret ⟨.inr rfl, _, rfl, by rw [g9]; rfl⟩
  obtain ⟨u, H', h, rfl⟩ := key
  exact ⟨H', h⟩
end Go.Proofs.YtdkfcpadbahohaaDoor.U

/-
  LexNames: what its two great texts are.
-/
namespace Go.Proofs.YtdkfcpadbahohaaDoor.U
open Go Go.Ev
attribute [local irreducible] WL WP WH W
variable {O : Orc} {H : AH}
def rep (n : Nat) (c : UInt8) : ByteArray := ⟨⟨List.replicate n c⟩⟩
theorem many_c (hO : ∀ vs H, O 10 vs H = none) {n : Nat} {c : UInt8} (h0 : 0 < n) (hn : n ≤ 100000) : ∃ H', Lc V O F_law01_many [.int .i64 n, .int .u8 c.toNat] H (.string (rep n c)) H' := by
  have key : ∃ u H', Lc V O F_law01_many [.int .i64 n, .int .u8 c.toNat] H u H' ∧ u = .string (rep n c) := by
    refine Lc.law01_many (R := fun u _ => u = .string (rep n c)) (hO _ _) (Nat.le_of_ble_eq_true rfl) (by kernel_rfl) ?_
    unfold P_law01_many
    (repeat first | refine zSeq ?_ | refine zReg ?_ | refine zBlk ?_ | refine zSkp ?_ | refine zExt ?_ | refine zNil rfl ?_ | refine zGet rfl ?_ | refine zOn rfl rfl ?_ | refine zOff rfl rfl ?_ | refine zU rfl ?_ | refine zOn rfl (by assumption) ?_ | refine zOff rfl (by assumption) ?_ | refine zMov rfl ?_ | refine zAsg rfl ?_ | refine zXtr rfl ?_ | refine zPT rfl rfl rfl ?_ | refine zPF rfl rfl rfl ?_ | refine zPT rfl (by assumption) rfl ?_ | refine zPF rfl (by assumption) rfl ?_ | refine zLss rfl rfl ?_ | refine zLeq rfl rfl ?_ | refine zGtr rfl rfl ?_ | refine zGeq rfl rfl ?_ | refine zEql rfl rfl ?_ | refine zNeq rfl rfl ?_ | refine zAdd rfl rfl (by omega) ?_ | refine zSub rfl rfl (by omega) ?_ | refine zLenS rfl E_string ?_ | refine zNot rfl ?_ | refine zEqS rfl rfl ?_ | refine zNeS rfl rfl ?_ | refine zT rfl rfl ?_ | refine zF rfl rfl ?_ | refine zT rfl (by assumption) ?_ | refine zF rfl (by assumption) ?_)
    refine WL.op (op_makeSlice rfl rfl E_s_uint8 E_uint8 (Nat.le_refl _) (by show n * 1 ≤ _; omega) (by omega)) ?_
    generalize hz : azeros _ n = zs
    have hzl : zs.length = n := by rw [← hz, azeros_length]; show n * 1 = n; omega
    have hb := Bx.new (H := H) (et := 5) (cs := zs)
    generalize H.next = b at hb ⊢
    generalize H.alloc (.row 5 zs .exact 0 0) = H1 at hb ⊢
    (repeat first | refine zSeq ?_ | refine zReg ?_ | refine zBlk ?_ | refine zSkp ?_ | refine zExt ?_ | refine zNil rfl ?_ | refine zGet rfl ?_ | refine zOn rfl rfl ?_ | refine zOff rfl rfl ?_ | refine zU rfl ?_ | refine zOn rfl (by assumption) ?_ | refine zOff rfl (by assumption) ?_ | refine zMov rfl ?_ | refine zAsg rfl ?_ | refine zXtr rfl ?_ | refine zPT rfl rfl rfl ?_ | refine zPF rfl rfl rfl ?_ | refine zPT rfl (by assumption) rfl ?_ | refine zPF rfl (by assumption) rfl ?_ | refine zLss rfl rfl ?_ | refine zLeq rfl rfl ?_ | refine zGtr rfl rfl ?_ | refine zGeq rfl rfl ?_ | refine zEql rfl rfl ?_ | refine zNeq rfl rfl ?_ | refine zAdd rfl rfl (by omega) ?_ | refine zSub rfl rfl (by omega) ?_ | refine zLenS rfl E_string ?_ | refine zNot rfl ?_ | refine zEqS rfl rfl ?_ | refine zNeS rfl rfl ?_ | refine zT rfl rfl ?_ | refine zF rfl rfl ?_ | refine zT rfl (by assumption) ?_ | refine zF rfl (by assumption) ?_)
    refine WP.loopH (σ := Nat × List Value) (fun x => [(0, .int .i64 n), (1, .int .u8 c.toNat), (5, .slice (some ⟨b, 0, none⟩) n n), (6, .int .i64 x.1)]) (fun x H' => x.1 ≤ n ∧ Bx H' b 5 x.2 ∧ x.2.length = n ∧ x.2.take x.1 = List.replicate x.1 (.int .u8 c.toNat)) (fun x => n - x.1) (0, zs)
      ⟨by simp, hb, hzl, rfl⟩ ⟨rfl, rfl, rfl, rfl, trivial⟩ ?_
    rintro ⟨i, cs⟩ H2 ⟨hi, hb2, hlen, htake⟩
    simp only at hi hb2 hlen htake ⊢
    rcases Nat.lt_or_ge i n with h | h
    · have g1 : decide ((i : Int) < n) = true := decide_eq_true (by omega)
      have ha : aIndex V.E 40 (.slice (some ⟨b, 0, none⟩) n n) (.int .i64 i) = some (.pointer (some ⟨b, 0 + i * 1, none⟩)) := by
        simp only [aIndex, E_s_uint8, E_uint8]
        rw [if_pos ⟨by omega, by omega⟩]; rfl
      obtain ⟨H3, hw, hb3, _, _⟩ := hb2.wr (off := 0 + i * 1) (vs := [.int .u8 c.toNat]) (by simp) (by simp; omega)
      (repeat first | refine zSeq ?_ | refine zReg ?_ | refine zBlk ?_ | refine zSkp ?_ | refine zExt ?_ | refine zNil rfl ?_ | refine zGet rfl ?_ | refine zOn rfl rfl ?_ | refine zOff rfl rfl ?_ | refine zU rfl ?_ | refine zOn rfl (by assumption) ?_ | refine zOff rfl (by assumption) ?_ | refine zMov rfl ?_ | refine zAsg rfl ?_ | refine zXtr rfl ?_ | refine zPT rfl rfl rfl ?_ | refine zPF rfl rfl rfl ?_ | refine zPT rfl (by assumption) rfl ?_ | refine zPF rfl (by assumption) rfl ?_ | refine zLss rfl rfl ?_ | refine zLeq rfl rfl ?_ | refine zGtr rfl rfl ?_ | refine zGeq rfl rfl ?_ | refine zEql rfl rfl ?_ | refine zNeq rfl rfl ?_ | refine zAdd rfl rfl (by omega) ?_ | refine zSub rfl rfl (by omega) ?_ | refine zLenS rfl E_string ?_ | refine zNot rfl ?_ | refine zEqS rfl rfl ?_ | refine zNeS rfl rfl ?_ | refine zT rfl rfl ?_ | refine zF rfl rfl ?_ | refine zT rfl (by assumption) ?_ | refine zF rfl (by assumption) ?_)
      refine WL.op (op_indexAddr rfl rfl ha) ?_
      refine WL.op (op_store rfl rfl E_uint8 rfl rfl hw) ?_
      (repeat first | refine zSeq ?_ | refine zReg ?_ | refine zBlk ?_ | refine zSkp ?_ | refine zExt ?_ | refine zNil rfl ?_ | refine zGet rfl ?_ | refine zOn rfl rfl ?_ | refine zOff rfl rfl ?_ | refine zU rfl ?_ | refine zOn rfl (by assumption) ?_ | refine zOff rfl (by assumption) ?_ | refine zMov rfl ?_ | refine zAsg rfl ?_ | refine zXtr rfl ?_ | refine zPT rfl rfl rfl ?_ | refine zPF rfl rfl rfl ?_ | refine zPT rfl (by assumption) rfl ?_ | refine zPF rfl (by assumption) rfl ?_ | refine zLss rfl rfl ?_ | refine zLeq rfl rfl ?_ | refine zGtr rfl rfl ?_ | refine zGeq rfl rfl ?_ | refine zEql rfl rfl ?_ | refine zNeq rfl rfl ?_ | refine zAdd rfl rfl (by omega) ?_ | refine zSub rfl rfl (by omega) ?_ | refine zLenS rfl E_string ?_ | refine zNot rfl ?_ | refine zEqS rfl rfl ?_ | refine zNeS rfl rfl ?_ | refine zT rfl rfl ?_ | refine zF rfl rfl ?_ | refine zT rfl (by assumption) ?_ | refine zF rfl (by assumption) ?_)
      refine ⟨(i + 1, _), ⟨by simp only; omega, hb3, ?_, ?_⟩, by simp only; omega, rfl, rfl, rfl, rfl, trivial⟩
      · show (splice cs (0 + i * 1) [.int .u8 c.toNat]).length = n
        rw [splice_length (by simp; omega), hlen]
      · simp only [splice, Nat.zero_add, Nat.mul_one]
        rw [htake, List.take_append_of_le_length (by simp), List.take_of_length_le (by simp), ← List.replicate_succ']
    · have g1 : decide ((i : Int) < n) = false := decide_eq_false (by omega)
      obtain rfl : i = n := by omega
      rw [List.take_of_length_le (by omega)] at htake
      have hr : Rd H2 b 0 i ((List.replicate i c).map fun b => .int .u8 b.toNat) := by
        rw [List.map_replicate, ← htake]; exact hb2.rd hlen
      (repeat first | refine zSeq ?_ | refine zReg ?_ | refine zBlk ?_ | refine zSkp ?_ | refine zExt ?_ | refine zNil rfl ?_ | refine zGet rfl ?_ | refine zOn rfl rfl ?_ | refine zOff rfl rfl ?_ | refine zU rfl ?_ | refine zOn rfl (by assumption) ?_ | refine zOff rfl (by assumption) ?_ | refine zMov rfl ?_ | refine zAsg rfl ?_ | refine zXtr rfl ?_ | refine zPT rfl rfl rfl ?_ | refine zPF rfl rfl rfl ?_ | refine zPT rfl (by assumption) rfl ?_ | refine zPF rfl (by assumption) rfl ?_ | refine zLss rfl rfl ?_ | refine zLeq rfl rfl ?_ | refine zGtr rfl rfl ?_ | refine zGeq rfl rfl ?_ | refine zEql rfl rfl ?_ | refine zNeq rfl rfl ?_ | refine zAdd rfl rfl (by omega) ?_ | refine zSub rfl rfl (by omega) ?_ | refine zLenS rfl E_string ?_ | refine zNot rfl ?_ | refine zEqS rfl rfl ?_ | refine zNeS rfl rfl ?_ | refine zT rfl rfl ?_ | refine zF rfl rfl ?_ | refine zT rfl (by assumption) ?_ | refine zF rfl (by assumption) ?_)
      refine WL.op (op_bytesStr rfl E_s_uint8 E_string E_uint8 h0 hr) ?_
      (repeat first | refine zSeq ?_ | refine zReg ?_ | refine zBlk ?_ | refine zSkp ?_ | refine zExt ?_ | refine zNil rfl ?_ | refine zGet rfl ?_ | refine zOn rfl rfl ?_ | refine zOff rfl rfl ?_ | refine zU rfl ?_ | refine zOn rfl (by assumption) ?_ | refine zOff rfl (by assumption) ?_ | refine zMov rfl ?_ | refine zAsg rfl ?_ | refine zXtr rfl ?_ | refine zPT rfl rfl rfl ?_ | refine zPF rfl rfl rfl ?_ | refine zPT rfl (by assumption) rfl ?_ | refine zPF rfl (by assumption) rfl ?_ | refine zLss rfl rfl ?_ | refine zLeq rfl rfl ?_ | refine zGtr rfl rfl ?_ | refine zGeq rfl rfl ?_ | refine zEql rfl rfl ?_ | refine zNeq rfl rfl ?_ | refine zAdd rfl rfl (by omega) ?_ | refine zSub rfl rfl (by omega) ?_ | refine zLenS rfl E_string ?_ | refine zNot rfl ?_ | refine zEqS rfl rfl ?_ | refine zNeS rfl rfl ?_ | refine zT rfl rfl ?_ | refine zF rfl rfl ?_ | refine zT rfl (by assumption) ?_ | refine zF rfl (by assumption) ?_)
      exact WP.ret ⟨.inr rfl, _, rfl, rfl⟩
  obtain ⟨u, H', h, rfl⟩ := key
  exact ⟨H', h⟩
theorem blanks_ok (n p : Nat) : toks false p (List.replicate n 32) = .ok [] := by
  have : ∀ n, idleRun false (List.replicate n 32) = some false := fun n => by
    induction n with
    | zero => rfl
    | succ n ih => rw [List.replicate_succ, idleRun, if_pos (by rfl)]; exact ih
  have := toks_skip (this n) p []
  rw [List.append_nil] at this
  exact this
def isRep (c : UInt8) : List UInt8 → Nat → Bool
  | [], n => Nat.beq n 0
  | d :: l, n => match Nat.beq d.toNat c.toNat with
    | true => match n with
      | 0 => false
      | m + 1 => isRep c l m
    | false => false
theorem isRep_eq {c : UInt8} : ∀ {l : List UInt8} {n : Nat}, isRep c l n = true → l = List.replicate n c
  | [], n, h => by
    unfold isRep at h
    obtain rfl := Nat.eq_of_beq_eq_true h; rfl
  | d :: l, n, h => by
    unfold isRep at h
    split at h
    · rename_i hd
      split at h
      · cases h
      · rename_i m
        rw [List.replicate_succ, isRep_eq h, UInt8.toNat_inj.1 (Nat.eq_of_beq_eq_true hd)]
    · cases h
theorem tokens_big_c (hO : ∀ f vs H, f ≠ 8 → O f vs H = none) {s : ByteArray} (hs : 65536 < s.size) : ∃ H', Lc V O F_lex_Tokens [.string s] H (.tuple #[.slice none 0 0, .int .i64 0, .int .i64 40]) H' := by
  have key : ∃ u H', Lc V O F_lex_Tokens [.string s] H u H' ∧ u = .tuple #[.slice none 0 0, .int .i64 0, .int .i64 40] := by
    refine Lc.lex_Tokens (R := fun u _ => u = .tuple #[.slice none 0 0, .int .i64 0, .int .i64 40]) (hO _ _ _ (by decide)) (Nat.le_of_ble_eq_true rfl) (by kernel_rfl) ?_
    have g1 : decide ((s.size : Int) > 65536) = true := decide_eq_true (by omega)
    unfold P_lex_Tokens
    (repeat first | refine zSeq ?_ | refine zReg ?_ | refine zBlk ?_ | refine zSkp ?_ | refine zExt ?_ | refine zNil rfl ?_ | refine zGet rfl ?_ | refine zOn rfl rfl ?_ | refine zOff rfl rfl ?_ | refine zU rfl ?_ | refine zOn rfl (by assumption) ?_ | refine zOff rfl (by assumption) ?_ | refine zMov rfl ?_ | refine zAsg rfl ?_ | refine zXtr rfl ?_ | refine zPT rfl rfl rfl ?_ | refine zPF rfl rfl rfl ?_ | refine zPT rfl (by assumption) rfl ?_ | refine zPF rfl (by assumption) rfl ?_ | refine zLss rfl rfl ?_ | refine zLeq rfl rfl ?_ | refine zGtr rfl rfl ?_ | refine zGeq rfl rfl ?_ | refine zEql rfl rfl ?_ | refine zNeq rfl rfl ?_ | refine zAdd rfl rfl (by omega) ?_ | refine zSub rfl rfl (by omega) ?_ | refine zLenS rfl E_string ?_ | refine zNot rfl ?_ | refine zEqS rfl rfl ?_ | refine zNeS rfl rfl ?_ | refine zT rfl rfl ?_ | refine zF rfl rfl ?_ | refine zT rfl (by assumption) ?_ | refine zF rfl (by assumption) ?_)
    exact WP.ret ⟨.inr rfl, _, rfl, rfl⟩
  obtain ⟨u, H', h, rfl⟩ := key
  exact ⟨H', h⟩
theorem tokens_blank_c (hO : ∀ f vs H, f ≠ 8 → O f vs H = none) {n : Nat} (hn : n ≤ 65536) : ∃ H', Lc V O F_lex_Tokens [.string (rep n 32)] H (.tuple #[.slice none 0 0, .int .i64 0, .int .i64 0]) H' := by
  have hmx : maxLen = 9223372036854775807 := rfl
  have hsz : (rep n 32).size = n := List.length_replicate
  have key : ∃ u H', Lc V O F_lex_Tokens [.string (rep n 32)] H u H' ∧ u = .tuple #[.slice none 0 0, .int .i64 0, .int .i64 0] := by
    refine Lc.lex_Tokens (R := fun u _ => u = .tuple #[.slice none 0 0, .int .i64 0, .int .i64 0]) (hO _ _ _ (by decide)) (Nat.le_of_ble_eq_true rfl) (by kernel_rfl) ?_
    unfold P_lex_Tokens
    have g1 : decide (((rep n 32).size : Int) > 65536) = false := decide_eq_false (by omega)
    (repeat first | refine zSeq ?_ | refine zReg ?_ | refine zBlk ?_ | refine zSkp ?_ | refine zExt ?_ | refine zNil rfl ?_ | refine zGet rfl ?_ | refine zOn rfl rfl ?_ | refine zOff rfl rfl ?_ | refine zU rfl ?_ | refine zOn rfl (by assumption) ?_ | refine zOff rfl (by assumption) ?_ | refine zMov rfl ?_ | refine zAsg rfl ?_ | refine zXtr rfl ?_ | refine zPT rfl rfl rfl ?_ | refine zPF rfl rfl rfl ?_ | refine zPT rfl (by assumption) rfl ?_ | refine zPF rfl (by assumption) rfl ?_ | refine zLss rfl rfl ?_ | refine zLeq rfl rfl ?_ | refine zGtr rfl rfl ?_ | refine zGeq rfl rfl ?_ | refine zEql rfl rfl ?_ | refine zNeq rfl rfl ?_ | refine zAdd rfl rfl (by omega) ?_ | refine zSub rfl rfl (by omega) ?_ | refine zLenS rfl E_string ?_ | refine zNot rfl ?_ | refine zEqS rfl rfl ?_ | refine zNeS rfl rfl ?_ | refine zT rfl rfl ?_ | refine zF rfl rfl ?_ | refine zT rfl (by assumption) ?_ | refine zF rfl (by assumption) ?_)
    refine WP.loopH (σ := Nat) (fun x => [(0, .string (rep n 32)), (5, .slice none 0 0), (6, .int .i64 x)]) (fun x _ => x ≤ n) (fun x => n - x) 0 (Nat.zero_le _) ⟨rfl, rfl, rfl, trivial⟩ ?_
    intro p H1 hp
    rcases Nat.lt_or_ge p n with h2 | h2
    · have g2 : decide ((p : Int) < (rep n 32).size) = true := decide_eq_true (by omega)
      have he : (rep n 32).extract (p : Int).toNat (rep n 32).size = rep (n - p) 32 := by
        rw [show (p : Int).toNat = p from rfl, ext_end]
        show str ((List.replicate n 32).drop p) = _
        rw [List.drop_replicate]; rfl
      have hbl : blankL (List.replicate (n - p) 32) = n - p := by
        obtain ⟨m, hm⟩ : ∃ m, n - p = m + 1 := ⟨n - p - 1, by omega⟩
        rw [hm, List.replicate_succ]
        show ((32 :: List.replicate m 32).takeWhile fun b : UInt8 => sp_ b.toNat).length = m + 1
        rw [← List.replicate_succ, takeWhile_self fun b hb => by rw [List.eq_of_mem_replicate hb]; rfl, List.length_replicate]
      (repeat first | refine zSeq ?_ | refine zReg ?_ | refine zBlk ?_ | refine zSkp ?_ | refine zExt ?_ | refine zNil rfl ?_ | refine zGet rfl ?_ | refine zOn rfl rfl ?_ | refine zOff rfl rfl ?_ | refine zU rfl ?_ | refine zOn rfl (by assumption) ?_ | refine zOff rfl (by assumption) ?_ | refine zMov rfl ?_ | refine zAsg rfl ?_ | refine zXtr rfl ?_ | refine zPT rfl rfl rfl ?_ | refine zPF rfl rfl rfl ?_ | refine zPT rfl (by assumption) rfl ?_ | refine zPF rfl (by assumption) rfl ?_ | refine zLss rfl rfl ?_ | refine zLeq rfl rfl ?_ | refine zGtr rfl rfl ?_ | refine zGeq rfl rfl ?_ | refine zEql rfl rfl ?_ | refine zNeq rfl rfl ?_ | refine zAdd rfl rfl (by omega) ?_ | refine zSub rfl rfl (by omega) ?_ | refine zLenS rfl E_string ?_ | refine zNot rfl ?_ | refine zEqS rfl rfl ?_ | refine zNeS rfl rfl ?_ | refine zT rfl rfl ?_ | refine zF rfl rfl ?_ | refine zT rfl (by assumption) ?_ | refine zF rfl (by assumption) ?_)
      refine WL.op (op_sliceS rfl rfl E_string (by omega) (by omega)) ?_
      rw [he]
      have hz2 : (rep (n - p) 32).size = n - p := List.length_replicate
      refine WL.call rfl rfl is_lex_blank (blank_c hO (s := rep (n - p) 32) (by omega) (by
        show List.replicate (n - p) 32 ≠ []
        intro e; have := congrArg List.length e; simp at this; omega)) ?_
      rw [show (rep (n - p) 32).data.toList = List.replicate (n - p) 32 from rfl, hbl]
      have g3 : decide (((n - p : Nat) : Int) > 0) = true := decide_eq_true (by omega)
      (repeat first | refine zSeq ?_ | refine zReg ?_ | refine zBlk ?_ | refine zSkp ?_ | refine zExt ?_ | refine zNil rfl ?_ | refine zGet rfl ?_ | refine zOn rfl rfl ?_ | refine zOff rfl rfl ?_ | refine zU rfl ?_ | refine zOn rfl (by assumption) ?_ | refine zOff rfl (by assumption) ?_ | refine zMov rfl ?_ | refine zAsg rfl ?_ | refine zXtr rfl ?_ | refine zPT rfl rfl rfl ?_ | refine zPF rfl rfl rfl ?_ | refine zPT rfl (by assumption) rfl ?_ | refine zPF rfl (by assumption) rfl ?_ | refine zLss rfl rfl ?_ | refine zLeq rfl rfl ?_ | refine zGtr rfl rfl ?_ | refine zGeq rfl rfl ?_ | refine zEql rfl rfl ?_ | refine zNeq rfl rfl ?_ | refine zAdd rfl rfl (by omega) ?_ | refine zSub rfl rfl (by omega) ?_ | refine zLenS rfl E_string ?_ | refine zNot rfl ?_ | refine zEqS rfl rfl ?_ | refine zNeS rfl rfl ?_ | refine zT rfl rfl ?_ | refine zF rfl rfl ?_ | refine zT rfl (by assumption) ?_ | refine zF rfl (by assumption) ?_)
      exact ⟨p + (n - p), by omega, by omega, rfl, rfl, rfl, trivial⟩
    · have g2 : decide ((p : Int) < (rep n 32).size) = false := decide_eq_false (by omega)
      (repeat first | refine zSeq ?_ | refine zReg ?_ | refine zBlk ?_ | refine zSkp ?_ | refine zExt ?_ | refine zNil rfl ?_ | refine zGet rfl ?_ | refine zOn rfl rfl ?_ | refine zOff rfl rfl ?_ | refine zU rfl ?_ | refine zOn rfl (by assumption) ?_ | refine zOff rfl (by assumption) ?_ | refine zMov rfl ?_ | refine zAsg rfl ?_ | refine zXtr rfl ?_ | refine zPT rfl rfl rfl ?_ | refine zPF rfl rfl rfl ?_ | refine zPT rfl (by assumption) rfl ?_ | refine zPF rfl (by assumption) rfl ?_ | refine zLss rfl rfl ?_ | refine zLeq rfl rfl ?_ | refine zGtr rfl rfl ?_ | refine zGeq rfl rfl ?_ | refine zEql rfl rfl ?_ | refine zNeq rfl rfl ?_ | refine zAdd rfl rfl (by omega) ?_ | refine zSub rfl rfl (by omega) ?_ | refine zLenS rfl E_string ?_ | refine zNot rfl ?_ | refine zEqS rfl rfl ?_ | refine zNeS rfl rfl ?_ | refine zT rfl rfl ?_ | refine zF rfl rfl ?_ | refine zT rfl (by assumption) ?_ | refine zF rfl (by assumption) ?_)
      exact WP.ret ⟨.inr rfl, _, rfl, rfl⟩
  obtain ⟨u, H', h, rfl⟩ := key
  exact ⟨H', h⟩
def O0 : Orc := fun _ _ _ => none
theorem O0_ok : OrcOk V O0 := fun _ _ _ _ _ h => nomatch h
theorem names0 : (Tryd.prog.funcs.toList.all fun fn => !(fn.name == "runtime.NumGoroutine")) = true := by kernel_rfl
theorem mixed0 : Tryd.prog.follows .mixedOrders = true := by kernel_rfl
theorem sound0 {f : FuncId} {vs : List Value} {H : AH} {v : Value} {H' : AH} (h : Lc V O0 f vs H v H') : Sound V (.fn f) vs H v H' := h.sound O0_ok (fun _ _ h => h) (fnOf_ok names0) mixed0
theorem plain_soundD {f : FuncId} {vs : List Value} {v : Value} {H' : AH} (hvs : vs.all constOk = true) (hv : constOk v = true) (h1 : Sound V (.fn f) vs (startH [.dead]) v H') (H : AH) : Sound V (.fn f) vs H v H := fun B0 ι w vs' hG hR hL => by
  have hk : Kro (startH [.dead]) H := ⟨by
    obtain ⟨l, h, _⟩ := hG 0 (by decide)
    have := hR.dom 0 l h
    show 1 ≤ H.next; omega, fun b et cells g v hb ho => by
    rw [startH_obj] at ho
    cases b with
    | zero => cases ho
    | succ b => cases ho⟩
  exact plain_soundS (P := Tryd.prog) (rows := [.dead]) rfl hvs hv h1 hk B0 ι w vs' hG hR hL
def O3 : Orc := fun f vs H => match f with
  | 10 => match vs with
    | [.int .i64 n, .int .u8 c] => if n = 65537 ∧ c = 36 then some (.string (rep 65537 36), H) else if n = 65536 ∧ c = 32 then some (.string (rep 65536 32), H) else none
    | _ => none
  | 14 => match vs with
    | [.string s] => match s.data.toList with
      | [] => none
      | [_] => none
      | [_, _] => none
      | a :: b :: c :: r => if a = 36 ∧ b = 36 ∧ c = 36 then (if isRep 36 (a :: b :: c :: r) 65537 then some (.tuple #[.slice none 0 0, .int .i64 0, .int .i64 40], H) else none)
        else if a = 32 ∧ b = 32 ∧ c = 32 then (if isRep 32 (a :: b :: c :: r) 65536 then some (.tuple #[.slice none 0 0, .int .i64 0, .int .i64 0], H) else none) else none
    | _ => none
  | _ => none
theorem O3_ok : OrcOk V O3 := fun f vs H v H' h => by
  unfold O3 at h
  split at h
  · split at h
    · rename_i n c
      split at h
      · rename_i hc
        cases h
        obtain ⟨rfl, rfl⟩ := hc
        obtain ⟨H1, hl⟩ := many_c (O := O0) (H := startH [.dead]) (fun _ _ => rfl) (n := 65537) (c := 36) (by decide) (by decide)
        exact plain_soundD rfl rfl (sound0 hl) H
      · split at h
        · rename_i hc
          cases h
          obtain ⟨rfl, rfl⟩ := hc
          obtain ⟨H1, hl⟩ := many_c (O := O0) (H := startH [.dead]) (fun _ _ => rfl) (n := 65536) (c := 32) (by decide) (by decide)
          exact plain_soundD rfl rfl (sound0 hl) H
        · cases h
    · cases h
  · split at h
    · rename_i s
      split at h
      · cases h
      · cases h
      · cases h
      · rename_i a b c r hs
        split at h
        · split at h
          · rename_i hr
            cases h
            have e := isRep_eq hr
            rw [← hs] at e
            obtain rfl : s = rep 65537 36 := ByteArray.ext (Array.ext' e)
            obtain ⟨H1, hl⟩ := tokens_big_c (O := O0) (H := startH [.dead]) (fun _ _ _ _ => rfl) (s := rep 65537 36) (by rw [show (rep 65537 36).size = 65537 from List.length_replicate]; decide)
            exact plain_soundD rfl rfl (sound0 hl) H
          · cases h
        · split at h
          · split at h
            · rename_i hr
              cases h
              have e := isRep_eq hr
              rw [← hs] at e
              obtain rfl : s = rep 65536 32 := ByteArray.ext (Array.ext' e)
              obtain ⟨H1, hl⟩ := tokens_blank_c (O := O0) (H := startH [.dead]) (fun _ _ _ _ => rfl) (n := 65536) (Nat.le_refl _)
              exact plain_soundD rfl rfl (sound0 hl) H
            · cases h
          · cases h
    · cases h
  · cases h
end Go.Proofs.YtdkfcpadbahohaaDoor.U

/-
  LexNames: contracts of cut and bad.
-/
namespace Go.Proofs.YtdkfcpadbahohaaDoor.U
open Go Go.Ev
attribute [local irreducible] WL WP WH W
variable {O : Orc} {H : AH}
def badB (s : ByteArray) (at_ : Int) : Bool := ((lexR s.data.toList).1.length : Int) == 0 && ((lexR s.data.toList).2.1 : Int) == at_ && ((lexR s.data.toList).2.2 : Int) == 63
theorem bad_c (hO : ∀ f vs H, f ≠ 8 → O f vs H = none) (hS : HasSigns H) {s : ByteArray} (hs : s.size ≤ maxLen) {at_ : Int} : ∃ H', Lc V O F_law01_bad [.string s, .int .i64 at_] H (.bool (badB s at_)) H' ∧ Fr H H' := by
  have key : ∃ u H', Lc V O F_law01_bad [.string s, .int .i64 at_] H u H' ∧ (u = .bool (badB s at_) ∧ Fr H H') := by
    refine Lc.law01_bad (R := fun u H' => u = .bool (badB s at_) ∧ Fr H H') (hO _ _ _ (by decide)) (Nat.le_of_ble_eq_true rfl) (by kernel_rfl) ?_
    unfold P_law01_bad
    (repeat first | refine zSeq ?_ | refine zReg ?_ | refine zBlk ?_ | refine zSkp ?_ | refine zExt ?_ | refine zNil rfl ?_ | refine zGet rfl ?_ | refine zOn rfl rfl ?_ | refine zOff rfl rfl ?_ | refine zU rfl ?_ | refine zOn rfl (by assumption) ?_ | refine zOff rfl (by assumption) ?_ | refine zMov rfl ?_ | refine zAsg rfl ?_ | refine zXtr rfl ?_ | refine zPT rfl rfl rfl ?_ | refine zPF rfl rfl rfl ?_ | refine zPT rfl (by assumption) rfl ?_ | refine zPF rfl (by assumption) rfl ?_ | refine zLss rfl rfl ?_ | refine zLeq rfl rfl ?_ | refine zGtr rfl rfl ?_ | refine zGeq rfl rfl ?_ | refine zEql rfl rfl ?_ | refine zNeq rfl rfl ?_ | refine zAdd rfl rfl (by omega) ?_ | refine zSub rfl rfl (by omega) ?_ | refine zLenS rfl E_string ?_ | refine zNot rfl ?_ | refine zEqS rfl rfl ?_ | refine zNeS rfl rfl ?_ | refine zT rfl rfl ?_ | refine zF rfl rfl ?_ | refine zT rfl (by assumption) ?_ | refine zF rfl (by assumption) ?_ | refine WL.op (o := .index _ _ _) (op_indexS rfl rfl E_string hix hx) ?_ | refine zIdx rfl rfl ha ?_ | refine zFld (f := 0) rfl O_api_Token_Kind ?_ | refine zFld (f := 1) rfl O_api_Token_Text ?_ | refine zFld (f := 2) rfl O_api_Token_At ?_ | refine zLd (ty := 3) rfl hlA ?_ | refine zLd (ty := 9) rfl hlT ?_ | refine zLd (ty := 5) rfl hlK ?_ | refine zLen rfl (hv.len E30) ?_ | refine zLen rfl (hx2.len E_s_string) ?_ | refine zIdx rfl rfl ha' ?_ | refine zLd (ty := 9) rfl hlT' ?_)
    obtain ⟨v, H1, o, ht, hf, hw⟩ := tokens_c (H := H) hO hS hs
    refine WL.call rfl rfl is_lex_Tokens ht ?_
    have hv := hw.sl
    have fin : ∀ b : Bool, badB s at_ = b → (resOf [Value.bool b] = .bool (badB s at_) ∧ Fr H H1) := fun b h => by rw [h]; exact ⟨rfl, hf⟩
    (repeat' first | refine zSeq ?_ | refine zReg ?_ | refine zBlk ?_ | refine zSkp ?_ | refine zExt ?_ | refine zNil rfl ?_ | refine zGet rfl ?_ | refine zOn rfl rfl ?_ | refine zOff rfl rfl ?_ | refine zU rfl ?_ | refine zOn rfl (by assumption) ?_ | refine zOff rfl (by assumption) ?_ | refine zMov rfl ?_ | refine zAsg rfl ?_ | refine zXtr rfl ?_ | refine zPT rfl rfl rfl ?_ | refine zPF rfl rfl rfl ?_ | refine zPT rfl (by assumption) rfl ?_ | refine zPF rfl (by assumption) rfl ?_ | refine zLss rfl rfl ?_ | refine zLeq rfl rfl ?_ | refine zGtr rfl rfl ?_ | refine zGeq rfl rfl ?_ | refine zEql rfl rfl ?_ | refine zNeq rfl rfl ?_ | refine zAdd rfl rfl (by omega) ?_ | refine zSub rfl rfl (by omega) ?_ | refine zLenS rfl E_string ?_ | refine zNot rfl ?_ | refine zEqS rfl rfl ?_ | refine zNeS rfl rfl ?_ | refine zT rfl rfl ?_ | refine zF rfl rfl ?_ | refine zT rfl (by assumption) ?_ | refine zF rfl (by assumption) ?_ | refine WL.op (o := .index _ _ _) (op_indexS rfl rfl E_string hix hx) ?_ | refine zIdx rfl rfl ha ?_ | refine zFld (f := 0) rfl O_api_Token_Kind ?_ | refine zFld (f := 1) rfl O_api_Token_Text ?_ | refine zFld (f := 2) rfl O_api_Token_At ?_ | refine zLd (ty := 3) rfl hlA ?_ | refine zLd (ty := 9) rfl hlT ?_ | refine zLd (ty := 5) rfl hlK ?_ | refine zLen rfl (hv.len E30) ?_ | refine zLen rfl (hx2.len E_s_string) ?_ | refine zIdx rfl rfl ha' ?_ | refine zLd (ty := 9) rfl hlT' ?_ | refine zGd rfl (fun _ => ?_) (fun _ => ?_) | refine zC rfl (fun _ => ?_) (fun _ => ?_))
    all_goals refine WP.ret ⟨.inr rfl, _, rfl, fin _ ?_⟩
    all_goals clear fin hw hv ht
    all_goals simp only [badB, *, Bool.not_true, Bool.not_false, Bool.true_or, Bool.or_true, Bool.false_or, Bool.or_false, Bool.true_and, Bool.and_true, Bool.false_and, Bool.and_false]
    all_goals rfl
  obtain ⟨u, H', h, rfl, hk⟩ := key
  exact ⟨H', h, hk⟩
def kindOf (c : UInt8) : Nat := if (c.toNat : Int) == 110 then 1 else if (c.toNat : Int) == 100 then 2 else 3
def okB : List Tok → List UInt8 → List ByteArray → Bool
  | t :: ts, k :: ks, x :: xs => Nat.beq t.kind (kindOf k) && t.text == x.data.toList && okB ts ks xs
  | _, _, _ => true
def cutB (s : List UInt8) (kinds : List UInt8) (strs : List ByteArray) : Option Bool :=
  if (lexR s).2.2 = 0 ∧ (lexR s).2.1 = 0 ∧ (lexR s).1.length = strs.length ∧ kinds.length = strs.length then (if okB (lexR s).1 kinds strs then some true else none) else some false
theorem okB_at : ∀ {ts : List Tok} {ks : List UInt8} {xs : List ByteArray}, okB ts ks xs = true → ∀ (i : Nat) (h1 : i < ts.length) (h2 : i < ks.length) (h3 : i < xs.length), ts[i].kind = kindOf ks[i] ∧ ts[i].text = xs[i].data.toList
  | t :: ts, k :: ks, x :: xs, h, 0, _, _, _ => by
    simp only [okB, Bool.and_eq_true, beq_iff_eq] at h
    exact ⟨Nat.eq_of_beq_eq_true h.1.1, h.1.2⟩
  | t :: ts, k :: ks, x :: xs, h, i + 1, h1, h2, h3 => by
    simp only [okB, Bool.and_eq_true] at h
    exact okB_at h.2 i (by simpa using h1) (by simpa using h2) (by simpa using h3)
theorem cov_all {L : List UInt8} : ∀ {ts : List Tok} {a : Nat}, Cov L a ts → ∀ t ∈ ts, t.at_ + t.text.length ≤ L.length ∧ (L.drop t.at_).take t.text.length = t.text
  | [], _, _, _, h => nomatch h
  | t :: ts, a, hc, u, h => by
    obtain ⟨_, h2, _, _, h5, h6⟩ := hc
    rcases List.mem_cons.1 h with rfl | h
    · exact ⟨h2, h5⟩
    · exact cov_all h6 u h
set_option maxHeartbeats 2000000 in
theorem cut_c (hO : ∀ f vs H, f ≠ 8 → O f vs H = none) (hS : HasSigns H) {s kinds : ByteArray} (hs : s.size ≤ maxLen) (hks : kinds.size ≤ maxLen) {w : Value} {strs : List ByteArray} (hx2 : Sl H w 1 strs.length (strs.map .string)) {b : Bool} (hc : cutB s.data.toList kinds.data.toList strs = some b) :
    ∃ H', Lc V O F_law01_cut [.string s, .string kinds, w] H (.bool b) H' ∧ Fr H H' := by
  have hsz : s.size = s.data.toList.length := rfl
  have hkz : kinds.size = kinds.data.toList.length := rfl
  have hmx : maxLen = 9223372036854775807 := rfl
  have hxl := hx2.2.1
  have key : ∃ u H', Lc V O F_law01_cut [.string s, .string kinds, w] H u H' ∧ (u = .bool b ∧ Fr H H') := by
    refine Lc.law01_cut (R := fun u H' => u = .bool b ∧ Fr H H') (hO _ _ _ (by decide)) (Nat.le_of_ble_eq_true rfl) (by kernel_rfl) ?_
    unfold P_law01_cut
    (repeat first | refine zSeq ?_ | refine zReg ?_ | refine zBlk ?_ | refine zSkp ?_ | refine zExt ?_ | refine zNil rfl ?_ | refine zGet rfl ?_ | refine zOn rfl rfl ?_ | refine zOff rfl rfl ?_ | refine zU rfl ?_ | refine zOn rfl (by assumption) ?_ | refine zOff rfl (by assumption) ?_ | refine zMov rfl ?_ | refine zAsg rfl ?_ | refine zXtr rfl ?_ | refine zPT rfl rfl rfl ?_ | refine zPF rfl rfl rfl ?_ | refine zPT rfl (by assumption) rfl ?_ | refine zPF rfl (by assumption) rfl ?_ | refine zLss rfl rfl ?_ | refine zLeq rfl rfl ?_ | refine zGtr rfl rfl ?_ | refine zGeq rfl rfl ?_ | refine zEql rfl rfl ?_ | refine zNeq rfl rfl ?_ | refine zAdd rfl rfl (by omega) ?_ | refine zSub rfl rfl (by omega) ?_ | refine zLenS rfl E_string ?_ | refine zNot rfl ?_ | refine zEqS rfl rfl ?_ | refine zNeS rfl rfl ?_ | refine zT rfl rfl ?_ | refine zF rfl rfl ?_ | refine zT rfl (by assumption) ?_ | refine zF rfl (by assumption) ?_ | refine WL.op (o := .index _ _ _) (op_indexS rfl rfl E_string hix hx) ?_ | refine zIdx rfl rfl ha ?_ | refine zFld (f := 0) rfl O_api_Token_Kind ?_ | refine zFld (f := 1) rfl O_api_Token_Text ?_ | refine zFld (f := 2) rfl O_api_Token_At ?_ | refine zLd (ty := 3) rfl hlA ?_ | refine zLd (ty := 9) rfl hlT ?_ | refine zLd (ty := 5) rfl hlK ?_ | refine zLen rfl (hv.len E30) ?_ | refine zLen rfl (hx2.len E_s_string) ?_ | refine zIdx rfl rfl ha' ?_ | refine zLd (ty := 9) rfl hlT' ?_)
    obtain ⟨v, H1, o, ht, hf, hw⟩ := tokens_c (H := H) hO hS hs
    refine WL.call rfl rfl is_lex_Tokens ht ?_
    have hv := hw.sl
    replace hx2 := hx2.fr hf
    unfold cutB at hc
    split at hc
    rotate_left
    · rename_i hne
      cases hc
      (repeat' first | refine zSeq ?_ | refine zReg ?_ | refine zBlk ?_ | refine zSkp ?_ | refine zExt ?_ | refine zNil rfl ?_ | refine zGet rfl ?_ | refine zOn rfl rfl ?_ | refine zOff rfl rfl ?_ | refine zU rfl ?_ | refine zOn rfl (by assumption) ?_ | refine zOff rfl (by assumption) ?_ | refine zMov rfl ?_ | refine zAsg rfl ?_ | refine zXtr rfl ?_ | refine zPT rfl rfl rfl ?_ | refine zPF rfl rfl rfl ?_ | refine zPT rfl (by assumption) rfl ?_ | refine zPF rfl (by assumption) rfl ?_ | refine zLss rfl rfl ?_ | refine zLeq rfl rfl ?_ | refine zGtr rfl rfl ?_ | refine zGeq rfl rfl ?_ | refine zEql rfl rfl ?_ | refine zNeq rfl rfl ?_ | refine zAdd rfl rfl (by omega) ?_ | refine zSub rfl rfl (by omega) ?_ | refine zLenS rfl E_string ?_ | refine zNot rfl ?_ | refine zEqS rfl rfl ?_ | refine zNeS rfl rfl ?_ | refine zT rfl rfl ?_ | refine zF rfl rfl ?_ | refine zT rfl (by assumption) ?_ | refine zF rfl (by assumption) ?_ | refine WL.op (o := .index _ _ _) (op_indexS rfl rfl E_string hix hx) ?_ | refine zIdx rfl rfl ha ?_ | refine zFld (f := 0) rfl O_api_Token_Kind ?_ | refine zFld (f := 1) rfl O_api_Token_Text ?_ | refine zFld (f := 2) rfl O_api_Token_At ?_ | refine zLd (ty := 3) rfl hlA ?_ | refine zLd (ty := 9) rfl hlT ?_ | refine zLd (ty := 5) rfl hlK ?_ | refine zLen rfl (hv.len E30) ?_ | refine zLen rfl (hx2.len E_s_string) ?_ | refine zIdx rfl rfl ha' ?_ | refine zLd (ty := 9) rfl hlT' ?_ | refine zGd rfl (fun _ => ?_) (fun _ => ?_) | refine zC rfl (fun _ => ?_) (fun _ => ?_))
      all_goals first
        | exact WP.ret ⟨.inr rfl, _, rfl, rfl, hf⟩
        | (exfalso; simp only [bne_iff_ne, ne_eq, Bool.not_true, bne_eq_false_iff_eq, Decidable.not_not] at *; omega)
    rename_i he
    obtain ⟨e1, e2, e3, e4⟩ := he
    split at hc
    rotate_left
    · cases hc
    rename_i hok
    cases hc
    have hl16 : s.data.toList.length ≤ 65536 := by
      rcases Nat.lt_or_ge 65536 s.data.toList.length with h | h
      · rw [lexR, if_pos h] at e1; cases e1
      · exact h
    obtain ⟨ts, hts, hR⟩ : ∃ ts, toks false 0 s.data.toList = .ok ts ∧ lexR s.data.toList = (ts, 0, 0) := by
      rcases lexR_cases hl16 with h | ⟨p, _, h⟩
      · exact h
      · rw [h] at e1; cases e1
    rw [hR] at hw hv e3 hok ⊢
    simp only at hw hv e3 hok
    have hcov := cov_all (cov_ok hts)
    have g1 : ((ts.length : Int) != strs.length) = false := by rw [e3]; simp
    have g2 : ((kinds.size : Int) != strs.length) = false := by rw [hkz, e4]; simp
    clear ht
    (repeat first | refine zSeq ?_ | refine zReg ?_ | refine zBlk ?_ | refine zSkp ?_ | refine zExt ?_ | refine zNil rfl ?_ | refine zGet rfl ?_ | refine zOn rfl rfl ?_ | refine zOff rfl rfl ?_ | refine zU rfl ?_ | refine zOn rfl (by assumption) ?_ | refine zOff rfl (by assumption) ?_ | refine zMov rfl ?_ | refine zAsg rfl ?_ | refine zXtr rfl ?_ | refine zPT rfl rfl rfl ?_ | refine zPF rfl rfl rfl ?_ | refine zPT rfl (by assumption) rfl ?_ | refine zPF rfl (by assumption) rfl ?_ | refine zLss rfl rfl ?_ | refine zLeq rfl rfl ?_ | refine zGtr rfl rfl ?_ | refine zGeq rfl rfl ?_ | refine zEql rfl rfl ?_ | refine zNeq rfl rfl ?_ | refine zAdd rfl rfl (by omega) ?_ | refine zSub rfl rfl (by omega) ?_ | refine zLenS rfl E_string ?_ | refine zNot rfl ?_ | refine zEqS rfl rfl ?_ | refine zNeS rfl rfl ?_ | refine zT rfl rfl ?_ | refine zF rfl rfl ?_ | refine zT rfl (by assumption) ?_ | refine zF rfl (by assumption) ?_ | refine WL.op (o := .index _ _ _) (op_indexS rfl rfl E_string hix hx) ?_ | refine zIdx rfl rfl ha ?_ | refine zFld (f := 0) rfl O_api_Token_Kind ?_ | refine zFld (f := 1) rfl O_api_Token_Text ?_ | refine zFld (f := 2) rfl O_api_Token_At ?_ | refine zLd (ty := 3) rfl hlA ?_ | refine zLd (ty := 9) rfl hlT ?_ | refine zLd (ty := 5) rfl hlK ?_ | refine zLen rfl (hv.len E30) ?_ | refine zLen rfl (hx2.len E_s_string) ?_ | refine zIdx rfl rfl ha' ?_ | refine zLd (ty := 9) rfl hlT' ?_)
    refine WP.loopH (σ := Nat) (fun x => [(0, .string s), (1, .string kinds), (2, w), (7, v), (10, .int .i64 x)]) (fun x H' => H1 = H' ∧ x ≤ ts.length) (fun x => ts.length - x) 0 ⟨rfl, by simp⟩ ⟨rfl, rfl, rfl, rfl, rfl, trivial⟩ ?_
    rintro i _ ⟨rfl, hi⟩
    rcases Nat.lt_or_ge i ts.length with h | h
    rotate_left
    · have g3 : decide ((i : Int) < ts.length) = false := decide_eq_false (by omega)
      (repeat first | refine zSeq ?_ | refine zReg ?_ | refine zBlk ?_ | refine zSkp ?_ | refine zExt ?_ | refine zNil rfl ?_ | refine zGet rfl ?_ | refine zOn rfl rfl ?_ | refine zOff rfl rfl ?_ | refine zU rfl ?_ | refine zOn rfl (by assumption) ?_ | refine zOff rfl (by assumption) ?_ | refine zMov rfl ?_ | refine zAsg rfl ?_ | refine zXtr rfl ?_ | refine zPT rfl rfl rfl ?_ | refine zPF rfl rfl rfl ?_ | refine zPT rfl (by assumption) rfl ?_ | refine zPF rfl (by assumption) rfl ?_ | refine zLss rfl rfl ?_ | refine zLeq rfl rfl ?_ | refine zGtr rfl rfl ?_ | refine zGeq rfl rfl ?_ | refine zEql rfl rfl ?_ | refine zNeq rfl rfl ?_ | refine zAdd rfl rfl (by omega) ?_ | refine zSub rfl rfl (by omega) ?_ | refine zLenS rfl E_string ?_ | refine zNot rfl ?_ | refine zEqS rfl rfl ?_ | refine zNeS rfl rfl ?_ | refine zT rfl rfl ?_ | refine zF rfl rfl ?_ | refine zT rfl (by assumption) ?_ | refine zF rfl (by assumption) ?_ | refine WL.op (o := .index _ _ _) (op_indexS rfl rfl E_string hix hx) ?_ | refine zIdx rfl rfl ha ?_ | refine zFld (f := 0) rfl O_api_Token_Kind ?_ | refine zFld (f := 1) rfl O_api_Token_Text ?_ | refine zFld (f := 2) rfl O_api_Token_At ?_ | refine zLd (ty := 3) rfl hlA ?_ | refine zLd (ty := 9) rfl hlT ?_ | refine zLd (ty := 5) rfl hlK ?_ | refine zLen rfl (hv.len E30) ?_ | refine zLen rfl (hx2.len E_s_string) ?_ | refine zIdx rfl rfl ha' ?_ | refine zLd (ty := 9) rfl hlT' ?_)
      exact WP.ret ⟨.inr rfl, _, rfl, rfl, hf⟩
    have g3 : decide ((i : Int) < ts.length) = true := decide_eq_true (by omega)
    obtain ⟨hk, htx⟩ := okB_at hok i h (by omega) (by omega)
    have hlen : i < kinds.data.toList.length := by omega
    have hx : kinds.data.toList[(i : Int).toNat]? = some kinds.data.toList[i] := by rw [show (i : Int).toNat = i from rfl, List.getElem?_eq_getElem hlen]
    generalize kinds.data.toList[i] = kc at hk hx
    have hix : (0 : Int) ≤ i := by omega
    (repeat first | refine zReg ?_ | refine zSkp ?_ | refine zExt ?_ | refine zNil rfl ?_ | refine zGet rfl ?_ | refine zOn rfl rfl ?_ | refine zOff rfl rfl ?_ | refine zU rfl ?_ | refine zOn rfl (by assumption) ?_ | refine zOff rfl (by assumption) ?_ | refine zMov rfl ?_ | refine zAsg rfl ?_ | refine zXtr rfl ?_ | refine zPT rfl rfl rfl ?_ | refine zPF rfl rfl rfl ?_ | refine zPT rfl (by assumption) rfl ?_ | refine zPF rfl (by assumption) rfl ?_ | refine zLss rfl rfl ?_ | refine zLeq rfl rfl ?_ | refine zGtr rfl rfl ?_ | refine zGeq rfl rfl ?_ | refine zEql rfl rfl ?_ | refine zNeq rfl rfl ?_ | refine zAdd rfl rfl (by omega) ?_ | refine zSub rfl rfl (by omega) ?_ | refine zLenS rfl E_string ?_ | refine zNot rfl ?_ | refine zEqS rfl rfl ?_ | refine zNeS rfl rfl ?_ | refine zT rfl rfl ?_ | refine zF rfl rfl ?_ | refine zT rfl (by assumption) ?_ | refine zF rfl (by assumption) ?_ | refine WL.op (o := .index _ _ _) (op_indexS rfl rfl E_string hix hx) ?_ | refine zIdx rfl rfl ha ?_ | refine zFld (f := 0) rfl O_api_Token_Kind ?_ | refine zFld (f := 1) rfl O_api_Token_Text ?_ | refine zFld (f := 2) rfl O_api_Token_At ?_ | refine zLd (ty := 3) rfl hlA ?_ | refine zLd (ty := 9) rfl hlT ?_ | refine zLd (ty := 5) rfl hlK ?_ | refine zLen rfl (hv.len E30) ?_ | refine zLen rfl (hx2.len E_s_string) ?_ | refine zIdx rfl rfl ha' ?_ | refine zLd (ty := 9) rfl hlT' ?_)
    refine WP.seq ?_
    refine WP.seq ?_
    (repeat first | refine zReg ?_ | refine zSkp ?_ | refine zExt ?_ | refine zNil rfl ?_ | refine zGet rfl ?_ | refine zOn rfl rfl ?_ | refine zOff rfl rfl ?_ | refine zU rfl ?_ | refine zOn rfl (by assumption) ?_ | refine zOff rfl (by assumption) ?_ | refine zMov rfl ?_ | refine zAsg rfl ?_ | refine zXtr rfl ?_ | refine zPT rfl rfl rfl ?_ | refine zPF rfl rfl rfl ?_ | refine zPT rfl (by assumption) rfl ?_ | refine zPF rfl (by assumption) rfl ?_ | refine zLss rfl rfl ?_ | refine zLeq rfl rfl ?_ | refine zGtr rfl rfl ?_ | refine zGeq rfl rfl ?_ | refine zEql rfl rfl ?_ | refine zNeq rfl rfl ?_ | refine zAdd rfl rfl (by omega) ?_ | refine zSub rfl rfl (by omega) ?_ | refine zLenS rfl E_string ?_ | refine zNot rfl ?_ | refine zEqS rfl rfl ?_ | refine zNeS rfl rfl ?_ | refine zT rfl rfl ?_ | refine zF rfl rfl ?_ | refine zT rfl (by assumption) ?_ | refine zF rfl (by assumption) ?_ | refine WL.op (o := .index _ _ _) (op_indexS rfl rfl E_string hix hx) ?_ | refine zIdx rfl rfl ha ?_ | refine zFld (f := 0) rfl O_api_Token_Kind ?_ | refine zFld (f := 1) rfl O_api_Token_Text ?_ | refine zFld (f := 2) rfl O_api_Token_At ?_ | refine zLd (ty := 3) rfl hlA ?_ | refine zLd (ty := 9) rfl hlT ?_ | refine zLd (ty := 5) rfl hlK ?_ | refine zLen rfl (hv.len E30) ?_ | refine zLen rfl (hx2.len E_s_string) ?_ | refine zIdx rfl rfl ha' ?_ | refine zLd (ty := 9) rfl hlT' ?_)
    refine WP.seq ?_
    refine WP.block ?_
    refine WP.seq ?_
    (repeat first | refine zReg ?_ | refine zSkp ?_ | refine zExt ?_ | refine zNil rfl ?_ | refine zGet rfl ?_ | refine zOn rfl rfl ?_ | refine zOff rfl rfl ?_ | refine zU rfl ?_ | refine zOn rfl (by assumption) ?_ | refine zOff rfl (by assumption) ?_ | refine zMov rfl ?_ | refine zAsg rfl ?_ | refine zXtr rfl ?_ | refine zPT rfl rfl rfl ?_ | refine zPF rfl rfl rfl ?_ | refine zPT rfl (by assumption) rfl ?_ | refine zPF rfl (by assumption) rfl ?_ | refine zLss rfl rfl ?_ | refine zLeq rfl rfl ?_ | refine zGtr rfl rfl ?_ | refine zGeq rfl rfl ?_ | refine zEql rfl rfl ?_ | refine zNeq rfl rfl ?_ | refine zAdd rfl rfl (by omega) ?_ | refine zSub rfl rfl (by omega) ?_ | refine zLenS rfl E_string ?_ | refine zNot rfl ?_ | refine zEqS rfl rfl ?_ | refine zNeS rfl rfl ?_ | refine zT rfl rfl ?_ | refine zF rfl rfl ?_ | refine zT rfl (by assumption) ?_ | refine zF rfl (by assumption) ?_ | refine WL.op (o := .index _ _ _) (op_indexS rfl rfl E_string hix hx) ?_ | refine zIdx rfl rfl ha ?_ | refine zFld (f := 0) rfl O_api_Token_Kind ?_ | refine zFld (f := 1) rfl O_api_Token_Text ?_ | refine zFld (f := 2) rfl O_api_Token_At ?_ | refine zLd (ty := 3) rfl hlA ?_ | refine zLd (ty := 9) rfl hlT ?_ | refine zLd (ty := 5) rfl hlK ?_ | refine zLen rfl (hv.len E30) ?_ | refine zLen rfl (hx2.len E_s_string) ?_ | refine zIdx rfl rfl ha' ?_ | refine zLd (ty := 9) rfl hlT' ?_)
    refine WP.seqS (σ := Unit) (fun _ => [(0, .string s), (1, .string kinds), (2, w), (7, v), (10, .int .i64 i), (11, .int .u8 (kindOf kc))]) (fun _ H' => H1 = H') ?_ ?_
    · (repeat' first | refine zSeq ?_ | refine zReg ?_ | refine zBlk ?_ | refine zSkp ?_ | refine zExt ?_ | refine zNil rfl ?_ | refine zGet rfl ?_ | refine zOn rfl rfl ?_ | refine zOff rfl rfl ?_ | refine zU rfl ?_ | refine zOn rfl (by assumption) ?_ | refine zOff rfl (by assumption) ?_ | refine zMov rfl ?_ | refine zAsg rfl ?_ | refine zXtr rfl ?_ | refine zPT rfl rfl rfl ?_ | refine zPF rfl rfl rfl ?_ | refine zPT rfl (by assumption) rfl ?_ | refine zPF rfl (by assumption) rfl ?_ | refine zLss rfl rfl ?_ | refine zLeq rfl rfl ?_ | refine zGtr rfl rfl ?_ | refine zGeq rfl rfl ?_ | refine zEql rfl rfl ?_ | refine zNeq rfl rfl ?_ | refine zAdd rfl rfl (by omega) ?_ | refine zSub rfl rfl (by omega) ?_ | refine zLenS rfl E_string ?_ | refine zNot rfl ?_ | refine zEqS rfl rfl ?_ | refine zNeS rfl rfl ?_ | refine zT rfl rfl ?_ | refine zF rfl rfl ?_ | refine zT rfl (by assumption) ?_ | refine zF rfl (by assumption) ?_ | refine WL.op (o := .index _ _ _) (op_indexS rfl rfl E_string hix hx) ?_ | refine zIdx rfl rfl ha ?_ | refine zFld (f := 0) rfl O_api_Token_Kind ?_ | refine zFld (f := 1) rfl O_api_Token_Text ?_ | refine zFld (f := 2) rfl O_api_Token_At ?_ | refine zLd (ty := 3) rfl hlA ?_ | refine zLd (ty := 9) rfl hlT ?_ | refine zLd (ty := 5) rfl hlK ?_ | refine zLen rfl (hv.len E30) ?_ | refine zLen rfl (hx2.len E_s_string) ?_ | refine zIdx rfl rfl ha' ?_ | refine zLd (ty := 9) rfl hlT' ?_ | refine zGd rfl (fun _ => ?_) (fun _ => ?_) | refine zC rfl (fun _ => ?_) (fun _ => ?_))
      all_goals refine ⟨(), rfl, rfl, rfl, rfl, rfl, rfl, ?_, trivial⟩
      all_goals first
        | (rw [show kindOf kc = 1 by simp only [kindOf, *, if_true]]; rfl)
        | (rw [show kindOf kc = 2 by simp only [kindOf, *, Bool.false_eq_true, if_false, if_true]]; rfl)
        | (rw [show kindOf kc = 3 by simp only [kindOf, *, Bool.false_eq_true, if_false]]; rfl)
    rintro _ _ rfl
    obtain ⟨b, off, ha, hlK, hlT, hlA⟩ := sl_at hv h
    obtain ⟨b', off', ha', hr'⟩ := hx2.at1 E_s_string E_string rfl (kd := .i64) (i := i) (by omega) (c := .string strs[i]) (by simp [← e3, h])
    have hlT' := hr'.load1 (V := V) E_string rfl
    obtain ⟨q1, q2⟩ := hcov ts[i] (List.getElem_mem _)
    have hsl : (str ts[i].text).data.toList = strs[i].data.toList := htx
    have hlen2 : strs[i].size = ts[i].text.length := by rw [htx]; rfl
    have g4 : ((ts[i].kind : Int) != kindOf kc) = false := by rw [hk]; simp
    have g5 : (!((str ts[i].text).data.toList == strs[i].data.toList)) = false := by rw [hsl]; simp
    have g6 : (!((s.extract (ts[i].at_ : Int).toNat ((ts[i].at_ : Int) + (strs[i].size : Int)).toNat).data.toList == strs[i].data.toList)) = false := by
      rw [ext_list, show (ts[i].at_ : Int).toNat = ts[i].at_ from rfl, show ((ts[i].at_ : Int) + (strs[i].size : Int)).toNat = ts[i].at_ + strs[i].size from rfl, Nat.add_sub_cancel_left, hlen2, q2, htx]; simp
    (repeat first | refine zSeq ?_ | refine zReg ?_ | refine zBlk ?_ | refine zSkp ?_ | refine zExt ?_ | refine zNil rfl ?_ | refine zGet rfl ?_ | refine zOn rfl rfl ?_ | refine zOff rfl rfl ?_ | refine zU rfl ?_ | refine zOn rfl (by assumption) ?_ | refine zOff rfl (by assumption) ?_ | refine zMov rfl ?_ | refine zAsg rfl ?_ | refine zXtr rfl ?_ | refine zPT rfl rfl rfl ?_ | refine zPF rfl rfl rfl ?_ | refine zPT rfl (by assumption) rfl ?_ | refine zPF rfl (by assumption) rfl ?_ | refine zLss rfl rfl ?_ | refine zLeq rfl rfl ?_ | refine zGtr rfl rfl ?_ | refine zGeq rfl rfl ?_ | refine zEql rfl rfl ?_ | refine zNeq rfl rfl ?_ | refine zAdd rfl rfl (by omega) ?_ | refine zSub rfl rfl (by omega) ?_ | refine zLenS rfl E_string ?_ | refine zNot rfl ?_ | refine zEqS rfl rfl ?_ | refine zNeS rfl rfl ?_ | refine zT rfl rfl ?_ | refine zF rfl rfl ?_ | refine zT rfl (by assumption) ?_ | refine zF rfl (by assumption) ?_ | refine WL.op (o := .index _ _ _) (op_indexS rfl rfl E_string hix hx) ?_ | refine zIdx rfl rfl ha ?_ | refine zFld (f := 0) rfl O_api_Token_Kind ?_ | refine zFld (f := 1) rfl O_api_Token_Text ?_ | refine zFld (f := 2) rfl O_api_Token_At ?_ | refine zLd (ty := 3) rfl hlA ?_ | refine zLd (ty := 9) rfl hlT ?_ | refine zLd (ty := 5) rfl hlK ?_ | refine zLen rfl (hv.len E30) ?_ | refine zLen rfl (hx2.len E_s_string) ?_ | refine zIdx rfl rfl ha' ?_ | refine zLd (ty := 9) rfl hlT' ?_)
    refine WL.op (op_sliceS2 rfl rfl rfl E_string (by omega) (by omega) (by omega)) ?_
    (repeat first | refine zSeq ?_ | refine zReg ?_ | refine zBlk ?_ | refine zSkp ?_ | refine zExt ?_ | refine zNil rfl ?_ | refine zGet rfl ?_ | refine zOn rfl rfl ?_ | refine zOff rfl rfl ?_ | refine zU rfl ?_ | refine zOn rfl (by assumption) ?_ | refine zOff rfl (by assumption) ?_ | refine zMov rfl ?_ | refine zAsg rfl ?_ | refine zXtr rfl ?_ | refine zPT rfl rfl rfl ?_ | refine zPF rfl rfl rfl ?_ | refine zPT rfl (by assumption) rfl ?_ | refine zPF rfl (by assumption) rfl ?_ | refine zLss rfl rfl ?_ | refine zLeq rfl rfl ?_ | refine zGtr rfl rfl ?_ | refine zGeq rfl rfl ?_ | refine zEql rfl rfl ?_ | refine zNeq rfl rfl ?_ | refine zAdd rfl rfl (by omega) ?_ | refine zSub rfl rfl (by omega) ?_ | refine zLenS rfl E_string ?_ | refine zNot rfl ?_ | refine zEqS rfl rfl ?_ | refine zNeS rfl rfl ?_ | refine zT rfl rfl ?_ | refine zF rfl rfl ?_ | refine zT rfl (by assumption) ?_ | refine zF rfl (by assumption) ?_ | refine WL.op (o := .index _ _ _) (op_indexS rfl rfl E_string hix hx) ?_ | refine zIdx rfl rfl ha ?_ | refine zFld (f := 0) rfl O_api_Token_Kind ?_ | refine zFld (f := 1) rfl O_api_Token_Text ?_ | refine zFld (f := 2) rfl O_api_Token_At ?_ | refine zLd (ty := 3) rfl hlA ?_ | refine zLd (ty := 9) rfl hlT ?_ | refine zLd (ty := 5) rfl hlK ?_ | refine zLen rfl (hv.len E30) ?_ | refine zLen rfl (hx2.len E_s_string) ?_ | refine zIdx rfl rfl ha' ?_ | refine zLd (ty := 9) rfl hlT' ?_)
    exact ⟨i + 1, ⟨rfl, by omega⟩, by omega, rfl, rfl, rfl, rfl, rfl, trivial⟩
  obtain ⟨u, H', h, rfl, hk⟩ := key
  exact ⟨H', h, hk⟩
end Go.Proofs.YtdkfcpadbahohaaDoor.U

/-
  LexNames: what is known of calls.
-/
namespace Go.Proofs.YtdkfcpadbahohaaDoor.U
open Go Go.Ev
attribute [local irreducible] WL WP WH W
variable {O : Orc} {H : AH}
theorem name_f (hO : ∀ f vs H, f ≠ 8 → O f vs H = none) {s : ByteArray} (hs : s.size ≤ maxLen) : ∃ H', Lc V O 13 [.string s] H (.bool (nameB s)) H' ∧ Fr H H' := by
  have key : ∃ u H', Lc V O 13 [.string s] H u H' ∧ (u = .bool (nameB s) ∧ Fr H H') := by
    refine Lc.fnP (R := fun u H' => u = .bool (nameB s) ∧ Fr H H') (hO _ _ _ (by decide)) fn13 b13 pc13 (Nat.le_of_ble_eq_true rfl) (by kernel_rfl) ?_
    unfold P13
    refine .seq (.reg (.op rfl (.nil ⟨_, rfl, ?_⟩)))
    refine .seq (.reg (.get rfl (.op (op_lenS rfl E9) (.op (op_int rfl rfl (aInt_gtr _ _)) ?_))))
    have e1 : decide ((s.size : Int) > 0) = decide (0 < s.size) := by simp
    have e2 : decide ((s.size : Int) ≤ 32) = decide (s.size ≤ 32) := by simp; omega
    have e3 : ((wordL s.data.toList : Int) == (s.size : Int)) = (wordL s.data.toList == s.size) := by
      rw [Bool.eq_iff_iff]; simp; omega
    rw [e1]
    cases hA : decide (0 < s.size)
    · refine .off rfl rfl (.off rfl rfl (.off rfl rfl (.op (op_pickF rfl rfl rfl) ?_)))
      refine .off rfl rfl (.off rfl rfl (.off rfl rfl (.off rfl rfl (.off rfl rfl (.op (op_pickF rfl rfl rfl) ?_)))))
      refine .off rfl rfl (.off rfl rfl (.off rfl rfl (.op (op_pickF rfl rfl rfl) (.nil ⟨_, rfl, ?_⟩))))
      exact .ret ⟨.inr rfl, _, rfl, by simp only [resOf, nameB, hA, Bool.false_and], .refl _⟩
    · refine .on rfl rfl (.op rfl (.on rfl rfl (.op (op_lenS rfl E9) (.on rfl rfl (.op (op_int rfl rfl (aInt_leq _ _)) (.op (op_pickT rfl rfl rfl) ?_))))))
      rw [e2]
      cases hB : decide (s.size ≤ 32)
      · refine .off rfl rfl (.off rfl rfl (.off rfl rfl (.off rfl rfl (.off rfl rfl (.op (op_pickF rfl rfl rfl) ?_)))))
        refine .off rfl rfl (.off rfl rfl (.off rfl rfl (.op (op_pickF rfl rfl rfl) (.nil ⟨_, rfl, ?_⟩))))
        exact .ret ⟨.inr rfl, _, rfl, by simp only [resOf, nameB, hA, hB, Bool.false_and, Bool.and_false], .refl _⟩
      · refine .on rfl rfl (.op rfl (.on rfl rfl (.call rfl rfl (by rw [fn21]; rfl) (word_c hO hs) (.on rfl rfl (.op rfl (.on rfl rfl (.op (op_lenS rfl E9) (.on rfl rfl (.op (op_int rfl rfl (aInt_eql _ _)) (.op (op_pickT rfl rfl rfl) ?_))))))))))
        rw [e3]
        cases hC : (wordL s.data.toList == s.size)
        · refine .off rfl rfl (.off rfl rfl (.off rfl rfl (.op (op_pickF rfl rfl rfl) (.nil ⟨_, rfl, ?_⟩))))
          exact .ret ⟨.inr rfl, _, rfl, by simp only [resOf, nameB, hA, hB, hC, Bool.false_and, Bool.and_false], .refl _⟩
        · refine .on rfl rfl (.op rfl (.on rfl rfl (.call rfl rfl (by rw [fn12]; rfl) (reserved_c hO) (.on rfl rfl (.op (op_not rfl) (.op (op_pickT rfl rfl rfl) (.nil ⟨_, rfl, ?_⟩)))))))
          exact .ret ⟨.inr rfl, _, rfl, by simp only [resOf, nameB, hA, hB, hC, Bool.true_and], .alloc _ _⟩
  obtain ⟨u, H', h, rfl, hk⟩ := key
  exact ⟨H', h, hk⟩
def strsOf : List Value → Option (List ByteArray)
  | [] => some []
  | .string s :: vs => match strsOf vs with
    | some l => some (s :: l)
    | none => none
  | _ :: _ => none
theorem strsOf_eq : ∀ {vs : List Value} {l : List ByteArray}, strsOf vs = some l → vs = l.map .string
  | [], l, h => by cases h; rfl
  | v :: vs, l, h => by
    unfold strsOf at h
    split at h
    · rename_i e; cases e
    · rename_i s vs' e
      cases e
      split at h
      · rename_i l' hl; cases h; rw [strsOf_eq hl]; rfl
      · cases h
    · cases h
def eqB : List UInt8 → List UInt8 → Bool
  | [], [] => true
  | a :: x, b :: y => match Nat.beq a.toNat b.toNat with
    | true => eqB x y
    | false => false
  | _, _ => false
theorem eqB_eq : ∀ {x y : List UInt8}, eqB x y = true → x = y
  | [], [], _ => rfl
  | [], _ :: _, h => nomatch h
  | _ :: _, [], h => nomatch h
  | a :: x, b :: y, h => by
    unfold eqB at h
    split at h
    · rename_i e; rw [eqB_eq h, UInt8.toNat_inj.1 (Nat.eq_of_beq_eq_true e)]
    · cases h
def eqS : List ByteArray → List ByteArray → Bool
  | [], [] => true
  | a :: x, b :: y => match eqB a.data.toList b.data.toList with
    | true => eqS x y
    | false => false
  | _, _ => false
theorem eqS_eq : ∀ {x y : List ByteArray}, eqS x y = true → x = y
  | [], [], _ => rfl
  | [], _ :: _, h => nomatch h
  | _ :: _, [], h => nomatch h
  | a :: x, b :: y, h => by
    unfold eqS at h
    split at h
    · rename_i e; rw [eqS_eq h, show a = b from ByteArray.ext (Array.ext' (eqB_eq e))]
    · cases h
def signsB (H : AH) : Bool := match Nat.blt 0 H.next with
  | true => match H.obj 0 with
    | .row _ cells .ro _ _ => match strsOf cells with
      | some l => eqS l signs
      | none => false
    | _ => false
  | false => false
theorem signsB_ok (h : signsB H = true) : HasSigns H := by
  unfold signsB at h
  split at h
  · rename_i h0
    split at h
    · rename_i et cells g v ho
      split at h
      · rename_i l hl
        have := strsOf_eq hl
        rw [eqS_eq h] at this
        subst this
        exact ⟨by have : 1 ≤ H.next := Nat.le_of_ble_eq_true h0; omega, et, g, v, ho⟩
      · cases h
    · cases h
  · cases h
def textsAt (H : AH) (w : Value) : Option (List ByteArray) := match w with
  | .slice none 0 0 => some []
  | .slice (some ⟨b, 0, none⟩) n _ => match H.lo b with
    | .row _ cells .exact _ _ => match Nat.beq cells.length n with
      | true => match Nat.blt n 1000 with
        | true => strsOf cells
        | false => none
      | false => none
    | _ => none
  | _ => none
theorem textsAt_ok {w : Value} {l : List ByteArray} (h : textsAt H w = some l) : Sl H w 1 l.length (l.map .string) := by
  unfold textsAt at h
  split at h
  · cases h; exact .nil
  · rename_i b n cap
    split at h
    · rename_i et cells g v ho
      split at h
      · rename_i hn
        split at h
        · rename_i hb
          have hn' : cells.length = n := Nat.eq_of_beq_eq_true hn
          have hc := strsOf_eq h
          subst hc
          rw [List.length_map] at hn'
          subst hn'
          obtain ⟨hlt, ho'⟩ := AH.lo_of ho (by simp)
          have hlt2 : l.length < 1000 := by have : l.length + 1 ≤ 1000 := Nat.le_of_ble_eq_true hb; omega
          exact ⟨by simp, by omega, .inr ⟨b, 0, cap, rfl, fun _ => by simpa using Rd.exact hlt ho'⟩⟩
        · cases h
      · cases h
    · cases h
  · cases h
def sizeB (s : ByteArray) : Bool := Nat.ble s.size 1000000
theorem sizeB_ok {s : ByteArray} (h : sizeB s = true) : s.size ≤ maxLen := by
  have : s.size ≤ 1000000 := Nat.le_of_ble_eq_true h
  have : maxLen = 9223372036854775807 := rfl
  omega
def O4 : Orc := fun f vs H => match f with
  | 9 => match vs with
    | [.string s, .string k, w] => match textsAt H w with
      | some l => match sizeB s && sizeB k && signsB H with
        | true => match cutB s.data.toList k.data.toList l with
          | some b => some (.bool b, H)
          | none => none
        | false => none
      | none => none
    | _ => none
  | 11 => match vs with
    | [.string s, .int .i64 a] => match sizeB s && signsB H with
      | true => some (.bool (badB s a), H)
      | false => none
    | _ => none
  | 12 => match vs with
    | [.string s] => some (.bool (resv s), H)
    | _ => none
  | 13 => match vs with
    | [.string s] => match sizeB s with
      | true => some (.bool (nameB s), H)
      | false => none
    | _ => none
  | 10 => O3 10 vs H
  | 14 => O3 14 vs H
  | _ => none
theorem O4_ok : OrcOk V O4 := fun f vs H v H' h => by
  have hO : ∀ f vs H, f ≠ 8 → O0 f vs H = none := fun _ _ _ _ => rfl
  unfold O4 at h
  split at h
  · split at h
    · rename_i s k w
      split at h
      · rename_i l hl
        split at h
        · rename_i hg
          simp only [Bool.and_eq_true] at hg
          split at h
          · rename_i b hb
            cases h
            obtain ⟨H1, h1, h2⟩ := cut_c hO (signsB_ok hg.2) (sizeB_ok hg.1.1) (sizeB_ok hg.1.2) (textsAt_ok hl) hb
            exact (sound0 h1).keep h2 rfl
          · cases h
        · cases h
      · cases h
    · cases h
  · split at h
    · rename_i s a
      split at h
      · rename_i hg
        simp only [Bool.and_eq_true] at hg
        cases h
        obtain ⟨H1, h1, h2⟩ := bad_c hO (signsB_ok hg.2) (sizeB_ok hg.1) (at_ := a)
        exact (sound0 h1).keep h2 rfl
      · cases h
    · cases h
  · split at h
    · rename_i s
      cases h
      exact (sound0 (reserved_c hO (s := s))).keep (.alloc _ _) rfl
    · cases h
  · split at h
    · rename_i s
      split at h
      · rename_i hg
        cases h
        obtain ⟨H1, h1, h2⟩ := name_f hO (sizeB_ok hg)
        exact (sound0 h1).keep h2 rfl
      · cases h
    · cases h
  · exact O3_ok _ _ _ _ _ h
  · exact O3_ok _ _ _ _ _ h
  · cases h
end Go.Proofs.YtdkfcpadbahohaaDoor.U

/-
  LexNames: what its row asks, and its card.
-/
namespace Go.Proofs.YtdkfcpadbahohaaDoor.U.LexNames
open Go Go.Ev Go.Proofs.YtdkfcpadbahohaaDoor.U
theorem named0 : Tryd.prog.globalNamed "bobbin/lex.signs" = some 0 := by kernel_rfl
noncomputable def ty0 : Nat := match (Tryd.prog.globals[0]?).map (·.type) with
  | some t => t
  | none => 0
theorem type0 : (Tryd.prog.globals[0]?).map (·.type) = some ty0 := by kernel_rfl
noncomputable def cells0 : List Value := (flatT Tryd.prog 100 ty0 Rows.laid_bobbin_lex_signs).getD []
theorem flat0 : flatT Tryd.prog 100 ty0 Rows.laid_bobbin_lex_signs = some cells0 := by kernel_rfl
theorem plain0 : (cells0.all plain) = true := by kernel_rfl
noncomputable def rows : List AObj := [.row ty0 cells0 .ro 0 0]
theorem rowsOk : rows.all rowOk = true := by kernel_rfl
theorem names : (Tryd.prog.funcs.toList.all fun fn => !(fn.name == "runtime.NumGoroutine")) = true := by kernel_rfl
theorem mixed : Tryd.prog.follows .mixedOrders = true := by kernel_rfl
theorem laidOut : laidOutB Tryd.prog = true := by kernel_rfl
theorem run3 : (match fO (envOf Tryd.prog rows.length) O4 2000 60 (.fn 3) [] (startH rows) with | some (.bool b, _) => b | _ => false) = true := by kernel_rfl
theorem sound3 : ∃ H', Sound (envOf Tryd.prog rows.length) (.fn 3) [] (startH rows) (.bool true) H' := by
  have h := run3
  split at h
  · rename_i b H' hr
    subst h
    exact ⟨H', CallOk.iff.1 (fO_ok (V := envOf Tryd.prog rows.length) (O := O4) O4_ok (fun t ti h => h) (fnOf_ok names) mixed 2000 60) _ _ _ _ _ hr⟩
  · cases h
noncomputable def orc : Orc := orcOne rows 3 (.bool true)
theorem orc_ok : OrcOk (envOf Tryd.prog rows.length) orc := orcOne_ok fun _ hk => by
  obtain ⟨H', h⟩ := sound3
  exact plain_soundS rowsOk rfl rfl h hk
abbrev S := AEnd
theorem entS : EntA Tryd.prog S [] := EntA.nil
theorem law (H : AH) (avs : List Value) b (hk : Kro (startH rows) H) (hs : S H avs b) : ∃ H', Lc (envOf Tryd.prog rows.length) orc 3 avs H (.bool true) H' := by
  cases hs
  exact ⟨H, Lc.orc (orcOne_eq hk)⟩
open Go.RowKit in
theorem rows_in {W : World} (h : laidMetH Tryd.prog Rows.lexNamesRow.laid W) : ∀ g o, rows[g]? = some o → RowIn W g o := by
  have hl : laidMet Tryd.prog Rows.lexNamesRow.laid W := h
  intro g o hg
  unfold rows at hg
  match g, hg with
  | 0, hg =>
    cases hg
    exact ⟨fun v hv => List.all_eq_true.1 plain0 v hv, laidMet_row hl (.head _) named0 type0 flat0⟩
  | n + 1, hg => simp at hg
open Go.RowKit Go.ChangeShapes in
theorem contract (H : Type) (enc : TypeId × Value → H) (W : World) (base : Nat) (args : Array Value) (ds gs : List (DataW H)) (before : List MemPlace)
    (hval : ∀ (j : Nat) t v, Tryd.f3.params[j]? = some t → args[j]? = some v → Value.okWide Tryd.prog W .any base t v)
    (hW : DataW.Whole enc Tryd.prog Tryd.f3.params.toList Rows.lexNamesSpec.vars false W args.toList ds gs before) (hL : laidMetH Tryd.prog Rows.lexNamesRow.laid W) :
    Calls Tryd.prog 3 args W fun e W' => ∃ v, e = .returned v ∧ Rows.lexNamesSpec.post enc Tryd.prog Tryd.f3 false true false false W args v W' :=
  law_contract (S := S) (ts := []) (tb := 4) names mixed laidOut (rows_in hL) (by kernel_rfl) entS (by kernel_rfl) (by kernel_rfl) (by kernel_rfl) rfl
    (fun hg hd => by
      subst hg
      match ds, hd with
      | [], _ => rfl) hval hW orc_ok law
open Go.ChangeShapes Go.WideShapes Go.ChangeAt Go.RowKit
theorem own : ownKnob Tryd.prog.godebug = none := by kernel_rfl
noncomputable def laidWorld (os : Os) : World := { World.holding Tryd.prog os ⟨#[], #[], []⟩ with heap := (((World.holding Tryd.prog os ⟨#[], #[], []⟩).heap).modify 0 (fun | .cells _ t frozen => .cells cells0.toArray t frozen | o => o)) }
theorem laid_met (os : Os) : laidMet Tryd.prog Rows.lexNamesRow.laid ((laidWorld os).forCall (fun _ _ => 0) ⟨#[], #[], []⟩).memory :=
  laidMet_of_run' 8 (by kernel_rfl) (by kernel_rfl)
theorem reads (os : Os) {H : Type} (enc : TypeId × Value → H) : ∃ places, DataW.whole enc Tryd.prog ((laidWorld os).forCall (fun _ _ => 0) ⟨#[], #[], []⟩).memory Tryd.f3.params.toList Rows.lexNamesSpec.vars false (#[] : Array Value).toList 8 = some ([], [], places) :=
  ⟨[], by kernel_rfl⟩
set_option maxRecDepth 100000 in
theorem lifted (os : Os) (started : os.Started) (H : Type) (enc : TypeId × Value → H) (F : Stop.Interp) :
    ReturnsInHanded {} Tryd.checked os 3 .any ((OpenSpec.ofChange Rows.lexNamesSpec).preRow enc Tryd.prog Tryd.f3 Rows.lexNamesRow.domain false Rows.lexNamesRow.laid) (((OpenSpec.ofChange Rows.lexNamesSpec).at F).post enc Tryd.prog Tryd.f3 false true false false) := by
  obtain ⟨places, hx⟩ := reads os enc
  refine returnsInHanded_of_row (C := Tryd.checked) (s := OpenSpec.ofChange Rows.lexNamesSpec) own started (by kernel_rfl) Tryd.func3
    (witness_row_at (enc := enc) (C := Tryd.checked) false (laidWorld os) #[] rfl (by kernel_rfl) (by kernel_rfl) (by kernel_rfl)
      (OpenSpec.preRow_of_cond 8 hx (by kernel_rfl) (fun k hk => by cases hk) (by kernel_rfl) (laid_met os))) ?_
  intro W base args ds gs before hval hW _ _ _ hL _ _
  exact contract H enc W base args ds gs before hval hW hL
theorem said : Rows.LexNamesSaid :=
  OpenClaim.holds_of_cond 3 Tryd.f3 rfl rfl rfl rfl rfl rfl rfl ⟨rfl, rfl, rfl, rfl, rfl⟩ rfl rfl rfl rfl rfl (by kernel_rfl) Tryd.func3 (by kernel_rfl)
    (of_decide_eq_true (by kernel_rfl)) (by unfold Func.isWrapper; first | (rw [if_pos (by decide +kernel)]; kernel_rfl) | (rw [if_neg (by decide +kernel)]; exact ⟨rfl, rfl⟩))
    (fun os started H enc _ F => by rw [OpenClaim.pre_eq_preRow]; exact lifted os started H enc F)
theorem wants : ([].all fun t => !Tryd.pinned.checked.prog.wantsStandIn t) = true := by kernel_rfl
theorem standIns (f : FuncId) (fn : Func) (hf : Tryd.pinned.checked.prog.funcNamed "bobbin/bobbinlaw01.LexNames" = some f) (hfn : Tryd.pinned.checked.prog.funcs[f]? = some fn) :
    false = Tryd.pinned.checked.prog.looks [] ∧ ∀ (j : Nat) t, fn.params[j]? = some t → Tryd.pinned.checked.prog.wantsStandIn t = false := by
  obtain rfl : f = 3 := Option.some.inj ((show Tryd.prog.funcNamed "bobbin/bobbinlaw01.LexNames" = some 3 by kernel_rfl).symm.trans hf) |>.symm
  obtain rfl : fn = Tryd.f3 := (Option.some.inj (Tryd.func3.symm.trans hfn)).symm
  refine ⟨by kernel_rfl, fun j t ht => ?_⟩
  have hm : t ∈ Tryd.f3.params.toList := by
    have := Array.mem_of_getElem? ht
    simpa using this
  rw [show Tryd.f3.params.toList = [] by kernel_rfl] at hm
  simpa using List.all_eq_true.1 wants t hm
theorem card : Rows.LexNamesCardSaid :=
  Claim7.holds_tied_plain_at .later [] _ _ _ _ said (fun _ h => by cases h) (by kernel_rfl) (fun _ h => by cases h) lexNames_row_tie rfl ⟨rfl, rfl⟩ (by kernel_rfl) rfl standIns (by kernel_rfl)
end Go.Proofs.YtdkfcpadbahohaaDoor.U.LexNames

