/-
  EV, universal use, part j: frames, slices that are read, slices of one's own, boxes; rules for walks.
-/
import Derived.Test.YtfhmdhndmlinkaaDoorEv5
set_option linter.all false
namespace Go.Ev
open Go.RowKit
def FrX (bs gs : List Nat) (H H' : AH) : Prop := H.next ≤ H'.next ∧ (∀ b, b < H.next → b ∉ bs → H'.obj b = H.obj b) ∧ (∀ g, g < H.next → g ∉ gs → H'.ver g = H.ver g)
def Fr (H H' : AH) : Prop := H.next ≤ H'.next ∧ (∀ b, b < H.next → H'.obj b = H.obj b) ∧ (∀ g, g < H.next → H'.ver g = H.ver g)
theorem Fr.refl (H : AH) : Fr H H := ⟨Nat.le_refl _, fun _ _ => rfl, fun _ _ => rfl⟩
theorem Fr.trans {A B C : AH} (h : Fr A B) (k : Fr B C) : Fr A C := ⟨Nat.le_trans h.1 k.1, fun b hb => (k.2.1 b (Nat.lt_of_lt_of_le hb h.1)).trans (h.2.1 b hb), fun b hb => (k.2.2 b (Nat.lt_of_lt_of_le hb h.1)).trans (h.2.2 b hb)⟩
theorem Fr.kro {A B : AH} (h : Fr A B) : Kro A B := ⟨h.1, fun b et cells g v hb ho => by rw [h.2.1 b hb]; exact ho⟩
theorem Fr.x {A B : AH} (h : Fr A B) (bs gs : List Nat) : FrX bs gs A B := ⟨h.1, fun b hb _ => h.2.1 b hb, fun b hb _ => h.2.2 b hb⟩
theorem Fr.alloc (H : AH) (o : AObj) : Fr H (H.alloc o) := ⟨by simp, fun b hb => by rw [AH.obj_alloc, if_neg (by omega)], fun g _ => by simp⟩
theorem Fr.step {A B : AH} (h : Fr A B) (o : AObj) : Fr A (B.alloc o) := h.trans (.alloc _ _)
theorem FrX.fr {A B : AH} (h : FrX [] [] A B) : Fr A B := ⟨h.1, fun b hb => h.2.1 b hb (by simp), fun b hb => h.2.2 b hb (by simp)⟩
theorem Fr.young {A B C : AH} {bs gs : List Nat} (h : Fr A B) (k : FrX bs gs B C) (hb : ∀ b ∈ bs, A.next ≤ b) (hg : ∀ g ∈ gs, A.next ≤ g) : Fr A C :=
  ⟨Nat.le_trans h.1 k.1, fun b hlt => (k.2.1 b (Nat.lt_of_lt_of_le hlt h.1) fun hm => by have := hb b hm; omega).trans (h.2.1 b hlt), fun g hlt => (k.2.2 g (Nat.lt_of_lt_of_le hlt h.1) fun hm => by have := hg g hm; omega).trans (h.2.2 g hlt)⟩
theorem FrX.refl (bs gs : List Nat) (H : AH) : FrX bs gs H H := (Fr.refl H).x _ _
theorem FrX.trans {A B C : AH} {bs gs bs' gs' : List Nat} (h : FrX bs gs A B) (k : FrX bs' gs' B C) (hb : ∀ b ∈ bs', b < A.next → b ∈ bs) (hg : ∀ b ∈ gs', b < A.next → b ∈ gs) : FrX bs gs A C :=
  ⟨Nat.le_trans h.1 k.1, fun b hlt hn => (k.2.1 b (Nat.lt_of_lt_of_le hlt h.1) fun hm => hn (hb b hm hlt)).trans (h.2.1 b hlt hn), fun b hlt hn => (k.2.2 b (Nat.lt_of_lt_of_le hlt h.1) fun hm => hn (hg b hm hlt)).trans (h.2.2 b hlt hn)⟩
theorem FrX.sub {A B : AH} {bs gs bs' gs' : List Nat} (h : FrX bs gs A B) (hb : ∀ b ∈ bs, b ∈ bs') (hg : ∀ b ∈ gs, b ∈ gs') : FrX bs' gs' A B :=
  ⟨h.1, fun b hlt hn => h.2.1 b hlt fun hm => hn (hb b hm), fun b hlt hn => h.2.2 b hlt fun hm => hn (hg b hm)⟩
def Rd (H : AH) (b off n : Nat) (cs : List Value) : Prop :=
  ∃ et cells st g v, b < H.next ∧ H.obj b = .row et cells st g v ∧ (st = .exact ∨ st = .ro ∨ (g < H.next ∧ H.ver g = v)) ∧ off + n ≤ cells.length ∧ cs = (cells.drop off).take n
theorem Rd.len {H : AH} {b off n : Nat} {cs : List Value} (h : Rd H b off n cs) : cs.length = n := by
  obtain ⟨et, cells, st, g, v, _, _, _, h1, rfl⟩ := h; simp; omega
theorem Rd.lt {H : AH} {b off n : Nat} {cs : List Value} (h : Rd H b off n cs) : b < H.next := by
  obtain ⟨et, cells, st, g, v, h, _⟩ := h; exact h
theorem Rd.rd {H : AH} {b off n : Nat} {cs : List Value} (h : Rd H b off n cs) : H.rd b off n = some cs := by
  obtain ⟨et, cells, st, g, v, h0, h1, h2, h3, rfl⟩ := h
  unfold AH.rd
  rw [AH.lo_lt h0, h1]
  simp only
  rw [if_pos]
  rw [Bool.and_eq_true, decide_eq_true_eq]
  refine ⟨?_, h3⟩
  rcases h2 with rfl | rfl | ⟨_, h2⟩
  · rfl
  · rfl
  · cases st <;> simp [AH.alive, h2]
theorem Rd.fr {H H' : AH} {b off n : Nat} {cs : List Value} (h : Rd H b off n cs) (k : Fr H H') : Rd H' b off n cs := by
  obtain ⟨et, cells, st, g, v, h0, h1, h2, h3, h4⟩ := h
  refine ⟨et, cells, st, g, v, Nat.lt_of_lt_of_le h0 k.1, (k.2.1 b h0).trans h1, ?_, h3, h4⟩
  rcases h2 with h2 | h2 | ⟨h2, h5⟩
  · exact .inl h2
  · exact .inr (.inl h2)
  · exact .inr (.inr ⟨Nat.lt_of_lt_of_le h2 k.1, (k.2.2 g h2).trans h5⟩)
theorem Rd.sub {H : AH} {b off n : Nat} {cs : List Value} (h : Rd H b off n cs) (i m : Nat) (hm : i + m ≤ n) : Rd H b (off + i) m ((cs.drop i).take m) := by
  obtain ⟨et, cells, st, g, v, h0, h1, h2, h3, rfl⟩ := h
  refine ⟨et, cells, st, g, v, h0, h1, h2, by omega, ?_⟩
  rw [List.drop_take, List.take_take, Nat.min_eq_left (by omega), List.drop_drop]
theorem Rd.at1 {H : AH} {b off n : Nat} {cs : List Value} (h : Rd H b off n cs) {i : Nat} {c : Value} (hc : cs[i]? = some c) : Rd H b (off + i) 1 [c] := by
  have hlt := (List.getElem?_eq_some_iff.1 hc).1
  have := h.sub i 1 (by rw [h.len] at hlt; omega)
  have e : (cs.drop i).take 1 = [c] := by
    rw [List.drop_eq_getElem_cons hlt]
    have := (List.getElem?_eq_some_iff.1 hc).2
    simp [this]
  rwa [e] at this
theorem Rd.exact {H : AH} {b : Nat} {et : TypeId} {cells : List Value} {g v : Nat} (hb : b < H.next) (h : H.obj b = .row et cells .exact g v) : Rd H b 0 cells.length cells := ⟨et, cells, .exact, g, v, hb, h, .inl rfl, by simp, by simp⟩
theorem Rd.ro {H : AH} {b : Nat} {et : TypeId} {cells : List Value} {g v : Nat} (hb : b < H.next) (h : H.obj b = .row et cells .ro g v) : Rd H b 0 cells.length cells := ⟨et, cells, .ro, g, v, hb, h, .inr (.inl rfl), by simp, by simp⟩
theorem Rd.new {H : AH} {et : TypeId} {cs : List Value} {g v n : Nat} (hn : cs.length = n) : Rd (H.alloc (.row et cs .exact g v)) H.next 0 n cs := by
  subst hn; exact Rd.exact (et := et) (g := g) (v := v) (by simp) (by simp)
variable {V : Env} {O : Orc}
theorem Rd.load1 {H : AH} {b off : Nat} {c : Value} (h : Rd H b off 1 [c]) {t : TypeId} {te : TI} (he : V.E t = some te) (ha : Desc.agg te.desc = false) : aLoad V.E H t (.pointer (some ⟨b, off, none⟩)) = some c := by
  simp only [aLoad, he, ha, h.rd]; rfl
theorem Rd.loadN {H : AH} {b off n : Nat} {cs : List Value} (h : Rd H b off n cs) {t : TypeId} {te : TI} (he : V.E t = some te) (ha : Desc.agg te.desc = true) (hn : te.size = n) : aLoad V.E H t (.pointer (some ⟨b, off, none⟩)) = some (.agg cs.toArray) := by
  subst hn
  simp only [aLoad, he, ha, h.rd]; rfl
def Sl (H : AH) (v : Value) (sz n : Nat) (cs : List Value) : Prop :=
  cs.length = n * sz ∧ n < 4611686018427387904 ∧ ((v = .slice none 0 0 ∧ n = 0) ∨ ∃ b off cap, v = .slice (some ⟨b, off, none⟩) n cap ∧ (0 < n → Rd H b off (n * sz) cs))
theorem Sl.fr {H H' : AH} {v : Value} {sz n : Nat} {cs : List Value} (h : Sl H v sz n cs) (k : Fr H H') : Sl H' v sz n cs := by
  obtain ⟨h1, h2, h3 | ⟨b, off, cap, h3, h4⟩⟩ := h
  · exact ⟨h1, h2, .inl h3⟩
  · exact ⟨h1, h2, .inr ⟨b, off, cap, h3, fun h => (h4 h).fr k⟩⟩
theorem Sl.len {H : AH} {v : Value} {sz n : Nat} {cs : List Value} (h : Sl H v sz n cs) {t e : TypeId} {s b : Nat} {z : Value} (ht : V.E t = some ⟨.slice e, s, b, z⟩) : aLen V.E H t v = some (.int .i64 n) := by
  unfold aLen
  rw [ht]
  rcases h.2.2 with ⟨rfl, rfl⟩ | ⟨b, off, cap, rfl, _⟩ <;> rfl
theorem Sl.nil {H : AH} {sz : Nat} : Sl H (.slice none 0 0) sz 0 [] := ⟨by simp, by omega, .inl ⟨rfl, rfl⟩⟩
theorem Sl.at {H : AH} {v : Value} {sz n : Nat} {cs : List Value} (h : Sl H v sz n cs) {t e : TypeId} {s b : Nat} {z : Value} (ht : V.E t = some ⟨.slice e, s, b, z⟩) {te : TI} (he : V.E e = some te) (hz : te.size = sz) {kd : IntKind} {i : Int} (h0 : 0 ≤ i) (hi : i < n) :
    ∃ b off, aIndex V.E t v (.int kd i) = some (.pointer (some ⟨b, off, none⟩)) ∧ Rd H b off sz ((cs.drop (i.toNat * sz)).take sz) := by
  obtain ⟨h1, h2, ⟨rfl, rfl⟩ | ⟨b, off, cap, rfl, h4⟩⟩ := h
  · omega
  · refine ⟨b, off + i.toNat * sz, ?_, (h4 (by omega)).sub _ _ ?_⟩
    · simp only [aIndex, ht, he, hz]
      rw [if_pos ⟨h0, hi⟩]
    · have : (i.toNat + 1) * sz ≤ n * sz := Nat.mul_le_mul_right sz (by omega)
      rwa [Nat.add_mul, Nat.one_mul] at this
def Ow (H : AH) (n0 : Nat) (e : TypeId) (sz : Nat) (v : Value) (n : Nat) (cs : List Value) (o : Option (Nat × Nat)) : Prop :=
  cs.length = n * sz ∧ n < 4611686018427387904 ∧ ((v = .slice none 0 0 ∧ n = 0 ∧ o = none) ∨ ∃ b g, o = some (b, g) ∧ n0 ≤ b ∧ n0 ≤ g ∧ b < H.next ∧ g < H.next ∧ v = .slice (some ⟨b, 0, none⟩) n unk ∧ H.obj b = .row e cs .loose g (H.ver g) ∧ 0 < n)
def obs (o : Option (Nat × Nat)) : List Nat := match o with | none => [] | some (b, _) => [b]
def ogs (o : Option (Nat × Nat)) : List Nat := match o with | none => [] | some (_, g) => [g]
theorem Ow.nil {H : AH} {n0 : Nat} {e : TypeId} {sz : Nat} : Ow H n0 e sz (.slice none 0 0) 0 [] none := ⟨by simp, by omega, .inl ⟨rfl, rfl, rfl⟩⟩
theorem Ow.isNil {H : AH} {n0 : Nat} {e : TypeId} {sz : Nat} {v : Value} {cs : List Value} {o : Option (Nat × Nat)} (h : Ow H n0 e sz v 0 cs o) : v = .slice none 0 0 := by
  obtain ⟨_, _, ⟨h, _⟩ | ⟨b, g, _, _, _, _, _, _, _, h⟩⟩ := h
  · exact h
  · omega
theorem Ow.sl {H : AH} {n0 : Nat} {e : TypeId} {sz : Nat} {v : Value} {n : Nat} {cs : List Value} {o : Option (Nat × Nat)} (h : Ow H n0 e sz v n cs o) : Sl H v sz n cs := by
  obtain ⟨h1, h2, ⟨rfl, rfl, _⟩ | ⟨b, g, _, _, _, hb, hg, rfl, ho⟩⟩ := h
  · exact ⟨h1, h2, .inl ⟨rfl, rfl⟩⟩
  · exact ⟨h1, h2, .inr ⟨b, 0, unk, rfl, fun _ => ⟨e, cs, .loose, g, _, hb, ho.1, .inr (.inr ⟨hg, rfl⟩), by omega, by rw [← h1]; simp⟩⟩⟩
theorem Ow.old {H : AH} {n0 n1 : Nat} {e : TypeId} {sz : Nat} {v : Value} {n : Nat} {cs : List Value} {o : Option (Nat × Nat)} (h : Ow H n0 e sz v n cs o) (hn : n1 ≤ n0) : Ow H n1 e sz v n cs o := by
  obtain ⟨h1, h2, h3 | ⟨b, g, h3, h4, h5, h6⟩⟩ := h
  · exact ⟨h1, h2, .inl h3⟩
  · exact ⟨h1, h2, .inr ⟨b, g, h3, Nat.le_trans hn h4, Nat.le_trans hn h5, h6⟩⟩
theorem Ow.frX {H H' : AH} {n0 : Nat} {e : TypeId} {sz : Nat} {v : Value} {n : Nat} {cs : List Value} {o : Option (Nat × Nat)} (h : Ow H n0 e sz v n cs o) {bs gs : List Nat} (k : FrX bs gs H H') (hb : ∀ b ∈ obs o, b ∉ bs) (hg : ∀ g ∈ ogs o, g ∉ gs) : Ow H' n0 e sz v n cs o := by
  obtain ⟨h1, h2, h3 | ⟨b, g, rfl, h4, h5, h6, h7, h8, h9⟩⟩ := h
  · exact ⟨h1, h2, .inl h3⟩
  · refine ⟨h1, h2, .inr ⟨b, g, rfl, h4, h5, Nat.lt_of_lt_of_le h6 k.1, Nat.lt_of_lt_of_le h7 k.1, h8, ?_⟩⟩
    rw [k.2.1 b h6 (hb b (by simp [obs])), h9.1, k.2.2 g h7 (hg g (by simp [ogs]))]
    exact ⟨rfl, h9.2⟩
theorem Ow.fr {H H' : AH} {n0 : Nat} {e : TypeId} {sz : Nat} {v : Value} {n : Nat} {cs : List Value} {o : Option (Nat × Nat)} (h : Ow H n0 e sz v n cs o) (k : Fr H H') : Ow H' n0 e sz v n cs o := h.frX (k.x [] []) (by simp) (by simp)
theorem Ow.young {H : AH} {n0 : Nat} {e : TypeId} {sz : Nat} {v : Value} {n : Nat} {cs : List Value} {o : Option (Nat × Nat)} (h : Ow H n0 e sz v n cs o) : (∀ b ∈ obs o, n0 ≤ b) ∧ (∀ g ∈ ogs o, n0 ≤ g) ∧ (∀ b ∈ obs o, b < H.next) ∧ (∀ g ∈ ogs o, g < H.next) := by
  obtain ⟨_, _, ⟨_, _, rfl⟩ | ⟨b, g, rfl, h4, h5, h6, h7, _⟩⟩ := h
  · simp [obs, ogs]
  · simp [obs, ogs, h4, h5, h6, h7]
theorem Ow.app {H : AH} {n0 : Nat} {e : TypeId} {sz bytes n m : Nat} {v : Value} {cs new : List Value} {o : Option (Nat × Nat)} (h : Ow H n0 e sz v n cs o) (hm : 0 < m) (hz : 0 < sz) (hn : new.length = m * sz) (hb : (n + m) * bytes ≤ 140737488355328) (hl : n + m < 4611686018427387904) (h0 : n0 ≤ H.next) :
    ∃ v' H' o', H.app e sz bytes v m new = some (v', H') ∧ Ow H' n0 e sz v' (n + m) (cs ++ new) o' ∧ FrX (obs o) (ogs o) H H' ∧ (∀ b ∈ obs o', H.next ≤ b) ∧ (∀ g ∈ ogs o', g ∈ ogs o ∨ H.next ≤ g) := by
  obtain ⟨hc, hlt, ⟨rfl, rfl, rfl⟩ | ⟨b, g, rfl, hb0, hg0, hbl, hgl, rfl, ho⟩⟩ := h
  · have : cs = [] := List.length_eq_zero_iff.1 (by simpa using hc)
    subst this
    refine ⟨.slice (some ⟨H.next, 0, none⟩) (0 + m) unk, H.alloc (.row e new .loose H.next (H.ver H.next)), some (H.next, H.next), ?_, ⟨by simp [hn], by omega, .inr ⟨H.next, H.next, rfl, h0, h0, by simp, by simp, rfl, by simp, by omega⟩⟩, (Fr.alloc _ _).x _ _, by simp [obs], by simp [ogs]⟩
    simp only [AH.app]
    rw [if_neg (by omega), if_pos ⟨by simpa using hb, by omega, hz⟩]
    simp
  · have hm' : 0 < m * sz := Nat.mul_pos hm hz
    refine ⟨.slice (some ⟨H.next, 0, none⟩) (n + m) unk, (H.put b (.row e cs .shared g (H.ver g))).alloc (.row e (cs ++ new) .loose g (H.ver g)), some (H.next, g), ?_, ⟨by simp [hc, hn, Nat.add_mul], hl, .inr ⟨H.next, g, rfl, h0, hg0, by simp, by simp; omega, rfl, by simp, by omega⟩⟩, ⟨by simp, fun c hc hx => ?_, fun c _ _ => by simp⟩, by simp [obs], by simp [ogs]⟩
    · simp only [AH.app, ho.1]
      rw [if_neg (by omega), if_neg (fun h => h ⟨hb, hl, hz⟩), if_pos trivial, if_pos ⟨trivial, trivial⟩, if_neg (by omega), if_pos (by omega)]
      simp
    · rw [AH.obj_alloc, if_neg (by simp; omega), AH.obj_put, if_neg (by simpa [obs] using hx)]
theorem Ow.wr {H : AH} {n0 : Nat} {e : TypeId} {sz n : Nat} {v : Value} {cs : List Value} {o : Option (Nat × Nat)} (h : Ow H n0 e sz v n cs o) {off : Nat} {vs : List Value} (hne : vs ≠ []) (hf : off + vs.length ≤ cs.length) :
    ∃ b g H', o = some (b, g) ∧ v = .slice (some ⟨b, 0, none⟩) n unk ∧ H.wr b off vs = some H' ∧ Ow H' n0 e sz v n (splice cs off vs) o ∧ FrX (obs o) (ogs o) H H' ∧ H'.next = H.next := by
  obtain ⟨hc, hlt, ⟨rfl, rfl, rfl⟩ | ⟨b, g, rfl, hb0, hg0, hbl, hgl, rfl, ho⟩⟩ := h
  · have h1 : cs = [] := List.length_eq_zero_iff.1 (by simpa using hc)
    subst h1
    have h2 : off + vs.length ≤ 0 := hf
    exact absurd (List.length_eq_zero_iff.1 (by omega)) hne
  · refine ⟨b, g, (H.put b (.row e (splice cs off vs) .loose g (H.ver g + 1))).bump g (H.ver g + 1), rfl, rfl, ?_, ⟨by rw [splice_length hf, hc], hlt, .inr ⟨b, g, rfl, hb0, hg0, by simpa using hbl, by simpa using hgl, rfl, by simp, ho.2⟩⟩, ⟨by simp, fun c hc hx => ?_, fun c hc hx => ?_⟩, by simp⟩
    · unfold AH.wr
      rw [if_neg (by simpa using hne), ho.1]
      simp only [beq_self_eq_true, Bool.true_and, decide_eq_true_eq]
      rw [if_pos hf]
    · simp only [AH.obj_bump, AH.obj_put]
      rw [if_neg (by simpa [obs] using hx)]
    · simp only [AH.ver_bump, AH.ver_put]
      rw [if_neg (by simpa [ogs] using hx)]
section
variable {live : Option Nat} {n : Nat} {l : SL} {H : AH} {Q : Ex → SL → AH → Prop}
theorem WP.condT {x : Operand} {a b : PC} (hx : lookO V.nG l x = some (.bool true)) (h : WP V O live n a l H Q) : WP V O live n (.cond x a b) l H Q := .cond hx (fun _ => h) (fun e => nomatch e)
theorem WP.condF {x : Operand} {a b : PC} (hx : lookO V.nG l x = some (.bool false)) (h : WP V O live n b l H Q) : WP V O live n (.cond x a b) l H Q := .cond hx (fun e => nomatch e) (fun _ => h)
theorem WP.condT' {x : Operand} {a b : PC} {t : Bool} (hx : lookO V.nG l x = some (.bool t)) (ht : t = true) (h : WP V O live n a l H Q) : WP V O live n (.cond x a b) l H Q := .cond hx (fun _ => h) (fun e => by rw [ht] at e; cases e)
theorem WP.condF' {x : Operand} {a b : PC} {t : Bool} (hx : lookO V.nG l x = some (.bool t)) (ht : t = false) (h : WP V O live n b l H Q) : WP V O live n (.cond x a b) l H Q := .cond hx (fun e => by rw [ht] at e; cases e) (fun _ => h)
theorem WP.seqS {σ : Type} {a b : PC} (lit : σ → SL) (F : σ → AH → Prop) (h : WP V O live n a l H (ThenL (fun l' H' => ∃ s, F s H' ∧ Kn l' (lit s)) Q)) (k : ∀ s H', F s H' → WP V O live n b (lit s) H' Q) : WP V O live n (.seq a b) l H Q :=
  .seq (h.mono fun e l' H' hq => by
    cases e with
    | normal => obtain ⟨s, hf, hk⟩ := hq; exact (k s H' hf).sub hk.look
    | exit id => exact hq
    | ret => exact hq)
end
theorem W.loopH {live : Option Nat} {n : Nat} {σ : Type} {c : Code} {Q : Ex → SL → AH → Prop} (lit : σ → SL) (I : σ → AH → Prop) (μ : σ → Nat)
    (hI : ∀ s H, I s H → W V O live n c (lit s) H (ThenL (fun l' H' => ∃ s', I s' H' ∧ μ s' < μ s ∧ Kn l' (lit s')) Q)) {l : SL} {H : AH} (s0 : σ) (h0 : I s0 H) (hl : Kn l (lit s0)) : W V O live n (.loop c) l H Q := by
  have key : ∀ k s H, I s H → μ s < k → ∀ T, Has T (lit s) → Dom live T → ∃ N e T' H', (∀ m, N ≤ m → ∀ lf, N ≤ lf → ∀ d, N ≤ d → loopN (fun T H => codeL V (fO V O lf d) live none n lf c T H) m T H = some (e, T', H')) ∧ Dom live T' ∧ ∃ l', Has T' l' ∧ Q e l' H' := by
    intro k
    induction k with
    | zero => intro s H _ hk; omega
    | succ k ih =>
      intro s H hi hk T hT hd
      obtain ⟨N, e, T1, H1, h1, d1, l1, h2, h3⟩ := hI s H hi T hT hd
      cases e with
      | normal =>
        obtain ⟨s', i', m', kn'⟩ := h3
        obtain ⟨M, e, T2, H2, k1, k2⟩ := ih s' H1 i' (by omega) T1 (fun t v e => h2 t v (kn'.look t v e)) d1
        refine ⟨N + M + 1, e, T2, H2, fun m hm lf hlf d hdd => ?_, k2⟩
        obtain ⟨m, rfl⟩ : ∃ m', m = m' + 1 := ⟨m - 1, by omega⟩
        simp only [loopN]
        rw [h1 lf (by omega) d (by omega)]
        exact k1 m (by omega) lf (by omega) d (by omega)
      | exit id =>
        refine ⟨N + 1, _, T1, H1, fun m hm lf hlf d hdd => ?_, d1, l1, h2, h3⟩
        obtain ⟨m, rfl⟩ : ∃ m', m = m' + 1 := ⟨m - 1, by omega⟩
        simp only [loopN]
        rw [h1 lf (by omega) d (by omega)]
      | ret =>
        refine ⟨N + 1, _, T1, H1, fun m hm lf hlf d hdd => ?_, d1, l1, h2, h3⟩
        obtain ⟨m, rfl⟩ : ∃ m', m = m' + 1 := ⟨m - 1, by omega⟩
        simp only [loopN]
        rw [h1 lf (by omega) d (by omega)]
  intro T hT hd
  obtain ⟨N, e, T', H', h1, h2⟩ := key (μ s0 + 1) s0 H h0 (Nat.lt_succ_self _) T (fun t v e => hT t v (hl.look t v e)) hd
  exact ⟨N, e, T', H', fun lf hlf d hdd => by simp only [codeL]; exact h1 lf hlf lf hlf d hdd, h2⟩
theorem WP.loopH {live : Option Nat} {n : Nat} {l : SL} {H : AH} {Q : Ex → SL → AH → Prop} {σ : Type} {a : PC} (lit : σ → SL) (I : σ → AH → Prop) (μ : σ → Nat) (s0 : σ) (h0 : I s0 H) (hl : Kn l (lit s0))
    (hI : ∀ s H, I s H → WP V O live n a (lit s) H (ThenL (fun l' H' => ∃ s', I s' H' ∧ μ s' < μ s ∧ Kn l' (lit s')) Q)) : WP V O live n (.loop a) l H Q := fun c hc => by
  obtain ⟨a', rfl, k1⟩ := pcOf_cases hc
  exact .loopH lit I μ (fun s H hi => hI s H hi a' k1) s0 h0 hl
theorem Lc.of_eq {f : FuncId} {vs : List Value} {H H1 : AH} {v : Value} (h : ∃ u H', Lc V O f vs H u H' ∧ (u = v ∧ H' = H1)) : Lc V O f vs H v H1 := by
  obtain ⟨u, H', h, rfl, rfl⟩ := h; exact h
theorem Sl.at1 {H : AH} {v : Value} {n : Nat} {cs : List Value} (h : Sl H v 1 n cs) {t e : TypeId} {s b : Nat} {z : Value} (ht : V.E t = some ⟨.slice e, s, b, z⟩) {te : TI} (he : V.E e = some te) (hz : te.size = 1) {kd : IntKind} {i : Int} (h0 : 0 ≤ i) {c : Value} (hc : cs[i.toNat]? = some c) :
    ∃ b off, aIndex V.E t v (.int kd i) = some (.pointer (some ⟨b, off, none⟩)) ∧ Rd H b off 1 [c] := by
  have hlt := (List.getElem?_eq_some_iff.1 hc).1
  obtain ⟨b, off, h1, h2⟩ := h.at ht he hz (kd := kd) h0 (i := i) (by rw [h.1] at hlt; omega)
  refine ⟨b, off, h1, ?_⟩
  rw [Nat.mul_one, List.drop_eq_getElem_cons hlt] at h2
  have := (List.getElem?_eq_some_iff.1 hc).2
  simpa [this] using h2
theorem OneAt.toSl {H : AH} {e : TypeId} {cs : List Value} {cap : Nat} (h : cs.length < 4611686018427387904) : Sl (H.alloc (.row e cs .exact 0 0)) (.slice (some ⟨H.next, 0, none⟩) cs.length cap) 1 cs.length cs :=
  ⟨by simp, h, .inr ⟨H.next, 0, cap, rfl, fun _ => by simpa using Rd.exact (H := H.alloc (.row e cs .exact 0 0)) (b := H.next) (et := e) (cells := cs) (g := 0) (v := 0) (by simp) (by simp)⟩⟩
section
variable {g : Ft} {H : AH}
theorem op_alloc {t : TypeId} {te : TI} {cs : List Value} (he : V.E t = some te) (hc : te.zv.cells.toList = cs) : aopG V g H (.alloc t) = some (.pointer (some ⟨H.next, 0, none⟩), H.alloc (.row t cs .exact 0 0)) := by
  subst hc; simp only [aopG, he]
theorem op_store {t : TypeId} {te : TI} {a x : Operand} {b off : Nat} {v : Value} {H' : AH} (ha : g a = some (.pointer (some ⟨b, off, none⟩))) (hx : g x = some v) (he : V.E t = some te) (hs : v.cells.size = te.size) (h1 : v.cells.toList.all Value.oneCell' = true) (hw : H.wr b off v.cells.toList = some H') :
    aopG V g H (.store t a x) = some (undef, H') := by
  simp only [aopG, ha, hx, aStore, he]
  rw [if_pos ⟨hs, h1⟩, hw]; rfl
theorem op_makeSlice {l c : Operand} {t e : TypeId} {k k' : IntKind} {n m : Nat} {a b : Nat} {z : Value} {te : TI} (hl : g l = some (.int k n)) (hc : g c = some (.int k' m)) (ht : V.E t = some ⟨.slice e, a, b, z⟩) (he : V.E e = some te) (h1 : n ≤ m) (h2 : m * te.bytes ≤ 140737488355328) (h3 : m < 4611686018427387904) :
    aopG V g H (.makeSlice t l c) = some (.slice (some ⟨H.next, 0, none⟩) n m, H.alloc (.row e (azeros te.zv.cells.toList m) .exact 0 0)) := by
  simp only [aopG, hl, hc, aMakeSlice, ht, he]
  rw [if_pos ⟨by omega, by omega, h2, by omega⟩]; rfl
theorem bytes_of (l : List UInt8) : bytesOfInts (l.map fun b => (b.toNat : Int)) = ⟨⟨l⟩⟩ := by
  have key : ∀ (l : List UInt8) (r : ByteArray), (l.map fun b => (b.toNat : Int)).foldl (fun r n => r.push (UInt8.ofNat n.toNat)) r = ⟨⟨r.data.toList ++ l⟩⟩ := by
    intro l
    induction l with
    | nil => intro r; simp
    | cons a l ih =>
      intro r
      rw [List.map_cons, List.foldl_cons, ih]
      have : UInt8.ofNat ((a.toNat : Int).toNat) = a := by simp
      rw [this]
      simp [ByteArray.push]
  rw [bytesOfInts, key]; rfl
theorem intsOf_map (l : List UInt8) : intsOf (l.map fun b => Value.int .u8 b.toNat) = some (l.map fun b => (b.toNat : Int)) := by
  induction l with
  | nil => rfl
  | cons a l ih => rw [List.map_cons, intsOf, ih]; rfl
theorem op_bytesStr {x : Operand} {s d e : TypeId} {b off n cap : Nat} {l : List UInt8} {a1 b1 a2 b2 a3 b3 : Nat} {z1 z2 z3 : Value} (hx : g x = some (.slice (some ⟨b, off, none⟩) n cap)) (hs : V.E s = some ⟨.slice e, a1, b1, z1⟩) (hd : V.E d = some ⟨.string, a2, b2, z2⟩) (he : V.E e = some ⟨.int .u8, a3, b3, z3⟩) (h0 : 0 < n)
    (hr : Rd H b off n (l.map fun b => .int .u8 b.toNat)) : aopG V g H (.convert s d x) = some (.string ⟨⟨l⟩⟩, H) := by
  simp only [aopG, hx, aConvert, hs, hd, he]
  rw [if_neg (by omega), hr.rd]
  simp only [intsOf_map, bytes_of]
theorem op_sliceH {x hi : Operand} {t : TypeId} {s : ByteArray} {n b : Nat} {z : Value} {k : IntKind} {i : Int} (hx : g x = some (.string s)) (hi' : g hi = some (.int k i)) (ht : V.E t = some ⟨.string, n, b, z⟩) (h0 : 0 ≤ i) (h1 : i ≤ s.size) :
    aopG V g H (.slice t x none (some hi) none) = some (.string (s.extract 0 i.toNat), H) := by
  simp only [aopG, hx, gopt, hi', Option.map_some, aSlice, ht, optBound, bound]
  rw [if_pos ⟨h0, h1⟩]; rfl
end
theorem Ow.set {H : AH} {n0 : Nat} {e : TypeId} {sz n : Nat} {v : Value} {cs : List Value} {o : Option (Nat × Nat)} (h : Ow H n0 e sz v n cs o) {t : TypeId} {s b : Nat} {z : Value} (ht : V.E t = some ⟨.slice e, s, b, z⟩) {te : TI} (he : V.E e = some te) (hz : te.size = sz)
    {kd : IntKind} {i : Int} (h0 : 0 ≤ i) (hi : i < n) {vs : List Value} (hne : vs ≠ []) {k : Nat} (hk : k + vs.length ≤ sz) :
    ∃ b off H', aIndex V.E t v (.int kd i) = some (.pointer (some ⟨b, off, none⟩)) ∧ Rd H b off sz ((cs.drop (i.toNat * sz)).take sz) ∧ H.wr b (off + k) vs = some H' ∧ Ow H' n0 e sz v n (splice cs (i.toNat * sz + k) vs) o ∧ FrX (obs o) (ogs o) H H' ∧ H'.next = H.next := by
  have hc := h.1
  have hle : (i.toNat + 1) * sz ≤ n * sz := Nat.mul_le_mul_right sz (by omega)
  rw [Nat.add_mul, Nat.one_mul] at hle
  obtain ⟨b, off, h1, h2⟩ := h.sl.at ht he hz (kd := kd) h0 hi
  obtain ⟨b', g, H', e1, e2, e3, e4, e5, e6⟩ := h.wr (off := i.toNat * sz + k) hne (by omega)
  subst e2
  simp only [aIndex, ht, he, hz] at h1
  rw [if_pos ⟨h0, hi⟩] at h1
  simp only [Option.some.injEq, Value.pointer.injEq, Addr.mk.injEq] at h1
  obtain ⟨rfl, rfl, _⟩ := h1
  refine ⟨b', 0 + i.toNat * sz, H', ?_, h2, ?_, e4, e5, e6⟩
  · simp only [aIndex, ht, he, hz]
    rw [if_pos ⟨h0, hi⟩]
  · rw [Nat.zero_add]; exact e3
theorem Ow.appSl {H : AH} {n0 : Nat} {e : TypeId} {sz bytes n m : Nat} {v y : Value} {cs new : List Value} {o : Option (Nat × Nat)} (h : Ow H n0 e sz v n cs o) (hs : Sl H y sz m new) (hz : 0 < sz) (hb : (n + m) * bytes ≤ 140737488355328) (hl : n + m < 4611686018427387904) (h0 : n0 ≤ H.next)
    (h1 : new.all Value.oneCell' = true) {t u : TypeId} {a b a2 b2 : Nat} {z z2 : Value} {te : TI} (ht : V.E t = some ⟨.slice e, a, b, z⟩) (hu : V.E u = some ⟨.slice e, a2, b2, z2⟩) (he : V.E e = some te) (hsz : te.size = sz) (hby : te.bytes = bytes) :
    ∃ v' H' o', (∀ {g : Ft} {x w : Operand}, g x = some v → g w = some y → aopG V g H (.call ⟨.builtin .append, #[x, w], #[t, u]⟩) = some (v', H')) ∧ Ow H' n0 e sz v' (n + m) (cs ++ new) o' ∧ FrX (obs o) (ogs o) H H' ∧ (∀ b ∈ obs o', b ∈ obs o ∨ H.next ≤ b) ∧ (∀ g ∈ ogs o', g ∈ ogs o ∨ H.next ≤ g) := by
  subst hsz hby
  have hsrc : H.src te.size y m = some new ∧ srcLen y = some m := by
    obtain ⟨h1, h2, ⟨rfl, rfl⟩ | ⟨b, off, cap, rfl, h4⟩⟩ := hs
    · have : new = [] := List.length_eq_zero_iff.1 (by simpa using h1)
      subst this; exact ⟨rfl, rfl⟩
    · refine ⟨?_, rfl⟩
      unfold AH.src
      by_cases hm : m = 0
      · have : new = [] := List.length_eq_zero_iff.1 (by rw [h1, hm]; simp)
        subst this; simp [hm]
      · simp only [if_neg hm]
        exact (h4 (by omega)).rd
  by_cases hm : m = 0
  · subst hm
    have hnew : new = [] := List.length_eq_zero_iff.1 (by rw [hs.1]; simp)
    subst hnew
    refine ⟨v, H, o, fun {g x w} hx hw => ?_, by simpa using h, FrX.refl _ _ _, fun b hb => .inl hb, fun b hb => .inl hb⟩
    simp only [aopG, gvals, hx, hw, aBuiltin, ht, hu, he, hsrc.1, hsrc.2]
    obtain ⟨_, _, ⟨rfl, _, _⟩ | ⟨b, g, _, _, _, _, _, rfl, _⟩⟩ := h <;> simp [AH.app]
  · obtain ⟨v', H', o', q1, q2, q3, q4, q5⟩ := h.app (bytes := te.bytes) (m := m) (new := new) (by omega) hz hs.1 hb hl h0
    refine ⟨v', H', o', fun {g x w} hx hw => ?_, q2, q3, fun b hb => .inr (q4 b hb), q5⟩
    simp only [aopG, gvals, hx, hw, aBuiltin, ht, hu, he, hsrc.1, hsrc.2, h1, if_true, q1]
theorem aInt_addW (P : Program) (t : TypeId) {k : IntKind} {a b c : Int} (h : k.wrap (a + b) = c) : aInt P .add t k a k b = some (.int k c) := by simp only [aInt, if_true, wr_eq, h]
theorem aInt_subW (P : Program) (t : TypeId) {k : IntKind} {a b c : Int} (h : k.wrap (a - b) = c) : aInt P .sub t k a k b = some (.int k c) := by simp only [aInt, if_true, wr_eq, h]
theorem aInt_mulW (P : Program) (t : TypeId) {k : IntKind} {a b c : Int} (h : k.wrap (a * b) = c) : aInt P .mul t k a k b = some (.int k c) := by simp only [aInt, if_true, wr_eq, h]
theorem aInt_rem (P : Program) (t : TypeId) {k : IntKind} {a b : Int} (hb : b ≠ 0) : aInt P .rem t k a k b = some (.int k (a.tmod b)) := by
  have e : aInt P .rem t k a k b = pureRun P (binOp .rem t (.int k a) (.int k b)) := rfl
  rw [e]
  unfold binOp
  simp only [ne_eq, not_true_eq_false, if_false, Op.intDiv, if_neg hb]
  rfl
theorem aInt_quo (P : Program) (t : TypeId) {k : IntKind} {a b c : Int} (hb : b ≠ 0) (h : k.wrap (a.tdiv b) = c) : aInt P .quo t k a k b = some (.int k c) := by
  have e : aInt P .quo t k a k b = pureRun P (binOp .quo t (.int k a) (.int k b)) := rfl
  rw [e]
  unfold binOp
  simp only [ne_eq, not_true_eq_false, if_false, Op.intDiv, if_neg hb, h]
  rfl
theorem pureRun_und {α : Type} {P : Program} {t : TypeId} {d : TypeDesc} (h : P.underlying t = some d) (f : TypeDesc → Sem α) : pureRun P (underlying t >>= f) = pureRun P (f d) := by
  have e : pureRun P (underlying t >>= f) = pureRun P ((match P.underlying t with | some d => pure d | none => stuck "no such type" : Sem TypeDesc) >>= f) := rfl
  rw [e, h]; rfl
theorem op_conv {V : Env} {g : Ft} {H : AH} {s d : TypeId} {x : Operand} {k k' : IntKind} {n m : Int} {ds : TypeDesc} (hs : V.P.underlying s = some ds) (hd : V.P.underlying d = some (.int k)) (hx : g x = some (.int k' n)) (h : k.wrap n = m) : aopG V g H (.convert s d x) = some (.int k m, H) := by
  have e : pureRun V.P (convert s d (.int k' n)) = some (.int k m) := by
    unfold convert
    rw [pureRun_und hs, pureRun_und hd, ← h]; rfl
  have e2 : aConvert V.P V.E H s d (.int k' n) = (aPure V.P [.int k' n] (convert s d (.int k' n))).map (·, H) := by unfold aConvert; rfl
  simp only [aopG, hx, e2, aPure, e]
  rfl
def Bx (H : AH) (b : Nat) (et : TypeId) (cs : List Value) : Prop := b < H.next ∧ H.obj b = .row et cs .exact 0 0
section
variable {H H' : AH} {b : Nat} {et : TypeId} {cs : List Value}
theorem Bx.new : Bx (H.alloc (.row et cs .exact 0 0)) H.next et cs := ⟨by simp, by simp⟩
theorem Bx.rd (h : Bx H b et cs) {n : Nat} (hn : cs.length = n) : Rd H b 0 n cs := by subst hn; exact Rd.exact h.1 h.2
theorem Bx.frX (h : Bx H b et cs) {bs gs : List Nat} (k : FrX bs gs H H') (hb : b ∉ bs) : Bx H' b et cs := ⟨Nat.lt_of_lt_of_le h.1 k.1, (k.2.1 b h.1 hb).trans h.2⟩
theorem Bx.fr (h : Bx H b et cs) (k : Fr H H') : Bx H' b et cs := h.frX (k.x [] []) (by simp)
theorem Bx.wr (h : Bx H b et cs) {off : Nat} {vs : List Value} (hne : vs ≠ []) (hf : off + vs.length ≤ cs.length) :
    ∃ H', H.wr b off vs = some H' ∧ Bx H' b et (splice cs off vs) ∧ FrX [b] [] H H' ∧ H'.next = H.next := by
  refine ⟨H.put b (.row et (splice cs off vs) .exact 0 0), ?_, ⟨by simpa using h.1, by simp⟩, ⟨by simp, fun c _ hx => by rw [AH.obj_put, if_neg (by simpa using hx)], fun c _ _ => by simp⟩, by simp⟩
  unfold AH.wr
  rw [if_neg (by simpa using hne), h.2]
  simp only
  rw [if_pos hf]
end
end Go.Ev

/-
  EV, universal use, part l: the steps of a walk, by short names.
-/
namespace Go.Ev
open Go.RowKit
section
variable {V : Env} {O : Orc} {live : Option Nat} {n : Nat} {l : SL} {H : AH} {Q : Ex → SL → AH → Prop} {a b : PC} {id : Nat} {is : List LI} {outs : List (Tmp × Nat)} {E : List Value} {K : List Value → AH → Prop} {o : Op} {x y z : Operand} {w t : Bool} {u v : Value}
theorem zSeq (h : WP V O live n a l H (ThenL (fun l1 H1 => WP V O live n b l1 H1 Q) Q)) : WP V O live n (.seq a b) l H Q := .seq h
theorem zReg (h : WL V O is [] l H fun E H' => ∃ l', outsL E outs l = some l' ∧ Q .normal l' H') : WP V O live n (.reg is outs) l H Q := .reg h
theorem zBlk (h : WP V O live n a l H fun e l' H' => Q (e.out id) l' H') : WP V O live n (.block id a) l H Q := .block h
theorem zSkp (h : Q .normal l H) : WP V O live n .skip l H Q := .skip h
theorem zExt (h : Q (.exit id) l H) : WP V O live n (.exit id) l H Q := .exit h
theorem zNil {l' : SL} (h : outsL E outs l = some l') (k : Q .normal l' H) : WL V O [] E l H fun E H' => ∃ l', outsL E outs l = some l' ∧ Q .normal l' H' := .nil ⟨l', h, k⟩
theorem zGet {t : Tmp} (hv : look l t = some v) (h : WL V O is (v :: E) l H K) : WL V O (.get t :: is) E l H K := .get hv h
theorem zOn (hx : gS V.nG E l x = some (.bool t)) (hb : t = w) (h : WL V O (.run o none :: is) E l H K) : WL V O (.run o (some (x, w)) :: is) E l H K := .on hx hb h
theorem zOff (hx : gS V.nG E l x = some (.bool t)) (hb : t = !w) (h : WL V O is (undef :: E) l H K) : WL V O (.run o (some (x, w)) :: is) E l H K := .off hx hb h
theorem zU (hx : gS V.nG E l x = some undef) (h : WL V O is (undef :: E) l H K) : WL V O (.run o (some (x, w)) :: is) E l H K := .offU hx h
theorem zGd (hx : gS V.nG E l x = some (.bool t)) (h1 : t = w → WL V O (.run o none :: is) E l H K) (h2 : t = !w → WL V O is (undef :: E) l H K) : WL V O (.run o (some (x, w)) :: is) E l H K := .guard hx h1 h2
theorem zMov (hx : gS V.nG E l x = some v) (h : WL V O is (v :: E) l H K) : WL V O (.run (.move x) none :: is) E l H K := .op (by simp only [aopG, hx, Option.map_some]) h
theorem zAsg (hx : gS V.nG E l x = some v) (h : WL V O is (v :: E) l H K) : WL V O (.run (.assign x) none :: is) E l H K := .op (by simp only [aopG, hx, Option.map_some]) h
theorem zXtr {i : Nat} (hx : aopG V (gS V.nG E l) H (.extract x i) = some (v, H)) (h : WL V O is (v :: E) l H K) : WL V O (.run (.extract x i) none :: is) E l H K := .op hx h
theorem zPT (hc : gS V.nG E l x = some (.bool t)) (hb : t = true) (hx : gS V.nG E l y = some v) (h : WL V O is (v :: E) l H K) : WL V O (.run (.pick x y z) none :: is) E l H K := .op (op_pickT hc hb hx) h
theorem zPF (hc : gS V.nG E l x = some (.bool t)) (hb : t = false) (hx : gS V.nG E l z = some v) (h : WL V O is (v :: E) l H K) : WL V O (.run (.pick x y z) none :: is) E l H K := .op (op_pickF hc hb hx) h
section
variable {ty ty2 : TypeId} {k : IntKind} {i j : Int} (hx : gS V.nG E l x = some (.int k i)) (hy : gS V.nG E l y = some (.int k j))
include hx hy
theorem zLss (h : WL V O is (.bool (decide (i < j)) :: E) l H K) : WL V O (.run (.binOp .lss ty x y ty2) none :: is) E l H K := .op (op_int hx hy (aInt_lss _ _)) h
theorem zLeq (h : WL V O is (.bool (decide (i ≤ j)) :: E) l H K) : WL V O (.run (.binOp .leq ty x y ty2) none :: is) E l H K := .op (op_int hx hy (aInt_leq _ _)) h
theorem zGtr (h : WL V O is (.bool (decide (i > j)) :: E) l H K) : WL V O (.run (.binOp .gtr ty x y ty2) none :: is) E l H K := .op (op_int hx hy (aInt_gtr _ _)) h
theorem zGeq (h : WL V O is (.bool (decide (i ≥ j)) :: E) l H K) : WL V O (.run (.binOp .geq ty x y ty2) none :: is) E l H K := .op (op_int hx hy (aInt_geq _ _)) h
theorem zEql (h : WL V O is (.bool (i == j) :: E) l H K) : WL V O (.run (.binOp .eql ty x y ty2) none :: is) E l H K := .op (op_int hx hy (aInt_eql _ _)) h
theorem zNeq (h : WL V O is (.bool (i != j) :: E) l H K) : WL V O (.run (.binOp .neq ty x y ty2) none :: is) E l H K := .op (op_int hx hy (aInt_neq _ _)) h
end
theorem zAdd {ty ty2 : TypeId} {i j : Int} (hx : gS V.nG E l x = some (.int .i64 i)) (hy : gS V.nG E l y = some (.int .i64 j)) (h1 : -9223372036854775808 ≤ i + j ∧ i + j ≤ 9223372036854775807) (h : WL V O is (.int .i64 (i + j) :: E) l H K) : WL V O (.run (.binOp .add ty x y ty2) none :: is) E l H K := .op (op_int hx hy (aInt_add _ _ h1.1 h1.2)) h
theorem zSub {ty ty2 : TypeId} {i j : Int} (hx : gS V.nG E l x = some (.int .i64 i)) (hy : gS V.nG E l y = some (.int .i64 j)) (h1 : -9223372036854775808 ≤ i - j ∧ i - j ≤ 9223372036854775807) (h : WL V O is (.int .i64 (i - j) :: E) l H K) : WL V O (.run (.binOp .sub ty x y ty2) none :: is) E l H K := .op (op_int hx hy (aInt_sub _ _ h1.1 h1.2)) h
theorem zLenS {ty : TypeId} {s : ByteArray} {n b : Nat} {z : Value} (hx : gS V.nG E l x = some (.string s)) (ht : V.E ty = some ⟨.string, n, b, z⟩) (h : WL V O is (.int .i64 s.size :: E) l H K) : WL V O (.run (.call ⟨.builtin .len, #[x], #[ty]⟩) none :: is) E l H K := .op (op_lenS hx ht) h
theorem zLen {ty : TypeId} (hx : gS V.nG E l x = some u) (h0 : aLen V.E H ty u = some v) (h : WL V O is (v :: E) l H K) : WL V O (.run (.call ⟨.builtin .len, #[x], #[ty]⟩) none :: is) E l H K := .op (op_len hx h0) h
theorem zNot {ty : TypeId} (hx : gS V.nG E l x = some (.bool t)) (h : WL V O is (.bool (!t) :: E) l H K) : WL V O (.run (.unOp .not ty x) none :: is) E l H K := .op (op_not hx) h
theorem zEqS {ty ty2 : TypeId} {s r : ByteArray} (hx : gS V.nG E l x = some (.string s)) (hy : gS V.nG E l y = some (.string r)) (h : WL V O is (.bool (s.data.toList == r.data.toList) :: E) l H K) : WL V O (.run (.binOp .eql ty x y ty2) none :: is) E l H K := .op (op_eqS hx hy) h
theorem zNeS {ty ty2 : TypeId} {s r : ByteArray} (hx : gS V.nG E l x = some (.string s)) (hy : gS V.nG E l y = some (.string r)) (h : WL V O is (.bool (!(s.data.toList == r.data.toList)) :: E) l H K) : WL V O (.run (.binOp .neq ty x y ty2) none :: is) E l H K := .op (op_neS hx hy) h
theorem zIdx {ty : TypeId} {p : Value} (hx : gS V.nG E l x = some u) (hi : gS V.nG E l y = some v) (h0 : aIndex V.E ty u v = some p) (h : WL V O is (p :: E) l H K) : WL V O (.run (.indexAddr ty x y) none :: is) E l H K := .op (op_indexAddr hx hi h0) h
theorem zLd {ty : TypeId} (hx : gS V.nG E l x = some u) (h0 : aLoad V.E H ty u = some v) (h : WL V O is (v :: E) l H K) : WL V O (.run (.load ty x) none :: is) E l H K := .op (op_load hx h0) h
theorem zFld {ty : TypeId} {f : Nat} (hx : gS V.nG E l x = some u) (h0 : aField V.E ty f u = some v) (h : WL V O is (v :: E) l H K) : WL V O (.run (.fieldAddr ty x f) none :: is) E l H K := .op (op_fieldAddr hx h0) h
theorem zT (hx : lookO V.nG l x = some (.bool t)) (ht : t = true) (h : WP V O live n a l H Q) : WP V O live n (.cond x a b) l H Q := .condT' hx ht h
theorem zF (hx : lookO V.nG l x = some (.bool t)) (ht : t = false) (h : WP V O live n b l H Q) : WP V O live n (.cond x a b) l H Q := .condF' hx ht h
theorem zC (hx : lookO V.nG l x = some (.bool t)) (h1 : t = true → WP V O live n a l H Q) (h2 : t = false → WP V O live n b l H Q) : WP V O live n (.cond x a b) l H Q := .cond hx h1 h2
end
end Go.Ev

/-
  EV, universal use, part p: maps keyed by whole numbers; slices with room behind their end.
-/
namespace Go.Ev
open Go.RowKit
def MI (H : AH) (b : Nat) (f : Int → Option Value) : Prop :=
  b < H.next ∧ ∃ es : List (Int × Value), H.obj b = .map (es.map fun x => (.int .i64 x.1, x.2)) ∧ ∀ k, (es.find? (·.1 == k)).map (·.2) = f k
theorem MI.new {H : AH} : MI (H.alloc (.map [])) H.next fun _ => none := ⟨by simp, [], by simp, fun _ => rfl⟩
theorem MI.frX {H H' : AH} {b : Nat} {f : Int → Option Value} (h : MI H b f) {bs gs : List Nat} (k : FrX bs gs H H') (hb : b ∉ bs) : MI H' b f := by
  obtain ⟨h1, es, h2, h3⟩ := h
  exact ⟨Nat.lt_of_lt_of_le h1 k.1, es, (k.2.1 b h1 hb).trans h2, h3⟩
theorem MI.fr {H H' : AH} {b : Nat} {f : Int → Option Value} (h : MI H b f) (k : Fr H H') : MI H' b f := h.frX (k.x [] []) (by simp)
theorem MI.of_eq {H : AH} {b : Nat} {f g : Int → Option Value} (h : MI H b f) (e : ∀ k, f k = g k) : MI H b g := by
  obtain ⟨h1, es, h2, h3⟩ := h
  exact ⟨h1, es, h2, fun k => (h3 k).trans (e k)⟩
theorem findA_cons (k a : Int) (v : Value) (es : List (Value × Value)) (i : Nat) : findA (.int .i64 k) ((.int .i64 a, v) :: es) i = if k = a then some (i, v) else findA (.int .i64 k) es (i + 1) := by
  have e0 : findA (.int .i64 k) ((.int .i64 a, v) :: es) i = if (k == a) = true then some (i, v) else findA (.int .i64 k) es (i + 1) := rfl
  rw [e0]
  by_cases e : k = a
  · subst e; simp
  · simp [e]
theorem findA_int (k : Int) : ∀ (es : List (Int × Value)) (i : Nat), (findA (.int .i64 k) (es.map fun x => (.int .i64 x.1, x.2)) i).map (·.2) = (es.find? (·.1 == k)).map (·.2)
  | [], _ => rfl
  | (a, v) :: es, i => by
    rw [List.map_cons, findA_cons, List.find?_cons]
    by_cases e : k = a
    · subst e; simp
    · have h2 : (a == k) = false := by simpa using Ne.symm e
      rw [if_neg e]
      simp only [h2]
      exact findA_int k es (i + 1)
theorem findA_at (k : Int) : ∀ (es : List (Int × Value)) (i j : Nat) (v : Value), findA (.int .i64 k) (es.map fun x => (.int .i64 x.1, x.2)) i = some (j, v) → i ≤ j ∧ j - i < es.length ∧ ∀ w, (∀ x, ((es.set (j - i) (k, w)).find? (·.1 == x)).map (·.2) = if x = k then some w else (es.find? (·.1 == x)).map (·.2))
  | [], _, _, _, h => by cases h
  | (a, u) :: es, i, j, v, h => by
    rw [List.map_cons, findA_cons] at h
    by_cases e : k = a
    · subst e
      rw [if_pos rfl, Option.some.injEq, Prod.mk.injEq] at h
      obtain ⟨rfl, rfl⟩ := h
      refine ⟨Nat.le_refl _, by simp, fun w x => ?_⟩
      rw [Nat.sub_self, List.set_cons_zero, List.find?_cons, List.find?_cons]
      by_cases ex : x = k
      · subst ex; simp
      · have : (k == x) = false := by simpa using Ne.symm ex
        rw [if_neg ex]; simp only [this]
    · rw [if_neg e] at h
      obtain ⟨h2, h3, h4⟩ := findA_at k es (i + 1) j v h
      refine ⟨by omega, by simp; omega, fun w x => ?_⟩
      rw [show j - i = (j - (i + 1)) + 1 by omega, List.set_cons_succ, List.find?_cons, List.find?_cons]
      by_cases ex : a = x
      · subst ex
        rw [if_neg (Ne.symm e)]; simp
      · have : (a == x) = false := by simpa using ex
        simp only [this]
        exact h4 w x
section
variable {V : Env} {H : AH} {b : Nat} {f : Int → Option Value} {t kt et : TypeId} {s0 b0 : Nat} {z0 : Value}
theorem MI.get (h : MI H b f) (ht : V.E t = some ⟨.map kt et, s0, b0, z0⟩) {s1 b1 : Nat} {z1 : Value} (hk : V.E kt = some ⟨.int .i64, s1, b1, z1⟩) {te : TI} (he : V.E et = some te) (hz : constOk te.zv = true) (k : Int) : aLookup V.E H t (.map (some b)) (.int .i64 k) false = some ((f k).getD te.zv) := by
  obtain ⟨h1, es, h2, h3⟩ := h
  have hok : entriesOk (.int .i64) (es.map fun x => (Value.int .i64 x.1, x.2)) = true := by
    unfold entriesOk; rw [List.all_map, List.all_eq_true]; intro x _; simp [keyOk]
  have hf := findA_int k es 0
  rw [h3 k] at hf
  simp only [aLookup, ht, hk, he, AH.lo_lt h1, h2, hok, if_true]
  rw [if_pos (show keyOk (.int .i64) (.int .i64 k) = true by simp [keyOk])]
  cases hfa : findA (.int .i64 k) (es.map fun x => (.int .i64 x.1, x.2)) 0 with
  | none => rw [hfa] at hf; simp only [Option.map_none] at hf; rw [← hf]; simp [hz]
  | some p => obtain ⟨j, v⟩ := p; rw [hfa] at hf; simp only [Option.map_some] at hf; rw [← hf]; simp
theorem MI.set (h : MI H b f) (ht : V.E t = some ⟨.map kt et, s0, b0, z0⟩) {s1 b1 : Nat} {z1 : Value} (hk : V.E kt = some ⟨.int .i64, s1, b1, z1⟩) (k : Int) (v : Value) :
    ∃ H', aMapUpdate V.E H t (.map (some b)) (.int .i64 k) v = some H' ∧ MI H' b (fun x => if x = k then some v else f x) ∧ FrX [b] [] H H' ∧ H'.next = H.next := by
  obtain ⟨h1, es, h2, h3⟩ := h
  have hok : entriesOk (.int .i64) (es.map fun x => (Value.int .i64 x.1, x.2)) = true := by
    unfold entriesOk; rw [List.all_map, List.all_eq_true]; intro x _; simp [keyOk]
  have hko : keyOk (.int .i64) (.int .i64 k) = true := by simp [keyOk]
  simp only [aMapUpdate, ht, hk, h2, hok, hko, Bool.and_self, if_true]
  have hfr : ∀ o, FrX [b] [] H (H.put b o) := fun o => ⟨by simp, fun c _ hx => by rw [AH.obj_put, if_neg (by simpa using hx)], fun c _ _ => by simp⟩
  cases hfa : findA (.int .i64 k) (es.map fun x => (.int .i64 x.1, x.2)) 0 with
  | none =>
    refine ⟨_, rfl, ⟨by simpa using h1, es ++ [(k, v)], by simp, fun x => ?_⟩, hfr _, by simp⟩
    have hf := findA_int k es 0
    rw [hfa] at hf
    simp only [Option.map_none] at hf
    simp only
    rw [List.find?_append]
    by_cases e : x = k
    · subst e
      rw [if_pos rfl]
      have : es.find? (·.1 == x) = none := by simpa using hf.symm
      rw [this]; simp
    · rw [if_neg e, ← h3 x]
      have : ([(k, v)] : List (Int × Value)).find? (·.1 == x) = none := by simp [Ne.symm e]
      rw [this]; simp
  | some p =>
    obtain ⟨j, u⟩ := p
    obtain ⟨_, h5, h6⟩ := findA_at k es 0 j u hfa
    refine ⟨_, rfl, ⟨by simpa using h1, es.set j (k, v), ?_, fun x => ?_⟩, hfr _, by simp⟩
    · simp only [AH.obj_put, if_true]
      rw [List.map_set]
    · have := h6 v x
      rw [Nat.sub_zero] at this
      rw [this, h3 x]
end
section
variable {V : Env} {g : Ft} {H H' : AH}
theorem op_lookup {t : TypeId} {m k : Operand} {u v w : Value} {ok : Bool} (hm : g m = some u) (hk : g k = some v) (h : aLookup V.E H t u v ok = some w) : aopG V g H (.lookup t m k ok) = some (w, H) := by
  simp only [aopG, hm, hk, h, Option.map_some]
theorem op_mapUpdate {t : TypeId} {m k x : Operand} {u v y : Value} (hm : g m = some u) (hk : g k = some v) (hx : g x = some y) (h : aMapUpdate V.E H t u v y = some H') : aopG V g H (.mapUpdate t m k x) = some (undef, H') := by
  simp only [aopG, hm, hk, hx, h, Option.map_some]
theorem op_makeMap {t : TypeId} : aopG V g H (.makeMap t none) = some (.map (some H.next), H.alloc (.map [])) := rfl
end
def OwT (H : AH) (n0 : Nat) (e : TypeId) (sz : Nat) (v : Value) (n : Nat) (cs tl : List Value) (o : Option (Nat × Nat)) : Prop :=
  cs.length = n * sz ∧ n < 4611686018427387904 ∧ ((v = .slice none 0 0 ∧ n = 0 ∧ o = none ∧ tl = []) ∨ ∃ b g, o = some (b, g) ∧ n0 ≤ b ∧ n0 ≤ g ∧ b < H.next ∧ g < H.next ∧ v = .slice (some ⟨b, 0, none⟩) n unk ∧ H.obj b = .row e (cs ++ tl) .loose g (H.ver g))
section
variable {V : Env} {H H' : AH} {n0 : Nat} {e : TypeId} {sz n : Nat} {v : Value} {cs tl : List Value} {o : Option (Nat × Nat)}
theorem Ow.t (h : Ow H n0 e sz v n cs o) : OwT H n0 e sz v n cs [] o := by
  obtain ⟨h1, h2, ⟨h3, h4, h5⟩ | ⟨b, g, h3, h4, h5, h6, h7, h8, h9, _⟩⟩ := h
  · exact ⟨h1, h2, .inl ⟨h3, h4, h5, rfl⟩⟩
  · exact ⟨h1, h2, .inr ⟨b, g, h3, h4, h5, h6, h7, h8, by rw [List.append_nil]; exact h9⟩⟩
theorem OwT.sl (h : OwT H n0 e sz v n cs tl o) : Sl H v sz n cs := by
  obtain ⟨h1, h2, ⟨rfl, rfl, _⟩ | ⟨b, g, _, _, _, hb, hg, rfl, ho⟩⟩ := h
  · exact ⟨h1, h2, .inl ⟨rfl, rfl⟩⟩
  · exact ⟨h1, h2, .inr ⟨b, 0, unk, rfl, fun _ => ⟨e, cs ++ tl, .loose, g, _, hb, ho, .inr (.inr ⟨hg, rfl⟩), by simp; omega, by rw [← h1]; simp⟩⟩⟩
theorem OwT.frX (h : OwT H n0 e sz v n cs tl o) {bs gs : List Nat} (k : FrX bs gs H H') (hb : ∀ b ∈ obs o, b ∉ bs) (hg : ∀ g ∈ ogs o, g ∉ gs) : OwT H' n0 e sz v n cs tl o := by
  obtain ⟨h1, h2, h3 | ⟨b, g, rfl, h4, h5, h6, h7, h8, h9⟩⟩ := h
  · exact ⟨h1, h2, .inl h3⟩
  · refine ⟨h1, h2, .inr ⟨b, g, rfl, h4, h5, Nat.lt_of_lt_of_le h6 k.1, Nat.lt_of_lt_of_le h7 k.1, h8, ?_⟩⟩
    rw [k.2.1 b h6 (hb b (by simp [obs])), h9, k.2.2 g h7 (hg g (by simp [ogs]))]
theorem OwT.fr (h : OwT H n0 e sz v n cs tl o) (k : Fr H H') : OwT H' n0 e sz v n cs tl o := h.frX (k.x [] []) (by simp) (by simp)
theorem OwT.old {n1 : Nat} (h : OwT H n0 e sz v n cs tl o) (hn : n1 ≤ n0) : OwT H n1 e sz v n cs tl o := by
  obtain ⟨h1, h2, h3 | ⟨b, g, h3, h4, h5, h6⟩⟩ := h
  · exact ⟨h1, h2, .inl h3⟩
  · exact ⟨h1, h2, .inr ⟨b, g, h3, Nat.le_trans hn h4, Nat.le_trans hn h5, h6⟩⟩
theorem OwT.young (h : OwT H n0 e sz v n cs tl o) : (∀ b ∈ obs o, n0 ≤ b) ∧ (∀ g ∈ ogs o, n0 ≤ g) ∧ (∀ b ∈ obs o, b < H.next) ∧ (∀ g ∈ ogs o, g < H.next) := by
  obtain ⟨_, _, ⟨_, _, rfl, _⟩ | ⟨b, g, rfl, h4, h5, h6, h7, _⟩⟩ := h
  · simp [obs, ogs]
  · simp [obs, ogs, h4, h5, h6, h7]
theorem OwT.wr (h : OwT H n0 e sz v n cs tl o) {off : Nat} {vs : List Value} (hne : vs ≠ []) (hf : off + vs.length ≤ cs.length) :
    ∃ b g H', o = some (b, g) ∧ v = .slice (some ⟨b, 0, none⟩) n unk ∧ H.wr b off vs = some H' ∧ OwT H' n0 e sz v n (splice cs off vs) tl o ∧ FrX (obs o) (ogs o) H H' ∧ H'.next = H.next := by
  obtain ⟨hc, hlt, ⟨rfl, rfl, rfl, rfl⟩ | ⟨b, g, rfl, hb0, hg0, hbl, hgl, rfl, ho⟩⟩ := h
  · have h1 : cs = [] := List.length_eq_zero_iff.1 (by simpa using hc)
    subst h1
    have h2 : off + vs.length ≤ 0 := hf
    exact absurd (List.length_eq_zero_iff.1 (by omega)) hne
  · have hs : splice (cs ++ tl) off vs = splice cs off vs ++ tl := by
      unfold splice
      rw [List.take_append_of_le_length (by omega), List.drop_append_of_le_length (by omega), List.append_assoc, List.append_assoc, List.append_assoc]
    refine ⟨b, g, (H.put b (.row e (splice (cs ++ tl) off vs) .loose g (H.ver g + 1))).bump g (H.ver g + 1), rfl, rfl, ?_, ⟨by rw [splice_length hf, hc], hlt, .inr ⟨b, g, rfl, hb0, hg0, by simpa using hbl, by simpa using hgl, rfl, by simp [hs]⟩⟩, ⟨by simp, fun c hc hx => ?_, fun c hc hx => ?_⟩, by simp⟩
    · unfold AH.wr
      rw [if_neg (by simpa using hne), ho]
      simp only [beq_self_eq_true, Bool.true_and, decide_eq_true_eq]
      rw [if_pos (by simp; omega)]
    · simp only [AH.obj_bump, AH.obj_put]
      rw [if_neg (by simpa [obs] using hx)]
    · simp only [AH.ver_bump, AH.ver_put]
      rw [if_neg (by simpa [ogs] using hx)]
theorem OwT.set (h : OwT H n0 e sz v n cs tl o) {t : TypeId} {s b : Nat} {z : Value} (ht : V.E t = some ⟨.slice e, s, b, z⟩) {te : TI} (he : V.E e = some te) (hz : te.size = sz)
    {kd : IntKind} {i : Int} (h0 : 0 ≤ i) (hi : i < n) {vs : List Value} (hne : vs ≠ []) {k : Nat} (hk : k + vs.length ≤ sz) :
    ∃ b off H', aIndex V.E t v (.int kd i) = some (.pointer (some ⟨b, off, none⟩)) ∧ Rd H b off sz ((cs.drop (i.toNat * sz)).take sz) ∧ H.wr b (off + k) vs = some H' ∧ OwT H' n0 e sz v n (splice cs (i.toNat * sz + k) vs) tl o ∧ FrX (obs o) (ogs o) H H' ∧ H'.next = H.next := by
  have hc := h.1
  have hle : (i.toNat + 1) * sz ≤ n * sz := Nat.mul_le_mul_right sz (by omega)
  rw [Nat.add_mul, Nat.one_mul] at hle
  obtain ⟨b, off, h1, h2⟩ := h.sl.at ht he hz (kd := kd) h0 hi
  obtain ⟨b', g, H', e1, e2, e3, e4, e5, e6⟩ := h.wr (off := i.toNat * sz + k) hne (by omega)
  subst e2
  simp only [aIndex, ht, he, hz] at h1
  rw [if_pos ⟨h0, hi⟩] at h1
  simp only [Option.some.injEq, Value.pointer.injEq, Addr.mk.injEq] at h1
  obtain ⟨rfl, rfl, _⟩ := h1
  refine ⟨b', 0 + i.toNat * sz, H', ?_, h2, ?_, e4, e5, e6⟩
  · simp only [aIndex, ht, he, hz]
    rw [if_pos ⟨h0, hi⟩]
  · rw [Nat.zero_add]; exact e3
theorem OwT.cut (h : OwT H n0 e sz v n cs tl o) {k : Nat} (hk : k ≤ n) (hv : n ≠ 0 ∨ o ≠ none ∨ True) : OwT H n0 e sz (match v with | .slice none _ _ => .slice none 0 0 | .slice (some a) _ c => .slice (some a) k c | v => v) k (cs.take (k * sz)) (cs.drop (k * sz) ++ tl) o := by
  obtain ⟨hc, hlt, ⟨rfl, rfl, rfl, rfl⟩ | ⟨b, g, rfl, hb0, hg0, hbl, hgl, rfl, ho⟩⟩ := h
  · have h1 : cs = [] := List.length_eq_zero_iff.1 (by simpa using hc)
    subst h1
    obtain rfl : k = 0 := by omega
    exact ⟨by simp, by omega, .inl ⟨rfl, rfl, rfl, by simp⟩⟩
  · have hle : k * sz ≤ n * sz := Nat.mul_le_mul_right sz hk
    refine ⟨by rw [List.length_take]; omega, by omega, .inr ⟨b, g, rfl, hb0, hg0, hbl, hgl, rfl, ?_⟩⟩
    rw [ho, ← List.append_assoc, List.take_append_drop]
end
section
variable {V : Env} {H : AH} {b n : Nat} {e t : TypeId} {cells : List Value} {te : TI} {s0 b0 : Nat} {z0 : Value}
theorem slice_unk (hr : H.rowOf b e = some cells) (ht : V.E t = some ⟨.slice e, s0, b0, z0⟩) (he : V.E e = some te) (hz : 0 < te.size) {lo hi : Option Value} {l h : Nat} (hh : optBound hi n (reach cells 0 te.size n) = some h) (hl : optBound lo 0 h = some l) :
    aSlice V.E H t (.slice (some ⟨b, 0, none⟩) n unk) lo hi none = some (if l = 0 then .slice (some ⟨b, 0, none⟩) h unk else .slice (some ⟨b, l * te.size, none⟩) (h - l) unk) := by
  simp only [aSlice, ht, he, Option.isSome_none, Bool.false_and, Bool.false_eq_true, if_false, if_true]
  rw [if_neg (by omega), hr]
  simp only [hh, hl, Nat.zero_add]
  split <;> rfl
theorem slice_unk3 (hr : H.rowOf b e = some cells) (ht : V.E t = some ⟨.slice e, s0, b0, z0⟩) (he : V.E e = some te) (hz : 0 < te.size) {k k' k'' : IntKind} {l h : Nat} (hl : l ≤ h) (hh : h ≤ n) (h0 : 0 < n) (hn : n < unk) :
    ∃ v, aSlice V.E H t (.slice (some ⟨b, 0, none⟩) n unk) (some (.int k l)) (some (.int k' h)) (some (.int k'' n)) = some v := by
  simp only [aSlice, ht, he, Option.isSome_some, Option.isNone_some, Bool.and_false, Bool.false_eq_true, if_false, if_true]
  rw [if_neg (by omega), hr]
  have hb : bound (.int k'' (n : Int)) (reach cells 0 te.size n) = some n := by
    simp only [bound]
    rw [if_pos ⟨by omega, by have : n ≤ reach cells 0 te.size n := Nat.le_max_left _ _; omega⟩]; rfl
  simp only [hb]
  rw [if_neg (by omega)]
  have h1 : optBound (some (.int k' (h : Int))) n n = some h := by
    simp only [optBound, bound]; rw [if_pos ⟨by omega, by omega⟩]; rfl
  have h2 : optBound (some (.int k (l : Int))) 0 h = some l := by
    simp only [optBound, bound]; rw [if_pos ⟨by omega, by omega⟩]; rfl
  simp only [h1, h2]
  exact ⟨_, rfl⟩
theorem bound_int {k : IntKind} {i y : Nat} (h : i ≤ y) : optBound (some (.int k (i : Int))) 0 y = some i ∧ ∀ d, optBound (some (.int k (i : Int))) d y = some i := by
  have : ∀ d, optBound (some (.int k (i : Int))) d y = some i := fun d => by
    simp only [optBound, bound]; rw [if_pos ⟨by omega, by omega⟩]; rfl
  exact ⟨this 0, this⟩
end
section
variable {V : Env} {g : Ft} {H H' : AH}
theorem op_slice {t : TypeId} {x : Operand} {lo hi mx : Option Operand} {u w : Value} {l h m : Option Value} (hx : g x = some u) (hl : gopt g lo = some l) (hh : gopt g hi = some h) (hm : gopt g mx = some m) (hs : aSlice V.E H t u l h m = some w) : aopG V g H (.slice t x lo hi mx) = some (w, H) := by
  simp only [aopG, hx, hl, hh, hm, hs, Option.map_some]
theorem op_clear {t : TypeId} {x : Operand} {u : Value} (hx : g x = some u) (h : aClear V.E H t u = some H') : aopG V g H (.call ⟨.builtin .clear, #[x], #[t]⟩) = some (.tuple #[], H') := by
  simp only [aopG, gvals, hx, aBuiltin, h, Option.map_some]
end
section
variable {V : Env} {H H' : AH} {n0 : Nat} {e : TypeId} {sz n : Nat} {v : Value} {cs tl : List Value} {o : Option (Nat × Nat)} {t : TypeId} {s0 b0 : Nat} {z0 : Value} {te : TI}
theorem OwT.row (h : OwT H n0 e sz v n cs tl o) (h0 : 0 < n) : ∃ b g, o = some (b, g) ∧ v = .slice (some ⟨b, 0, none⟩) n unk ∧ H.rowOf b e = some (cs ++ tl) := by
  obtain ⟨_, _, ⟨_, rfl, _⟩ | ⟨b, g, h1, _, _, hb, hg, h2, ho⟩⟩ := h
  · omega
  · refine ⟨b, g, h1, h2, ?_⟩
    unfold AH.rowOf
    rw [AH.lo_lt hb, ho]
    simp [AH.alive]
theorem reach_le {n sz : Nat} {cs tl : List Value} (hc : cs.length = n * sz) (hz : 0 < sz) (m : Nat) : n ≤ reach (cs ++ tl) 0 sz m := by
  unfold reach
  refine Nat.le_trans ?_ (Nat.le_max_right _ _)
  rw [Nat.sub_zero, Nat.le_div_iff_mul_le hz]
  simp [hc]
theorem OwT.clearFrom (h : OwT H n0 e sz v n cs tl o) (ht : V.E t = some ⟨.slice e, s0, b0, z0⟩) (he : V.E e = some te) (hsz : te.size = sz) (hz : 0 < sz) (hzv : te.zv.cells.toList.length = sz) {i m : Nat} (hi : i < m) (hm : m ≤ n) {k : IntKind} {hi' : Option Value} (hhi : optBound hi' n (reach (cs ++ tl) 0 sz n) = some m) :
    ∃ w H', aSlice V.E H t v (some (.int k i)) hi' none = some w ∧ aClear V.E H t w = some H' ∧ OwT H' n0 e sz v n (splice cs (i * sz) (azeros te.zv.cells.toList (m - i))) tl o ∧ FrX (obs o) (ogs o) H H' ∧ H'.next = H.next := by
  subst hsz
  obtain ⟨b, g, rfl, rfl, hr⟩ := h.row (by omega)
  have hs := slice_unk (n := n) hr ht he hz (lo := some (.int k i)) hhi (bound_int (k := k) (Nat.le_of_lt hi)).1
  have hlen : (azeros te.zv.cells.toList (m - i)).length = (m - i) * te.size := by rw [azeros_length, hzv]
  have hle : i * te.size + (m - i) * te.size ≤ n * te.size := by rw [← Nat.add_mul]; exact Nat.mul_le_mul_right _ (by omega)
  have hpos : 0 < (m - i) * te.size := Nat.mul_pos (by omega) hz
  obtain ⟨b', g', H', e1, e2, e3, e4, e5, e6⟩ := h.wr (off := i * te.size) (vs := azeros te.zv.cells.toList (m - i)) (fun e => by rw [e] at hlen; simp at hlen; omega) (by rw [hlen, h.1]; exact hle)
  cases e1
  refine ⟨_, H', hs, ?_, e4, e5, e6⟩
  by_cases h0 : i = 0
  · subst h0
    rw [if_pos rfl]
    simp only [aClear, ht, he]
    rw [if_neg (by omega)]
    simpa using e3
  · rw [if_neg h0]
    simp only [aClear, ht, he]
    rw [if_neg (by omega)]
    exact e3
theorem OwT.upto (h : OwT H n0 e sz v n cs tl o) (ht : V.E t = some ⟨.slice e, s0, b0, z0⟩) (he : V.E e = some te) (hsz : te.size = sz) (hz : 0 < sz) (h0 : 0 < n) {i : Nat} (hi : i ≤ n) {k : IntKind} :
    ∃ b, aSlice V.E H t v none (some (.int k i)) none = some (.slice (some ⟨b, 0, none⟩) i unk) ∧ OwT H n0 e sz (.slice (some ⟨b, 0, none⟩) i unk) i (cs.take (i * sz)) (cs.drop (i * sz) ++ tl) o ∧ v = .slice (some ⟨b, 0, none⟩) n unk := by
  subst hsz
  obtain ⟨b, g, rfl, rfl, hr⟩ := h.row h0
  have hs := slice_unk (n := n) hr ht he hz (lo := none) (hi := some (.int k i)) (l := 0) ((bound_int (k := k) (Nat.le_trans hi (Nat.le_max_left _ _))).2 n) rfl
  have hc := h.cut hi (.inr (.inr trivial))
  exact ⟨b, hs, hc, rfl⟩
theorem OwT.from_ (h : OwT H n0 e sz v n cs tl o) (ht : V.E t = some ⟨.slice e, s0, b0, z0⟩) (he : V.E e = some te) (hsz : te.size = sz) (hz : 0 < sz) (h0 : 0 < n) {j : Nat} (hj : j ≤ n) {k : IntKind} :
    ∃ w, aSlice V.E H t v (some (.int k j)) none none = some w ∧ Sl H w sz (n - j) (cs.drop (j * sz)) := by
  subst hsz
  obtain ⟨b, g, rfl, rfl, hr⟩ := h.row h0
  have hs := slice_unk (n := n) hr ht he hz (lo := some (.int k j)) (hi := none) (h := n) rfl (bound_int (k := k) hj).1
  have hsl := h.sl
  refine ⟨_, hs, by rw [List.length_drop, h.1, ← Nat.sub_mul], by have := h.2.1; omega, .inr ?_⟩
  obtain ⟨_, _, ⟨h3, _⟩ | ⟨b', off, cap, h3, h4⟩⟩ := hsl
  · cases h3
  · cases h3
    have hrd := h4 h0
    by_cases hj0 : j = 0
    · subst hj0
      rw [if_pos rfl]
      exact ⟨b, 0, unk, by simp, fun _ => by simpa using hrd⟩
    · rw [if_neg hj0]
      refine ⟨b, j * te.size, unk, rfl, fun _ => ?_⟩
      have hle : j * te.size + (n - j) * te.size ≤ n * te.size := by rw [← Nat.add_mul]; exact Nat.mul_le_mul_right _ (by omega)
      have := hrd.sub (j * te.size) ((n - j) * te.size) hle
      rw [Nat.zero_add, List.take_of_length_le (by rw [List.length_drop, h.1, Nat.sub_mul]; omega)] at this
      exact this
theorem OwT.app (h : OwT H n0 e sz v n cs tl o) {b : Nat} (hv : v = .slice (some ⟨b, 0, none⟩) n unk) {m bytes : Nat} {new : List Value} (hm : 0 < m) (hz : 0 < sz) (hn : new.length = m * sz) (hb : (n + m) * bytes ≤ 140737488355328) (hl : n + m < 4611686018427387904) (ht : m * sz ≤ tl.length) :
    ∃ H', H.app e sz bytes v m new = some (.slice (some ⟨b, 0, none⟩) (n + m) unk, H') ∧ OwT H' n0 e sz (.slice (some ⟨b, 0, none⟩) (n + m) unk) (n + m) (cs ++ new) (tl.drop (m * sz)) o ∧ FrX (obs o) (ogs o) H H' ∧ H'.next = H.next := by
  have hc := h.1
  obtain ⟨_, hlt, ⟨h3, _⟩ | ⟨b', g, rfl, hb0, hg0, hbl, hgl, h2, ho⟩⟩ := h
  · rw [hv] at h3; cases h3
  · rw [hv] at h2
    cases h2
    subst hv
    have hm' : 0 < m * sz := Nat.mul_pos hm hz
    have hs : splice (cs ++ tl) (n * sz) new = cs ++ new ++ tl.drop (m * sz) := by
      unfold splice
      rw [← hc, List.take_left, List.drop_append, hn, hc, Nat.add_sub_cancel_left, List.drop_eq_nil_iff.2 (by omega), List.nil_append]
    refine ⟨(H.put b (.row e (splice (cs ++ tl) (n * sz) new) .loose g (H.ver g + 1))).bump g (H.ver g + 1), ?_, ⟨by simp [hc, hn, Nat.add_mul], hl, .inr ⟨b, g, rfl, hb0, hg0, by simpa using hbl, by simpa using hgl, rfl, by simp [hs]⟩⟩, ⟨by simp, fun c hcc hx => ?_, fun c hcc hx => ?_⟩, by simp⟩
    · simp only [AH.app, ho]
      rw [if_neg (by omega), if_neg (fun h => h ⟨hb, hl, hz⟩), if_pos trivial, if_pos ⟨trivial, trivial⟩, if_pos (by simp; omega)]
      simp only [Nat.zero_add]
      unfold AH.wr
      rw [if_neg (by simp; intro e; rw [e] at hn; simp at hn; omega), ho]
      simp only [beq_self_eq_true, Bool.true_and, decide_eq_true_eq]
      rw [if_pos (by simp; omega)]
      rfl
    · simp only [AH.obj_bump, AH.obj_put]
      rw [if_neg (by simpa [obs] using hx)]
    · simp only [AH.ver_bump, AH.ver_put]
      rw [if_neg (by simpa [ogs] using hx)]
end
end Go.Ev

/-
  EV, universal use, part q: appending in place, clearing behind the end.
-/
namespace Go.Ev
open Go.RowKit
section
variable {V : Env} {H H' : AH} {n0 : Nat} {e : TypeId} {sz n : Nat} {v : Value} {cs tl : List Value} {o : Option (Nat × Nat)} {t : TypeId} {s0 b0 : Nat} {z0 : Value} {te : TI}
theorem OwT.appSl (h : OwT H n0 e sz v n cs tl o) {b : Nat} (hv : v = .slice (some ⟨b, 0, none⟩) n unk) {m bytes : Nat} {new : List Value} {y : Value} (hs : Sl H y sz m new) (hz : 0 < sz) (hb : (n + m) * bytes ≤ 140737488355328) (hl : n + m < 4611686018427387904) (hfit : m * sz ≤ tl.length)
    (h1 : new.all Value.oneCell' = true) {u : TypeId} {a2 b2 : Nat} {z2 : Value} (ht : V.E t = some ⟨.slice e, s0, b0, z0⟩) (hu : V.E u = some ⟨.slice e, a2, b2, z2⟩) (he : V.E e = some te) (hsz : te.size = sz) (hby : te.bytes = bytes) :
    ∃ H', (∀ {g : Ft} {x w : Operand}, g x = some v → g w = some y → aopG V g H (.call ⟨.builtin .append, #[x, w], #[t, u]⟩) = some (.slice (some ⟨b, 0, none⟩) (n + m) unk, H')) ∧ OwT H' n0 e sz (.slice (some ⟨b, 0, none⟩) (n + m) unk) (n + m) (cs ++ new) (tl.drop (m * sz)) o ∧ FrX (obs o) (ogs o) H H' ∧ H'.next = H.next := by
  subst hsz hby
  have hsrc : H.src te.size y m = some new ∧ srcLen y = some m := by
    obtain ⟨h1, h2, ⟨rfl, rfl⟩ | ⟨b, off, cap, rfl, h4⟩⟩ := hs
    · have : new = [] := List.length_eq_zero_iff.1 (by simpa using h1)
      subst this; exact ⟨rfl, rfl⟩
    · refine ⟨?_, rfl⟩
      unfold AH.src
      by_cases hm : m = 0
      · have : new = [] := List.length_eq_zero_iff.1 (by rw [h1, hm]; simp)
        subst this; simp [hm]
      · simp only [if_neg hm]
        exact (h4 (by omega)).rd
  by_cases hm : m = 0
  · subst hm
    have hnew : new = [] := List.length_eq_zero_iff.1 (by rw [hs.1]; simp)
    subst hnew
    refine ⟨H, fun {g x w} hx hw => ?_, by subst hv; simpa using h, FrX.refl _ _ _, rfl⟩
    simp only [aopG, gvals, hx, hw, aBuiltin, ht, hu, he, hsrc.1, hsrc.2]
    subst hv; simp [AH.app]
  · obtain ⟨H', q1, q2, q3, q4⟩ := h.app hv (bytes := te.bytes) (m := m) (new := new) (by omega) hz hs.1 hb hl hfit
    refine ⟨H', fun {g x w} hx hw => ?_, q2, q3, q4⟩
    simp only [aopG, gvals, hx, hw, aBuiltin, ht, hu, he, hsrc.1, hsrc.2, h1, if_true, q1]
theorem OwT.clearTail (h : OwT H n0 e sz v n cs tl o) {b : Nat} (hv : v = .slice (some ⟨b, 0, none⟩) n unk) (ht : V.E t = some ⟨.slice e, s0, b0, z0⟩) (he : V.E e = some te) (hsz : te.size = sz) (hz : 0 < sz) (hzv : te.zv.cells.toList.length = sz) {m : Nat} (hm : n < m) (hm2 : m < 4611686018427387904) (hfit : (m - n) * sz ≤ tl.length) {k k' : IntKind} :
    ∃ w H' tl', aSlice V.E H t v (some (.int k n)) (some (.int k' m)) none = some w ∧ aClear V.E H t w = some H' ∧ OwT H' n0 e sz v n cs tl' o ∧ FrX (obs o) (ogs o) H H' ∧ H'.next = H.next := by
  subst hsz hv
  have hc := h.1
  have hms : n * te.size + (m - n) * te.size = m * te.size := by rw [← Nat.add_mul]; congr 1; omega
  have hlen : (azeros te.zv.cells.toList (m - n)).length = (m - n) * te.size := by rw [azeros_length, hzv]
  have h2 : OwT H n0 e te.size (.slice (some ⟨b, 0, none⟩) m unk) m (cs ++ tl.take ((m - n) * te.size)) (tl.drop ((m - n) * te.size)) o := by
    obtain ⟨_, hlt, ⟨h3, _⟩ | ⟨b', g, h3, hb0, hg0, hbl, hgl, h4, ho⟩⟩ := h
    · cases h3
    · cases h4
      refine ⟨by rw [List.length_append, List.length_take, hc]; omega, hm2, .inr ⟨b, g, h3, hb0, hg0, hbl, hgl, rfl, ?_⟩⟩
      rw [ho, List.append_assoc, List.take_append_drop]
  obtain ⟨b', g', e1, e0, hr⟩ := h2.row (by omega)
  cases e0
  have hcl : (cs ++ tl.take ((m - n) * te.size)).length = m * te.size := h2.1
  have hs := slice_unk (n := n) hr ht he hz (lo := some (.int k n)) (hi := some (.int k' m)) (l := n) (h := m) ((bound_int (k := k') (y := reach ((cs ++ tl.take ((m - n) * te.size)) ++ tl.drop ((m - n) * te.size)) 0 te.size n) (i := m) (reach_le hcl hz n)).2 n) (bound_int (k := k) (Nat.le_of_lt hm)).1
  obtain ⟨b', g', H', e2, e3, e4, e5, e6, e7⟩ := h2.wr (off := n * te.size) (vs := azeros te.zv.cells.toList (m - n)) (fun e => by
      rw [e] at hlen
      have : 0 < (m - n) * te.size := Nat.mul_pos (by omega) hz
      simp at hlen; omega) (by rw [hlen, hcl]; omega)
  cases e3
  have h3 := e5.cut (k := n) (by omega) (.inr (.inr trivial))
  have e8 : (splice (cs ++ tl.take ((m - n) * te.size)) (n * te.size) (azeros te.zv.cells.toList (m - n))).take (n * te.size) = cs := by
    unfold splice
    rw [List.append_assoc, List.take_append_of_le_length (by rw [List.length_take, List.length_append]; omega), List.take_take, Nat.min_self, ← hc, List.take_left]
  rw [e8] at h3
  refine ⟨_, H', _, hs, ?_, h3, e6, e7⟩
  by_cases h0 : n = 0
  · subst h0
    rw [if_pos rfl]
    simp only [aClear, ht, he]
    rw [if_neg (by omega)]
    simpa using e4
  · rw [if_neg h0]
    simp only [aClear, ht, he]
    rw [if_neg (by omega)]
    exact e4
end
end Go.Ev

/-
  EV, universal use, part r: slices of one's own that may begin as an empty row.
-/
namespace Go.Ev
open Go.RowKit
def OwE (H : AH) (n0 : Nat) (e : TypeId) (sz : Nat) (v : Value) (n : Nat) (cs : List Value) (o : Option (Nat × Nat)) : Prop :=
  Ow H n0 e sz v n cs o ∨ (n = 0 ∧ cs = [] ∧ ∃ b, o = some (b, b) ∧ n0 ≤ b ∧ v = .slice (some ⟨b, 0, none⟩) 0 0 ∧ Bx H b e [])
section
variable {V : Env} {H H' : AH} {n0 : Nat} {e : TypeId} {sz n : Nat} {v : Value} {cs : List Value} {o : Option (Nat × Nat)} {t : TypeId} {s0 b0 : Nat} {z0 : Value} {te : TI}
theorem OwE.ow (h : OwE H n0 e sz v n cs o) (h0 : 0 < n) : Ow H n0 e sz v n cs o := by
  rcases h with h | ⟨h, _⟩
  · exact h
  · omega
theorem OwE.sl (h : OwE H n0 e sz v n cs o) : Sl H v sz n cs := by
  rcases h with h | ⟨rfl, rfl, b, _, _, rfl, hb⟩
  · exact h.sl
  · exact ⟨by simp, by omega, .inr ⟨b, 0, 0, rfl, fun h => absurd h (by omega)⟩⟩
theorem OwE.frX (h : OwE H n0 e sz v n cs o) {bs gs : List Nat} (k : FrX bs gs H H') (hb : ∀ b ∈ obs o, b ∉ bs) (hg : ∀ g ∈ ogs o, g ∉ gs) : OwE H' n0 e sz v n cs o := by
  rcases h with h | ⟨rfl, rfl, b, rfl, h1, rfl, h2⟩
  · exact .inl (h.frX k hb hg)
  · exact .inr ⟨rfl, rfl, b, rfl, h1, rfl, h2.frX k (hb b (by simp [obs]))⟩
theorem OwE.fr (h : OwE H n0 e sz v n cs o) (k : Fr H H') : OwE H' n0 e sz v n cs o := h.frX (k.x [] []) (by simp) (by simp)
theorem OwE.young (h : OwE H n0 e sz v n cs o) : (∀ b ∈ obs o, n0 ≤ b) ∧ (∀ g ∈ ogs o, n0 ≤ g) ∧ (∀ b ∈ obs o, b < H.next) ∧ (∀ g ∈ ogs o, g < H.next) := by
  rcases h with h | ⟨rfl, rfl, b, rfl, h1, rfl, h2⟩
  · exact h.young
  · have := h2.1
    simp [obs, ogs, h1, this]
theorem OwE.new (h0 : n0 ≤ H.next) : OwE (H.alloc (.row e [] .exact 0 0)) n0 e sz (.slice (some ⟨H.next, 0, none⟩) 0 0) 0 [] (some (H.next, H.next)) :=
  .inr ⟨rfl, rfl, H.next, rfl, h0, rfl, .new⟩
theorem OwE.appSl (h : OwE H n0 e sz v n cs o) {m bytes : Nat} {y : Value} {new : List Value} (hs : Sl H y sz m new) (hz : 0 < sz) (hb : (n + m) * bytes ≤ 140737488355328) (hl : n + m < 4611686018427387904) (h0 : n0 ≤ H.next)
    (h1 : new.all Value.oneCell' = true) {u : TypeId} {a2 b2 : Nat} {z2 : Value} (ht : V.E t = some ⟨.slice e, s0, b0, z0⟩) (hu : V.E u = some ⟨.slice e, a2, b2, z2⟩) (he : V.E e = some te) (hsz : te.size = sz) (hby : te.bytes = bytes) :
    ∃ v' H' o', (∀ {g : Ft} {x w : Operand}, g x = some v → g w = some y → aopG V g H (.call ⟨.builtin .append, #[x, w], #[t, u]⟩) = some (v', H')) ∧ OwE H' n0 e sz v' (n + m) (cs ++ new) o' ∧ FrX (obs o) (ogs o) H H' ∧ (∀ b ∈ obs o', b ∈ obs o ∨ H.next ≤ b) ∧ (∀ g ∈ ogs o', g ∈ ogs o ∨ H.next ≤ g) := by
  rcases h with h | ⟨rfl, rfl, b, rfl, hnb, rfl, hbx⟩
  · obtain ⟨v', H', o', k1, k2, k3⟩ := h.appSl hs hz hb hl h0 h1 ht hu he hsz hby
    exact ⟨v', H', o', k1, .inl k2, k3⟩
  subst hsz hby
  have hsrc : H.src te.size y m = some new ∧ srcLen y = some m := by
    obtain ⟨h1, h2, ⟨rfl, rfl⟩ | ⟨b, off, cap, rfl, h4⟩⟩ := hs
    · have : new = [] := List.length_eq_zero_iff.1 (by simpa using h1)
      subst this; exact ⟨rfl, rfl⟩
    · refine ⟨?_, rfl⟩
      unfold AH.src
      by_cases hm : m = 0
      · have : new = [] := List.length_eq_zero_iff.1 (by rw [h1, hm]; simp)
        subst this; simp [hm]
      · simp only [if_neg hm]
        exact (h4 (by omega)).rd
  by_cases hm : m = 0
  · subst hm
    have hnew : new = [] := List.length_eq_zero_iff.1 (by rw [hs.1]; simp)
    subst hnew
    refine ⟨_, H, _, fun {g x w} hx hw => ?_, .inr ⟨rfl, rfl, b, rfl, hnb, rfl, hbx⟩, FrX.refl _ _ _, fun b hb => .inl hb, fun b hb => .inl hb⟩
    simp only [aopG, gvals, hx, hw, aBuiltin, ht, hu, he, hsrc.1, hsrc.2]
    simp [AH.app]
  · have hrd : H.rd b 0 (0 * te.size) = some [] := by rw [Nat.zero_mul]; exact (hbx.rd (n := 0) rfl).rd
    have happ : H.app e te.size te.bytes (.slice (some ⟨b, 0, none⟩) 0 0) m new = some (.slice (some ⟨H.next, 0, none⟩) (0 + m) unk, H.alloc (.row e new .loose H.next (H.ver H.next))) := by
      simp only [AH.app]
      rw [if_neg hm, if_neg (fun h => h ⟨hb, hl, hz⟩), if_neg (by unfold unk; omega), if_neg (by omega), hrd]
      rfl
    refine ⟨.slice (some ⟨H.next, 0, none⟩) (0 + m) unk, H.alloc (.row e new .loose H.next (H.ver H.next)), some (H.next, H.next), fun {g x w} hx hw => ?_, .inl ⟨by rw [List.nil_append, hs.1, Nat.zero_add], hl, .inr ⟨H.next, H.next, rfl, h0, h0, by simp, by simp, rfl, by simp, by omega⟩⟩, (Fr.alloc _ _).x _ _, by simp [obs], by simp [ogs]⟩
    simp only [aopG, gvals, hx, hw, aBuiltin, ht, hu, he, hsrc.1, hsrc.2, h1, if_true, happ]
end
end Go.Ev

/-
  EV, universal use, part s: arguments that are slices of one cell each.
-/
namespace Go.Ev
open Go.RowKit
theorem sl_of {α : Type} {R : Rp α} {c : α → Value} (hR : ∀ H cs x, R H cs x → cs = [c x]) {H : AH} {cs : List Value} {xs : List α} (h : RSlice 1 R H cs xs) : ∃ v, cs = [v] ∧ xs.length ≤ maxLen ∧ (∀ {V : Env} {t e : TypeId} {s b : Nat} {z : Value}, V.E t = some ⟨.slice e, s, b, z⟩ → aLen V.E H t v = some (.int .i64 xs.length)) ∧ (xs.length < 4611686018427387904 → Sl H v 1 xs.length (xs.map c)) := by
  obtain ⟨v, rfl, hl, h | ⟨b, cap, _, rfl, rfl⟩ | ⟨b, off, cap, et, cells, g, k, rfl, h2, h3, h4, h5, h6, h7⟩⟩ := h
  · obtain ⟨rfl, rfl⟩ := h
    exact ⟨_, rfl, hl, fun ht => by simp only [aLen, ht]; rfl, fun _ => .nil⟩
  · exact ⟨_, rfl, hl, fun ht => by simp only [aLen, ht]; rfl, fun _ => ⟨by simp, by simp, .inr ⟨b, 0, cap, rfl, fun h => absurd h (by simp)⟩⟩⟩
  · refine ⟨_, rfl, hl, fun ht => by simp only [aLen, ht], fun hlt => ⟨by simp, hlt, .inr ⟨b, off, cap, rfl, fun _ => ⟨et, cells, .ro, g, k, h4, h5, .inr (.inl rfl), by omega, ?_⟩⟩⟩⟩
    apply List.ext_getElem?
    intro i
    rw [List.getElem?_map]
    by_cases hi : i < xs.length
    · have := hR _ _ _ (h7 i xs[i] (List.getElem?_eq_getElem hi))
      rw [Nat.mul_one] at this
      rw [List.getElem?_eq_getElem hi, Option.map_some, List.getElem?_take, if_pos (by omega), List.getElem?_drop]
      have h8 := congrArg (·[0]?) this
      simp only [List.getElem?_take, List.getElem?_drop] at h8
      simpa using h8.symm
    · rw [List.getElem?_eq_none (by omega), List.getElem?_eq_none (by rw [List.length_take]; omega)]; rfl
theorem all_of {α : Type} {R : Rp α} {P : α → Prop} (hR : ∀ H cs x, R H cs x → P x) {H : AH} {cs : List Value} {xs : List α} {n : Nat} (h : RSlice n R H cs xs) : ∀ x ∈ xs, P x := by
  obtain ⟨v, rfl, hl, ⟨_, rfl⟩ | ⟨b, cap, _, _, rfl⟩ | ⟨b, off, cap, et, cells, g, k, _, _, _, _, _, _, h7⟩⟩ := h
  · intro x hx; cases hx
  · intro x hx; cases hx
  · intro x hx
    obtain ⟨i, hi, rfl⟩ := List.mem_iff_getElem.1 hx
    exact hR _ _ _ (h7 i _ (List.getElem?_eq_getElem hi))
theorem Bx.setE {V : Env} {H : AH} {b : Nat} {e : TypeId} {cs : List Value} (hb : Bx H b e cs) {n sz : Nat} (hc : cs.length = n * sz) {t : TypeId} {s b0 : Nat} {z : Value} (ht : V.E t = some ⟨.slice e, s, b0, z⟩) {te : TI} (he : V.E e = some te) (hz : te.size = sz)
    {kd : IntKind} {i : Int} (h0 : 0 ≤ i) (hi : i < n) {vs : List Value} (hne : vs ≠ []) {k : Nat} (hk : k + vs.length ≤ sz) :
    ∃ H', aIndex V.E t (.slice (some ⟨b, 0, none⟩) n n) (.int kd i) = some (.pointer (some ⟨b, 0 + i.toNat * sz, none⟩)) ∧ H.wr b (0 + i.toNat * sz + k) vs = some H' ∧ Bx H' b e (splice cs (i.toNat * sz + k) vs) ∧ FrX [b] [] H H' ∧ H'.next = H.next := by
  have hle : (i.toNat + 1) * sz ≤ n * sz := Nat.mul_le_mul_right sz (by omega)
  rw [Nat.add_mul, Nat.one_mul] at hle
  obtain ⟨H', h1, h2, h3, h4⟩ := hb.wr (off := i.toNat * sz + k) hne (by omega)
  refine ⟨H', ?_, by rw [Nat.zero_add]; exact h1, h2, h3, h4⟩
  simp only [aIndex, ht, he, hz]
  rw [if_pos ⟨h0, hi⟩]
end Go.Ev

/-
  EV, universal use, part t: a range over a function.
-/
namespace Go.Ev
open Go.RowKit
theorem codeL_ro {V : Env} {call : CallFn} {live : Option Nat} {ro : Option Nat} {n lf : Nat} : ∀ (c : Code), noRF c = true → ∀ T H, codeL V call live ro n lf c T H = codeL V call live none n lf c T H := by
  intro c
  induction c with
  | seq a b iha ihb =>
    intro h T H
    simp only [noRF, Bool.and_eq_true] at h
    simp only [codeL, iha h.1]
    split
    · exact ihb h.2 _ _
    · rfl
  | cond x a b iha ihb =>
    intro h T H
    simp only [noRF, Bool.and_eq_true] at h
    simp only [codeL]
    split
    · exact iha h.1 _ _
    · exact ihb h.2 _ _
    · rfl
  | block id c ih =>
    intro h T H
    simp only [noRF] at h
    simp only [codeL, ih h]
  | loop c ih =>
    intro h T H
    simp only [noRF] at h
    simp only [codeL]
    congr 1
    funext T H
    exact ih h T H
  | rangeFunc f ps x y _ _ => intro h; simp [noRF] at h
  | _ => intro _ _ _; rfl
variable {V : Env} {O : Orc}
def Yd (V : Env) (O : Orc) (b : Nat) (vs : List Value) (H : AH) (v : Value) (H' : AH) : Prop := ∃ N, ∀ lf, N ≤ lf → ∀ d, N ≤ d → fO V O lf d (.yld b) vs H = some (v, H')
theorem WL.yield {f : Operand} {args : Array Operand} {ts : Array TypeId} {b : Nat} {first cap : Array Value} {vs : List Value} {is : List LI} {E : List Value} {l : SL} {H H1 : AH} {K : List Value → AH → Prop} {v : Value}
    (hf : gS V.nG E l f = some (.func (.yield b) first cap)) (ha : gvals (gS V.nG E l) args.toList = some vs) (hc : Yd V O b vs H v H1) (h : WL V O is (v :: E) l H1 K) :
    WL V O (.run (.call ⟨.value f, args, ts⟩) none :: is) E l H K := fun T hT => by
  obtain ⟨N, E', H', h1, h2⟩ := h T hT
  obtain ⟨M, hc⟩ := hc
  have e1 := gS_le hT V.nG E f _ hf
  have e2 := gvals_mono (gS_le hT V.nG E) ha
  refine ⟨N + M, E', H', fun lf hlf d hd => ?_, h2⟩
  simp only [runLI, wantL, evOpG, e1, e2, hc lf (by omega) d (by omega)]
  exact h1 lf (by omega) d (by omega)
theorem W.rfunc {live : Option Nat} {n : Nat} {f : Operand} {ps : Array Tmp} {cx cy : Code} {l : SL} {H : AH} {Q : Ex → SL → AH → Prop} {g : FuncId} {first cap : Array Value} (hf : lookO V.nG l f = some (.func (.func g) first cap)) (hg : (V.F g).isSome = true)
    (h : ∀ T, Has T l → ∃ v H2 st pend n2 T2 ps2 x2 y2 e, Lc V O g (first.toList ++ [.func (.yield H.next) #[] #[]] ++ cap.toList) (H.alloc (.loop .ready none n T ps cx cy)) v H2 ∧ H2.obj H.next = .loop st pend n2 T2 ps2 x2 y2 ∧ st ≠ .busy ∧ ofJump pend = some e ∧ Q e l (H2.put H.next .dead)) :
    W V O live n (.rangeFunc f ps cx cy) l H Q := fun T hT hd => by
  obtain ⟨v, H2, st, pend, n2, T2, ps2, x2, y2, e, ⟨N, hc⟩, ho, hst, hj, hq⟩ := h T hT
  have hv := hT.oval hf
  obtain ⟨fn, hfn⟩ := Option.isSome_iff_exists.1 hg
  refine ⟨N, e, T, H2.put H.next .dead, fun lf hlf d hdd => ?_, hd, l, hT, hq⟩
  simp only [codeL, evC, roAlive, hv, hfn, hc lf hlf d hdd, loopEnd, ho, if_neg hst, hj, Option.map_some]
theorem WP.rfunc {live : Option Nat} {n : Nat} {f : Operand} {ps : Array Tmp} {x y : PC} {l : SL} {H : AH} {Q : Ex → SL → AH → Prop} {g : FuncId} {first cap : Array Value} (hf : lookO V.nG l f = some (.func (.func g) first cap)) (hg : (V.F g).isSome = true)
    (h : ∀ T cx cy, Has T l → pcOf V n none cx = some x → pcOf V n none cy = some y → noRF cx = true → noRF cy = true →
      ∃ v H2 st pend n2 T2 ps2 x2 y2 e, Lc V O g (first.toList ++ [.func (.yield H.next) #[] #[]] ++ cap.toList) (H.alloc (.loop .ready none n T ps cx cy)) v H2 ∧ H2.obj H.next = .loop st pend n2 T2 ps2 x2 y2 ∧ st ≠ .busy ∧ ofJump pend = some e ∧ Q e l (H2.put H.next .dead)) :
    WP V O live n (.rfunc f ps x y) l H Q := fun c hc => by
  obtain ⟨cx, cy, rfl, h1, h2, h3, h4⟩ := pcOf_cases hc
  exact .rfunc hf hg fun T hT => h T cx cy hT h1 h2 h3 h4
def psL (n : Nat) : List Tmp → List Value → SL → Option SL
  | [], [], l => some l
  | t :: ts, v :: vs, l => if t < n then psL n ts vs ((t, v) :: l) else none
  | _, _, _ => none
theorem psL_ok {n : Nat} : ∀ {ps : List Tmp} {vs : List Value} {l l' : SL} {T : PTree Value}, psL n ps vs l = some l' → Has T l → ∃ T', setPs n ps vs T = some T' ∧ Has T' l'
  | [], [], l, l', T, h, hT => by simp [psL] at h; subst h; exact ⟨T, rfl, hT⟩
  | [], _ :: _, l, l', T, h, _ => by simp [psL] at h
  | _ :: _, [], l, l', T, h, _ => by simp [psL] at h
  | t :: ts, v :: vs, l, l', T, h, hT => by
    simp only [psL] at h
    split at h
    · rename_i ht
      simp only [setPs, if_pos ht]
      refine psL_ok h fun u w hu => ?_
      simp only [look] at hu
      split at hu
      · rename_i e; subst e; cases hu; exact PTree.get_set_same _ _ _
      · rename_i e; rw [PTree.get_set_ne _ _ (Ne.symm e)]; exact hT u w hu
    · cases h
def LoopAt (H : AH) (b : Nat) (st : LoopState) (pend : Option Code) (n : Nat) (T : PTree Value) (ps : Array Tmp) (cx cy : Code) : Prop := H.obj b = .loop st pend n T ps cx cy
theorem Yd.round {b n : Nat} {st : LoopState} {pe : Option Code} {T : PTree Value} {ps : Array Tmp} {cx cy : Code} {x y : PC} {l l1 : SL} {vs : List Value} {H : AH} {K : Value → AH → Prop} (ho : H.obj b = .loop st pe n T ps cx cy) (hT : Has T l) (hps : psL n ps.toList vs l = some l1)
    (hx : pcOf V n none cx = some x) (hy : pcOf V n none cy = some y) (nx : noRF cx = true) (ny : noRF cy = true)
    (h : WP V O none n x l1 H fun e l2 H2 => e = .normal ∧ ∃ pe2 n2 T2 ps2 x2 y2, H2.obj b = .loop .ready pe2 n2 T2 ps2 x2 y2 ∧ WP V O none n y l2 (H2.put b (.loop .busy pe2 n2 T2 ps2 x2 y2)) fun e l4 H4 => ∃ st4 pe4 n4 T4 ps4 x4 y4, H4.obj b = .loop st4 pe4 n4 T4 ps4 x4 y4 ∧ K (.bool e.jump.isNone) (H4.put b (.loop (if e.jump.isNone then .ready else .done) e.jump n4 T4 ps4 x4 y4))) :
    ∃ v H', Yd V O b vs H v H' ∧ K v H' := by
  obtain ⟨T1, k1, hT1⟩ := psL_ok hps hT
  obtain ⟨N, e, T2, H2, r1, d2, l2, hT2, rfl, pe2, n2, T2', ps2, x2, y2, ho2, hW⟩ := h cx hx T1 hT1 (dom_none T1)
  obtain ⟨M, e4, T4, H4, r2, d4, l4, hT4, st4, pe4, n4, T4', ps4, x4, y4, ho4, hK⟩ := hW cy hy T2 hT2 d2
  refine ⟨_, _, ⟨N + M + 1, fun lf hlf d hd => ?_⟩, hK⟩
  obtain ⟨d, rfl⟩ : ∃ d', d = d' + 1 := ⟨d - 1, by omega⟩
  simp only [fO, roundL, ho, k1]
  rw [codeL_ro cx nx, r1 lf (by omega) d (by omega)]
  simp only [ho2]
  rw [codeL_ro cy ny, r2 lf (by omega) d (by omega)]
  simp only [ho4]
end Go.Ev

/-
  EV, universal use, part v: slices that are read, of whatever length; elements that read as something of Lean's; graphs.
-/
namespace Go.Ev
open Go.RowKit
structure Av where
  bs : List Nat
  gs : List Nat
def Av.no : Av := ⟨[], []⟩
def Av.of (o : Option (Nat × Nat)) : Av := ⟨obs o, ogs o⟩
def Av.box (b : Nat) : Av := ⟨[b], []⟩
def Av.and (a b : Av) : Av := ⟨a.bs ++ b.bs, a.gs ++ b.gs⟩
def Av.Lt (A : Av) (n : Nat) : Prop := (∀ b ∈ A.bs, b < n) ∧ ∀ g ∈ A.gs, g < n
def Av.Gr (A B : Av) (n : Nat) : Prop := (∀ b ∈ B.bs, b ∈ A.bs ∨ n ≤ b) ∧ ∀ g ∈ B.gs, g ∈ A.gs ∨ n ≤ g
theorem Av.Gr.refl {A : Av} {n : Nat} : A.Gr A n := ⟨fun _ h => .inl h, fun _ h => .inl h⟩
theorem Av.Gr.no {A : Av} {n : Nat} : A.Gr .no n := ⟨fun _ h => (by cases h), fun _ h => (by cases h)⟩
theorem Av.Gr.left {A B : Av} {n : Nat} : (A.and B).Gr A n := ⟨fun _ h => .inl (List.mem_append_left _ h), fun _ h => .inl (List.mem_append_left _ h)⟩
theorem Av.Gr.right {A B : Av} {n : Nat} : (A.and B).Gr B n := ⟨fun _ h => .inl (List.mem_append_right _ h), fun _ h => .inl (List.mem_append_right _ h)⟩
theorem Av.Gr.trans {A B C : Av} {n m : Nat} (h : A.Gr B n) (k : B.Gr C m) (hm : n ≤ m) : A.Gr C n := ⟨fun b hb => (k.1 b hb).elim (fun h' => h.1 b h') (fun h' => .inr (Nat.le_trans hm h')), fun b hb => (k.2 b hb).elim (fun h' => h.2 b h') (fun h' => .inr (Nat.le_trans hm h'))⟩
theorem Av.Gr.and {A B C D : Av} {n : Nat} (h : A.Gr B n) (k : C.Gr D n) : (A.and C).Gr (B.and D) n :=
  ⟨fun b hb => (List.mem_append.1 hb).elim (fun hb => (h.1 b hb).imp (List.mem_append_left _) id) (fun hb => (k.1 b hb).imp (List.mem_append_right _) id), fun b hb => (List.mem_append.1 hb).elim (fun hb => (h.2 b hb).imp (List.mem_append_left _) id) (fun hb => (k.2 b hb).imp (List.mem_append_right _) id)⟩
theorem Av.Lt.and {A B : Av} {n : Nat} (h : A.Lt n) (k : B.Lt n) : (A.and B).Lt n := ⟨fun b hb => (List.mem_append.1 hb).elim (h.1 b) (k.1 b), fun b hb => (List.mem_append.1 hb).elim (h.2 b) (k.2 b)⟩
theorem Av.Lt.mono {A : Av} {n m : Nat} (h : A.Lt n) (k : n ≤ m) : A.Lt m := ⟨fun b hb => Nat.lt_of_lt_of_le (h.1 b hb) k, fun b hb => Nat.lt_of_lt_of_le (h.2 b hb) k⟩
theorem Av.Lt.no {n : Nat} : Av.no.Lt n := ⟨fun _ h => (by cases h), fun _ h => (by cases h)⟩
theorem Av.Lt.box {b n : Nat} (h : b < n) : (Av.box b).Lt n := ⟨fun c hc => by simp [Av.box] at hc; omega, fun c hc => by simp [Av.box] at hc⟩
def RdA (A : Av) (H : AH) (b off n : Nat) (cs : List Value) : Prop :=
  b ∉ A.bs ∧ ∃ et cells st g v, b < H.next ∧ H.obj b = .row et cells st g v ∧ (st = .exact ∨ st = .ro ∨ (g < H.next ∧ g ∉ A.gs ∧ H.ver g = v)) ∧ off + n ≤ cells.length ∧ cs = (cells.drop off).take n
section
variable {A B : Av} {H H' : AH} {b off n : Nat} {cs : List Value}
theorem RdA.rd (h : RdA A H b off n cs) : Rd H b off n cs := by
  obtain ⟨_, et, cells, st, g, v, h1, h2, h3, h4, h5⟩ := h
  exact ⟨et, cells, st, g, v, h1, h2, h3.imp id fun h => h.imp id fun h => ⟨h.1, h.2.2⟩, h4, h5⟩
theorem Rd.a (h : Rd H b off n cs) : RdA .no H b off n cs := by
  obtain ⟨et, cells, st, g, v, h1, h2, h3, h4, h5⟩ := h
  exact ⟨by simp [Av.no], et, cells, st, g, v, h1, h2, h3.imp id fun h => h.imp id fun h => ⟨h.1, by simp [Av.no], h.2⟩, h4, h5⟩
theorem RdA.frX (h : RdA A H b off n cs) (k : FrX A.bs A.gs H H') : RdA A H' b off n cs := by
  obtain ⟨h0, et, cells, st, g, v, h1, h2, h3, h4, h5⟩ := h
  refine ⟨h0, et, cells, st, g, v, Nat.lt_of_lt_of_le h1 k.1, (k.2.1 b h1 h0).trans h2, ?_, h4, h5⟩
  rcases h3 with h3 | h3 | ⟨h3, h6, h7⟩
  · exact .inl h3
  · exact .inr (.inl h3)
  · exact .inr (.inr ⟨Nat.lt_of_lt_of_le h3 k.1, h6, (k.2.2 g h3 h6).trans h7⟩)
theorem RdA.gr (h : RdA A H b off n cs) (k : A.Gr B H.next) : RdA B H b off n cs := by
  obtain ⟨h0, et, cells, st, g, v, h1, h2, h3, h4, h5⟩ := h
  refine ⟨fun hb => (k.1 b hb).elim h0 fun h => by omega, et, cells, st, g, v, h1, h2, ?_, h4, h5⟩
  rcases h3 with h3 | h3 | ⟨h3, h6, h7⟩
  · exact .inl h3
  · exact .inr (.inl h3)
  · exact .inr (.inr ⟨h3, fun hg => (k.2 g hg).elim h6 fun h => by omega, h7⟩)
end
theorem Rd.aLt {H H0 : AH} {A : Av} (hA : A.Lt H0.next) {b off n : Nat} {cs : List Value} {et : TypeId} {cells : List Value} {st : RowSt} {g v : Nat} (hb : H0.next ≤ b) (hb2 : b < H.next) (ho : H.obj b = .row et cells st g v) (hs : st = .exact ∨ st = .ro ∨ (H0.next ≤ g ∧ g < H.next ∧ H.ver g = v)) (hl : off + n ≤ cells.length) (hc : cs = (cells.drop off).take n) : RdA A H b off n cs :=
  ⟨fun h => by have := hA.1 b h; omega, et, cells, st, g, v, hb2, ho, hs.imp id fun h => h.imp id fun h => ⟨h.2.1, fun hg => by have := hA.2 g hg; omega, h.2.2⟩, hl, hc⟩
def Sr (A : Av) (H : AH) (v : Value) (sz n : Nat) (cs : List Value) : Prop :=
  cs.length = n * sz ∧ ((v = .slice none 0 0 ∧ n = 0) ∨ ∃ b off cap, v = .slice (some ⟨b, off, none⟩) n cap ∧ (0 < n → RdA A H b off (n * sz) cs))
section
variable {A B : Av} {H H' : AH} {v : Value} {sz n : Nat} {cs : List Value}
theorem Sr.sl (h : Sr A H v sz n cs) (hn : n < 4611686018427387904) : Sl H v sz n cs := ⟨h.1, hn, h.2.imp id fun ⟨b, off, cap, h1, h2⟩ => ⟨b, off, cap, h1, fun h => (h2 h).rd⟩⟩
theorem Sl.sr (h : Sl H v sz n cs) : Sr .no H v sz n cs := ⟨h.1, h.2.2.imp id fun ⟨b, off, cap, h1, h2⟩ => ⟨b, off, cap, h1, fun h => (h2 h).a⟩⟩
theorem Sr.nil : Sr A H (.slice none 0 0) sz 0 [] := ⟨by simp, .inl ⟨rfl, rfl⟩⟩
theorem Sr.empty {b off cap : Nat} : Sr A H (.slice (some ⟨b, off, none⟩) 0 cap) sz 0 [] := ⟨by simp, .inr ⟨b, off, cap, rfl, fun h => absurd h (by simp)⟩⟩
theorem Sr.frX (h : Sr A H v sz n cs) (k : FrX A.bs A.gs H H') : Sr A H' v sz n cs := ⟨h.1, h.2.imp id fun ⟨b, off, cap, h1, h2⟩ => ⟨b, off, cap, h1, fun h => (h2 h).frX k⟩⟩
theorem Sr.gr (h : Sr A H v sz n cs) (k : A.Gr B H.next) : Sr B H v sz n cs := ⟨h.1, h.2.imp id fun ⟨b, off, cap, h1, h2⟩ => ⟨b, off, cap, h1, fun h => (h2 h).gr k⟩⟩
theorem Sr.len (h : Sr A H v sz n cs) {V : Env} {H2 : AH} {t e : TypeId} {s b : Nat} {z : Value} (ht : V.E t = some ⟨.slice e, s, b, z⟩) : aLen V.E H2 t v = some (.int .i64 n) := by
  unfold aLen
  rw [ht]
  rcases h.2 with ⟨rfl, rfl⟩ | ⟨b, off, cap, rfl, _⟩ <;> rfl
theorem Sr.at (h : Sr A H v sz n cs) {V : Env} {t e : TypeId} {s b : Nat} {z : Value} (ht : V.E t = some ⟨.slice e, s, b, z⟩) {te : TI} (he : V.E e = some te) (hz : te.size = sz) {kd : IntKind} {i : Int} (h0 : 0 ≤ i) (hi : i < n) :
    ∃ b off, aIndex V.E t v (.int kd i) = some (.pointer (some ⟨b, off, none⟩)) ∧ Rd H b off sz ((cs.drop (i.toNat * sz)).take sz) := by
  obtain ⟨h1, ⟨rfl, rfl⟩ | ⟨b, off, cap, rfl, h4⟩⟩ := h
  · omega
  · refine ⟨b, off + i.toNat * sz, ?_, (h4 (by omega)).rd.sub _ _ ?_⟩
    · simp only [aIndex, ht, he, hz]
      rw [if_pos ⟨h0, hi⟩]
    · have : (i.toNat + 1) * sz ≤ n * sz := Nat.mul_le_mul_right sz (by omega)
      rwa [Nat.add_mul, Nat.one_mul] at this
end
def ints (l : List Int) : List Value := l.map fun x => .int .i64 x
theorem ints_len (l : List Int) : (ints l).length = l.length := List.length_map _
theorem ints_app (l m : List Int) : ints (l ++ m) = ints l ++ ints m := List.map_append
theorem ints_one (l : List Int) : (ints l).all Value.oneCell' = true := by
  rw [List.all_eq_true]; intro x hx
  obtain ⟨m, _, rfl⟩ := List.mem_map.1 hx; rfl
theorem ints_at {l : List Int} {i : Nat} (h : i < l.length) : ((ints l).drop (i * 1)).take 1 = [.int .i64 l[i]] := by
  unfold ints
  rw [Nat.mul_one, ← List.map_drop, List.drop_eq_getElem_cons h]; rfl
abbrev IntsR (A : Av) (H : AH) (v : Value) (l : List Int) : Prop := Sr A H v 1 l.length (ints l)
theorem IntsR.at {A : Av} {H : AH} {v : Value} {l : List Int} (h : IntsR A H v l) {V : Env} {t e : TypeId} {s b sb : Nat} {z : Value} (ht : V.E t = some ⟨.slice e, s, b, z⟩) (he : V.E e = some ⟨.int .i64, 1, sb, .int .i64 0⟩) {kd : IntKind} {i : Nat} (hi : i < l.length) :
    ∃ b off, aIndex V.E t v (.int kd i) = some (.pointer (some ⟨b, off, none⟩)) ∧ aLoad V.E H e (.pointer (some ⟨b, off, none⟩)) = some (.int .i64 l[i]) := by
  obtain ⟨b, off, h1, h2⟩ := Sr.at h ht he rfl (kd := kd) (i := (i : Int)) (by omega) (by omega)
  rw [show (i : Int).toNat = i from rfl, ints_at hi] at h2
  exact ⟨b, off, h1, h2.load1 he rfl⟩
abbrev Rq (α : Type) := Av → AH → List Value → α → Prop
structure MonoF {α : Type} (R : Rq α) : Prop where
  frX : ∀ {A H H' cs a}, FrX A.bs A.gs H H' → R A H cs a → R A H' cs a
  gr : ∀ {A B : Av} {H cs a}, A.Gr B H.next → R A H cs a → R B H cs a
def Els {α : Type} (sz : Nat) (R : Rq α) (A : Av) (H : AH) (v : Value) (xs : List α) : Prop := ∃ cs, Sr A H v sz xs.length cs ∧ ∀ i (h : i < xs.length), R A H ((cs.drop (i * sz)).take sz) xs[i]
section
variable {α : Type} {sz : Nat} {R : Rq α} {A B : Av} {H H' : AH} {v : Value} {xs : List α}
theorem Els.nil : Els sz R A H (.slice none 0 0) [] := ⟨[], .nil, fun i h => absurd h (by simp)⟩
theorem Els.frX (hm : MonoF R) (h : Els sz R A H v xs) (k : FrX A.bs A.gs H H') : Els sz R A H' v xs :=
  let ⟨cs, h1, h2⟩ := h
  ⟨cs, h1.frX k, fun i hi => hm.frX k (h2 i hi)⟩
theorem Els.gr (hm : MonoF R) (h : Els sz R A H v xs) (k : A.Gr B H.next) : Els sz R B H v xs :=
  let ⟨cs, h1, h2⟩ := h
  ⟨cs, h1.gr k, fun i hi => hm.gr k (h2 i hi)⟩
theorem Els.len (h : Els sz R A H v xs) {V : Env} {H2 : AH} {t e : TypeId} {s b : Nat} {z : Value} (ht : V.E t = some ⟨.slice e, s, b, z⟩) : aLen V.E H2 t v = some (.int .i64 xs.length) := let ⟨_, h1, _⟩ := h; h1.len ht
theorem Els.at (h : Els sz R A H v xs) {V : Env} {t e : TypeId} {s b : Nat} {z : Value} (ht : V.E t = some ⟨.slice e, s, b, z⟩) {te : TI} (he : V.E e = some te) (hz : te.size = sz) {kd : IntKind} {i : Nat} (hi : i < xs.length) :
    ∃ b off cs, aIndex V.E t v (.int kd i) = some (.pointer (some ⟨b, off, none⟩)) ∧ Rd H b off sz cs ∧ R A H cs xs[i] := by
  obtain ⟨cs, h1, h2⟩ := h
  obtain ⟨b, off, k1, k2⟩ := h1.at ht he hz (kd := kd) (i := (i : Int)) (by omega) (by omega)
  exact ⟨b, off, _, k1, k2, h2 i hi⟩
theorem els_of {β : Type} {R0 : Rp β} {f : β → α} (hR : ∀ H cs x, R0 H cs x → R .no H cs (f x)) {cs : List Value} {ys : List β} (h : RSlice sz R0 H cs ys) : ∃ v, cs = [v] ∧ Els sz R .no H v (ys.map f) := by
  obtain ⟨v, rfl, hl, h | ⟨b, cap, _, rfl, rfl⟩ | ⟨b, off, cap, et, cells, g, k, rfl, h2, h3, h4, h5, h6, h7⟩⟩ := h
  · obtain ⟨rfl, rfl⟩ := h
    exact ⟨_, rfl, .nil⟩
  · exact ⟨_, rfl, [], .empty, fun i h => absurd h (by simp)⟩
  · refine ⟨_, rfl, (cells.drop off).take (ys.length * sz), ⟨by rw [List.length_take, List.length_drop, List.length_map]; omega, .inr ⟨b, off, cap, by rw [List.length_map], fun _ => ⟨by simp [Av.no], et, cells, .ro, g, k, h4, h5, .inr (.inl rfl), by rw [List.length_map]; exact h6, by rw [List.length_map]⟩⟩⟩, fun i hi => ?_⟩
    rw [List.length_map] at hi
    have hle : (i + 1) * sz ≤ ys.length * sz := Nat.mul_le_mul_right sz hi
    rw [Nat.add_mul, Nat.one_mul] at hle
    rw [List.getElem_map, List.drop_take, List.take_take, Nat.min_eq_left (by omega), List.drop_drop]
    exact hR _ _ _ (h7 i ys[i] (List.getElem?_eq_getElem hi))
end
theorem intsR_of {H : AH} {cs : List Value} {l : List Int} (h : RSlice 1 (RInt .i64) H cs l) : ∃ v, cs = [v] ∧ IntsR .no H v l := by
  obtain ⟨v, rfl, hl, h | ⟨b, cap, _, rfl, rfl⟩ | ⟨b, off, cap, et, cells, g, k, rfl, h2, h3, h4, h5, h6, h7⟩⟩ := h
  · obtain ⟨rfl, rfl⟩ := h
    exact ⟨_, rfl, .nil⟩
  · exact ⟨_, rfl, .empty⟩
  · refine ⟨_, rfl, ⟨by rw [ints_len, Nat.mul_one], .inr ⟨b, off, cap, rfl, fun _ => ⟨by simp [Av.no], et, cells, .ro, g, k, h4, h5, .inr (.inl rfl), h6, ?_⟩⟩⟩⟩
    apply List.ext_getElem?
    intro i
    unfold ints
    rw [List.getElem?_map]
    by_cases hi : i < l.length
    · have := (h7 i l[i] (List.getElem?_eq_getElem hi)).1
      rw [Nat.mul_one] at this
      rw [List.getElem?_eq_getElem hi, Option.map_some, List.getElem?_take, if_pos (by omega), List.getElem?_drop]
      have h8 := congrArg (·[0]?) this
      simp only [List.getElem?_take, List.getElem?_drop] at h8
      simpa using h8.symm
    · rw [List.getElem?_eq_none (by omega), List.getElem?_eq_none (by rw [List.length_take]; omega)]; rfl
structure Ins where
  op : Int
  r : Int
  a : Int
  b : Int
  n : Int
  args : List Int
  deriving DecidableEq
structure Phi where
  r : Int
  args : List Int
  deriving DecidableEq
structure Block where
  phis : List Phi
  code : List Ins
  frm : List Int
  to : List Int
  deriving DecidableEq
structure Graph where
  name : ByteArray
  thread : Bool
  params : Int
  regs : Int
  blocks : List Block
def Ins.cells (i : Ins) (va : Value) : List Value := [.int .u8 i.op, .int .i64 i.r, .int .i64 i.a, .int .i64 i.b, .int .i64 i.n, va]
def InsR : Rq Ins := fun A H cs i => ∃ va, cs = i.cells va ∧ IntsR A H va i.args
def PhiR : Rq Phi := fun A H cs p => ∃ va, cs = [.int .i64 p.r, va] ∧ IntsR A H va p.args
def BlockR : Rq Block := fun A H cs b => ∃ vp vc vf vt, cs = [vp, vc, vf, vt] ∧ Els 2 PhiR A H vp b.phis ∧ Els 6 InsR A H vc b.code ∧ IntsR A H vf b.frm ∧ IntsR A H vt b.to
def GraphR : Rq Graph := fun A H cs g => ∃ vb, cs = [.string g.name, .bool g.thread, .int .i64 g.params, .int .i64 g.regs, vb] ∧ Els 4 BlockR A H vb g.blocks
theorem InsR.m : MonoF InsR := ⟨fun k ⟨va, h1, h2⟩ => ⟨va, h1, h2.frX k⟩, fun k ⟨va, h1, h2⟩ => ⟨va, h1, h2.gr k⟩⟩
theorem PhiR.m : MonoF PhiR := ⟨fun k ⟨va, h1, h2⟩ => ⟨va, h1, h2.frX k⟩, fun k ⟨va, h1, h2⟩ => ⟨va, h1, h2.gr k⟩⟩
theorem BlockR.m : MonoF BlockR := ⟨fun k ⟨vp, vc, vf, vt, h1, h2, h3, h4, h5⟩ => ⟨vp, vc, vf, vt, h1, h2.frX PhiR.m k, h3.frX InsR.m k, h4.frX k, h5.frX k⟩, fun k ⟨vp, vc, vf, vt, h1, h2, h3, h4, h5⟩ => ⟨vp, vc, vf, vt, h1, h2.gr PhiR.m k, h3.gr InsR.m k, h4.gr k, h5.gr k⟩⟩
theorem GraphR.m : MonoF GraphR := ⟨fun k ⟨vb, h1, h2⟩ => ⟨vb, h1, h2.frX BlockR.m k⟩, fun k ⟨vb, h1, h2⟩ => ⟨vb, h1, h2.gr BlockR.m k⟩⟩
theorem MonoF.fr {α : Type} {R : Rq α} (hm : MonoF R) {A : Av} {H H' : AH} {cs : List Value} {a : α} (h : R A H cs a) (k : Fr H H') : R A H' cs a := hm.frX (k.x _ _) h
theorem Sr.fr {A : Av} {H H' : AH} {v : Value} {sz n : Nat} {cs : List Value} (h : Sr A H v sz n cs) (k : Fr H H') : Sr A H' v sz n cs := h.frX (k.x _ _)
theorem Els.fr {α : Type} {sz : Nat} {R : Rq α} {A : Av} {H H' : AH} {v : Value} {xs : List α} (h : Els sz R A H v xs) (hm : MonoF R) (k : Fr H H') : Els sz R A H' v xs := h.frX hm (k.x _ _)
def OwR {α : Type} (e : TypeId) (sz : Nat) (R : Rq α) (B : Av) (H : AH) (n0 : Nat) (v : Value) (xs : List α) (o : Option (Nat × Nat)) : Prop :=
  ∃ cs, Ow H n0 e sz v xs.length cs o ∧ ∀ i (h : i < xs.length), R (B.and (.of o)) H ((cs.drop (i * sz)).take sz) xs[i]
section
variable {α : Type} {e : TypeId} {sz : Nat} {R : Rq α} {A B : Av} {H H' : AH} {n0 : Nat} {v : Value} {xs : List α} {o : Option (Nat × Nat)}
theorem OwR.nil : OwR e sz R B H n0 (.slice none 0 0) ([] : List α) none := ⟨[], .nil, fun i h => absurd h (by simp)⟩
theorem OwR.young (h : OwR e sz R B H n0 v xs o) : (∀ b ∈ obs o, n0 ≤ b) ∧ (∀ g ∈ ogs o, n0 ≤ g) ∧ (∀ b ∈ obs o, b < H.next) ∧ (∀ g ∈ ogs o, g < H.next) := let ⟨_, h, _⟩ := h; h.young
theorem OwR.lt (h : OwR e sz R B H n0 v xs o) : (Av.of o).Lt H.next := ⟨h.young.2.2.1, h.young.2.2.2⟩
theorem OwR.els (hm : MonoF R) (h : OwR e sz R B H n0 v xs o) (hb : ∀ b ∈ obs o, b ∉ B.bs) (hg : ∀ g ∈ ogs o, g ∉ B.gs) : Els sz R B H v xs := by
  obtain ⟨cs, h1, h2⟩ := h
  refine ⟨cs, ?_, fun i hi => hm.gr .left (h2 i hi)⟩
  obtain ⟨k1, k2, ⟨k3, k4, _⟩ | ⟨b, g, rfl, k4, k5, k6, k7, k8, k9, _⟩⟩ := h1
  · exact ⟨k1, .inl ⟨k3, k4⟩⟩
  · exact ⟨k1, .inr ⟨b, 0, unk, k8, fun _ => ⟨hb b (by simp [obs]), e, cs, .loose, g, _, k6, k9, .inr (.inr ⟨k7, hg g (by simp [ogs]), rfl⟩), by omega, by rw [← k1]; simp⟩⟩⟩
theorem OwR.frX (hm : MonoF R) (h : OwR e sz R B H n0 v xs o) (k : FrX B.bs B.gs H H') (hb : ∀ b ∈ obs o, b ∉ B.bs) (hg : ∀ g ∈ ogs o, g ∉ B.gs) : OwR e sz R B H' n0 v xs o :=
  let ⟨cs, h1, h2⟩ := h
  ⟨cs, h1.frX k hb hg, fun i hi => hm.frX (k.sub (fun b hb => List.mem_append_left _ hb) (fun b hb => List.mem_append_left _ hb)) (h2 i hi)⟩
theorem OwR.fr (hm : MonoF R) (h : OwR e sz R B H n0 v xs o) (k : Fr H H') : OwR e sz R B H' n0 v xs o :=
  let ⟨cs, h1, h2⟩ := h
  ⟨cs, h1.fr k, fun i hi => hm.fr (h2 i hi) k⟩
theorem OwR.gr (hm : MonoF R) (h : OwR e sz R A H n0 v xs o) (k : A.Gr B H.next) : OwR e sz R B H n0 v xs o :=
  let ⟨cs, h1, h2⟩ := h
  ⟨cs, h1, fun i hi => hm.gr (k.and .refl) (h2 i hi)⟩
theorem all_chunks {p : Value → Bool} {cs : List Value} {n sz : Nat} (hl : cs.length = n * sz) (hz : 0 < sz) (h : ∀ i, i < n → ((cs.drop (i * sz)).take sz).all p = true) : cs.all p = true := by
  rw [List.all_eq_true]
  intro x hx
  obtain ⟨k, hk, rfl⟩ := List.mem_iff_getElem.1 hx
  have hi : k / sz < n := Nat.div_lt_of_lt_mul (by rw [Nat.mul_comm, ← hl]; exact hk)
  have := List.all_eq_true.1 (h (k / sz) hi) cs[k]
  refine this (List.mem_iff_getElem.2 ⟨k % sz, ?_, ?_⟩)
  · have h1 := Nat.mod_lt k hz
    have h2 := Nat.div_add_mod k sz
    rw [List.length_take, List.length_drop, Nat.mul_comm]
    omega
  · have h2 := Nat.div_add_mod k sz
    simp only [List.getElem_take, List.getElem_drop]
    congr 1
    rw [Nat.mul_comm]; exact h2
theorem OwR.app (hm : MonoF R) (h : OwR e sz R B H n0 v xs o) {y : Value} {ys : List α} (hs : Els sz R (B.and (.of o)) H y ys) (h1 : ∀ {A H cs a}, R A H cs a → cs.all Value.oneCell' = true) (hz : 0 < sz) {bytes : Nat} (hb : (xs.length + ys.length) * bytes ≤ 140737488355328) (hl : xs.length + ys.length < 4611686018427387904) (h0 : n0 ≤ H.next)
    {V : Env} {t u : TypeId} {a b a2 b2 : Nat} {z z2 : Value} {te : TI} (ht : V.E t = some ⟨.slice e, a, b, z⟩) (hu : V.E u = some ⟨.slice e, a2, b2, z2⟩) (he : V.E e = some te) (hsz : te.size = sz) (hby : te.bytes = bytes) :
    ∃ v' H' o', (∀ {g : Ft} {x w : Operand}, g x = some v → g w = some y → aopG V g H (.call ⟨.builtin .append, #[x, w], #[t, u]⟩) = some (v', H')) ∧ OwR e sz R B H' n0 v' (xs ++ ys) o' ∧ FrX (obs o) (ogs o) H H' ∧ (Av.of o).Gr (.of o') H.next := by
  obtain ⟨cs, k1, k2⟩ := h
  obtain ⟨ds, m1, m2⟩ := hs
  obtain ⟨v', H', o', q1, q2, q3, q4, q5⟩ := k1.appSl (V := V) (m1.sl (by omega)) hz hb hl h0 (all_chunks m1.1 hz fun i hi => h1 (m2 i hi)) ht hu he hsz hby
  have hc := k1.1
  have hgr : (B.and (.of o)).Gr (B.and (.of o')) H.next := Av.Gr.refl.and ⟨q4, q5⟩
  have hfx : FrX (B.and (.of o)).bs (B.and (.of o)).gs H H' := q3.sub (fun b hb => List.mem_append_right _ hb) (fun b hb => List.mem_append_right _ hb)
  refine ⟨v', H', o', q1, ⟨cs ++ ds, by rw [List.length_append]; exact q2, fun i hi => ?_⟩, q3, q4, q5⟩
  rw [List.length_append] at hi
  have up : ∀ {c a}, R (B.and (.of o)) H c a → R (B.and (.of o')) H' c a := fun hr => by
    have r1 := hm.gr hgr hr
    have r2 : R ((B.and (.of o)).and (.of o')) H _ _ := hm.gr (B := (B.and (.of o)).and (.of o')) ⟨fun b hb => (List.mem_append.1 hb).elim .inl fun hb => (q4 b hb).imp (fun h => List.mem_append_right _ h) id, fun b hb => (List.mem_append.1 hb).elim .inl fun hb => (q5 b hb).imp (fun h => List.mem_append_right _ h) id⟩ hr
    have r3 := hm.frX (H' := H') (q3.sub (fun b hb => List.mem_append_left _ (List.mem_append_right _ hb)) (fun b hb => List.mem_append_left _ (List.mem_append_right _ hb))) r2
    exact hm.gr (B := B.and (.of o')) ⟨fun b hb => .inl ((List.mem_append.1 hb).elim (fun h => List.mem_append_left _ (List.mem_append_left _ h)) (fun h => List.mem_append_right _ h)), fun b hb => .inl ((List.mem_append.1 hb).elim (fun h => List.mem_append_left _ (List.mem_append_left _ h)) (fun h => List.mem_append_right _ h))⟩ r3
  by_cases hlt : i < xs.length
  · have hle : (i + 1) * sz ≤ xs.length * sz := Nat.mul_le_mul_right sz hlt
    rw [Nat.add_mul, Nat.one_mul] at hle
    rw [List.drop_append_of_le_length (by omega), List.take_append_of_le_length (by rw [List.length_drop]; omega), List.getElem_append_left hlt]
    exact up (k2 i hlt)
  · have hge : xs.length * sz ≤ i * sz := Nat.mul_le_mul_right sz (by omega)
    rw [List.drop_append, List.drop_eq_nil_of_le (by omega), List.nil_append, hc, ← Nat.sub_mul, List.getElem_append_right (by omega)]
    exact up (m2 (i - xs.length) (by omega))
end
theorem InsR.one {A : Av} {H : AH} {cs : List Value} {a : Ins} (h : InsR A H cs a) : cs.all Value.oneCell' = true ∧ cs.length = 6 := by
  obtain ⟨va, rfl, ⟨_, ⟨rfl, _⟩ | ⟨b, off, cap, rfl, _⟩⟩⟩ := h <;> exact ⟨rfl, rfl⟩
theorem PhiR.one {A : Av} {H : AH} {cs : List Value} {a : Phi} (h : PhiR A H cs a) : cs.all Value.oneCell' = true ∧ cs.length = 2 := by
  obtain ⟨va, rfl, ⟨_, ⟨rfl, _⟩ | ⟨b, off, cap, rfl, _⟩⟩⟩ := h <;> exact ⟨rfl, rfl⟩
theorem Sr.oneCell {A : Av} {H : AH} {v : Value} {sz n : Nat} {cs : List Value} (h : Sr A H v sz n cs) : Value.oneCell' v = true := by
  obtain ⟨_, ⟨rfl, _⟩ | ⟨b, off, cap, rfl, _⟩⟩ := h <;> rfl
theorem Els.oneCell {α : Type} {sz : Nat} {R : Rq α} {A : Av} {H : AH} {v : Value} {xs : List α} (h : Els sz R A H v xs) : Value.oneCell' v = true := let ⟨_, h, _⟩ := h; h.oneCell
theorem BlockR.one {A : Av} {H : AH} {cs : List Value} {a : Block} (h : BlockR A H cs a) : cs.all Value.oneCell' = true ∧ cs.length = 4 := by
  obtain ⟨vp, vc, vf, vt, rfl, h1, h2, h3, h4⟩ := h
  simp [h1.oneCell, h2.oneCell, h3.oneCell, h4.oneCell]
theorem OwR.app1 {α : Type} {e : TypeId} {sz : Nat} {R : Rq α} {B : Av} {H : AH} {n0 : Nat} {v : Value} {xs : List α} {o : Option (Nat × Nat)} (hm : MonoF R) (h : OwR e sz R B H n0 v xs o) (hB : B.Lt H.next) {cx : List Value} {x : α} (hx : R (B.and (.of o)) H cx x) (h1 : ∀ {A H cs a}, R A H cs a → cs.all Value.oneCell' = true ∧ cs.length = sz) (hz : 0 < sz) {bytes : Nat} (hb : (xs.length + 1) * bytes ≤ 140737488355328) (hl : xs.length + 1 < 4611686018427387904) (h0 : n0 ≤ H.next)
    {V : Env} {t u : TypeId} {a b a2 b2 : Nat} {z z2 : Value} {te : TI} (ht : V.E t = some ⟨.slice e, a, b, z⟩) (hu : V.E u = some ⟨.slice e, a2, b2, z2⟩) (he : V.E e = some te) (hsz : te.size = sz) (hby : te.bytes = bytes) :
    ∃ v' H' o', (∀ {g : Ft} {y w : Operand}, g y = some v → g w = some (.slice (some ⟨H.next, 0, none⟩) 1 1) → aopG V g (H.alloc (.row e cx .exact 0 0)) (.call ⟨.builtin .append, #[y, w], #[t, u]⟩) = some (v', H')) ∧ OwR e sz R B H' n0 v' (xs ++ [x]) o' ∧ FrX (obs o) (ogs o) H H' ∧ (Av.of o).Gr (.of o') H.next ∧ Fr H (H.alloc (.row e cx .exact 0 0)) := by
  have hfa := Fr.alloc H (.row e cx .exact 0 0)
  have hlt := hB.and h.lt
  have hcx := (h1 hx).2
  have hs : Els sz R (B.and (.of o)) (H.alloc (.row e cx .exact 0 0)) (.slice (some ⟨H.next, 0, none⟩) 1 1) [x] := ⟨cx, ⟨by simpa using hcx, .inr ⟨H.next, 0, 1, rfl, fun _ => Rd.aLt (H0 := H) hlt (et := e) (cells := cx) (st := .exact) (g := 0) (v := 0) (Nat.le_refl _) (by simp) (by simp) (.inl rfl) (by simp; omega) (by simp only [List.length_cons, List.length_nil, List.drop_zero]; rw [List.take_of_length_le (by omega)])⟩⟩, fun i hi => by
    have : i = 0 := by simp at hi; omega
    subst this
    simp only [Nat.zero_mul, List.drop_zero, List.getElem_cons_zero]
    rw [List.take_of_length_le (by omega)]
    exact hm.fr hx hfa⟩
  obtain ⟨v', H', o', k1, k2, k3, k4⟩ := (h.fr hm hfa).app (V := V) hm hs (fun hr => (h1 hr).1) hz hb hl (Nat.le_trans h0 hfa.1) ht hu he hsz hby
  exact ⟨v', H', o', k1, k2, (hfa.x _ _).trans k3 (fun b hb _ => hb) (fun b hb _ => hb), ⟨fun b hb => (k4.1 b hb).imp id (fun h => Nat.le_trans hfa.1 h), fun b hb => (k4.2 b hb).imp id (fun h => Nat.le_trans hfa.1 h)⟩, hfa⟩
def RIns := RCons 1 (RInt .u8) (RCons 1 (RInt .i64) (RCons 1 (RInt .i64) (RCons 1 (RInt .i64) (RCons 1 (RInt .i64) (RCons 1 (RSlice 1 (RInt .i64)) REnd)))))
def RPhi := RCons 1 (RInt .i64) (RCons 1 (RSlice 1 (RInt .i64)) REnd)
def RBlock := RCons 1 (RSlice 2 RPhi) (RCons 1 (RSlice 6 RIns) (RCons 1 (RSlice 1 (RInt .i64)) (RCons 1 (RSlice 1 (RInt .i64)) REnd)))
def RGraph := RCons 1 RStr (RCons 1 RBool (RCons 1 (RInt .i64) (RCons 1 (RInt .i64) (RCons 1 (RSlice 4 RBlock) REnd))))
abbrev TIns := Int × Int × Int × Int × Int × List Int × Unit
abbrev TPhi := Int × List Int × Unit
abbrev TBlock := List TPhi × List TIns × List Int × List Int × Unit
abbrev TGraph := ByteArray × Bool × Int × Int × List TBlock × Unit
def TIns.to (x : TIns) : Ins := ⟨x.1, x.2.1, x.2.2.1, x.2.2.2.1, x.2.2.2.2.1, x.2.2.2.2.2.1⟩
def TPhi.to (x : TPhi) : Phi := ⟨x.1, x.2.1⟩
def TBlock.to (x : TBlock) : Block := ⟨x.1.map TPhi.to, x.2.1.map TIns.to, x.2.2.1, x.2.2.2.1⟩
def TGraph.to (x : TGraph) : Graph := ⟨x.1, x.2.1, x.2.2.1, x.2.2.2.1, x.2.2.2.2.1.map TBlock.to⟩
theorem split1 {cs : List Value} {v : Value} (h : cs.take 1 = [v]) : cs = v :: cs.drop 1 := by
  cases cs with
  | nil => cases h
  | cons a l => simp at h; simp [h]
theorem RIns.to {H : AH} {cs : List Value} {x : TIns} (h : RIns H cs x) : InsR .no H cs (TIns.to x) := by
  obtain ⟨⟨h1, _⟩, ⟨h2, _⟩, ⟨h3, _⟩, ⟨h4, _⟩, ⟨h5, _⟩, h6, h7⟩ := h
  obtain ⟨va, e6, h6⟩ := intsR_of h6
  refine ⟨va, ?_, h6⟩
  have h7 : _ = ([] : List Value) := h7
  rw [split1 h1, split1 h2, split1 h3, split1 h4, split1 h5, split1 e6, h7]; rfl
theorem RPhi.to {H : AH} {cs : List Value} {x : TPhi} (h : RPhi H cs x) : PhiR .no H cs (TPhi.to x) := by
  obtain ⟨⟨h1, _⟩, h6, h7⟩ := h
  obtain ⟨va, e6, h6⟩ := intsR_of h6
  refine ⟨va, ?_, h6⟩
  have h7 : _ = ([] : List Value) := h7
  rw [split1 h1, split1 e6, h7]; rfl
theorem RBlock.to {H : AH} {cs : List Value} {x : TBlock} (h : RBlock H cs x) : BlockR .no H cs (TBlock.to x) := by
  obtain ⟨h1, h2, h3, h4, h5⟩ := h
  obtain ⟨v1, e1, h1⟩ := els_of (R := PhiR) (f := TPhi.to) (fun _ _ _ => RPhi.to) h1
  obtain ⟨v2, e2, h2⟩ := els_of (R := InsR) (f := TIns.to) (fun _ _ _ => RIns.to) h2
  obtain ⟨v3, e3, h3⟩ := intsR_of h3
  obtain ⟨v4, e4, h4⟩ := intsR_of h4
  refine ⟨v1, v2, v3, v4, ?_, h1, h2, h3, h4⟩
  have h5 : _ = ([] : List Value) := h5
  rw [split1 e1, split1 e2, split1 e3, split1 e4, h5]
theorem RGraph.to {H : AH} {cs : List Value} {x : TGraph} (h : RGraph H cs x) : GraphR .no H cs (TGraph.to x) := by
  obtain ⟨⟨h1, _⟩, h2, ⟨h3, _⟩, ⟨h4, _⟩, h5, h6⟩ := h
  obtain ⟨vb, e5, h5⟩ := els_of (R := BlockR) (f := TBlock.to) (fun _ _ _ => RBlock.to) h5
  refine ⟨vb, ?_, h5⟩
  have h6 : _ = ([] : List Value) := h6
  have h2 : _ = [_] := h2
  rw [split1 h1, split1 h2, split1 h3, split1 h4, split1 e5, h6]; rfl
def I64 (x : Int) : Prop := -9223372036854775808 ≤ x ∧ x ≤ 9223372036854775807
structure Ins.Ok (i : Ins) : Prop where
  op : 0 ≤ i.op ∧ i.op < 256
  r : I64 i.r
  a : I64 i.a
  b : I64 i.b
  n : I64 i.n
structure Graph.Ok (g : Graph) : Prop where
  params : I64 g.params
  regs : I64 g.regs
  ins : ∀ b ∈ g.blocks, ∀ i ∈ b.code, i.Ok
theorem wf_i64 {x : Int} (h : (Lit.int .i64 x).wf = true) : I64 x := by
  have e1 : IntKind.min .i64 = -9223372036854775808 := by decide
  have e2 : IntKind.max .i64 = 9223372036854775807 := by decide
  simp only [Lit.wf, Bool.and_eq_true, decide_eq_true_eq, e1, e2] at h
  exact h
theorem wf_u8 {x : Int} (h : (Lit.int .u8 x).wf = true) : 0 ≤ x ∧ x < 256 := by
  have e1 : IntKind.min .u8 = 0 := by decide
  have e2 : IntKind.max .u8 = 255 := by decide
  simp only [Lit.wf, Bool.and_eq_true, decide_eq_true_eq, e1, e2] at h
  omega
theorem RIns.ok {H : AH} {cs : List Value} {x : TIns} (h : RIns H cs x) : (TIns.to x).Ok := by
  obtain ⟨⟨_, h1⟩, ⟨_, h2⟩, ⟨_, h3⟩, ⟨_, h4⟩, ⟨_, h5⟩, _, _⟩ := h
  exact ⟨wf_u8 h1, wf_i64 h2, wf_i64 h3, wf_i64 h4, wf_i64 h5⟩
theorem RGraph.ok {H : AH} {cs : List Value} {x : TGraph} (h : RGraph H cs x) : (TGraph.to x).Ok := by
  obtain ⟨_, _, ⟨_, h3⟩, ⟨_, h4⟩, h5, _⟩ := h
  refine ⟨wf_i64 h3, wf_i64 h4, fun b hb i hi => ?_⟩
  obtain ⟨y, hy, rfl⟩ := List.mem_map.1 hb
  obtain ⟨z, hz, rfl⟩ := List.mem_map.1 hi
  exact all_of (P := fun y : TBlock => ∀ z ∈ y.2.1, (TIns.to z).Ok) (fun _ _ _ h z hz => by
    obtain ⟨_, h2, _⟩ := h
    exact all_of (P := fun z : TIns => (TIns.to z).Ok) (fun _ _ _ h => RIns.ok h) h2 z hz) h5 y hy z hz
end Go.Ev

/-
  EV, universal use, part w: boxes by short steps: the heap behind a step is any one of which so much is known.
-/
namespace Go.Ev
open Go.RowKit
section
variable {V : Env} {H H' : AH} {b : Nat} {et : TypeId} {cs : List Value}
theorem Bx.ld (h : Bx H b et cs) {off : Nat} {c : Value} (hc : cs[off]? = some c) {t : TypeId} {te : TI} (he : V.E t = some te) (ha : Desc.agg te.desc = false) : aLoad V.E H t (.pointer (some ⟨b, off, none⟩)) = some c := by
  have := ((h.rd rfl).at1 hc).load1 he ha
  rwa [Nat.zero_add] at this
theorem Bx.ldN (h : Bx H b et cs) {t : TypeId} {te : TI} (he : V.E t = some te) (ha : Desc.agg te.desc = true) (hn : te.size = cs.length) : aLoad V.E H t (.pointer (some ⟨b, 0, none⟩)) = some (.agg cs.toArray) := (h.rd rfl).loadN he ha hn
theorem Bx.part (h : Bx H b et cs) {off n : Nat} (hf : off + n ≤ cs.length) {t : TypeId} {te : TI} (he : V.E t = some te) (ha : Desc.agg te.desc = true) (hn : te.size = n) : aLoad V.E H t (.pointer (some ⟨b, off, none⟩)) = some (.agg ((cs.drop off).take n).toArray) := by
  have := ((h.rd rfl).sub off n hf).loadN he ha hn
  rwa [Nat.zero_add] at this
end
section
variable {V : Env} {O : Orc} {is : List LI} {E : List Value} {l : SL} {H : AH} {K : List Value → AH → Prop} {x a : Operand} {u : Value}
theorem zBox {et : TypeId} (hx : gS V.nG E l x = some u) (h0 : ∀ H, aopG V (gS V.nG E l) H (.box et x) = some (.pointer (some ⟨H.next, 0, none⟩), H.alloc (.row et u.cells.toList .exact 0 0)))
    (h : ∀ H1, Fr H H1 → Bx H1 H.next et u.cells.toList → H1.next = H.next + 1 → WL V O is (.pointer (some ⟨H.next, 0, none⟩) :: E) l H1 K) : WL V O (.run (.box et x) none :: is) E l H K :=
  .op (h0 H) (h _ (.alloc _ _) .new (by simp))
theorem zAlc {t : TypeId} {te : TI} {cs : List Value} (he : V.E t = some te) (hc : te.zv.cells.toList = cs) (h : ∀ H1, Fr H H1 → Bx H1 H.next t cs → H1.next = H.next + 1 → WL V O is (.pointer (some ⟨H.next, 0, none⟩) :: E) l H1 K) : WL V O (.run (.alloc t) none :: is) E l H K :=
  .op (op_alloc he hc) (h _ (.alloc _ _) .new (by simp))
theorem zStB {t et : TypeId} {te : TI} {b off : Nat} {cs : List Value} (hb : Bx H b et cs) (ha : gS V.nG E l a = some (.pointer (some ⟨b, off, none⟩))) (hx : gS V.nG E l x = some u) (he : V.E t = some te) (hs : u.cells.size = te.size) (h1 : u.cells.toList.all Value.oneCell' = true) (hne : u.cells.toList ≠ []) (hf : off + u.cells.toList.length ≤ cs.length)
    (h : ∀ H1, FrX [b] [] H H1 → Bx H1 b et (splice cs off u.cells.toList) → H1.next = H.next → WL V O is (undef :: E) l H1 K) : WL V O (.run (.store t a x) none :: is) E l H K := by
  obtain ⟨H1, k1, k2, k3, k4⟩ := hb.wr hne hf
  exact .op (op_store ha hx he hs h1 k1) (h H1 k3 k2 k4)
theorem zMkS {t e : TypeId} {lo co : Operand} {k k' : IntKind} {n m sa sb : Nat} {z : Value} {te : TI} {cs : List Value} (hl : gS V.nG E l lo = some (.int k n)) (hc : gS V.nG E l co = some (.int k' m)) (ht : V.E t = some ⟨.slice e, sa, sb, z⟩) (he : V.E e = some te) (h1 : n ≤ m) (h2 : m * te.bytes ≤ 140737488355328) (h3 : m < 4611686018427387904) (hcs : azeros te.zv.cells.toList m = cs)
    (h : ∀ H1, Fr H H1 → Bx H1 H.next e cs → H1.next = H.next + 1 → WL V O is (.slice (some ⟨H.next, 0, none⟩) n m :: E) l H1 K) : WL V O (.run (.makeSlice t lo co) none :: is) E l H K := by
  subst hcs
  exact .op (op_makeSlice hl hc ht he h1 h2 h3) (h _ (.alloc _ _) .new (by simp))
theorem zLit {t e : TypeId} {len : Nat} {ps : Array (Nat × Operand)} {vs : List (Nat × Value)} {cs : List Value} {sa sb : Nat} {z : Value} {te : TI} (hp : gparts (gS V.nG E l) ps.toList = some vs) (ht : V.E t = some ⟨.slice e, sa, sb, z⟩) (he : V.E e = some te)
    (h1 : len * te.size ≤ 16777216) (hf : afill (fun i => some (i * te.size, te.size)) (azeros te.zv.cells.toList len) vs = some cs) (h2 : len < unk)
    (h : ∀ H1, Fr H H1 → Bx H1 H.next e cs → H1.next = H.next + 1 → WL V O is (.slice (some ⟨H.next, 0, none⟩) len len :: E) l H1 K) : WL V O (.run (.buildSlice t len ps) none :: is) E l H K :=
  .op (op_buildSlice hp ht he h1 hf h2) (h _ (.alloc _ _) .new (by simp))
theorem zLit1 {t e : TypeId} {ps : Array (Nat × Operand)} {vs : List (Nat × Value)} {cs : List Value} {sa sb : Nat} {z : Value} {te : TI} (hp : gparts (gS V.nG E l) ps.toList = some vs) (ht : V.E t = some ⟨.slice e, sa, sb, z⟩) (he : V.E e = some te)
    (h1 : 1 * te.size ≤ 16777216) (hf : afill (fun i => some (i * te.size, te.size)) (azeros te.zv.cells.toList 1) vs = some cs) (h : WL V O is (.slice (some ⟨H.next, 0, none⟩) 1 1 :: E) l (H.alloc (.row e cs .exact 0 0)) K) : WL V O (.run (.buildSlice t 1 ps) none :: is) E l H K :=
  .op (op_buildSlice hp ht he h1 hf) h
end
theorem resL_cell {V : Env} {l : SL} {H : AH} {a : Tmp} {t : TypeId} {rs : List ResultVar} {p v : Value} {vs : List Value} (h1 : look l a = some p) (h2 : aLoad V.E H t p = some v) (h3 : resL V l H rs = some vs) : resL V l H (.cell a t :: rs) = some (v :: vs) := by
  simp only [resL, h1, h2, h3]
theorem Bx.els {α : Type} {sz : Nat} {R : Rq α} {H : AH} {b : Nat} {e : TypeId} {cs : List Value} {xs : List α} {cap : Nat} (hb : Bx H b e cs) (hc : cs.length = xs.length * sz) (hx : ∀ i (h : i < xs.length), R .no H ((cs.drop (i * sz)).take sz) xs[i]) : Els sz R .no H (.slice (some ⟨b, 0, none⟩) xs.length cap) xs :=
  ⟨cs, ⟨hc, .inr ⟨b, 0, cap, rfl, fun _ => (hb.rd hc).a⟩⟩, hx⟩
def OwI (e : TypeId) (H : AH) (n0 : Nat) (v : Value) (l : List Int) (o : Option (Nat × Nat)) : Prop := OwE H n0 e 1 v l.length (ints l) o
section
variable {V : Env} {e : TypeId} {H H' : AH} {n0 : Nat} {v : Value} {l : List Int} {o : Option (Nat × Nat)} {A : Av}
theorem OwI.nil : OwI e H n0 (.slice none 0 0) [] none := .inl .nil
theorem OwI.young (h : OwI e H n0 v l o) : (∀ b ∈ obs o, n0 ≤ b) ∧ (∀ g ∈ ogs o, n0 ≤ g) ∧ (∀ b ∈ obs o, b < H.next) ∧ (∀ g ∈ ogs o, g < H.next) := OwE.young h
theorem OwI.lt (h : OwI e H n0 v l o) : (Av.of o).Lt H.next := ⟨h.young.2.2.1, h.young.2.2.2⟩
theorem OwI.fr (h : OwI e H n0 v l o) (k : Fr H H') : OwI e H' n0 v l o := OwE.fr h k
theorem OwI.frX (h : OwI e H n0 v l o) {bs gs : List Nat} (k : FrX bs gs H H') (hb : ∀ b ∈ obs o, b ∉ bs) (hg : ∀ g ∈ ogs o, g ∉ gs) : OwI e H' n0 v l o := OwE.frX h k hb hg
theorem OwI.sl (h : OwI e H n0 v l o) : Sl H v 1 l.length (ints l) := OwE.sl h
theorem OwI.r (h : OwI e H n0 v l o) (hb : ∀ b ∈ obs o, b ∉ A.bs) (hg : ∀ g ∈ ogs o, g ∉ A.gs) : IntsR A H v l := by
  rcases h with h | ⟨h1, h2, b, rfl, h3, rfl, h4⟩
  · obtain ⟨k1, k2, ⟨k3, k4, _⟩ | ⟨b, g, rfl, k4, k5, k6, k7, k8, k9, _⟩⟩ := h
    · exact ⟨k1, .inl ⟨k3, k4⟩⟩
    · exact ⟨k1, .inr ⟨b, 0, unk, k8, fun _ => ⟨hb b (by simp [obs]), e, _, .loose, g, _, k6, k9, .inr (.inr ⟨k7, hg g (by simp [ogs]), rfl⟩), by omega, by rw [← k1]; simp⟩⟩⟩
  · have : l = [] := by simpa [ints] using h2
    subst this
    exact .empty
theorem OwI.rYoung (h : OwI e H n0 v l o) (hA : A.Lt n0) : IntsR A H v l := h.r (fun b hb h2 => by have := h.young.1 b hb; have := hA.1 b h2; omega) (fun g hg h2 => by have := h.young.2.1 g hg; have := hA.2 g h2; omega)
theorem OwI.app (h : OwI e H n0 v l o) {m : List Int} {y : Value} (hs : Sl H y 1 m.length (ints m)) (hL : l.length + m.length ≤ 1000000) (h0 : n0 ≤ H.next) {t u : TypeId} {s0 b0 a2 b2 sb : Nat} {z0 z2 : Value} (ht : V.E t = some ⟨.slice e, s0, b0, z0⟩) (hu : V.E u = some ⟨.slice e, a2, b2, z2⟩) (he : V.E e = some ⟨.int .i64, 1, sb, .int .i64 0⟩) (hsb : sb ≤ 8) :
    ∃ v' H' o', (∀ {g : Ft} {x w : Operand}, g x = some v → g w = some y → aopG V g H (.call ⟨.builtin .append, #[x, w], #[t, u]⟩) = some (v', H')) ∧ OwI e H' n0 v' (l ++ m) o' ∧ FrX (obs o) (ogs o) H H' ∧ (Av.of o).Gr (.of o') H.next := by
  obtain ⟨v', H', o', k1, k2, k3, k4, k5⟩ := OwE.appSl (V := V) (bytes := sb) h hs (by decide) (by
    have : (l.length + m.length) * sb ≤ 1000000 * 8 := Nat.mul_le_mul hL hsb
    omega) (by omega) h0 (ints_one _) ht hu he rfl rfl
  refine ⟨v', H', o', k1, ?_, k3, k4, k5⟩
  unfold OwI
  rw [List.length_append, ints_app]; exact k2
theorem OwI.app1 (h : OwI e H n0 v l o) (x : Int) (hL : l.length ≤ 999999) (h0 : n0 ≤ H.next) {t u : TypeId} {s0 b0 a2 b2 sb : Nat} {z0 z2 : Value} (ht : V.E t = some ⟨.slice e, s0, b0, z0⟩) (hu : V.E u = some ⟨.slice e, a2, b2, z2⟩) (he : V.E e = some ⟨.int .i64, 1, sb, .int .i64 0⟩) (hsb : sb ≤ 8) :
    ∃ v' H' o', (∀ {g : Ft} {y w : Operand}, g y = some v → g w = some (.slice (some ⟨H.next, 0, none⟩) 1 1) → aopG V g (H.alloc (.row e [.int .i64 x] .exact 0 0)) (.call ⟨.builtin .append, #[y, w], #[t, u]⟩) = some (v', H')) ∧ OwI e H' n0 v' (l ++ [x]) o' ∧ FrX (obs o) (ogs o) H H' ∧ (Av.of o).Gr (.of o') H.next := by
  have hfa := Fr.alloc H (.row e [.int .i64 x] .exact 0 0)
  obtain ⟨v', H', o', k1, k2, k3, k4⟩ := (h.fr hfa).app (V := V) (m := [x]) (OneAt.toSl (H := H) (e := e) (cs := [.int .i64 x]) (cap := 1) (by simp)) (by simp; omega) (Nat.le_trans h0 hfa.1) ht hu he hsb
  exact ⟨v', H', o', k1, k2, (hfa.x _ _).trans k3 (fun b hb _ => hb) (fun b hb _ => hb), ⟨fun b hb => (k4.1 b hb).imp id (fun h => Nat.le_trans hfa.1 h), fun b hb => (k4.2 b hb).imp id (fun h => Nat.le_trans hfa.1 h)⟩⟩
theorem fill_int {sb : Nat} {x : Int} : afill (fun i => some (i * TI.size ⟨.int .i64, 1, sb, .int .i64 0⟩, TI.size ⟨.int .i64, 1, sb, .int .i64 0⟩)) (azeros (TI.zv ⟨.int .i64, 1, sb, .int .i64 0⟩).cells.toList 1) [(0, .int .i64 x)] = some [.int .i64 x] := by rfl
end
end Go.Ev
namespace Go.Ev
theorem FrX.put {H : AH} {b : Nat} {o : AObj} : FrX [b] [] H (H.put b o) := ⟨by simp, fun c _ hx => by rw [AH.obj_put, if_neg (by simpa using hx)], fun c _ _ => by simp⟩
theorem obj_put_self {H : AH} {b : Nat} {o : AObj} : (H.put b o).obj b = o := by simp
end Go.Ev
namespace Go.Ev
section
variable {V : Env} {O : Orc} {is : List LI} {E : List Value} {l : SL} {H : AH} {Hs0 : List AH} {K : List Value → AH → List AH → Prop} {x a : Operand} {u : Value}
theorem yAlc {t : TypeId} {te : TI} {cs : List Value} (he : V.E t = some te) (hc : te.zv.cells.toList = cs) (h : ∀ H1, Fr H H1 → Bx H1 H.next t cs → H1.next = H.next + 1 → WH V O is (.pointer (some ⟨H.next, 0, none⟩) :: E) l H1 (Hs0 ++ [H]) K) : WH V O (.run (.alloc t) none :: is) E l H Hs0 K :=
  .op (op_alloc he hc) (h _ (.alloc _ _) .new (by simp))
theorem yStB {t et : TypeId} {te : TI} {b off : Nat} {cs : List Value} (hb : Bx H b et cs) (ha : gS V.nG E l a = some (.pointer (some ⟨b, off, none⟩))) (hx : gS V.nG E l x = some u) (he : V.E t = some te) (hs : u.cells.size = te.size) (h1 : u.cells.toList.all Value.oneCell' = true) (hne : u.cells.toList ≠ []) (hf : off + u.cells.toList.length ≤ cs.length)
    (h : ∀ H1, FrX [b] [] H H1 → Bx H1 b et (splice cs off u.cells.toList) → H1.next = H.next → WH V O is (undef :: E) l H1 (Hs0 ++ [H]) K) : WH V O (.run (.store t a x) none :: is) E l H Hs0 K := by
  obtain ⟨H1, k1, k2, k3, k4⟩ := hb.wr hne hf
  exact .op (op_store ha hx he hs h1 k1) (h H1 k3 k2 k4)
theorem yFld {ty : TypeId} {f : Nat} {v : Value} (hx : gS V.nG E l x = some u) (h0 : aField V.E ty f u = some v) (h : WH V O is (v :: E) l H (Hs0 ++ [H]) K) : WH V O (.run (.fieldAddr ty x f) none :: is) E l H Hs0 K := .op (op_fieldAddr hx h0) h
theorem yLd {ty : TypeId} {v : Value} (hx : gS V.nG E l x = some u) (h0 : aLoad V.E H ty u = some v) (h : WH V O is (v :: E) l H (Hs0 ++ [H]) K) : WH V O (.run (.load ty x) none :: is) E l H Hs0 K := .op (op_load hx h0) h
end
end Go.Ev

/-
  EV, universal use, part x: programs of instructions, as they are read.
-/
namespace Go.Ev
open Go.RowKit
structure Mem where
  name : ByteArray
  size : Int
  first : Int
structure Fun where
  name : ByteArray
  thread : Bool
  params : Int
  regs : Int
  code : List Ins
structure Prog where
  mems : List Mem
  locks : List ByteArray
  funs : List Fun
def MemR : Rq Mem := fun _ _ cs m => cs = [.string m.name, .int .i64 m.size, .int .i64 m.first]
def StrR : Rq ByteArray := fun _ _ cs s => cs = [.string s]
def Fun.cells (f : Fun) (vc : Value) : List Value := [.string f.name, .bool f.thread, .int .i64 f.params, .int .i64 f.regs, vc]
def FunR : Rq Fun := fun A H cs f => ∃ vc, cs = f.cells vc ∧ Els 6 InsR A H vc f.code
def ProgR : Rq Prog := fun A H cs p => ∃ vm vl vf, cs = [vm, vl, vf] ∧ Els 3 MemR A H vm p.mems ∧ Els 1 StrR A H vl p.locks ∧ Els 5 FunR A H vf p.funs
theorem MemR.m : MonoF MemR := ⟨fun _ h => h, fun _ h => h⟩
theorem StrR.m : MonoF StrR := ⟨fun _ h => h, fun _ h => h⟩
theorem FunR.m : MonoF FunR := ⟨fun k ⟨va, h1, h2⟩ => ⟨va, h1, h2.frX InsR.m k⟩, fun k ⟨va, h1, h2⟩ => ⟨va, h1, h2.gr InsR.m k⟩⟩
theorem ProgR.m : MonoF ProgR := ⟨fun k ⟨a, b, c, h1, h2, h3, h4⟩ => ⟨a, b, c, h1, h2.frX MemR.m k, h3.frX StrR.m k, h4.frX FunR.m k⟩, fun k ⟨a, b, c, h1, h2, h3, h4⟩ => ⟨a, b, c, h1, h2.gr MemR.m k, h3.gr StrR.m k, h4.gr FunR.m k⟩⟩
def idxI {α : Type} (p : α → Bool) (l : List α) : Int := match l.findIdx? p with
  | some i => i
  | none => -1
theorem idxI_none {α : Type} {p : α → Bool} {l : List α} (h : ∀ j (h : j < l.length), p l[j] = false) : idxI p l = -1 := by
  have : l.findIdx? p = none := by
    rw [List.findIdx?_eq_none_iff]
    intro x hx
    obtain ⟨j, hj, rfl⟩ := List.mem_iff_getElem.1 hx
    exact h j hj
  rw [idxI, this]
theorem idxI_some {α : Type} {p : α → Bool} {l : List α} {i : Nat} (h : i < l.length) (hp : p l[i] = true) (hn : ∀ j (hj : j < i), p (l[j]'(Nat.lt_trans hj h)) = false) : idxI p l = i := by
  have : l.findIdx? p = some i := by
    rw [List.findIdx?_eq_some_iff_getElem]
    exact ⟨h, hp, fun j hj => by simp [hn j hj]⟩
  rw [idxI, this]
theorem idxI_any {α : Type} (p : α → Bool) (l : List α) : decide (idxI p l ≥ 0) = l.any p := by
  unfold idxI
  cases h : l.findIdx? p with
  | none =>
    have : l.any p = false := by
      rw [List.any_eq_false]
      intro x hx
      rw [List.findIdx?_eq_none_iff.1 h x hx]; simp
    rw [this]; rfl
  | some i =>
    obtain ⟨hi, hp, _⟩ := List.findIdx?_eq_some_iff_getElem.1 h
    have : l.any p = true := List.any_eq_true.2 ⟨_, List.getElem_mem hi, hp⟩
    rw [this]
    exact decide_eq_true (by simp)
end Go.Ev

/-
  EV, universal use, part y: rows whose elements are told by a function; several slices of one's own beside one another.
-/
namespace Go.Ev
open Go.RowKit
def rng (n : Nat) (f : Nat → List Value) : List Value := (List.range n).flatMap f
section
variable {n sz : Nat} {f g : Nat → List Value}
theorem rng_succ : rng (n + 1) f = rng n f ++ f n := by unfold rng; rw [List.range_succ, List.flatMap_append]; simp
theorem rng_len (hf : ∀ k, (f k).length = sz) : ∀ n, (rng n f).length = n * sz
  | 0 => by simp [rng]
  | n + 1 => by rw [rng_succ, List.length_append, rng_len hf n, hf, Nat.add_mul, Nat.one_mul]
theorem rng_chunk (hf : ∀ k, (f k).length = sz) {k : Nat} (h : k < n) : ((rng n f).drop (k * sz)).take sz = f k := by
  induction n with
  | zero => omega
  | succ n ih =>
    rw [rng_succ]
    have hl := rng_len hf n
    by_cases e : k = n
    · subst e
      rw [← hl, List.drop_left, List.take_of_length_le (by rw [hf]; exact Nat.le_refl _)]
    · have hle : (k + 1) * sz ≤ n * sz := Nat.mul_le_mul_right sz (by omega)
      rw [Nat.add_mul, Nat.one_mul] at hle
      rw [List.drop_append_of_le_length (by omega), List.take_append_of_le_length (by rw [List.length_drop]; omega)]
      exact ih (by omega)
theorem rng_congr (h : ∀ k, k < n → f k = g k) : rng n f = rng n g := by
  induction n with
  | zero => rfl
  | succ n ih => rw [rng_succ, rng_succ, ih fun k hk => h k (by omega), h n (by omega)]
theorem rng_splice (hf : ∀ k, (f k).length = sz) {k off : Nat} {vs : List Value} (h : k < n) (hv : off + vs.length ≤ sz) : splice (rng n f) (k * sz + off) vs = rng n (fun j => if j = k then splice (f k) off vs else f j) := by
  induction n with
  | zero => omega
  | succ n ih =>
    rw [rng_succ, rng_succ]
    have hl := rng_len hf n
    unfold splice at *
    by_cases e : k = n
    · subst e
      rw [if_pos rfl, rng_congr (f := fun j => if j = k then (f k).take off ++ vs ++ (f k).drop (off + vs.length) else f j) (g := f) (fun j hj => if_neg (by omega))]
      rw [List.take_append, List.take_of_length_le (by omega), List.drop_append, List.drop_eq_nil_of_le (by omega), List.nil_append, show k * sz + off - (rng k f).length = off by omega, show k * sz + off + vs.length - (rng k f).length = off + vs.length by omega]
      simp only [List.append_assoc]
    · have hle : (k + 1) * sz ≤ n * sz := Nat.mul_le_mul_right sz (by omega)
      rw [Nat.add_mul, Nat.one_mul] at hle
      rw [if_neg (Ne.symm e), ← ih (by omega), List.take_append_of_le_length (by omega), List.drop_append_of_le_length (by omega)]
      simp only [List.append_assoc]
end
theorem rng_rep (k : Nat) (x : Value) : ∀ n, rng n (fun _ => List.replicate k x) = List.replicate (n * k) x
  | 0 => by simp [rng]
  | n + 1 => by rw [rng_succ, rng_rep k x n, List.replicate_append_replicate, Nat.add_mul, Nat.one_mul]
theorem azeros_rep {k : Nat} (hk : 0 < k) (x : Value) (n : Nat) : azeros (List.replicate k x) n = List.replicate (n * k) x := by
  rw [List.eq_replicate_iff]
  refine ⟨by rw [azeros_length, List.length_replicate], fun v hv => ?_⟩
  unfold azeros at hv
  obtain ⟨i, hi, rfl⟩ := List.mem_map.1 hv
  rw [List.length_replicate]
  have : i % k < (List.replicate k x).length := by rw [List.length_replicate]; exact Nat.mod_lt _ hk
  rw [List.getElem!_eq_getElem?_getD, List.getElem?_eq_getElem this, List.getElem_replicate]; rfl
end Go.Ev

/-
  EV, universal use, part z: rows of one's own, cut and put together again.
-/
namespace Go.Ev
open Go.RowKit
def Vw {α : Type} (sz : Nat) (R : Rq α) (B : Av) (H : AH) (v : Value) (xs : List α) : Prop :=
  ∃ b cs, v = .slice (some ⟨b, 0, none⟩) xs.length xs.length ∧ RdA B H b 0 (xs.length * sz) cs ∧ ∀ i (h : i < xs.length), R B H ((cs.drop (i * sz)).take sz) xs[i]
theorem RdA.len {A : Av} {H : AH} {b off n : Nat} {cs : List Value} (h : RdA A H b off n cs) : cs.length = n := h.rd.len
section
variable {α : Type} {e : TypeId} {sz n0 : Nat} {R : Rq α} {B : Av} {H H' : AH} {v : Value} {xs : List α} {o : Option (Nat × Nat)}
theorem Vw.els (h : Vw sz R B H v xs) : Els sz R B H v xs := by
  obtain ⟨b, cs, rfl, h1, h2⟩ := h
  exact ⟨cs, ⟨h1.len, .inr ⟨b, 0, xs.length, rfl, fun _ => h1⟩⟩, h2⟩
theorem Vw.frX (hm : MonoF R) (h : Vw sz R B H v xs) (k : FrX B.bs B.gs H H') : Vw sz R B H' v xs := by
  obtain ⟨b, cs, rfl, h1, h2⟩ := h
  exact ⟨b, cs, rfl, h1.frX k, fun i hi => hm.frX k (h2 i hi)⟩
theorem Vw.app0 (h : Vw sz R B H v xs) {y : Value} (hy : srcLen y = some 0) {V : Env} {t u : TypeId} {a b a2 b2 : Nat} {z z2 : Value} {te : TI} (ht : V.E t = some ⟨.slice e, a, b, z⟩) (hu : V.E u = some ⟨.slice e, a2, b2, z2⟩) (he : V.E e = some te) (hs : H.src te.size y 0 = some []) {g : Ft} {x w : Operand} (hx : g x = some v) (hw : g w = some y) : aopG V g H (.call ⟨.builtin .append, #[x, w], #[t, u]⟩) = some (v, H) := by
  obtain ⟨b, cs, rfl, _, _⟩ := h
  simp only [aopG, gvals, hx, hw, aBuiltin, ht, hu, he, hy, hs]
  simp [AH.app]
theorem Vw.app (hm : MonoF R) (h : Vw sz R B H v xs) (hB : B.Lt H.next) {y : Value} {ys : List α} (hs : Els sz R B H y ys) (h1 : ∀ {A H cs a}, R A H cs a → cs.all Value.oneCell' = true) (hpos : 0 < ys.length) (hz : 0 < sz) {bytes : Nat} (hb : (xs.length + ys.length) * bytes ≤ 140737488355328) (hl : xs.length + ys.length < 4611686018427387904) (h0 : n0 ≤ H.next)
    {V : Env} {t u : TypeId} {a b a2 b2 : Nat} {z z2 : Value} {te : TI} (ht : V.E t = some ⟨.slice e, a, b, z⟩) (hu : V.E u = some ⟨.slice e, a2, b2, z2⟩) (he : V.E e = some te) (hsz : te.size = sz) (hby : te.bytes = bytes) :
    ∃ v' H', (∀ {g : Ft} {x w : Operand}, g x = some v → g w = some y → aopG V g H (.call ⟨.builtin .append, #[x, w], #[t, u]⟩) = some (v', H')) ∧ OwR e sz R B H' n0 v' (xs ++ ys) (some (H.next, H.next)) ∧ Fr H H' := by
  subst hsz hby
  obtain ⟨b, cs, rfl, k1, k2⟩ := h
  obtain ⟨ds, m1, m2⟩ := hs
  have hcl := k1.len
  have hall := all_chunks m1.1 hz fun i hi => h1 (m2 i hi)
  have hsrc : H.src te.size y ys.length = some ds ∧ srcLen y = some ys.length := by
    obtain ⟨h1, ⟨rfl, h2⟩ | ⟨b, off, cap, rfl, h4⟩⟩ := m1
    · omega
    · refine ⟨?_, rfl⟩
      unfold AH.src
      simp only [if_neg (show ¬ ys.length = 0 by omega)]
      exact (h4 hpos).rd.rd
  have hrd : H.rd b 0 (xs.length * te.size) = some cs := k1.rd.rd
  refine ⟨.slice (some ⟨H.next, 0, none⟩) (xs.length + ys.length) unk, H.alloc (.row e (cs ++ ds) .loose H.next (H.ver H.next)), fun {g x w} hx hw => ?_, ⟨cs ++ ds, ?_, fun i hi => ?_⟩, Fr.alloc _ _⟩
  · simp only [aopG, gvals, hx, hw, aBuiltin, ht, hu, he, hsrc.1, hsrc.2, hall, if_true, AH.app]
    rw [if_neg (by omega), if_neg (fun h => h ⟨hb, hl, hz⟩), if_neg (by unfold unk; omega), if_neg (by omega), hrd]
  · rw [List.length_append]
    exact ⟨by rw [List.length_append, hcl, m1.1, Nat.add_mul], hl, .inr ⟨H.next, H.next, rfl, h0, h0, by simp, by simp, rfl, by simp, by omega⟩⟩
  · rw [List.length_append] at hi
    have up : ∀ {c a}, R B H c a → R (B.and (.of (some (H.next, H.next)))) (H.alloc (.row e (cs ++ ds) .loose H.next (H.ver H.next))) c a := fun hr =>
      hm.fr (hm.gr (B := B.and (.of (some (H.next, H.next)))) ⟨fun b hb => (List.mem_append.1 hb).elim .inl fun hb => .inr (by simp [Av.of, obs] at hb; omega), fun b hb => (List.mem_append.1 hb).elim .inl fun hb => .inr (by simp [Av.of, ogs] at hb; omega)⟩ hr) (.alloc _ _)
    by_cases hlt : i < xs.length
    · have hle : (i + 1) * te.size ≤ xs.length * te.size := Nat.mul_le_mul_right _ hlt
      rw [Nat.add_mul, Nat.one_mul] at hle
      rw [List.drop_append_of_le_length (by omega), List.take_append_of_le_length (by rw [List.length_drop]; omega), List.getElem_append_left hlt]
      exact up (k2 i hlt)
    · have hge : xs.length * te.size ≤ i * te.size := Nat.mul_le_mul_right _ (by omega)
      rw [List.drop_append, List.drop_eq_nil_of_le (by omega), List.nil_append, hcl, ← Nat.sub_mul, List.getElem_append_right (by omega)]
      exact up (m2 (i - xs.length) (by omega))
theorem chunk_take {cs : List Value} {i k : Nat} (h : i < k) : ((cs.take (k * sz)).drop (i * sz)).take sz = (cs.drop (i * sz)).take sz := by
  have hle : (i + 1) * sz ≤ k * sz := Nat.mul_le_mul_right sz h
  rw [Nat.add_mul, Nat.one_mul] at hle
  rw [List.drop_take, List.take_take, Nat.min_eq_left (by omega)]
theorem chunk_drop {cs : List Value} {i k : Nat} : ((cs.drop (k * sz)).drop (i * sz)).take sz = (cs.drop ((k + i) * sz)).take sz := by
  rw [List.drop_drop, Nat.add_mul]
theorem bound_nat {kd : IntKind} {i y : Nat} (h : i ≤ y) : bound (.int kd (i : Int)) y = some i := by
  simp only [bound]; rw [if_pos ⟨by omega, by omega⟩]; rfl
theorem RdA.sub {A : Av} {b off n : Nat} {cs : List Value} (h : RdA A H b off n cs) (i m : Nat) (hm : i + m ≤ n) : RdA A H b (off + i) m ((cs.drop i).take m) := by
  obtain ⟨h0, et, cells, st, g, v, h1, h2, h3, h4, rfl⟩ := h
  refine ⟨h0, et, cells, st, g, v, h1, h2, h3, by omega, ?_⟩
  rw [List.drop_take, List.take_take, Nat.min_eq_left (by omega), List.drop_drop]
def Cut (V : Env) (t : TypeId) (sz : Nat) (R : Rq α) (B : Av) (H : AH) (v : Value) (xs : List α) (k : Nat) : Prop :=
  ∃ s1 s2, aSlice V.E H t v none (some (.int .i64 k)) (some (.int .i64 k)) = some s1 ∧ aSlice V.E H t v (some (.int .i64 ((k : Int) + 1))) none none = some s2 ∧ Vw sz R B H s1 (xs.take k) ∧ Els sz R B H s2 (xs.drop (k + 1)) ∧ (xs.length = k + 1 → srcLen s2 = some 0 ∧ ∀ m, H.src m s2 0 = some [])
theorem OwR.cut (hm : MonoF R) (h : OwR e sz R B H n0 v xs o) (hb : ∀ b ∈ obs o, b ∉ B.bs) (hg : ∀ g ∈ ogs o, g ∉ B.gs) {k : Nat} (hk : k < xs.length) (hz : 0 < sz) {V : Env} {t : TypeId} {a b : Nat} {z : Value} {te : TI} (ht : V.E t = some ⟨.slice e, a, b, z⟩) (he : V.E e = some te) (hsz : te.size = sz) : Cut V t sz R B H v xs k := by
  subst hsz
  have hels := h.els hm hb hg
  obtain ⟨cs, ⟨hc, hlt, ⟨_, h0, _⟩ | ⟨b, g, rfl, h3, h4, h5, h6, rfl, h7, h8⟩⟩, hR⟩ := h
  · omega
  have hro : H.rowOf b e = some cs := by
    unfold AH.rowOf
    rw [AH.lo_lt h5, h7]
    simp [AH.alive]
  have hre : xs.length ≤ reach cs 0 te.size xs.length := Nat.le_max_left _ _
  have hrd : RdA B H b 0 (xs.length * te.size) cs := ⟨hb b (by simp [obs]), e, cs, .loose, g, _, h5, h7, .inr (.inr ⟨h6, hg g (by simp [ogs]), rfl⟩), by omega, by rw [← hc]; simp⟩
  have hle : (k + 1) * te.size ≤ xs.length * te.size := Nat.mul_le_mul_right _ hk
  have hkk : k * te.size ≤ (k + 1) * te.size := Nat.mul_le_mul_right _ (by omega)
  have hkp : 0 < (k + 1) * te.size := Nat.mul_pos (by omega) hz
  have hR' : ∀ i (h : i < xs.length), R B H ((cs.drop (i * te.size)).take te.size) xs[i] := fun i hi => hm.gr .left (hR i hi)
  refine ⟨.slice (some ⟨b, 0, none⟩) k k, .slice (some ⟨b, (k + 1) * te.size, none⟩) (xs.length - (k + 1)) unk, ?_, ?_, ⟨b, cs.take (k * te.size), by rw [List.length_take, Nat.min_eq_left (by omega)], ?_, fun i hi => ?_⟩, ⟨cs.drop ((k + 1) * te.size), ⟨by rw [List.length_drop, List.length_drop, hc, ← Nat.sub_mul], .inr ⟨b, (k + 1) * te.size, unk, by rw [List.length_drop], fun _ => ?_⟩⟩, fun i hi => ?_⟩, fun hn => ?_⟩
  · simp only [aSlice, ht, he, Option.isSome_some, Option.isNone_some, Bool.and_false, Bool.false_eq_true, if_false, if_true]
    rw [if_neg (by omega), hro]
    simp only [bound_nat (kd := .i64) (Nat.le_trans (Nat.le_of_lt hk) hre)]
    rw [if_neg (by unfold unk; omega)]
    simp only [optBound, bound_nat (kd := .i64) (Nat.le_refl k), Nat.sub_zero]
    by_cases hk0 : k = 0
    · rw [if_pos hk0]
    · rw [if_neg hk0]; simp
  · have := slice_unk (n := xs.length) hro ht he hz (lo := some (.int .i64 ((k + 1 : Nat) : Int))) (hi := none) (h := xs.length) rfl (bound_int (k := .i64) (by omega)).1
    rw [if_neg (by omega)] at this
    exact this
  · have := hrd.sub 0 (k * te.size) (by omega)
    rw [List.length_take, Nat.min_eq_left (by omega)]
    simpa using this
  · rw [List.length_take] at hi
    rw [List.getElem_take, chunk_take (by omega)]
    exact hR' i (by omega)
  · have := hrd.sub ((k + 1) * te.size) ((xs.length - (k + 1)) * te.size) (by rw [Nat.sub_mul]; omega)
    rw [Nat.zero_add] at this
    rw [List.length_drop]
    rwa [List.take_of_length_le (by rw [List.length_drop, hc, ← Nat.sub_mul]; exact Nat.le_refl _)] at this
  · rw [List.length_drop] at hi
    rw [chunk_drop, List.getElem_drop]
    exact hR' _ (by omega)
  · have : xs.length - (k + 1) = 0 := by omega
    rw [this]
    exact ⟨rfl, fun m => by simp [AH.src]⟩
theorem Vw.cut (h : Vw sz R B H v xs) (hlt : xs.length < 4611686018427387904) {k : Nat} (hk : k < xs.length) (hz : 0 < sz) {V : Env} {t : TypeId} {a b : Nat} {z : Value} {te : TI} (ht : V.E t = some ⟨.slice e, a, b, z⟩) (he : V.E e = some te) (hsz : te.size = sz) : Cut V t sz R B H v xs k := by
  subst hsz
  obtain ⟨b, cs, rfl, hrd, hR'⟩ := h
  have hc := hrd.len
  have hle : (k + 1) * te.size ≤ xs.length * te.size := Nat.mul_le_mul_right _ hk
  have hkk : k * te.size ≤ (k + 1) * te.size := Nat.mul_le_mul_right _ (by omega)
  refine ⟨.slice (some ⟨b, 0, none⟩) k k, .slice (some ⟨b, if xs.length = k + 1 then 0 else (k + 1) * te.size, none⟩) (xs.length - (k + 1)) (xs.length - (k + 1)), ?_, ?_, ⟨b, cs.take (k * te.size), by rw [List.length_take, Nat.min_eq_left (by omega)], ?_, fun i hi => ?_⟩, ⟨cs.drop ((k + 1) * te.size), ⟨by rw [List.length_drop, List.length_drop, hc, ← Nat.sub_mul], .inr ⟨b, _, _, by rw [List.length_drop], fun hp => ?_⟩⟩, fun i hi => ?_⟩, fun hn => ?_⟩
  · simp only [aSlice, ht, he, Option.isSome_some, Option.isNone_some, Bool.and_false, Bool.false_eq_true, if_false]
    rw [if_neg (by unfold unk; omega)]
    simp only [optBound, bound_nat (kd := .i64) (Nat.le_of_lt hk), bound_nat (kd := .i64) (Nat.le_refl k), Nat.sub_zero]
    by_cases hk0 : k = 0
    · rw [if_pos hk0]
    · rw [if_neg hk0]; simp
  · simp only [aSlice, ht, he, Option.isSome_none, Bool.false_and, Bool.false_eq_true, if_false]
    rw [if_neg (by unfold unk; omega)]
    have := bound_nat (kd := .i64) (i := k + 1) (y := xs.length) (by omega)
    rw [show ((k + 1 : Nat) : Int) = (k : Int) + 1 by omega] at this
    simp only [optBound, this, Nat.zero_add]
  · have := hrd.sub 0 (k * te.size) (by omega)
    rw [List.length_take, Nat.min_eq_left (by omega)]
    simpa using this
  · rw [List.length_take] at hi
    rw [List.getElem_take, chunk_take (by omega)]
    exact hR' i (by omega)
  · rw [List.length_drop] at hp
    rw [if_neg (by omega)]
    have := hrd.sub ((k + 1) * te.size) ((xs.length - (k + 1)) * te.size) (by rw [Nat.sub_mul]; omega)
    rw [Nat.zero_add] at this
    rw [List.length_drop]
    rwa [List.take_of_length_le (by rw [List.length_drop, hc, ← Nat.sub_mul]; exact Nat.le_refl _)] at this
  · rw [List.length_drop] at hi
    rw [chunk_drop, List.getElem_drop]
    exact hR' _ (by omega)
  · have : xs.length - (k + 1) = 0 := by omega
    rw [this]
    exact ⟨rfl, fun m => by simp [AH.src]⟩
def OwV (e : TypeId) (sz : Nat) (R : Rq α) (B : Av) (H : AH) (n0 : Nat) (v : Value) (xs : List α) (o : Option (Nat × Nat)) : Prop := (OwR e sz R B H n0 v xs o ∧ (∀ b ∈ obs o, b ∉ B.bs) ∧ ∀ g ∈ ogs o, g ∉ B.gs) ∨ (o = none ∧ Vw sz R B H v xs)
theorem OwV.els (hm : MonoF R) (h : OwV e sz R B H n0 v xs o) : Els sz R B H v xs := by
  rcases h with ⟨h, h1, h2⟩ | ⟨_, h⟩
  · exact h.els hm h1 h2
  · exact h.els
theorem OwV.frX (hm : MonoF R) (h : OwV e sz R B H n0 v xs o) (k : FrX B.bs B.gs H H') : OwV e sz R B H' n0 v xs o := by
  rcases h with ⟨h, h1, h2⟩ | ⟨h0, h⟩
  · exact .inl ⟨h.frX hm k h1 h2, h1, h2⟩
  · exact .inr ⟨h0, h.frX hm k⟩
theorem OwV.fr (hm : MonoF R) (h : OwV e sz R B H n0 v xs o) (k : Fr H H') : OwV e sz R B H' n0 v xs o := h.frX hm (k.x _ _)
theorem OwV.young (h : OwV e sz R B H n0 v xs o) : (∀ b ∈ obs o, n0 ≤ b) ∧ (∀ g ∈ ogs o, n0 ≤ g) ∧ (∀ b ∈ obs o, b < H.next) ∧ (∀ g ∈ ogs o, g < H.next) := by
  rcases h with ⟨h, _⟩ | ⟨rfl, h⟩
  · exact h.young
  · simp [obs, ogs]
theorem OwV.oneCell (hm : MonoF R) (h : OwV e sz R B H n0 v xs o) : Value.oneCell' v = true ∧ v.cells.toList = [v] := by
  obtain ⟨_, ⟨_, ⟨rfl, _⟩ | ⟨b, off, cap, rfl, _⟩⟩, _⟩ := h.els hm <;> exact ⟨rfl, rfl⟩
theorem OwV.erase (hm : MonoF R) (h : OwV e sz R B H n0 v xs o) (hB : B.Lt H.next) (h1 : ∀ {A H cs a}, R A H cs a → cs.all Value.oneCell' = true) {k : Nat} (hk : k < xs.length) (hz : 0 < sz) {bytes : Nat} (hb : xs.length * bytes ≤ 140737488355328) (hl : xs.length < 4611686018427387904) (h0 : n0 ≤ H.next)
    {V : Env} {t : TypeId} {a b : Nat} {z : Value} {te : TI} (ht : V.E t = some ⟨.slice e, a, b, z⟩) (he : V.E e = some te) (hsz : te.size = sz) (hby : te.bytes = bytes) :
    ∃ s1 s2 v' H' o', aSlice V.E H t v none (some (.int .i64 k)) (some (.int .i64 k)) = some s1 ∧ aSlice V.E H t v (some (.int .i64 ((k : Int) + 1))) none none = some s2 ∧ (∀ {g : Ft} {x w : Operand}, g x = some s1 → g w = some s2 → aopG V g H (.call ⟨.builtin .append, #[x, w], #[t, t]⟩) = some (v', H')) ∧ OwV e sz R B H' n0 v' (xs.eraseIdx k) o' ∧ Fr H H' := by
  have hcut : Cut V t sz R B H v xs k := by
    rcases h with ⟨h, h1, h2⟩ | ⟨_, h⟩
    · exact h.cut hm h1 h2 hk hz ht he hsz
    · exact h.cut hl hk hz ht he hsz
  obtain ⟨s1, s2, q1, q2, q3, q4, q5⟩ := hcut
  rw [List.eraseIdx_eq_take_drop_succ]
  by_cases hlast : xs.length = k + 1
  · obtain ⟨r1, r2⟩ := q5 hlast
    refine ⟨s1, s2, s1, H, none, q1, q2, fun hx hw => q3.app0 r1 ht ht he (r2 _) hx hw, .inr ⟨rfl, ?_⟩, .refl _⟩
    have : xs.drop (k + 1) = [] := List.drop_eq_nil_of_le (by omega)
    rw [this, List.append_nil]; exact q3
  · obtain ⟨v', H', k1, k2, k3⟩ := q3.app (n0 := n0) hm hB q4 h1 (by rw [List.length_drop]; omega) hz (bytes := bytes) (by
      rw [List.length_take, List.length_drop]
      exact Nat.le_trans (Nat.mul_le_mul_right _ (by omega)) hb) (by rw [List.length_take, List.length_drop]; omega) h0 ht ht he hsz hby
    refine ⟨s1, s2, v', H', _, q1, q2, k1, .inl ⟨k2, fun b hb hbB => ?_, fun g hg hgB => ?_⟩, k3⟩
    · have := hB.1 b hbB; simp [obs] at hb; omega
    · have := hB.2 g hgB; simp [ogs] at hg; omega
theorem OwV.app1 (hm : MonoF R) (h : OwV e sz R B H n0 v xs o) (hB : B.Lt H.next) {cx : List Value} {x : α} (hx : R (B.and (.of o)) H cx x) (h1 : ∀ {A H cs a}, R A H cs a → cs.all Value.oneCell' = true ∧ cs.length = sz) (hz : 0 < sz) {bytes : Nat} (hb : (xs.length + 1) * bytes ≤ 140737488355328) (hl : xs.length + 1 < 4611686018427387904) (h0 : n0 ≤ H.next)
    {V : Env} {t u : TypeId} {a b a2 b2 : Nat} {z z2 : Value} {te : TI} (ht : V.E t = some ⟨.slice e, a, b, z⟩) (hu : V.E u = some ⟨.slice e, a2, b2, z2⟩) (he : V.E e = some te) (hsz : te.size = sz) (hby : te.bytes = bytes) :
    ∃ v' H' o', (∀ {g : Ft} {y w : Operand}, g y = some v → g w = some (.slice (some ⟨H.next, 0, none⟩) 1 1) → aopG V g (H.alloc (.row e cx .exact 0 0)) (.call ⟨.builtin .append, #[y, w], #[t, u]⟩) = some (v', H')) ∧ OwV e sz R B H' n0 v' (xs ++ [x]) o' ∧ FrX (obs o) (ogs o) H H' ∧ (Av.of o).Gr (.of o') H.next := by
  rcases h with ⟨h, q1, q2⟩ | ⟨rfl, h⟩
  · obtain ⟨v', H', o', k1, k2, k3, k4, _⟩ := h.app1 (V := V) hm hB hx h1 hz hb hl h0 ht hu he hsz hby
    refine ⟨v', H', o', k1, .inl ⟨k2, fun b hb hbB => (k4.1 b hb).elim (fun h => q1 b h hbB) (fun h => by have := hB.1 b hbB; omega), fun g hg hgB => (k4.2 g hg).elim (fun h => q2 g h hgB) (fun h => by have := hB.2 g hgB; omega)⟩, k3, k4⟩
  · have hfa := Fr.alloc H (.row e cx .exact 0 0)
    have hr : R B H cx x := hm.gr .left hx
    have hcx := (h1 hr).2
    have hs : Els sz R B (H.alloc (.row e cx .exact 0 0)) (.slice (some ⟨H.next, 0, none⟩) 1 1) [x] := ⟨cx, ⟨by simpa using hcx, .inr ⟨H.next, 0, 1, rfl, fun _ => Rd.aLt (H0 := H) hB (et := e) (cells := cx) (st := .exact) (g := 0) (v := 0) (Nat.le_refl _) (by simp) (by simp) (.inl rfl) (by simp; omega) (by simp only [List.length_cons, List.length_nil, List.drop_zero]; rw [List.take_of_length_le (by omega)])⟩⟩, fun i hi => by
      have : i = 0 := by simp at hi; omega
      subst this
      simp only [Nat.zero_mul, List.drop_zero, List.getElem_cons_zero]
      rw [List.take_of_length_le (by omega)]
      exact hm.fr hr hfa⟩
    obtain ⟨v', H', k1, k2, k3⟩ := (h.frX hm (hfa.x _ _)).app (n0 := n0) (V := V) hm (hB.mono hfa.1) hs (fun hr => (h1 hr).1) (by simp) hz hb hl (Nat.le_trans h0 hfa.1) ht hu he hsz hby
    refine ⟨v', H', _, k1, .inl ⟨k2, fun b hb hbB => ?_, fun g hg hgB => ?_⟩, (hfa.trans k3).x _ _, ⟨fun b hb => .inr ?_, fun b hb => .inr ?_⟩⟩
    · have := hB.1 b hbB; simp [obs] at hb; omega
    · have := hB.2 g hgB; simp [ogs] at hg; omega
    · simp [Av.of, obs] at hb; omega
    · simp [Av.of, ogs] at hb; omega
end
def Av.old (n : Nat) : Av := ⟨List.range n, List.range n⟩
theorem Av.old_lt {n : Nat} : (Av.old n).Lt n := ⟨fun _ h => List.mem_range.1 h, fun _ h => List.mem_range.1 h⟩
theorem Av.old_gr {B : Av} {n m : Nat} (h : B.Lt n) : (Av.old n).Gr B m := ⟨fun b hb => .inl (List.mem_range.2 (h.1 b hb)), fun b hb => .inl (List.mem_range.2 (h.2 b hb))⟩
theorem Sr.isSl {A : Av} {H : AH} {v : Value} {sz n : Nat} {cs : List Value} (h : Sr A H v sz n cs) : ∃ a n c, v = .slice a n c := by
  obtain ⟨_, ⟨rfl, _⟩ | ⟨b, off, cap, rfl, _⟩⟩ := h <;> exact ⟨_, _, _, rfl⟩
theorem sameV_sl {a : Option Addr} {n c : Nat} : sameV (.slice a n c) (.slice a n c) = true := by cases a <;> simp [sameV, same0]
theorem sameV_int {k : IntKind} {n : Int} : sameV (.int k n) (.int k n) = true := by simp [sameV, same0]
end Go.Ev

