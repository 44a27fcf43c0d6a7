/-
  EV, universal use, part j: frames, slices that are read, slices of one's own, boxes; rules for walks.
-/
import Derived.Test.YtalhmpcllfhllaaEv5
set_option linter.all false
namespace Go.Ev
open Go.RowKit
def FrX (bs gs : List Nat) (H H' : AH) : Prop := H.next ≤ H'.next ∧ (∀ b, b < H.next → b ∉ bs → H'.obj b = H.obj b) ∧ (∀ g, g < H.next → g ∉ gs → H'.ver g = H.ver g)
def Fr (H H' : AH) : Prop := H.next ≤ H'.next ∧ (∀ b, b < H.next → H'.obj b = H.obj b) ∧ (∀ g, g < H.next → H'.ver g = H.ver g)
theorem Fr.refl (H : AH) : Fr H H := ⟨Nat.le_refl _, fun _ _ => rfl, fun _ _ => rfl⟩
theorem Fr.trans {A B C : AH} (h : Fr A B) (k : Fr B C) : Fr A C := ⟨Nat.le_trans h.1 k.1, fun b hb => (k.2.1 b (Nat.lt_of_lt_of_le hb h.1)).trans (h.2.1 b hb), fun b hb => (k.2.2 b (Nat.lt_of_lt_of_le hb h.1)).trans (h.2.2 b hb)⟩
theorem Fr.kro {A B : AH} (h : Fr A B) : Kro A B := ⟨h.1, fun b et cells g v hb ho => by rw [h.2.1 b hb]; exact ho⟩
theorem Fr.x {A B : AH} (h : Fr A B) (bs gs : List Nat) : FrX bs gs A B := ⟨h.1, fun b hb _ => h.2.1 b hb, fun b hb _ => h.2.2 b hb⟩
theorem Fr.alloc (H : AH) (o : AObj) : Fr H (H.alloc o) := ⟨by simp, fun b hb => by rw [AH.obj_alloc, if_neg (by omega)], fun g _ => by simp⟩
theorem Fr.step {A B : AH} (h : Fr A B) (o : AObj) : Fr A (B.alloc o) := h.trans (.alloc _ _)
theorem FrX.fr {A B : AH} (h : FrX [] [] A B) : Fr A B := ⟨h.1, fun b hb => h.2.1 b hb (by simp), fun b hb => h.2.2 b hb (by simp)⟩
theorem Fr.young {A B C : AH} {bs gs : List Nat} (h : Fr A B) (k : FrX bs gs B C) (hb : ∀ b ∈ bs, A.next ≤ b) (hg : ∀ g ∈ gs, A.next ≤ g) : Fr A C :=
  ⟨Nat.le_trans h.1 k.1, fun b hlt => (k.2.1 b (Nat.lt_of_lt_of_le hlt h.1) fun hm => by have := hb b hm; omega).trans (h.2.1 b hlt), fun g hlt => (k.2.2 g (Nat.lt_of_lt_of_le hlt h.1) fun hm => by have := hg g hm; omega).trans (h.2.2 g hlt)⟩
theorem FrX.refl (bs gs : List Nat) (H : AH) : FrX bs gs H H := (Fr.refl H).x _ _
theorem FrX.trans {A B C : AH} {bs gs bs' gs' : List Nat} (h : FrX bs gs A B) (k : FrX bs' gs' B C) (hb : ∀ b ∈ bs', b < A.next → b ∈ bs) (hg : ∀ b ∈ gs', b < A.next → b ∈ gs) : FrX bs gs A C :=
  ⟨Nat.le_trans h.1 k.1, fun b hlt hn => (k.2.1 b (Nat.lt_of_lt_of_le hlt h.1) fun hm => hn (hb b hm hlt)).trans (h.2.1 b hlt hn), fun b hlt hn => (k.2.2 b (Nat.lt_of_lt_of_le hlt h.1) fun hm => hn (hg b hm hlt)).trans (h.2.2 b hlt hn)⟩
theorem FrX.sub {A B : AH} {bs gs bs' gs' : List Nat} (h : FrX bs gs A B) (hb : ∀ b ∈ bs, b ∈ bs') (hg : ∀ b ∈ gs, b ∈ gs') : FrX bs' gs' A B :=
  ⟨h.1, fun b hlt hn => h.2.1 b hlt fun hm => hn (hb b hm), fun b hlt hn => h.2.2 b hlt fun hm => hn (hg b hm)⟩
def Rd (H : AH) (b off n : Nat) (cs : List Value) : Prop :=
  ∃ et cells st g v, b < H.next ∧ H.obj b = .row et cells st g v ∧ (st = .exact ∨ st = .ro ∨ (g < H.next ∧ H.ver g = v)) ∧ off + n ≤ cells.length ∧ cs = (cells.drop off).take n
theorem Rd.len {H : AH} {b off n : Nat} {cs : List Value} (h : Rd H b off n cs) : cs.length = n := by
  obtain ⟨et, cells, st, g, v, _, _, _, h1, rfl⟩ := h; simp; omega
theorem Rd.lt {H : AH} {b off n : Nat} {cs : List Value} (h : Rd H b off n cs) : b < H.next := by
  obtain ⟨et, cells, st, g, v, h, _⟩ := h; exact h
theorem Rd.rd {H : AH} {b off n : Nat} {cs : List Value} (h : Rd H b off n cs) : H.rd b off n = some cs := by
  obtain ⟨et, cells, st, g, v, h0, h1, h2, h3, rfl⟩ := h
  unfold AH.rd
  rw [AH.lo_lt h0, h1]
  simp only
  rw [if_pos]
  rw [Bool.and_eq_true, decide_eq_true_eq]
  refine ⟨?_, h3⟩
  rcases h2 with rfl | rfl | ⟨_, h2⟩
  · rfl
  · rfl
  · cases st <;> simp [AH.alive, h2]
theorem Rd.fr {H H' : AH} {b off n : Nat} {cs : List Value} (h : Rd H b off n cs) (k : Fr H H') : Rd H' b off n cs := by
  obtain ⟨et, cells, st, g, v, h0, h1, h2, h3, h4⟩ := h
  refine ⟨et, cells, st, g, v, Nat.lt_of_lt_of_le h0 k.1, (k.2.1 b h0).trans h1, ?_, h3, h4⟩
  rcases h2 with h2 | h2 | ⟨h2, h5⟩
  · exact .inl h2
  · exact .inr (.inl h2)
  · exact .inr (.inr ⟨Nat.lt_of_lt_of_le h2 k.1, (k.2.2 g h2).trans h5⟩)
theorem Rd.sub {H : AH} {b off n : Nat} {cs : List Value} (h : Rd H b off n cs) (i m : Nat) (hm : i + m ≤ n) : Rd H b (off + i) m ((cs.drop i).take m) := by
  obtain ⟨et, cells, st, g, v, h0, h1, h2, h3, rfl⟩ := h
  refine ⟨et, cells, st, g, v, h0, h1, h2, by omega, ?_⟩
  rw [List.drop_take, List.take_take, Nat.min_eq_left (by omega), List.drop_drop]
theorem Rd.at1 {H : AH} {b off n : Nat} {cs : List Value} (h : Rd H b off n cs) {i : Nat} {c : Value} (hc : cs[i]? = some c) : Rd H b (off + i) 1 [c] := by
  have hlt := (List.getElem?_eq_some_iff.1 hc).1
  have := h.sub i 1 (by rw [h.len] at hlt; omega)
  have e : (cs.drop i).take 1 = [c] := by
    rw [List.drop_eq_getElem_cons hlt]
    have := (List.getElem?_eq_some_iff.1 hc).2
    simp [this]
  rwa [e] at this
theorem Rd.exact {H : AH} {b : Nat} {et : TypeId} {cells : List Value} {g v : Nat} (hb : b < H.next) (h : H.obj b = .row et cells .exact g v) : Rd H b 0 cells.length cells := ⟨et, cells, .exact, g, v, hb, h, .inl rfl, by simp, by simp⟩
theorem Rd.ro {H : AH} {b : Nat} {et : TypeId} {cells : List Value} {g v : Nat} (hb : b < H.next) (h : H.obj b = .row et cells .ro g v) : Rd H b 0 cells.length cells := ⟨et, cells, .ro, g, v, hb, h, .inr (.inl rfl), by simp, by simp⟩
theorem Rd.new {H : AH} {et : TypeId} {cs : List Value} {g v n : Nat} (hn : cs.length = n) : Rd (H.alloc (.row et cs .exact g v)) H.next 0 n cs := by
  subst hn; exact Rd.exact (et := et) (g := g) (v := v) (by simp) (by simp)
variable {V : Env} {O : Orc}
theorem Rd.load1 {H : AH} {b off : Nat} {c : Value} (h : Rd H b off 1 [c]) {t : TypeId} {te : TI} (he : V.E t = some te) (ha : Desc.agg te.desc = false) : aLoad V.E H t (.pointer (some ⟨b, off, none⟩)) = some c := by
  simp only [aLoad, he, ha, h.rd]; rfl
theorem Rd.loadN {H : AH} {b off n : Nat} {cs : List Value} (h : Rd H b off n cs) {t : TypeId} {te : TI} (he : V.E t = some te) (ha : Desc.agg te.desc = true) (hn : te.size = n) : aLoad V.E H t (.pointer (some ⟨b, off, none⟩)) = some (.agg cs.toArray) := by
  subst hn
  simp only [aLoad, he, ha, h.rd]; rfl
def Sl (H : AH) (v : Value) (sz n : Nat) (cs : List Value) : Prop :=
  cs.length = n * sz ∧ n < 4611686018427387904 ∧ ((v = .slice none 0 0 ∧ n = 0) ∨ ∃ b off cap, v = .slice (some ⟨b, off, none⟩) n cap ∧ (0 < n → Rd H b off (n * sz) cs))
theorem Sl.fr {H H' : AH} {v : Value} {sz n : Nat} {cs : List Value} (h : Sl H v sz n cs) (k : Fr H H') : Sl H' v sz n cs := by
  obtain ⟨h1, h2, h3 | ⟨b, off, cap, h3, h4⟩⟩ := h
  · exact ⟨h1, h2, .inl h3⟩
  · exact ⟨h1, h2, .inr ⟨b, off, cap, h3, fun h => (h4 h).fr k⟩⟩
theorem Sl.len {H : AH} {v : Value} {sz n : Nat} {cs : List Value} (h : Sl H v sz n cs) {t e : TypeId} {s b : Nat} {z : Value} (ht : V.E t = some ⟨.slice e, s, b, z⟩) : aLen V.E H t v = some (.int .i64 n) := by
  unfold aLen
  rw [ht]
  rcases h.2.2 with ⟨rfl, rfl⟩ | ⟨b, off, cap, rfl, _⟩ <;> rfl
theorem Sl.nil {H : AH} {sz : Nat} : Sl H (.slice none 0 0) sz 0 [] := ⟨by simp, by omega, .inl ⟨rfl, rfl⟩⟩
theorem Sl.at {H : AH} {v : Value} {sz n : Nat} {cs : List Value} (h : Sl H v sz n cs) {t e : TypeId} {s b : Nat} {z : Value} (ht : V.E t = some ⟨.slice e, s, b, z⟩) {te : TI} (he : V.E e = some te) (hz : te.size = sz) {kd : IntKind} {i : Int} (h0 : 0 ≤ i) (hi : i < n) :
    ∃ b off, aIndex V.E t v (.int kd i) = some (.pointer (some ⟨b, off, none⟩)) ∧ Rd H b off sz ((cs.drop (i.toNat * sz)).take sz) := by
  obtain ⟨h1, h2, ⟨rfl, rfl⟩ | ⟨b, off, cap, rfl, h4⟩⟩ := h
  · omega
  · refine ⟨b, off + i.toNat * sz, ?_, (h4 (by omega)).sub _ _ ?_⟩
    · simp only [aIndex, ht, he, hz]
      rw [if_pos ⟨h0, hi⟩]
    · have : (i.toNat + 1) * sz ≤ n * sz := Nat.mul_le_mul_right sz (by omega)
      rwa [Nat.add_mul, Nat.one_mul] at this
def Ow (H : AH) (n0 : Nat) (e : TypeId) (sz : Nat) (v : Value) (n : Nat) (cs : List Value) (o : Option (Nat × Nat)) : Prop :=
  cs.length = n * sz ∧ n < 4611686018427387904 ∧ ((v = .slice none 0 0 ∧ n = 0 ∧ o = none) ∨ ∃ b g, o = some (b, g) ∧ n0 ≤ b ∧ n0 ≤ g ∧ b < H.next ∧ g < H.next ∧ v = .slice (some ⟨b, 0, none⟩) n unk ∧ H.obj b = .row e cs .loose g (H.ver g) ∧ 0 < n)
def obs (o : Option (Nat × Nat)) : List Nat := match o with | none => [] | some (b, _) => [b]
def ogs (o : Option (Nat × Nat)) : List Nat := match o with | none => [] | some (_, g) => [g]
theorem Ow.nil {H : AH} {n0 : Nat} {e : TypeId} {sz : Nat} : Ow H n0 e sz (.slice none 0 0) 0 [] none := ⟨by simp, by omega, .inl ⟨rfl, rfl, rfl⟩⟩
theorem Ow.isNil {H : AH} {n0 : Nat} {e : TypeId} {sz : Nat} {v : Value} {cs : List Value} {o : Option (Nat × Nat)} (h : Ow H n0 e sz v 0 cs o) : v = .slice none 0 0 := by
  obtain ⟨_, _, ⟨h, _⟩ | ⟨b, g, _, _, _, _, _, _, _, h⟩⟩ := h
  · exact h
  · omega
theorem Ow.sl {H : AH} {n0 : Nat} {e : TypeId} {sz : Nat} {v : Value} {n : Nat} {cs : List Value} {o : Option (Nat × Nat)} (h : Ow H n0 e sz v n cs o) : Sl H v sz n cs := by
  obtain ⟨h1, h2, ⟨rfl, rfl, _⟩ | ⟨b, g, _, _, _, hb, hg, rfl, ho⟩⟩ := h
  · exact ⟨h1, h2, .inl ⟨rfl, rfl⟩⟩
  · exact ⟨h1, h2, .inr ⟨b, 0, unk, rfl, fun _ => ⟨e, cs, .loose, g, _, hb, ho.1, .inr (.inr ⟨hg, rfl⟩), by omega, by rw [← h1]; simp⟩⟩⟩
theorem Ow.old {H : AH} {n0 n1 : Nat} {e : TypeId} {sz : Nat} {v : Value} {n : Nat} {cs : List Value} {o : Option (Nat × Nat)} (h : Ow H n0 e sz v n cs o) (hn : n1 ≤ n0) : Ow H n1 e sz v n cs o := by
  obtain ⟨h1, h2, h3 | ⟨b, g, h3, h4, h5, h6⟩⟩ := h
  · exact ⟨h1, h2, .inl h3⟩
  · exact ⟨h1, h2, .inr ⟨b, g, h3, Nat.le_trans hn h4, Nat.le_trans hn h5, h6⟩⟩
theorem Ow.frX {H H' : AH} {n0 : Nat} {e : TypeId} {sz : Nat} {v : Value} {n : Nat} {cs : List Value} {o : Option (Nat × Nat)} (h : Ow H n0 e sz v n cs o) {bs gs : List Nat} (k : FrX bs gs H H') (hb : ∀ b ∈ obs o, b ∉ bs) (hg : ∀ g ∈ ogs o, g ∉ gs) : Ow H' n0 e sz v n cs o := by
  obtain ⟨h1, h2, h3 | ⟨b, g, rfl, h4, h5, h6, h7, h8, h9⟩⟩ := h
  · exact ⟨h1, h2, .inl h3⟩
  · refine ⟨h1, h2, .inr ⟨b, g, rfl, h4, h5, Nat.lt_of_lt_of_le h6 k.1, Nat.lt_of_lt_of_le h7 k.1, h8, ?_⟩⟩
    rw [k.2.1 b h6 (hb b (by simp [obs])), h9.1, k.2.2 g h7 (hg g (by simp [ogs]))]
    exact ⟨rfl, h9.2⟩
theorem Ow.fr {H H' : AH} {n0 : Nat} {e : TypeId} {sz : Nat} {v : Value} {n : Nat} {cs : List Value} {o : Option (Nat × Nat)} (h : Ow H n0 e sz v n cs o) (k : Fr H H') : Ow H' n0 e sz v n cs o := h.frX (k.x [] []) (by simp) (by simp)
theorem Ow.young {H : AH} {n0 : Nat} {e : TypeId} {sz : Nat} {v : Value} {n : Nat} {cs : List Value} {o : Option (Nat × Nat)} (h : Ow H n0 e sz v n cs o) : (∀ b ∈ obs o, n0 ≤ b) ∧ (∀ g ∈ ogs o, n0 ≤ g) ∧ (∀ b ∈ obs o, b < H.next) ∧ (∀ g ∈ ogs o, g < H.next) := by
  obtain ⟨_, _, ⟨_, _, rfl⟩ | ⟨b, g, rfl, h4, h5, h6, h7, _⟩⟩ := h
  · simp [obs, ogs]
  · simp [obs, ogs, h4, h5, h6, h7]
theorem Ow.app {H : AH} {n0 : Nat} {e : TypeId} {sz bytes n m : Nat} {v : Value} {cs new : List Value} {o : Option (Nat × Nat)} (h : Ow H n0 e sz v n cs o) (hm : 0 < m) (hz : 0 < sz) (hn : new.length = m * sz) (hb : (n + m) * bytes ≤ 140737488355328) (hl : n + m < 4611686018427387904) (h0 : n0 ≤ H.next) :
    ∃ v' H' o', H.app e sz bytes v m new = some (v', H') ∧ Ow H' n0 e sz v' (n + m) (cs ++ new) o' ∧ FrX (obs o) (ogs o) H H' ∧ (∀ b ∈ obs o', H.next ≤ b) ∧ (∀ g ∈ ogs o', g ∈ ogs o ∨ H.next ≤ g) := by
  obtain ⟨hc, hlt, ⟨rfl, rfl, rfl⟩ | ⟨b, g, rfl, hb0, hg0, hbl, hgl, rfl, ho⟩⟩ := h
  · have : cs = [] := List.length_eq_zero_iff.1 (by simpa using hc)
    subst this
    refine ⟨.slice (some ⟨H.next, 0, none⟩) (0 + m) unk, H.alloc (.row e new .loose H.next (H.ver H.next)), some (H.next, H.next), ?_, ⟨by simp [hn], by omega, .inr ⟨H.next, H.next, rfl, h0, h0, by simp, by simp, rfl, by simp, by omega⟩⟩, (Fr.alloc _ _).x _ _, by simp [obs], by simp [ogs]⟩
    simp only [AH.app]
    rw [if_neg (by omega), if_pos ⟨by simpa using hb, by omega, hz⟩]
    simp
  · have hm' : 0 < m * sz := Nat.mul_pos hm hz
    refine ⟨.slice (some ⟨H.next, 0, none⟩) (n + m) unk, (H.put b (.row e cs .shared g (H.ver g))).alloc (.row e (cs ++ new) .loose g (H.ver g)), some (H.next, g), ?_, ⟨by simp [hc, hn, Nat.add_mul], hl, .inr ⟨H.next, g, rfl, h0, hg0, by simp, by simp; omega, rfl, by simp, by omega⟩⟩, ⟨by simp, fun c hc hx => ?_, fun c _ _ => by simp⟩, by simp [obs], by simp [ogs]⟩
    · simp only [AH.app, ho.1]
      rw [if_neg (by omega), if_neg (fun h => h ⟨hb, hl, hz⟩), if_pos trivial, if_pos ⟨trivial, trivial⟩, if_neg (by omega), if_pos (by omega)]
      simp
    · rw [AH.obj_alloc, if_neg (by simp; omega), AH.obj_put, if_neg (by simpa [obs] using hx)]
theorem Ow.wr {H : AH} {n0 : Nat} {e : TypeId} {sz n : Nat} {v : Value} {cs : List Value} {o : Option (Nat × Nat)} (h : Ow H n0 e sz v n cs o) {off : Nat} {vs : List Value} (hne : vs ≠ []) (hf : off + vs.length ≤ cs.length) :
    ∃ b g H', o = some (b, g) ∧ v = .slice (some ⟨b, 0, none⟩) n unk ∧ H.wr b off vs = some H' ∧ Ow H' n0 e sz v n (splice cs off vs) o ∧ FrX (obs o) (ogs o) H H' ∧ H'.next = H.next := by
  obtain ⟨hc, hlt, ⟨rfl, rfl, rfl⟩ | ⟨b, g, rfl, hb0, hg0, hbl, hgl, rfl, ho⟩⟩ := h
  · have h1 : cs = [] := List.length_eq_zero_iff.1 (by simpa using hc)
    subst h1
    have h2 : off + vs.length ≤ 0 := hf
    exact absurd (List.length_eq_zero_iff.1 (by omega)) hne
  · refine ⟨b, g, (H.put b (.row e (splice cs off vs) .loose g (H.ver g + 1))).bump g (H.ver g + 1), rfl, rfl, ?_, ⟨by rw [splice_length hf, hc], hlt, .inr ⟨b, g, rfl, hb0, hg0, by simpa using hbl, by simpa using hgl, rfl, by simp, ho.2⟩⟩, ⟨by simp, fun c hc hx => ?_, fun c hc hx => ?_⟩, by simp⟩
    · unfold AH.wr
      rw [if_neg (by simpa using hne), ho.1]
      simp only [beq_self_eq_true, Bool.true_and, decide_eq_true_eq]
      rw [if_pos hf]
    · simp only [AH.obj_bump, AH.obj_put]
      rw [if_neg (by simpa [obs] using hx)]
    · simp only [AH.ver_bump, AH.ver_put]
      rw [if_neg (by simpa [ogs] using hx)]
section
variable {live : Option Nat} {n : Nat} {l : SL} {H : AH} {Q : Ex → SL → AH → Prop}
theorem WP.condT {x : Operand} {a b : PC} (hx : lookO V.nG l x = some (.bool true)) (h : WP V O live n a l H Q) : WP V O live n (.cond x a b) l H Q := .cond hx (fun _ => h) (fun e => nomatch e)
theorem WP.condF {x : Operand} {a b : PC} (hx : lookO V.nG l x = some (.bool false)) (h : WP V O live n b l H Q) : WP V O live n (.cond x a b) l H Q := .cond hx (fun e => nomatch e) (fun _ => h)
theorem WP.condT' {x : Operand} {a b : PC} {t : Bool} (hx : lookO V.nG l x = some (.bool t)) (ht : t = true) (h : WP V O live n a l H Q) : WP V O live n (.cond x a b) l H Q := .cond hx (fun _ => h) (fun e => by rw [ht] at e; cases e)
theorem WP.condF' {x : Operand} {a b : PC} {t : Bool} (hx : lookO V.nG l x = some (.bool t)) (ht : t = false) (h : WP V O live n b l H Q) : WP V O live n (.cond x a b) l H Q := .cond hx (fun e => by rw [ht] at e; cases e) (fun _ => h)
theorem WP.seqS {σ : Type} {a b : PC} (lit : σ → SL) (F : σ → AH → Prop) (h : WP V O live n a l H (ThenL (fun l' H' => ∃ s, F s H' ∧ Kn l' (lit s)) Q)) (k : ∀ s H', F s H' → WP V O live n b (lit s) H' Q) : WP V O live n (.seq a b) l H Q :=
  .seq (h.mono fun e l' H' hq => by
    cases e with
    | normal => obtain ⟨s, hf, hk⟩ := hq; exact (k s H' hf).sub hk.look
    | exit id => exact hq
    | ret => exact hq)
end
theorem W.loopH {live : Option Nat} {n : Nat} {σ : Type} {c : Code} {Q : Ex → SL → AH → Prop} (lit : σ → SL) (I : σ → AH → Prop) (μ : σ → Nat)
    (hI : ∀ s H, I s H → W V O live n c (lit s) H (ThenL (fun l' H' => ∃ s', I s' H' ∧ μ s' < μ s ∧ Kn l' (lit s')) Q)) {l : SL} {H : AH} (s0 : σ) (h0 : I s0 H) (hl : Kn l (lit s0)) : W V O live n (.loop c) l H Q := by
  have key : ∀ k s H, I s H → μ s < k → ∀ T, Has T (lit s) → Dom live T → ∃ N e T' H', (∀ m, N ≤ m → ∀ lf, N ≤ lf → ∀ d, N ≤ d → loopN (fun T H => codeL V (fO V O lf d) live none n lf c T H) m T H = some (e, T', H')) ∧ Dom live T' ∧ ∃ l', Has T' l' ∧ Q e l' H' := by
    intro k
    induction k with
    | zero => intro s H _ hk; omega
    | succ k ih =>
      intro s H hi hk T hT hd
      obtain ⟨N, e, T1, H1, h1, d1, l1, h2, h3⟩ := hI s H hi T hT hd
      cases e with
      | normal =>
        obtain ⟨s', i', m', kn'⟩ := h3
        obtain ⟨M, e, T2, H2, k1, k2⟩ := ih s' H1 i' (by omega) T1 (fun t v e => h2 t v (kn'.look t v e)) d1
        refine ⟨N + M + 1, e, T2, H2, fun m hm lf hlf d hdd => ?_, k2⟩
        obtain ⟨m, rfl⟩ : ∃ m', m = m' + 1 := ⟨m - 1, by omega⟩
        simp only [loopN]
        rw [h1 lf (by omega) d (by omega)]
        exact k1 m (by omega) lf (by omega) d (by omega)
      | exit id =>
        refine ⟨N + 1, _, T1, H1, fun m hm lf hlf d hdd => ?_, d1, l1, h2, h3⟩
        obtain ⟨m, rfl⟩ : ∃ m', m = m' + 1 := ⟨m - 1, by omega⟩
        simp only [loopN]
        rw [h1 lf (by omega) d (by omega)]
      | ret =>
        refine ⟨N + 1, _, T1, H1, fun m hm lf hlf d hdd => ?_, d1, l1, h2, h3⟩
        obtain ⟨m, rfl⟩ : ∃ m', m = m' + 1 := ⟨m - 1, by omega⟩
        simp only [loopN]
        rw [h1 lf (by omega) d (by omega)]
  intro T hT hd
  obtain ⟨N, e, T', H', h1, h2⟩ := key (μ s0 + 1) s0 H h0 (Nat.lt_succ_self _) T (fun t v e => hT t v (hl.look t v e)) hd
  exact ⟨N, e, T', H', fun lf hlf d hdd => by simp only [codeL]; exact h1 lf hlf lf hlf d hdd, h2⟩
theorem WP.loopH {live : Option Nat} {n : Nat} {l : SL} {H : AH} {Q : Ex → SL → AH → Prop} {σ : Type} {a : PC} (lit : σ → SL) (I : σ → AH → Prop) (μ : σ → Nat) (s0 : σ) (h0 : I s0 H) (hl : Kn l (lit s0))
    (hI : ∀ s H, I s H → WP V O live n a (lit s) H (ThenL (fun l' H' => ∃ s', I s' H' ∧ μ s' < μ s ∧ Kn l' (lit s')) Q)) : WP V O live n (.loop a) l H Q := fun c hc => by
  obtain ⟨a', rfl, k1⟩ := pcOf_cases hc
  exact .loopH lit I μ (fun s H hi => hI s H hi a' k1) s0 h0 hl
theorem Lc.of_eq {f : FuncId} {vs : List Value} {H H1 : AH} {v : Value} (h : ∃ u H', Lc V O f vs H u H' ∧ (u = v ∧ H' = H1)) : Lc V O f vs H v H1 := by
  obtain ⟨u, H', h, rfl, rfl⟩ := h; exact h
theorem Sl.at1 {H : AH} {v : Value} {n : Nat} {cs : List Value} (h : Sl H v 1 n cs) {t e : TypeId} {s b : Nat} {z : Value} (ht : V.E t = some ⟨.slice e, s, b, z⟩) {te : TI} (he : V.E e = some te) (hz : te.size = 1) {kd : IntKind} {i : Int} (h0 : 0 ≤ i) {c : Value} (hc : cs[i.toNat]? = some c) :
    ∃ b off, aIndex V.E t v (.int kd i) = some (.pointer (some ⟨b, off, none⟩)) ∧ Rd H b off 1 [c] := by
  have hlt := (List.getElem?_eq_some_iff.1 hc).1
  obtain ⟨b, off, h1, h2⟩ := h.at ht he hz (kd := kd) h0 (i := i) (by rw [h.1] at hlt; omega)
  refine ⟨b, off, h1, ?_⟩
  rw [Nat.mul_one, List.drop_eq_getElem_cons hlt] at h2
  have := (List.getElem?_eq_some_iff.1 hc).2
  simpa [this] using h2
theorem OneAt.toSl {H : AH} {e : TypeId} {cs : List Value} {cap : Nat} (h : cs.length < 4611686018427387904) : Sl (H.alloc (.row e cs .exact 0 0)) (.slice (some ⟨H.next, 0, none⟩) cs.length cap) 1 cs.length cs :=
  ⟨by simp, h, .inr ⟨H.next, 0, cap, rfl, fun _ => by simpa using Rd.exact (H := H.alloc (.row e cs .exact 0 0)) (b := H.next) (et := e) (cells := cs) (g := 0) (v := 0) (by simp) (by simp)⟩⟩
section
variable {g : Ft} {H : AH}
theorem op_alloc {t : TypeId} {te : TI} {cs : List Value} (he : V.E t = some te) (hc : te.zv.cells.toList = cs) : aopG V g H (.alloc t) = some (.pointer (some ⟨H.next, 0, none⟩), H.alloc (.row t cs .exact 0 0)) := by
  subst hc; simp only [aopG, he]
theorem op_store {t : TypeId} {te : TI} {a x : Operand} {b off : Nat} {v : Value} {H' : AH} (ha : g a = some (.pointer (some ⟨b, off, none⟩))) (hx : g x = some v) (he : V.E t = some te) (hs : v.cells.size = te.size) (h1 : v.cells.toList.all Value.oneCell' = true) (hw : H.wr b off v.cells.toList = some H') :
    aopG V g H (.store t a x) = some (undef, H') := by
  simp only [aopG, ha, hx, aStore, he]
  rw [if_pos ⟨hs, h1⟩, hw]; rfl
theorem op_makeSlice {l c : Operand} {t e : TypeId} {k k' : IntKind} {n m : Nat} {a b : Nat} {z : Value} {te : TI} (hl : g l = some (.int k n)) (hc : g c = some (.int k' m)) (ht : V.E t = some ⟨.slice e, a, b, z⟩) (he : V.E e = some te) (h1 : n ≤ m) (h2 : m * te.bytes ≤ 140737488355328) (h3 : m < 4611686018427387904) :
    aopG V g H (.makeSlice t l c) = some (.slice (some ⟨H.next, 0, none⟩) n m, H.alloc (.row e (azeros te.zv.cells.toList m) .exact 0 0)) := by
  simp only [aopG, hl, hc, aMakeSlice, ht, he]
  rw [if_pos ⟨by omega, by omega, h2, by omega⟩]; rfl
theorem bytes_of (l : List UInt8) : bytesOfInts (l.map fun b => (b.toNat : Int)) = ⟨⟨l⟩⟩ := by
  have key : ∀ (l : List UInt8) (r : ByteArray), (l.map fun b => (b.toNat : Int)).foldl (fun r n => r.push (UInt8.ofNat n.toNat)) r = ⟨⟨r.data.toList ++ l⟩⟩ := by
    intro l
    induction l with
    | nil => intro r; simp
    | cons a l ih =>
      intro r
      rw [List.map_cons, List.foldl_cons, ih]
      have : UInt8.ofNat ((a.toNat : Int).toNat) = a := by simp
      rw [this]
      simp [ByteArray.push]
  rw [bytesOfInts, key]; rfl
theorem intsOf_map (l : List UInt8) : intsOf (l.map fun b => Value.int .u8 b.toNat) = some (l.map fun b => (b.toNat : Int)) := by
  induction l with
  | nil => rfl
  | cons a l ih => rw [List.map_cons, intsOf, ih]; rfl
theorem op_bytesStr {x : Operand} {s d e : TypeId} {b off n cap : Nat} {l : List UInt8} {a1 b1 a2 b2 a3 b3 : Nat} {z1 z2 z3 : Value} (hx : g x = some (.slice (some ⟨b, off, none⟩) n cap)) (hs : V.E s = some ⟨.slice e, a1, b1, z1⟩) (hd : V.E d = some ⟨.string, a2, b2, z2⟩) (he : V.E e = some ⟨.int .u8, a3, b3, z3⟩) (h0 : 0 < n)
    (hr : Rd H b off n (l.map fun b => .int .u8 b.toNat)) : aopG V g H (.convert s d x) = some (.string ⟨⟨l⟩⟩, H) := by
  simp only [aopG, hx, aConvert, hs, hd, he]
  rw [if_neg (by omega), hr.rd]
  simp only [intsOf_map, bytes_of]
theorem op_sliceH {x hi : Operand} {t : TypeId} {s : ByteArray} {n b : Nat} {z : Value} {k : IntKind} {i : Int} (hx : g x = some (.string s)) (hi' : g hi = some (.int k i)) (ht : V.E t = some ⟨.string, n, b, z⟩) (h0 : 0 ≤ i) (h1 : i ≤ s.size) :
    aopG V g H (.slice t x none (some hi) none) = some (.string (s.extract 0 i.toNat), H) := by
  simp only [aopG, hx, gopt, hi', Option.map_some, aSlice, ht, optBound, bound]
  rw [if_pos ⟨h0, h1⟩]; rfl
end
theorem Ow.set {H : AH} {n0 : Nat} {e : TypeId} {sz n : Nat} {v : Value} {cs : List Value} {o : Option (Nat × Nat)} (h : Ow H n0 e sz v n cs o) {t : TypeId} {s b : Nat} {z : Value} (ht : V.E t = some ⟨.slice e, s, b, z⟩) {te : TI} (he : V.E e = some te) (hz : te.size = sz)
    {kd : IntKind} {i : Int} (h0 : 0 ≤ i) (hi : i < n) {vs : List Value} (hne : vs ≠ []) {k : Nat} (hk : k + vs.length ≤ sz) :
    ∃ b off H', aIndex V.E t v (.int kd i) = some (.pointer (some ⟨b, off, none⟩)) ∧ Rd H b off sz ((cs.drop (i.toNat * sz)).take sz) ∧ H.wr b (off + k) vs = some H' ∧ Ow H' n0 e sz v n (splice cs (i.toNat * sz + k) vs) o ∧ FrX (obs o) (ogs o) H H' ∧ H'.next = H.next := by
  have hc := h.1
  have hle : (i.toNat + 1) * sz ≤ n * sz := Nat.mul_le_mul_right sz (by omega)
  rw [Nat.add_mul, Nat.one_mul] at hle
  obtain ⟨b, off, h1, h2⟩ := h.sl.at ht he hz (kd := kd) h0 hi
  obtain ⟨b', g, H', e1, e2, e3, e4, e5, e6⟩ := h.wr (off := i.toNat * sz + k) hne (by omega)
  subst e2
  simp only [aIndex, ht, he, hz] at h1
  rw [if_pos ⟨h0, hi⟩] at h1
  simp only [Option.some.injEq, Value.pointer.injEq, Addr.mk.injEq] at h1
  obtain ⟨rfl, rfl, _⟩ := h1
  refine ⟨b', 0 + i.toNat * sz, H', ?_, h2, ?_, e4, e5, e6⟩
  · simp only [aIndex, ht, he, hz]
    rw [if_pos ⟨h0, hi⟩]
  · rw [Nat.zero_add]; exact e3
theorem Ow.appSl {H : AH} {n0 : Nat} {e : TypeId} {sz bytes n m : Nat} {v y : Value} {cs new : List Value} {o : Option (Nat × Nat)} (h : Ow H n0 e sz v n cs o) (hs : Sl H y sz m new) (hz : 0 < sz) (hb : (n + m) * bytes ≤ 140737488355328) (hl : n + m < 4611686018427387904) (h0 : n0 ≤ H.next)
    (h1 : new.all Value.oneCell' = true) {t u : TypeId} {a b a2 b2 : Nat} {z z2 : Value} {te : TI} (ht : V.E t = some ⟨.slice e, a, b, z⟩) (hu : V.E u = some ⟨.slice e, a2, b2, z2⟩) (he : V.E e = some te) (hsz : te.size = sz) (hby : te.bytes = bytes) :
    ∃ v' H' o', (∀ {g : Ft} {x w : Operand}, g x = some v → g w = some y → aopG V g H (.call ⟨.builtin .append, #[x, w], #[t, u]⟩) = some (v', H')) ∧ Ow H' n0 e sz v' (n + m) (cs ++ new) o' ∧ FrX (obs o) (ogs o) H H' ∧ (∀ b ∈ obs o', b ∈ obs o ∨ H.next ≤ b) ∧ (∀ g ∈ ogs o', g ∈ ogs o ∨ H.next ≤ g) := by
  subst hsz hby
  have hsrc : H.src te.size y m = some new ∧ srcLen y = some m := by
    obtain ⟨h1, h2, ⟨rfl, rfl⟩ | ⟨b, off, cap, rfl, h4⟩⟩ := hs
    · have : new = [] := List.length_eq_zero_iff.1 (by simpa using h1)
      subst this; exact ⟨rfl, rfl⟩
    · refine ⟨?_, rfl⟩
      unfold AH.src
      by_cases hm : m = 0
      · have : new = [] := List.length_eq_zero_iff.1 (by rw [h1, hm]; simp)
        subst this; simp [hm]
      · simp only [if_neg hm]
        exact (h4 (by omega)).rd
  by_cases hm : m = 0
  · subst hm
    have hnew : new = [] := List.length_eq_zero_iff.1 (by rw [hs.1]; simp)
    subst hnew
    refine ⟨v, H, o, fun {g x w} hx hw => ?_, by simpa using h, FrX.refl _ _ _, fun b hb => .inl hb, fun b hb => .inl hb⟩
    simp only [aopG, gvals, hx, hw, aBuiltin, ht, hu, he, hsrc.1, hsrc.2]
    obtain ⟨_, _, ⟨rfl, _, _⟩ | ⟨b, g, _, _, _, _, _, rfl, _⟩⟩ := h <;> simp [AH.app]
  · obtain ⟨v', H', o', q1, q2, q3, q4, q5⟩ := h.app (bytes := te.bytes) (m := m) (new := new) (by omega) hz hs.1 hb hl h0
    refine ⟨v', H', o', fun {g x w} hx hw => ?_, q2, q3, fun b hb => .inr (q4 b hb), q5⟩
    simp only [aopG, gvals, hx, hw, aBuiltin, ht, hu, he, hsrc.1, hsrc.2, h1, if_true, q1]
theorem aInt_addW (P : Program) (t : TypeId) {k : IntKind} {a b c : Int} (h : k.wrap (a + b) = c) : aInt P .add t k a k b = some (.int k c) := by simp only [aInt, if_true, wr_eq, h]
theorem aInt_subW (P : Program) (t : TypeId) {k : IntKind} {a b c : Int} (h : k.wrap (a - b) = c) : aInt P .sub t k a k b = some (.int k c) := by simp only [aInt, if_true, wr_eq, h]
theorem aInt_mulW (P : Program) (t : TypeId) {k : IntKind} {a b c : Int} (h : k.wrap (a * b) = c) : aInt P .mul t k a k b = some (.int k c) := by simp only [aInt, if_true, wr_eq, h]
theorem aInt_rem (P : Program) (t : TypeId) {k : IntKind} {a b : Int} (hb : b ≠ 0) : aInt P .rem t k a k b = some (.int k (a.tmod b)) := by
  have e : aInt P .rem t k a k b = pureRun P (binOp .rem t (.int k a) (.int k b)) := rfl
  rw [e]
  unfold binOp
  simp only [ne_eq, not_true_eq_false, if_false, Op.intDiv, if_neg hb]
  rfl
theorem aInt_quo (P : Program) (t : TypeId) {k : IntKind} {a b c : Int} (hb : b ≠ 0) (h : k.wrap (a.tdiv b) = c) : aInt P .quo t k a k b = some (.int k c) := by
  have e : aInt P .quo t k a k b = pureRun P (binOp .quo t (.int k a) (.int k b)) := rfl
  rw [e]
  unfold binOp
  simp only [ne_eq, not_true_eq_false, if_false, Op.intDiv, if_neg hb, h]
  rfl
theorem pureRun_und {α : Type} {P : Program} {t : TypeId} {d : TypeDesc} (h : P.underlying t = some d) (f : TypeDesc → Sem α) : pureRun P (underlying t >>= f) = pureRun P (f d) := by
  have e : pureRun P (underlying t >>= f) = pureRun P ((match P.underlying t with | some d => pure d | none => stuck "no such type" : Sem TypeDesc) >>= f) := rfl
  rw [e, h]; rfl
theorem op_conv {V : Env} {g : Ft} {H : AH} {s d : TypeId} {x : Operand} {k k' : IntKind} {n m : Int} {ds : TypeDesc} (hs : V.P.underlying s = some ds) (hd : V.P.underlying d = some (.int k)) (hx : g x = some (.int k' n)) (h : k.wrap n = m) : aopG V g H (.convert s d x) = some (.int k m, H) := by
  have e : pureRun V.P (convert s d (.int k' n)) = some (.int k m) := by
    unfold convert
    rw [pureRun_und hs, pureRun_und hd, ← h]; rfl
  have e2 : aConvert V.P V.E H s d (.int k' n) = (aPure V.P [.int k' n] (convert s d (.int k' n))).map (·, H) := by unfold aConvert; rfl
  simp only [aopG, hx, e2, aPure, e]
  rfl
def Bx (H : AH) (b : Nat) (et : TypeId) (cs : List Value) : Prop := b < H.next ∧ H.obj b = .row et cs .exact 0 0
section
variable {H H' : AH} {b : Nat} {et : TypeId} {cs : List Value}
theorem Bx.new : Bx (H.alloc (.row et cs .exact 0 0)) H.next et cs := ⟨by simp, by simp⟩
theorem Bx.rd (h : Bx H b et cs) {n : Nat} (hn : cs.length = n) : Rd H b 0 n cs := by subst hn; exact Rd.exact h.1 h.2
theorem Bx.frX (h : Bx H b et cs) {bs gs : List Nat} (k : FrX bs gs H H') (hb : b ∉ bs) : Bx H' b et cs := ⟨Nat.lt_of_lt_of_le h.1 k.1, (k.2.1 b h.1 hb).trans h.2⟩
theorem Bx.fr (h : Bx H b et cs) (k : Fr H H') : Bx H' b et cs := h.frX (k.x [] []) (by simp)
theorem Bx.wr (h : Bx H b et cs) {off : Nat} {vs : List Value} (hne : vs ≠ []) (hf : off + vs.length ≤ cs.length) :
    ∃ H', H.wr b off vs = some H' ∧ Bx H' b et (splice cs off vs) ∧ FrX [b] [] H H' ∧ H'.next = H.next := by
  refine ⟨H.put b (.row et (splice cs off vs) .exact 0 0), ?_, ⟨by simpa using h.1, by simp⟩, ⟨by simp, fun c _ hx => by rw [AH.obj_put, if_neg (by simpa using hx)], fun c _ _ => by simp⟩, by simp⟩
  unfold AH.wr
  rw [if_neg (by simpa using hne), h.2]
  simp only
  rw [if_pos hf]
end
end Go.Ev

/-
  EV, universal use, part k: flat structs compared.
-/
namespace Go.Ev
open Go
theorem pureRun_bind {α β : Type} {P : Program} : ∀ {s : Sem α} {a : α}, pureRun P s = some a → ∀ (f : α → Sem β), pureRun P (s >>= f) = pureRun P (f a) := by
  intro s
  induction s with
  | pure b => intro a h f; cases h; rfl
  | program k ih => intro a h f; exact ih P (a := a) h f
  | mark m k ih => intro a h f; exact ih (a := a) h f
  | _ => intro a h f; cases h
inductive FlatEq (P : Program) (d : Nat) (xs ys : Array Value) : List Field → List Bool → Prop
  | nil : FlatEq P d xs ys [] []
  | cons {f : Field} {l : List Field} {x y : Value} {b : Bool} {bs : List Bool} (hn : f.name ≠ "_") (hx : pureRun P (part f.type xs f.offset) = some x) (hy : pureRun P (part f.type ys f.offset) = some y)
      (he : pureRun P (Op.equalIn d f.type x y) = some b) (t : FlatEq P d xs ys l bs) : FlatEq P d xs ys (f :: l) (b :: bs)
theorem FlatEq.run {P : Program} {d : Nat} {xs ys : Array Value} {l : List Field} {bs : List Bool} (h : FlatEq P d xs ys l bs) : ∃ r, pureRun P (forIn l (none, ()) fun f __s =>
            if f.name ≠ "_" then do
              let __do_lift ← part f.type xs f.offset
              let __do_lift_1 ← part f.type ys f.offset
              let __do_lift ← Op.equalIn d f.type __do_lift __do_lift_1
              if (!__do_lift) = true then pure (ForInStep.done (some false, ())) else pure (ForInStep.yield (none, ()))
            else pure (ForInStep.yield (none, ()))) = some r ∧ pureRun P (match r.fst with
        | some r => pure r
        | none => pure true : Sem Bool) = some (bs.all id) := by
  induction h with
  | nil => exact ⟨_, rfl, rfl⟩
  | @cons f l x y b bs hn hx hy he _ ih =>
    rw [List.forIn_cons, if_pos hn]
    have e : pureRun P (do
              let __do_lift ← part f.type xs f.offset
              let __do_lift_1 ← part f.type ys f.offset
              let __do_lift ← Op.equalIn d f.type __do_lift __do_lift_1
              if (!__do_lift) = true then pure (ForInStep.done (some false, ())) else pure (ForInStep.yield (none, ())) : Sem (ForInStep (Option Bool × Unit))) = some (if (!b) = true then ForInStep.done (some false, ()) else ForInStep.yield (none, ())) := by
      rw [pureRun_bind hx, pureRun_bind hy, pureRun_bind he]
      cases b <;> rfl
    rw [pureRun_bind e]
    cases b
    · exact ⟨_, rfl, rfl⟩
    · obtain ⟨r, h1, h2⟩ := ih
      exact ⟨r, h1, h2⟩
theorem equal_struct {P : Program} {d : Nat} {t : TypeId} {xs ys : Array Value} {fs : Array Field} {bs : List Bool} (hu : P.underlying t = some (.struct fs)) (hs : P.stoodInHeld t = false) (h : FlatEq P d xs ys fs.toList bs) : pureRun P (Op.equalIn (d + 1) t (.agg xs) (.agg ys)) = some (bs.all id) := by
  rw [Op.equalIn, pureRun_und hu]
  show pureRun P (do
      if (← program).stoodInHeld t then
        unsupported (.noEntry "binop/eql.a struct with addresses of a package that the model stands in for")
      for f in fs do
        if f.name ≠ "_" then
          if !(← Op.equalIn d f.type (← part f.type xs f.offset) (← part f.type ys f.offset)) then return false
      pure true) = some (bs.all id)
  have hp : pureRun P program = some P := rfl
  rw [pureRun_bind hp, hs]
  simp only [Bool.false_eq_true, if_false]
  rw [← Array.forIn_toList]
  obtain ⟨r, h1, h2⟩ := h.run
  rw [pureRun_bind h1]
  obtain ⟨r1, u⟩ := r
  cases r1 <;> exact h2
theorem equal_int {P : Program} {d : Nat} {t : TypeId} {k k' : IntKind} {a b : Int} (hu : P.underlying t = some (.int k')) : pureRun P (Op.equalIn (d + 1) t (.int k a) (.int k b)) = some (a == b) := by
  rw [Op.equalIn, pureRun_und hu]
  show pureRun P (if k = k then pure (a == b) else stuck _) = _
  rw [if_pos rfl]; rfl
theorem equal_str {P : Program} {d : Nat} {t : TypeId} {a b : ByteArray} (hu : P.underlying t = some .string) : pureRun P (Op.equalIn (d + 1) t (.string a) (.string b)) = some (a.data.toList == b.data.toList) := by
  rw [Op.equalIn, pureRun_und hu]
  have : (a == b) = (a.data.toList == b.data.toList) := by
    have e : (a == b) = (a.data == b.data) := by cases a; cases b; rfl
    rw [e, Bool.eq_iff_iff, beq_iff_eq, beq_iff_eq]
    exact ⟨fun h => by rw [h], fun h => Array.ext' h⟩
  rw [← this]; rfl
theorem equal_bool {P : Program} {d : Nat} {t : TypeId} {a b : Bool} (hu : P.underlying t = some .bool) : pureRun P (Op.equalIn (d + 1) t (.bool a) (.bool b)) = some (a == b) := by
  rw [Op.equalIn, pureRun_und hu]; rfl
theorem part_one {P : Program} {t : TypeId} {ds : TypeDesc} {cs : Array Value} {i : Nat} {v : Value} (hu : P.underlying t = some ds) (hd : Desc.agg ds = false) (hv : cs[i]? = some v) : pureRun P (part t cs i) = some v := by
  unfold part
  have : pureRun P (isAgg t) = some false := by
    unfold isAgg
    rw [pureRun_und hu]
    cases ds <;> first | rfl | cases hd
  rw [pureRun_bind this, hv]; rfl
section
variable {V : Env} {g : Ft} {H : AH}
theorem aBin_eqAgg {t : TypeId} {ox oy : Operand} {xs ys : Array Value} {b : Bool} (hx : constOk (.agg xs) = true) (hy : constOk (.agg ys) = true) (hg : V.P.eqGuardType V.P.depth t = false) (h : pureRun V.P (Op.equal t (.agg xs) (.agg ys)) = some b) :
    aBin V.P V.E .eql t ox oy (.agg xs) (.agg ys) = some (.bool b) ∧ aBin V.P V.E .neq t ox oy (.agg xs) (.agg ys) = some (.bool !b) := by
  have gd : ∀ op, pureRun V.P (eqGuard op t ox oy (.agg xs) (.agg ys)) = some () := fun op => by
    have hp : pureRun V.P program = some V.P := rfl
    cases op <;> first
      | rfl
      | (show pureRun V.P (program >>= fun p => program >>= fun q => if (!p.eqGuardType q.depth t) = true then pure () else _) = _
         rw [pureRun_bind hp, pureRun_bind hp, hg]; rfl)
  constructor
  · unfold aBin
    simp only [hx, hy, Bool.and_self, if_true]
    rw [pureRun_bind (gd _)]
    have : pureRun V.P (binOp .eql t (.agg xs) (.agg ys)) = some (.bool b) := by
      show pureRun V.P (do pure (Value.bool (← Op.equal t (.agg xs) (.agg ys)))) = _
      rw [pureRun_bind h]; rfl
    rw [this]; rfl
  · unfold aBin
    simp only [hx, hy, Bool.and_self, if_true]
    rw [pureRun_bind (gd _)]
    have : pureRun V.P (binOp .neq t (.agg xs) (.agg ys)) = some (.bool !b) := by
      show pureRun V.P (do pure (Value.bool !(← Op.equal t (.agg xs) (.agg ys)))) = _
      rw [pureRun_bind h]; rfl
    rw [this]; rfl
theorem op_bin {op : BinOp} {x y : Operand} {t u : TypeId} {a b v : Value} (hx : g x = some a) (hy : g y = some b) (h : aBin V.P V.E op t x y a b = some v) : aopG V g H (.binOp op t x y u) = some (v, H) := by
  simp only [aopG, hx, hy, h, Option.map_some]
theorem aBin_eqB {P : Program} {E : TypeId → Option TI} {t : TypeId} {ox oy : Operand} {a b : Bool} (hu : P.underlying t = some .bool) : aBin P E .eql t ox oy (.bool a) (.bool b) = some (.bool (a == b)) := by
  unfold aBin
  have h : pureRun P (Op.equal t (.bool a) (.bool b)) = some (a == b) := equal_bool (d := 9999) hu
  have : pureRun P (do eqGuard .eql t ox oy (.bool a) (.bool b); binOp .eql t (.bool a) (.bool b)) = some (.bool (a == b)) := by
    have gd : pureRun P (eqGuard .eql t ox oy (.bool a) (.bool b)) = some () := rfl
    rw [pureRun_bind gd]
    show pureRun P (do pure (Value.bool (← Op.equal t (.bool a) (.bool b)))) = _
    rw [pureRun_bind h]; rfl
  simp only [this]; rfl
end
end Go.Ev

/-
  EV, universal use, part l: the steps of a walk, by short names.
-/
namespace Go.Ev
open Go.RowKit
section
variable {V : Env} {O : Orc} {live : Option Nat} {n : Nat} {l : SL} {H : AH} {Q : Ex → SL → AH → Prop} {a b : PC} {id : Nat} {is : List LI} {outs : List (Tmp × Nat)} {E : List Value} {K : List Value → AH → Prop} {o : Op} {x y z : Operand} {w t : Bool} {u v : Value}
theorem zSeq (h : WP V O live n a l H (ThenL (fun l1 H1 => WP V O live n b l1 H1 Q) Q)) : WP V O live n (.seq a b) l H Q := .seq h
theorem zReg (h : WL V O is [] l H fun E H' => ∃ l', outsL E outs l = some l' ∧ Q .normal l' H') : WP V O live n (.reg is outs) l H Q := .reg h
theorem zBlk (h : WP V O live n a l H fun e l' H' => Q (e.out id) l' H') : WP V O live n (.block id a) l H Q := .block h
theorem zSkp (h : Q .normal l H) : WP V O live n .skip l H Q := .skip h
theorem zExt (h : Q (.exit id) l H) : WP V O live n (.exit id) l H Q := .exit h
theorem zNil {l' : SL} (h : outsL E outs l = some l') (k : Q .normal l' H) : WL V O [] E l H fun E H' => ∃ l', outsL E outs l = some l' ∧ Q .normal l' H' := .nil ⟨l', h, k⟩
theorem zGet {t : Tmp} (hv : look l t = some v) (h : WL V O is (v :: E) l H K) : WL V O (.get t :: is) E l H K := .get hv h
theorem zOn (hx : gS V.nG E l x = some (.bool t)) (hb : t = w) (h : WL V O (.run o none :: is) E l H K) : WL V O (.run o (some (x, w)) :: is) E l H K := .on hx hb h
theorem zOff (hx : gS V.nG E l x = some (.bool t)) (hb : t = !w) (h : WL V O is (undef :: E) l H K) : WL V O (.run o (some (x, w)) :: is) E l H K := .off hx hb h
theorem zU (hx : gS V.nG E l x = some undef) (h : WL V O is (undef :: E) l H K) : WL V O (.run o (some (x, w)) :: is) E l H K := .offU hx h
theorem zGd (hx : gS V.nG E l x = some (.bool t)) (h1 : t = w → WL V O (.run o none :: is) E l H K) (h2 : t = !w → WL V O is (undef :: E) l H K) : WL V O (.run o (some (x, w)) :: is) E l H K := .guard hx h1 h2
theorem zMov (hx : gS V.nG E l x = some v) (h : WL V O is (v :: E) l H K) : WL V O (.run (.move x) none :: is) E l H K := .op (by simp only [aopG, hx, Option.map_some]) h
theorem zAsg (hx : gS V.nG E l x = some v) (h : WL V O is (v :: E) l H K) : WL V O (.run (.assign x) none :: is) E l H K := .op (by simp only [aopG, hx, Option.map_some]) h
theorem zXtr {i : Nat} (hx : aopG V (gS V.nG E l) H (.extract x i) = some (v, H)) (h : WL V O is (v :: E) l H K) : WL V O (.run (.extract x i) none :: is) E l H K := .op hx h
theorem zPT (hc : gS V.nG E l x = some (.bool t)) (hb : t = true) (hx : gS V.nG E l y = some v) (h : WL V O is (v :: E) l H K) : WL V O (.run (.pick x y z) none :: is) E l H K := .op (op_pickT hc hb hx) h
theorem zPF (hc : gS V.nG E l x = some (.bool t)) (hb : t = false) (hx : gS V.nG E l z = some v) (h : WL V O is (v :: E) l H K) : WL V O (.run (.pick x y z) none :: is) E l H K := .op (op_pickF hc hb hx) h
section
variable {ty ty2 : TypeId} {k : IntKind} {i j : Int} (hx : gS V.nG E l x = some (.int k i)) (hy : gS V.nG E l y = some (.int k j))
include hx hy
theorem zLss (h : WL V O is (.bool (decide (i < j)) :: E) l H K) : WL V O (.run (.binOp .lss ty x y ty2) none :: is) E l H K := .op (op_int hx hy (aInt_lss _ _)) h
theorem zLeq (h : WL V O is (.bool (decide (i ≤ j)) :: E) l H K) : WL V O (.run (.binOp .leq ty x y ty2) none :: is) E l H K := .op (op_int hx hy (aInt_leq _ _)) h
theorem zGtr (h : WL V O is (.bool (decide (i > j)) :: E) l H K) : WL V O (.run (.binOp .gtr ty x y ty2) none :: is) E l H K := .op (op_int hx hy (aInt_gtr _ _)) h
theorem zGeq (h : WL V O is (.bool (decide (i ≥ j)) :: E) l H K) : WL V O (.run (.binOp .geq ty x y ty2) none :: is) E l H K := .op (op_int hx hy (aInt_geq _ _)) h
theorem zEql (h : WL V O is (.bool (i == j) :: E) l H K) : WL V O (.run (.binOp .eql ty x y ty2) none :: is) E l H K := .op (op_int hx hy (aInt_eql _ _)) h
theorem zNeq (h : WL V O is (.bool (i != j) :: E) l H K) : WL V O (.run (.binOp .neq ty x y ty2) none :: is) E l H K := .op (op_int hx hy (aInt_neq _ _)) h
end
theorem zAdd {ty ty2 : TypeId} {i j : Int} (hx : gS V.nG E l x = some (.int .i64 i)) (hy : gS V.nG E l y = some (.int .i64 j)) (h1 : -9223372036854775808 ≤ i + j ∧ i + j ≤ 9223372036854775807) (h : WL V O is (.int .i64 (i + j) :: E) l H K) : WL V O (.run (.binOp .add ty x y ty2) none :: is) E l H K := .op (op_int hx hy (aInt_add _ _ h1.1 h1.2)) h
theorem zSub {ty ty2 : TypeId} {i j : Int} (hx : gS V.nG E l x = some (.int .i64 i)) (hy : gS V.nG E l y = some (.int .i64 j)) (h1 : -9223372036854775808 ≤ i - j ∧ i - j ≤ 9223372036854775807) (h : WL V O is (.int .i64 (i - j) :: E) l H K) : WL V O (.run (.binOp .sub ty x y ty2) none :: is) E l H K := .op (op_int hx hy (aInt_sub _ _ h1.1 h1.2)) h
theorem zLenS {ty : TypeId} {s : ByteArray} {n b : Nat} {z : Value} (hx : gS V.nG E l x = some (.string s)) (ht : V.E ty = some ⟨.string, n, b, z⟩) (h : WL V O is (.int .i64 s.size :: E) l H K) : WL V O (.run (.call ⟨.builtin .len, #[x], #[ty]⟩) none :: is) E l H K := .op (op_lenS hx ht) h
theorem zLen {ty : TypeId} (hx : gS V.nG E l x = some u) (h0 : aLen V.E H ty u = some v) (h : WL V O is (v :: E) l H K) : WL V O (.run (.call ⟨.builtin .len, #[x], #[ty]⟩) none :: is) E l H K := .op (op_len hx h0) h
theorem zNot {ty : TypeId} (hx : gS V.nG E l x = some (.bool t)) (h : WL V O is (.bool (!t) :: E) l H K) : WL V O (.run (.unOp .not ty x) none :: is) E l H K := .op (op_not hx) h
theorem zEqS {ty ty2 : TypeId} {s r : ByteArray} (hx : gS V.nG E l x = some (.string s)) (hy : gS V.nG E l y = some (.string r)) (h : WL V O is (.bool (s.data.toList == r.data.toList) :: E) l H K) : WL V O (.run (.binOp .eql ty x y ty2) none :: is) E l H K := .op (op_eqS hx hy) h
theorem zNeS {ty ty2 : TypeId} {s r : ByteArray} (hx : gS V.nG E l x = some (.string s)) (hy : gS V.nG E l y = some (.string r)) (h : WL V O is (.bool (!(s.data.toList == r.data.toList)) :: E) l H K) : WL V O (.run (.binOp .neq ty x y ty2) none :: is) E l H K := .op (op_neS hx hy) h
theorem zIdx {ty : TypeId} {p : Value} (hx : gS V.nG E l x = some u) (hi : gS V.nG E l y = some v) (h0 : aIndex V.E ty u v = some p) (h : WL V O is (p :: E) l H K) : WL V O (.run (.indexAddr ty x y) none :: is) E l H K := .op (op_indexAddr hx hi h0) h
theorem zLd {ty : TypeId} (hx : gS V.nG E l x = some u) (h0 : aLoad V.E H ty u = some v) (h : WL V O is (v :: E) l H K) : WL V O (.run (.load ty x) none :: is) E l H K := .op (op_load hx h0) h
theorem zFld {ty : TypeId} {f : Nat} (hx : gS V.nG E l x = some u) (h0 : aField V.E ty f u = some v) (h : WL V O is (v :: E) l H K) : WL V O (.run (.fieldAddr ty x f) none :: is) E l H K := .op (op_fieldAddr hx h0) h
theorem zT (hx : lookO V.nG l x = some (.bool t)) (ht : t = true) (h : WP V O live n a l H Q) : WP V O live n (.cond x a b) l H Q := .condT' hx ht h
theorem zF (hx : lookO V.nG l x = some (.bool t)) (ht : t = false) (h : WP V O live n b l H Q) : WP V O live n (.cond x a b) l H Q := .condF' hx ht h
theorem zC (hx : lookO V.nG l x = some (.bool t)) (h1 : t = true → WP V O live n a l H Q) (h2 : t = false → WP V O live n b l H Q) : WP V O live n (.cond x a b) l H Q := .cond hx h1 h2
end
end Go.Ev

/-
  EV, universal use, part m: a function whose answer leads nowhere, and that has turned nothing: the heap is as it was.
-/
namespace Go.Ev
open Go.RowKit
theorem VRel.back {ι ι' : Emb} (hi : ι.le ι') {x y : Value} (h : VRel ι' x y) : ∀ {y0 : Value}, VRel ι x y0 → VRel ι x y := by
  have eqv : ∀ {b : Nat} {l l' : ILoc}, ι b = some l → ι' b = some l' → l' = l := fun h h' => by
    have := hi _ _ h
    rw [h'] at this; cases this; rfl
  induction h with
  | bool b => intro _ _; exact .bool b
  | int k n => intro _ _; exact .int k n
  | float k n => intro _ _; exact .float k n
  | string s => intro _ _; exact .string s
  | ptrNil => intro _ _; exact .ptrNil
  | ptr h => intro y0 h0; cases h0 with | ptr h1 => obtain rfl := eqv h1 h; exact .ptr h1
  | sliceNil => intro _ _; exact .sliceNil
  | slice h hc hl =>
    intro y0 h0
    cases h0 with
    | slice h1 _ _ => obtain rfl := eqv h1 h; exact .slice h1 hc hl
    | sliceUnk h1 _ _ _ => obtain rfl := eqv h1 h; exact .slice h1 hc hl
    | sliceEnd _ h1 _ => obtain rfl := eqv h1 h; exact .slice h1 hc hl
  | sliceUnk h hl hs he =>
    intro y0 h0
    cases h0 with
    | slice h1 _ _ => obtain rfl := eqv h1 h; exact .sliceUnk h1 hl hs he
    | sliceUnk h1 _ _ _ => obtain rfl := eqv h1 h; exact .sliceUnk h1 hl hs he
    | sliceEnd _ h1 _ => obtain rfl := eqv h1 h; exact .sliceUnk h1 hl hs he
  | sliceEnd a h hs =>
    intro y0 h0
    cases h0 with
    | slice h1 _ _ => obtain rfl := eqv h1 h; exact .sliceEnd a h1 hs
    | sliceUnk h1 _ _ _ => obtain rfl := eqv h1 h; exact .sliceEnd a h1 hs
    | sliceEnd _ h1 _ => obtain rfl := eqv h1 h; exact .sliceEnd a h1 hs
  | mapNil => intro _ _; exact .mapNil
  | map h => intro y0 h0; cases h0 with | map h1 => obtain rfl := eqv h1 h; exact .map h1
  | func hx hy h k ih ik =>
    intro y0 h0
    cases h0 with
    | func hx0 hy0 h0 k0 => exact .func hx hy (fun i a b => ih i a b (h0 i a (by omega))) (fun i a b => ik i a b (k0 i a (by omega)))
  | yield h => intro y0 h0; cases h0 with | yield h1 => obtain rfl := eqv h1 h; exact .yield h1
  | nilFunc => intro _ _; exact .nilFunc
  | iface _ ih => intro y0 h0; cases h0 with | iface h1 => exact .iface (ih h1)
  | nilIface => intro _ _; exact .nilIface
  | agg hx h ih => intro y0 h0; cases h0 with | agg hx0 h0 => exact .agg hx fun i a b => ih i a b (h0 i a (by omega))
  | tuple hx h ih => intro y0 h0; cases h0 with | tuple hx0 h0 => exact .tuple hx fun i a b => ih i a b (h0 i a (by omega))
theorem OOk.back {P : Program} {B0 : Nat} {ι ι' : Emb} {w w' : World} {l : ILoc} {o : AObj} (hi : ι.le ι') (h : OOk P B0 ι' w' l o) (h0 : OOk P B0 ι w l o) : OOk P B0 ι w' l o := by
  cases o with
  | row et cells st g v =>
    obtain ⟨⟨cs, t, fr, h1, h2, h3, h4⟩, hf, he, hb, hr, hx⟩ := h
    obtain ⟨⟨_, _, _, _, _, k3, _⟩, _⟩ := h0
    exact ⟨⟨cs, t, fr, h1, h2, fun i x hx => by
      obtain ⟨y, a, b⟩ := h3 i x hx
      obtain ⟨y0, _, b0⟩ := k3 i x hx
      exact ⟨y, a, b.back hi b0⟩, h4⟩, hf, he, hb, hr, hx⟩
  | map es =>
    obtain ⟨⟨mes, clock, h1, h2, h3⟩, hb⟩ := h
    obtain ⟨⟨_, _, _, _, k3⟩, _⟩ := h0
    exact ⟨⟨mes, clock, h1, h2, fun i k v hx => by
      obtain ⟨e, a, b, c, d⟩ := h3 i k v hx
      obtain ⟨_, _, _, _, d0⟩ := k3 i k v hx
      exact ⟨e, a, b, c, d.back hi d0⟩⟩, hb⟩
  | strIter s pos => exact h
  | loop st pend n T ps assign body =>
    obtain ⟨h0', f, t, d, h1, h2, h3⟩ := h
    obtain ⟨_, _, _, _, _, _, k3⟩ := h0
    exact ⟨h0', f, t, d, h1, h2, fun t v e => (h3 t v e).back hi (k3 t v e)⟩
  | dead => trivial
theorem alive_fr {P : Program} {B0 : Nat} {ι : Emb} {H H' : AH} {w : World} (hR : HRel P B0 ι H w) (hf : Fr H H') {b : Nat} {l : ILoc} (hb : ι b = some l) : H'.alive (H.obj b) = H.alive (H.obj b) := by
  cases ho : H.obj b with
  | row et cells st g v =>
    have := hR.grp b l et cells st g v hb ho
    cases st <;> simp [AH.alive, hf.2.2 g this.1]
  | _ => rfl
theorem Sound.keep {V : Env} {f : FuncId} {vs : List Value} {H H' : AH} {v : Value} (h : Sound V (.fn f) vs H v H') (hf : Fr H H') (hv : constOk v = true) : Sound V (.fn f) vs H v H := fun B0 ι w vs' hG hR hL => by
  refine (h B0 ι w vs' hG hR hL).mono fun e w' ⟨v', ι', he, hr, hs⟩ => ⟨v, ι, by rw [he, hr.constOk_eq hv], VRel.of_constOk hv, ?_⟩
  have hrel : HRel V.P B0 ι H w' :=
    { base := Nat.le_trans hR.base hs.size
      dom := hR.dom
      obj := fun b l hb ha => by
        have hlt := hR.dom b l hb
        have h2 := hs.rel.obj b l (hs.le b l hb) (by rw [hf.2.1 b hlt, alive_fr hR hf hb]; exact ha)
        rw [hf.2.1 b hlt] at h2
        exact h2.back hs.le (hR.obj b l hb ha)
      sep := hR.sep
      grp := hR.grp }
  exact
    { le := Emb.le_refl _, new := fun _ _ h => .inl h, next := Nat.le_refl _, rel := hrel, size := hs.size, frame := hs.frame, low := hs.low,
      fresh := fun b l h k => (by rw [h] at k; cases k), old := fun _ _ _ h => h, loc := fun _ _ _ => rfl, os := hs.os, tape := hs.tape, output := hs.output }
end Go.Ev

/-
  EV, universal use, part p: maps keyed by whole numbers; slices with room behind their end.
-/
namespace Go.Ev
open Go.RowKit
def MI (H : AH) (b : Nat) (f : Int → Option Value) : Prop :=
  b < H.next ∧ ∃ es : List (Int × Value), H.obj b = .map (es.map fun x => (.int .i64 x.1, x.2)) ∧ ∀ k, (es.find? (·.1 == k)).map (·.2) = f k
theorem MI.new {H : AH} : MI (H.alloc (.map [])) H.next fun _ => none := ⟨by simp, [], by simp, fun _ => rfl⟩
theorem MI.frX {H H' : AH} {b : Nat} {f : Int → Option Value} (h : MI H b f) {bs gs : List Nat} (k : FrX bs gs H H') (hb : b ∉ bs) : MI H' b f := by
  obtain ⟨h1, es, h2, h3⟩ := h
  exact ⟨Nat.lt_of_lt_of_le h1 k.1, es, (k.2.1 b h1 hb).trans h2, h3⟩
theorem MI.fr {H H' : AH} {b : Nat} {f : Int → Option Value} (h : MI H b f) (k : Fr H H') : MI H' b f := h.frX (k.x [] []) (by simp)
theorem MI.of_eq {H : AH} {b : Nat} {f g : Int → Option Value} (h : MI H b f) (e : ∀ k, f k = g k) : MI H b g := by
  obtain ⟨h1, es, h2, h3⟩ := h
  exact ⟨h1, es, h2, fun k => (h3 k).trans (e k)⟩
theorem findA_cons (k a : Int) (v : Value) (es : List (Value × Value)) (i : Nat) : findA (.int .i64 k) ((.int .i64 a, v) :: es) i = if k = a then some (i, v) else findA (.int .i64 k) es (i + 1) := by
  have e0 : findA (.int .i64 k) ((.int .i64 a, v) :: es) i = if (k == a) = true then some (i, v) else findA (.int .i64 k) es (i + 1) := rfl
  rw [e0]
  by_cases e : k = a
  · subst e; simp
  · simp [e]
theorem findA_int (k : Int) : ∀ (es : List (Int × Value)) (i : Nat), (findA (.int .i64 k) (es.map fun x => (.int .i64 x.1, x.2)) i).map (·.2) = (es.find? (·.1 == k)).map (·.2)
  | [], _ => rfl
  | (a, v) :: es, i => by
    rw [List.map_cons, findA_cons, List.find?_cons]
    by_cases e : k = a
    · subst e; simp
    · have h2 : (a == k) = false := by simpa using Ne.symm e
      rw [if_neg e]
      simp only [h2]
      exact findA_int k es (i + 1)
theorem findA_at (k : Int) : ∀ (es : List (Int × Value)) (i j : Nat) (v : Value), findA (.int .i64 k) (es.map fun x => (.int .i64 x.1, x.2)) i = some (j, v) → i ≤ j ∧ j - i < es.length ∧ ∀ w, (∀ x, ((es.set (j - i) (k, w)).find? (·.1 == x)).map (·.2) = if x = k then some w else (es.find? (·.1 == x)).map (·.2))
  | [], _, _, _, h => by cases h
  | (a, u) :: es, i, j, v, h => by
    rw [List.map_cons, findA_cons] at h
    by_cases e : k = a
    · subst e
      rw [if_pos rfl, Option.some.injEq, Prod.mk.injEq] at h
      obtain ⟨rfl, rfl⟩ := h
      refine ⟨Nat.le_refl _, by simp, fun w x => ?_⟩
      rw [Nat.sub_self, List.set_cons_zero, List.find?_cons, List.find?_cons]
      by_cases ex : x = k
      · subst ex; simp
      · have : (k == x) = false := by simpa using Ne.symm ex
        rw [if_neg ex]; simp only [this]
    · rw [if_neg e] at h
      obtain ⟨h2, h3, h4⟩ := findA_at k es (i + 1) j v h
      refine ⟨by omega, by simp; omega, fun w x => ?_⟩
      rw [show j - i = (j - (i + 1)) + 1 by omega, List.set_cons_succ, List.find?_cons, List.find?_cons]
      by_cases ex : a = x
      · subst ex
        rw [if_neg (Ne.symm e)]; simp
      · have : (a == x) = false := by simpa using ex
        simp only [this]
        exact h4 w x
section
variable {V : Env} {H : AH} {b : Nat} {f : Int → Option Value} {t kt et : TypeId} {s0 b0 : Nat} {z0 : Value}
theorem MI.get (h : MI H b f) (ht : V.E t = some ⟨.map kt et, s0, b0, z0⟩) {s1 b1 : Nat} {z1 : Value} (hk : V.E kt = some ⟨.int .i64, s1, b1, z1⟩) {te : TI} (he : V.E et = some te) (hz : constOk te.zv = true) (k : Int) : aLookup V.E H t (.map (some b)) (.int .i64 k) false = some ((f k).getD te.zv) := by
  obtain ⟨h1, es, h2, h3⟩ := h
  have hok : entriesOk (.int .i64) (es.map fun x => (Value.int .i64 x.1, x.2)) = true := by
    unfold entriesOk; rw [List.all_map, List.all_eq_true]; intro x _; simp [keyOk]
  have hf := findA_int k es 0
  rw [h3 k] at hf
  simp only [aLookup, ht, hk, he, AH.lo_lt h1, h2, hok, if_true]
  rw [if_pos (show keyOk (.int .i64) (.int .i64 k) = true by simp [keyOk])]
  cases hfa : findA (.int .i64 k) (es.map fun x => (.int .i64 x.1, x.2)) 0 with
  | none => rw [hfa] at hf; simp only [Option.map_none] at hf; rw [← hf]; simp [hz]
  | some p => obtain ⟨j, v⟩ := p; rw [hfa] at hf; simp only [Option.map_some] at hf; rw [← hf]; simp
theorem MI.set (h : MI H b f) (ht : V.E t = some ⟨.map kt et, s0, b0, z0⟩) {s1 b1 : Nat} {z1 : Value} (hk : V.E kt = some ⟨.int .i64, s1, b1, z1⟩) (k : Int) (v : Value) :
    ∃ H', aMapUpdate V.E H t (.map (some b)) (.int .i64 k) v = some H' ∧ MI H' b (fun x => if x = k then some v else f x) ∧ FrX [b] [] H H' ∧ H'.next = H.next := by
  obtain ⟨h1, es, h2, h3⟩ := h
  have hok : entriesOk (.int .i64) (es.map fun x => (Value.int .i64 x.1, x.2)) = true := by
    unfold entriesOk; rw [List.all_map, List.all_eq_true]; intro x _; simp [keyOk]
  have hko : keyOk (.int .i64) (.int .i64 k) = true := by simp [keyOk]
  simp only [aMapUpdate, ht, hk, h2, hok, hko, Bool.and_self, if_true]
  have hfr : ∀ o, FrX [b] [] H (H.put b o) := fun o => ⟨by simp, fun c _ hx => by rw [AH.obj_put, if_neg (by simpa using hx)], fun c _ _ => by simp⟩
  cases hfa : findA (.int .i64 k) (es.map fun x => (.int .i64 x.1, x.2)) 0 with
  | none =>
    refine ⟨_, rfl, ⟨by simpa using h1, es ++ [(k, v)], by simp, fun x => ?_⟩, hfr _, by simp⟩
    have hf := findA_int k es 0
    rw [hfa] at hf
    simp only [Option.map_none] at hf
    simp only
    rw [List.find?_append]
    by_cases e : x = k
    · subst e
      rw [if_pos rfl]
      have : es.find? (·.1 == x) = none := by simpa using hf.symm
      rw [this]; simp
    · rw [if_neg e, ← h3 x]
      have : ([(k, v)] : List (Int × Value)).find? (·.1 == x) = none := by simp [Ne.symm e]
      rw [this]; simp
  | some p =>
    obtain ⟨j, u⟩ := p
    obtain ⟨_, h5, h6⟩ := findA_at k es 0 j u hfa
    refine ⟨_, rfl, ⟨by simpa using h1, es.set j (k, v), ?_, fun x => ?_⟩, hfr _, by simp⟩
    · simp only [AH.obj_put, if_true]
      rw [List.map_set]
    · have := h6 v x
      rw [Nat.sub_zero] at this
      rw [this, h3 x]
end
section
variable {V : Env} {g : Ft} {H H' : AH}
theorem op_lookup {t : TypeId} {m k : Operand} {u v w : Value} {ok : Bool} (hm : g m = some u) (hk : g k = some v) (h : aLookup V.E H t u v ok = some w) : aopG V g H (.lookup t m k ok) = some (w, H) := by
  simp only [aopG, hm, hk, h, Option.map_some]
theorem op_mapUpdate {t : TypeId} {m k x : Operand} {u v y : Value} (hm : g m = some u) (hk : g k = some v) (hx : g x = some y) (h : aMapUpdate V.E H t u v y = some H') : aopG V g H (.mapUpdate t m k x) = some (undef, H') := by
  simp only [aopG, hm, hk, hx, h, Option.map_some]
theorem op_makeMap {t : TypeId} : aopG V g H (.makeMap t none) = some (.map (some H.next), H.alloc (.map [])) := rfl
end
def OwT (H : AH) (n0 : Nat) (e : TypeId) (sz : Nat) (v : Value) (n : Nat) (cs tl : List Value) (o : Option (Nat × Nat)) : Prop :=
  cs.length = n * sz ∧ n < 4611686018427387904 ∧ ((v = .slice none 0 0 ∧ n = 0 ∧ o = none ∧ tl = []) ∨ ∃ b g, o = some (b, g) ∧ n0 ≤ b ∧ n0 ≤ g ∧ b < H.next ∧ g < H.next ∧ v = .slice (some ⟨b, 0, none⟩) n unk ∧ H.obj b = .row e (cs ++ tl) .loose g (H.ver g))
section
variable {V : Env} {H H' : AH} {n0 : Nat} {e : TypeId} {sz n : Nat} {v : Value} {cs tl : List Value} {o : Option (Nat × Nat)}
theorem Ow.t (h : Ow H n0 e sz v n cs o) : OwT H n0 e sz v n cs [] o := by
  obtain ⟨h1, h2, ⟨h3, h4, h5⟩ | ⟨b, g, h3, h4, h5, h6, h7, h8, h9, _⟩⟩ := h
  · exact ⟨h1, h2, .inl ⟨h3, h4, h5, rfl⟩⟩
  · exact ⟨h1, h2, .inr ⟨b, g, h3, h4, h5, h6, h7, h8, by rw [List.append_nil]; exact h9⟩⟩
theorem OwT.sl (h : OwT H n0 e sz v n cs tl o) : Sl H v sz n cs := by
  obtain ⟨h1, h2, ⟨rfl, rfl, _⟩ | ⟨b, g, _, _, _, hb, hg, rfl, ho⟩⟩ := h
  · exact ⟨h1, h2, .inl ⟨rfl, rfl⟩⟩
  · exact ⟨h1, h2, .inr ⟨b, 0, unk, rfl, fun _ => ⟨e, cs ++ tl, .loose, g, _, hb, ho, .inr (.inr ⟨hg, rfl⟩), by simp; omega, by rw [← h1]; simp⟩⟩⟩
theorem OwT.frX (h : OwT H n0 e sz v n cs tl o) {bs gs : List Nat} (k : FrX bs gs H H') (hb : ∀ b ∈ obs o, b ∉ bs) (hg : ∀ g ∈ ogs o, g ∉ gs) : OwT H' n0 e sz v n cs tl o := by
  obtain ⟨h1, h2, h3 | ⟨b, g, rfl, h4, h5, h6, h7, h8, h9⟩⟩ := h
  · exact ⟨h1, h2, .inl h3⟩
  · refine ⟨h1, h2, .inr ⟨b, g, rfl, h4, h5, Nat.lt_of_lt_of_le h6 k.1, Nat.lt_of_lt_of_le h7 k.1, h8, ?_⟩⟩
    rw [k.2.1 b h6 (hb b (by simp [obs])), h9, k.2.2 g h7 (hg g (by simp [ogs]))]
theorem OwT.fr (h : OwT H n0 e sz v n cs tl o) (k : Fr H H') : OwT H' n0 e sz v n cs tl o := h.frX (k.x [] []) (by simp) (by simp)
theorem OwT.old {n1 : Nat} (h : OwT H n0 e sz v n cs tl o) (hn : n1 ≤ n0) : OwT H n1 e sz v n cs tl o := by
  obtain ⟨h1, h2, h3 | ⟨b, g, h3, h4, h5, h6⟩⟩ := h
  · exact ⟨h1, h2, .inl h3⟩
  · exact ⟨h1, h2, .inr ⟨b, g, h3, Nat.le_trans hn h4, Nat.le_trans hn h5, h6⟩⟩
theorem OwT.young (h : OwT H n0 e sz v n cs tl o) : (∀ b ∈ obs o, n0 ≤ b) ∧ (∀ g ∈ ogs o, n0 ≤ g) ∧ (∀ b ∈ obs o, b < H.next) ∧ (∀ g ∈ ogs o, g < H.next) := by
  obtain ⟨_, _, ⟨_, _, rfl, _⟩ | ⟨b, g, rfl, h4, h5, h6, h7, _⟩⟩ := h
  · simp [obs, ogs]
  · simp [obs, ogs, h4, h5, h6, h7]
theorem OwT.wr (h : OwT H n0 e sz v n cs tl o) {off : Nat} {vs : List Value} (hne : vs ≠ []) (hf : off + vs.length ≤ cs.length) :
    ∃ b g H', o = some (b, g) ∧ v = .slice (some ⟨b, 0, none⟩) n unk ∧ H.wr b off vs = some H' ∧ OwT H' n0 e sz v n (splice cs off vs) tl o ∧ FrX (obs o) (ogs o) H H' ∧ H'.next = H.next := by
  obtain ⟨hc, hlt, ⟨rfl, rfl, rfl, rfl⟩ | ⟨b, g, rfl, hb0, hg0, hbl, hgl, rfl, ho⟩⟩ := h
  · have h1 : cs = [] := List.length_eq_zero_iff.1 (by simpa using hc)
    subst h1
    have h2 : off + vs.length ≤ 0 := hf
    exact absurd (List.length_eq_zero_iff.1 (by omega)) hne
  · have hs : splice (cs ++ tl) off vs = splice cs off vs ++ tl := by
      unfold splice
      rw [List.take_append_of_le_length (by omega), List.drop_append_of_le_length (by omega), List.append_assoc, List.append_assoc, List.append_assoc]
    refine ⟨b, g, (H.put b (.row e (splice (cs ++ tl) off vs) .loose g (H.ver g + 1))).bump g (H.ver g + 1), rfl, rfl, ?_, ⟨by rw [splice_length hf, hc], hlt, .inr ⟨b, g, rfl, hb0, hg0, by simpa using hbl, by simpa using hgl, rfl, by simp [hs]⟩⟩, ⟨by simp, fun c hc hx => ?_, fun c hc hx => ?_⟩, by simp⟩
    · unfold AH.wr
      rw [if_neg (by simpa using hne), ho]
      simp only [beq_self_eq_true, Bool.true_and, decide_eq_true_eq]
      rw [if_pos (by simp; omega)]
    · simp only [AH.obj_bump, AH.obj_put]
      rw [if_neg (by simpa [obs] using hx)]
    · simp only [AH.ver_bump, AH.ver_put]
      rw [if_neg (by simpa [ogs] using hx)]
theorem OwT.set (h : OwT H n0 e sz v n cs tl o) {t : TypeId} {s b : Nat} {z : Value} (ht : V.E t = some ⟨.slice e, s, b, z⟩) {te : TI} (he : V.E e = some te) (hz : te.size = sz)
    {kd : IntKind} {i : Int} (h0 : 0 ≤ i) (hi : i < n) {vs : List Value} (hne : vs ≠ []) {k : Nat} (hk : k + vs.length ≤ sz) :
    ∃ b off H', aIndex V.E t v (.int kd i) = some (.pointer (some ⟨b, off, none⟩)) ∧ Rd H b off sz ((cs.drop (i.toNat * sz)).take sz) ∧ H.wr b (off + k) vs = some H' ∧ OwT H' n0 e sz v n (splice cs (i.toNat * sz + k) vs) tl o ∧ FrX (obs o) (ogs o) H H' ∧ H'.next = H.next := by
  have hc := h.1
  have hle : (i.toNat + 1) * sz ≤ n * sz := Nat.mul_le_mul_right sz (by omega)
  rw [Nat.add_mul, Nat.one_mul] at hle
  obtain ⟨b, off, h1, h2⟩ := h.sl.at ht he hz (kd := kd) h0 hi
  obtain ⟨b', g, H', e1, e2, e3, e4, e5, e6⟩ := h.wr (off := i.toNat * sz + k) hne (by omega)
  subst e2
  simp only [aIndex, ht, he, hz] at h1
  rw [if_pos ⟨h0, hi⟩] at h1
  simp only [Option.some.injEq, Value.pointer.injEq, Addr.mk.injEq] at h1
  obtain ⟨rfl, rfl, _⟩ := h1
  refine ⟨b', 0 + i.toNat * sz, H', ?_, h2, ?_, e4, e5, e6⟩
  · simp only [aIndex, ht, he, hz]
    rw [if_pos ⟨h0, hi⟩]
  · rw [Nat.zero_add]; exact e3
theorem OwT.cut (h : OwT H n0 e sz v n cs tl o) {k : Nat} (hk : k ≤ n) (hv : n ≠ 0 ∨ o ≠ none ∨ True) : OwT H n0 e sz (match v with | .slice none _ _ => .slice none 0 0 | .slice (some a) _ c => .slice (some a) k c | v => v) k (cs.take (k * sz)) (cs.drop (k * sz) ++ tl) o := by
  obtain ⟨hc, hlt, ⟨rfl, rfl, rfl, rfl⟩ | ⟨b, g, rfl, hb0, hg0, hbl, hgl, rfl, ho⟩⟩ := h
  · have h1 : cs = [] := List.length_eq_zero_iff.1 (by simpa using hc)
    subst h1
    obtain rfl : k = 0 := by omega
    exact ⟨by simp, by omega, .inl ⟨rfl, rfl, rfl, by simp⟩⟩
  · have hle : k * sz ≤ n * sz := Nat.mul_le_mul_right sz hk
    refine ⟨by rw [List.length_take]; omega, by omega, .inr ⟨b, g, rfl, hb0, hg0, hbl, hgl, rfl, ?_⟩⟩
    rw [ho, ← List.append_assoc, List.take_append_drop]
end
section
variable {V : Env} {H : AH} {b n : Nat} {e t : TypeId} {cells : List Value} {te : TI} {s0 b0 : Nat} {z0 : Value}
theorem slice_unk (hr : H.rowOf b e = some cells) (ht : V.E t = some ⟨.slice e, s0, b0, z0⟩) (he : V.E e = some te) (hz : 0 < te.size) {lo hi : Option Value} {l h : Nat} (hh : optBound hi n (reach cells 0 te.size n) = some h) (hl : optBound lo 0 h = some l) :
    aSlice V.E H t (.slice (some ⟨b, 0, none⟩) n unk) lo hi none = some (if l = 0 then .slice (some ⟨b, 0, none⟩) h unk else .slice (some ⟨b, l * te.size, none⟩) (h - l) unk) := by
  simp only [aSlice, ht, he, Option.isSome_none, Bool.false_and, Bool.false_eq_true, if_false, if_true]
  rw [if_neg (by omega), hr]
  simp only [hh, hl, Nat.zero_add]
  split <;> rfl
theorem slice_unk3 (hr : H.rowOf b e = some cells) (ht : V.E t = some ⟨.slice e, s0, b0, z0⟩) (he : V.E e = some te) (hz : 0 < te.size) {k k' k'' : IntKind} {l h : Nat} (hl : l ≤ h) (hh : h ≤ n) (h0 : 0 < n) (hn : n < unk) :
    ∃ v, aSlice V.E H t (.slice (some ⟨b, 0, none⟩) n unk) (some (.int k l)) (some (.int k' h)) (some (.int k'' n)) = some v := by
  simp only [aSlice, ht, he, Option.isSome_some, Option.isNone_some, Bool.and_false, Bool.false_eq_true, if_false, if_true]
  rw [if_neg (by omega), hr]
  have hb : bound (.int k'' (n : Int)) (reach cells 0 te.size n) = some n := by
    simp only [bound]
    rw [if_pos ⟨by omega, by have : n ≤ reach cells 0 te.size n := Nat.le_max_left _ _; omega⟩]; rfl
  simp only [hb]
  rw [if_neg (by omega)]
  have h1 : optBound (some (.int k' (h : Int))) n n = some h := by
    simp only [optBound, bound]; rw [if_pos ⟨by omega, by omega⟩]; rfl
  have h2 : optBound (some (.int k (l : Int))) 0 h = some l := by
    simp only [optBound, bound]; rw [if_pos ⟨by omega, by omega⟩]; rfl
  simp only [h1, h2]
  exact ⟨_, rfl⟩
theorem bound_int {k : IntKind} {i y : Nat} (h : i ≤ y) : optBound (some (.int k (i : Int))) 0 y = some i ∧ ∀ d, optBound (some (.int k (i : Int))) d y = some i := by
  have : ∀ d, optBound (some (.int k (i : Int))) d y = some i := fun d => by
    simp only [optBound, bound]; rw [if_pos ⟨by omega, by omega⟩]; rfl
  exact ⟨this 0, this⟩
end
section
variable {V : Env} {g : Ft} {H H' : AH}
theorem op_slice {t : TypeId} {x : Operand} {lo hi mx : Option Operand} {u w : Value} {l h m : Option Value} (hx : g x = some u) (hl : gopt g lo = some l) (hh : gopt g hi = some h) (hm : gopt g mx = some m) (hs : aSlice V.E H t u l h m = some w) : aopG V g H (.slice t x lo hi mx) = some (w, H) := by
  simp only [aopG, hx, hl, hh, hm, hs, Option.map_some]
theorem op_clear {t : TypeId} {x : Operand} {u : Value} (hx : g x = some u) (h : aClear V.E H t u = some H') : aopG V g H (.call ⟨.builtin .clear, #[x], #[t]⟩) = some (.tuple #[], H') := by
  simp only [aopG, gvals, hx, aBuiltin, h, Option.map_some]
end
section
variable {V : Env} {H H' : AH} {n0 : Nat} {e : TypeId} {sz n : Nat} {v : Value} {cs tl : List Value} {o : Option (Nat × Nat)} {t : TypeId} {s0 b0 : Nat} {z0 : Value} {te : TI}
theorem OwT.row (h : OwT H n0 e sz v n cs tl o) (h0 : 0 < n) : ∃ b g, o = some (b, g) ∧ v = .slice (some ⟨b, 0, none⟩) n unk ∧ H.rowOf b e = some (cs ++ tl) := by
  obtain ⟨_, _, ⟨_, rfl, _⟩ | ⟨b, g, h1, _, _, hb, hg, h2, ho⟩⟩ := h
  · omega
  · refine ⟨b, g, h1, h2, ?_⟩
    unfold AH.rowOf
    rw [AH.lo_lt hb, ho]
    simp [AH.alive]
theorem reach_le {n sz : Nat} {cs tl : List Value} (hc : cs.length = n * sz) (hz : 0 < sz) (m : Nat) : n ≤ reach (cs ++ tl) 0 sz m := by
  unfold reach
  refine Nat.le_trans ?_ (Nat.le_max_right _ _)
  rw [Nat.sub_zero, Nat.le_div_iff_mul_le hz]
  simp [hc]
theorem OwT.clearFrom (h : OwT H n0 e sz v n cs tl o) (ht : V.E t = some ⟨.slice e, s0, b0, z0⟩) (he : V.E e = some te) (hsz : te.size = sz) (hz : 0 < sz) (hzv : te.zv.cells.toList.length = sz) {i m : Nat} (hi : i < m) (hm : m ≤ n) {k : IntKind} {hi' : Option Value} (hhi : optBound hi' n (reach (cs ++ tl) 0 sz n) = some m) :
    ∃ w H', aSlice V.E H t v (some (.int k i)) hi' none = some w ∧ aClear V.E H t w = some H' ∧ OwT H' n0 e sz v n (splice cs (i * sz) (azeros te.zv.cells.toList (m - i))) tl o ∧ FrX (obs o) (ogs o) H H' ∧ H'.next = H.next := by
  subst hsz
  obtain ⟨b, g, rfl, rfl, hr⟩ := h.row (by omega)
  have hs := slice_unk (n := n) hr ht he hz (lo := some (.int k i)) hhi (bound_int (k := k) (Nat.le_of_lt hi)).1
  have hlen : (azeros te.zv.cells.toList (m - i)).length = (m - i) * te.size := by rw [azeros_length, hzv]
  have hle : i * te.size + (m - i) * te.size ≤ n * te.size := by rw [← Nat.add_mul]; exact Nat.mul_le_mul_right _ (by omega)
  have hpos : 0 < (m - i) * te.size := Nat.mul_pos (by omega) hz
  obtain ⟨b', g', H', e1, e2, e3, e4, e5, e6⟩ := h.wr (off := i * te.size) (vs := azeros te.zv.cells.toList (m - i)) (fun e => by rw [e] at hlen; simp at hlen; omega) (by rw [hlen, h.1]; exact hle)
  cases e1
  refine ⟨_, H', hs, ?_, e4, e5, e6⟩
  by_cases h0 : i = 0
  · subst h0
    rw [if_pos rfl]
    simp only [aClear, ht, he]
    rw [if_neg (by omega)]
    simpa using e3
  · rw [if_neg h0]
    simp only [aClear, ht, he]
    rw [if_neg (by omega)]
    exact e3
theorem OwT.upto (h : OwT H n0 e sz v n cs tl o) (ht : V.E t = some ⟨.slice e, s0, b0, z0⟩) (he : V.E e = some te) (hsz : te.size = sz) (hz : 0 < sz) (h0 : 0 < n) {i : Nat} (hi : i ≤ n) {k : IntKind} :
    ∃ b, aSlice V.E H t v none (some (.int k i)) none = some (.slice (some ⟨b, 0, none⟩) i unk) ∧ OwT H n0 e sz (.slice (some ⟨b, 0, none⟩) i unk) i (cs.take (i * sz)) (cs.drop (i * sz) ++ tl) o ∧ v = .slice (some ⟨b, 0, none⟩) n unk := by
  subst hsz
  obtain ⟨b, g, rfl, rfl, hr⟩ := h.row h0
  have hs := slice_unk (n := n) hr ht he hz (lo := none) (hi := some (.int k i)) (l := 0) ((bound_int (k := k) (Nat.le_trans hi (Nat.le_max_left _ _))).2 n) rfl
  have hc := h.cut hi (.inr (.inr trivial))
  exact ⟨b, hs, hc, rfl⟩
theorem OwT.from_ (h : OwT H n0 e sz v n cs tl o) (ht : V.E t = some ⟨.slice e, s0, b0, z0⟩) (he : V.E e = some te) (hsz : te.size = sz) (hz : 0 < sz) (h0 : 0 < n) {j : Nat} (hj : j ≤ n) {k : IntKind} :
    ∃ w, aSlice V.E H t v (some (.int k j)) none none = some w ∧ Sl H w sz (n - j) (cs.drop (j * sz)) := by
  subst hsz
  obtain ⟨b, g, rfl, rfl, hr⟩ := h.row h0
  have hs := slice_unk (n := n) hr ht he hz (lo := some (.int k j)) (hi := none) (h := n) rfl (bound_int (k := k) hj).1
  have hsl := h.sl
  refine ⟨_, hs, by rw [List.length_drop, h.1, ← Nat.sub_mul], by have := h.2.1; omega, .inr ?_⟩
  obtain ⟨_, _, ⟨h3, _⟩ | ⟨b', off, cap, h3, h4⟩⟩ := hsl
  · cases h3
  · cases h3
    have hrd := h4 h0
    by_cases hj0 : j = 0
    · subst hj0
      rw [if_pos rfl]
      exact ⟨b, 0, unk, by simp, fun _ => by simpa using hrd⟩
    · rw [if_neg hj0]
      refine ⟨b, j * te.size, unk, rfl, fun _ => ?_⟩
      have hle : j * te.size + (n - j) * te.size ≤ n * te.size := by rw [← Nat.add_mul]; exact Nat.mul_le_mul_right _ (by omega)
      have := hrd.sub (j * te.size) ((n - j) * te.size) hle
      rw [Nat.zero_add, List.take_of_length_le (by rw [List.length_drop, h.1, Nat.sub_mul]; omega)] at this
      exact this
theorem OwT.app (h : OwT H n0 e sz v n cs tl o) {b : Nat} (hv : v = .slice (some ⟨b, 0, none⟩) n unk) {m bytes : Nat} {new : List Value} (hm : 0 < m) (hz : 0 < sz) (hn : new.length = m * sz) (hb : (n + m) * bytes ≤ 140737488355328) (hl : n + m < 4611686018427387904) (ht : m * sz ≤ tl.length) :
    ∃ H', H.app e sz bytes v m new = some (.slice (some ⟨b, 0, none⟩) (n + m) unk, H') ∧ OwT H' n0 e sz (.slice (some ⟨b, 0, none⟩) (n + m) unk) (n + m) (cs ++ new) (tl.drop (m * sz)) o ∧ FrX (obs o) (ogs o) H H' ∧ H'.next = H.next := by
  have hc := h.1
  obtain ⟨_, hlt, ⟨h3, _⟩ | ⟨b', g, rfl, hb0, hg0, hbl, hgl, h2, ho⟩⟩ := h
  · rw [hv] at h3; cases h3
  · rw [hv] at h2
    cases h2
    subst hv
    have hm' : 0 < m * sz := Nat.mul_pos hm hz
    have hs : splice (cs ++ tl) (n * sz) new = cs ++ new ++ tl.drop (m * sz) := by
      unfold splice
      rw [← hc, List.take_left, List.drop_append, hn, hc, Nat.add_sub_cancel_left, List.drop_eq_nil_iff.2 (by omega), List.nil_append]
    refine ⟨(H.put b (.row e (splice (cs ++ tl) (n * sz) new) .loose g (H.ver g + 1))).bump g (H.ver g + 1), ?_, ⟨by simp [hc, hn, Nat.add_mul], hl, .inr ⟨b, g, rfl, hb0, hg0, by simpa using hbl, by simpa using hgl, rfl, by simp [hs]⟩⟩, ⟨by simp, fun c hcc hx => ?_, fun c hcc hx => ?_⟩, by simp⟩
    · simp only [AH.app, ho]
      rw [if_neg (by omega), if_neg (fun h => h ⟨hb, hl, hz⟩), if_pos trivial, if_pos ⟨trivial, trivial⟩, if_pos (by simp; omega)]
      simp only [Nat.zero_add]
      unfold AH.wr
      rw [if_neg (by simp; intro e; rw [e] at hn; simp at hn; omega), ho]
      simp only [beq_self_eq_true, Bool.true_and, decide_eq_true_eq]
      rw [if_pos (by simp; omega)]
      rfl
    · simp only [AH.obj_bump, AH.obj_put]
      rw [if_neg (by simpa [obs] using hx)]
    · simp only [AH.ver_bump, AH.ver_put]
      rw [if_neg (by simpa [ogs] using hx)]
end
end Go.Ev

/-
  EV, universal use, part q: appending in place, clearing behind the end.
-/
namespace Go.Ev
open Go.RowKit
section
variable {V : Env} {H H' : AH} {n0 : Nat} {e : TypeId} {sz n : Nat} {v : Value} {cs tl : List Value} {o : Option (Nat × Nat)} {t : TypeId} {s0 b0 : Nat} {z0 : Value} {te : TI}
theorem OwT.appSl (h : OwT H n0 e sz v n cs tl o) {b : Nat} (hv : v = .slice (some ⟨b, 0, none⟩) n unk) {m bytes : Nat} {new : List Value} {y : Value} (hs : Sl H y sz m new) (hz : 0 < sz) (hb : (n + m) * bytes ≤ 140737488355328) (hl : n + m < 4611686018427387904) (hfit : m * sz ≤ tl.length)
    (h1 : new.all Value.oneCell' = true) {u : TypeId} {a2 b2 : Nat} {z2 : Value} (ht : V.E t = some ⟨.slice e, s0, b0, z0⟩) (hu : V.E u = some ⟨.slice e, a2, b2, z2⟩) (he : V.E e = some te) (hsz : te.size = sz) (hby : te.bytes = bytes) :
    ∃ H', (∀ {g : Ft} {x w : Operand}, g x = some v → g w = some y → aopG V g H (.call ⟨.builtin .append, #[x, w], #[t, u]⟩) = some (.slice (some ⟨b, 0, none⟩) (n + m) unk, H')) ∧ OwT H' n0 e sz (.slice (some ⟨b, 0, none⟩) (n + m) unk) (n + m) (cs ++ new) (tl.drop (m * sz)) o ∧ FrX (obs o) (ogs o) H H' ∧ H'.next = H.next := by
  subst hsz hby
  have hsrc : H.src te.size y m = some new ∧ srcLen y = some m := by
    obtain ⟨h1, h2, ⟨rfl, rfl⟩ | ⟨b, off, cap, rfl, h4⟩⟩ := hs
    · have : new = [] := List.length_eq_zero_iff.1 (by simpa using h1)
      subst this; exact ⟨rfl, rfl⟩
    · refine ⟨?_, rfl⟩
      unfold AH.src
      by_cases hm : m = 0
      · have : new = [] := List.length_eq_zero_iff.1 (by rw [h1, hm]; simp)
        subst this; simp [hm]
      · simp only [if_neg hm]
        exact (h4 (by omega)).rd
  by_cases hm : m = 0
  · subst hm
    have hnew : new = [] := List.length_eq_zero_iff.1 (by rw [hs.1]; simp)
    subst hnew
    refine ⟨H, fun {g x w} hx hw => ?_, by subst hv; simpa using h, FrX.refl _ _ _, rfl⟩
    simp only [aopG, gvals, hx, hw, aBuiltin, ht, hu, he, hsrc.1, hsrc.2]
    subst hv; simp [AH.app]
  · obtain ⟨H', q1, q2, q3, q4⟩ := h.app hv (bytes := te.bytes) (m := m) (new := new) (by omega) hz hs.1 hb hl hfit
    refine ⟨H', fun {g x w} hx hw => ?_, q2, q3, q4⟩
    simp only [aopG, gvals, hx, hw, aBuiltin, ht, hu, he, hsrc.1, hsrc.2, h1, if_true, q1]
theorem OwT.clearTail (h : OwT H n0 e sz v n cs tl o) {b : Nat} (hv : v = .slice (some ⟨b, 0, none⟩) n unk) (ht : V.E t = some ⟨.slice e, s0, b0, z0⟩) (he : V.E e = some te) (hsz : te.size = sz) (hz : 0 < sz) (hzv : te.zv.cells.toList.length = sz) {m : Nat} (hm : n < m) (hm2 : m < 4611686018427387904) (hfit : (m - n) * sz ≤ tl.length) {k k' : IntKind} :
    ∃ w H' tl', aSlice V.E H t v (some (.int k n)) (some (.int k' m)) none = some w ∧ aClear V.E H t w = some H' ∧ OwT H' n0 e sz v n cs tl' o ∧ FrX (obs o) (ogs o) H H' ∧ H'.next = H.next := by
  subst hsz hv
  have hc := h.1
  have hms : n * te.size + (m - n) * te.size = m * te.size := by rw [← Nat.add_mul]; congr 1; omega
  have hlen : (azeros te.zv.cells.toList (m - n)).length = (m - n) * te.size := by rw [azeros_length, hzv]
  have h2 : OwT H n0 e te.size (.slice (some ⟨b, 0, none⟩) m unk) m (cs ++ tl.take ((m - n) * te.size)) (tl.drop ((m - n) * te.size)) o := by
    obtain ⟨_, hlt, ⟨h3, _⟩ | ⟨b', g, h3, hb0, hg0, hbl, hgl, h4, ho⟩⟩ := h
    · cases h3
    · cases h4
      refine ⟨by rw [List.length_append, List.length_take, hc]; omega, hm2, .inr ⟨b, g, h3, hb0, hg0, hbl, hgl, rfl, ?_⟩⟩
      rw [ho, List.append_assoc, List.take_append_drop]
  obtain ⟨b', g', e1, e0, hr⟩ := h2.row (by omega)
  cases e0
  have hcl : (cs ++ tl.take ((m - n) * te.size)).length = m * te.size := h2.1
  have hs := slice_unk (n := n) hr ht he hz (lo := some (.int k n)) (hi := some (.int k' m)) (l := n) (h := m) ((bound_int (k := k') (y := reach ((cs ++ tl.take ((m - n) * te.size)) ++ tl.drop ((m - n) * te.size)) 0 te.size n) (i := m) (reach_le hcl hz n)).2 n) (bound_int (k := k) (Nat.le_of_lt hm)).1
  obtain ⟨b', g', H', e2, e3, e4, e5, e6, e7⟩ := h2.wr (off := n * te.size) (vs := azeros te.zv.cells.toList (m - n)) (fun e => by
      rw [e] at hlen
      have : 0 < (m - n) * te.size := Nat.mul_pos (by omega) hz
      simp at hlen; omega) (by rw [hlen, hcl]; omega)
  cases e3
  have h3 := e5.cut (k := n) (by omega) (.inr (.inr trivial))
  have e8 : (splice (cs ++ tl.take ((m - n) * te.size)) (n * te.size) (azeros te.zv.cells.toList (m - n))).take (n * te.size) = cs := by
    unfold splice
    rw [List.append_assoc, List.take_append_of_le_length (by rw [List.length_take, List.length_append]; omega), List.take_take, Nat.min_self, ← hc, List.take_left]
  rw [e8] at h3
  refine ⟨_, H', _, hs, ?_, h3, e6, e7⟩
  by_cases h0 : n = 0
  · subst h0
    rw [if_pos rfl]
    simp only [aClear, ht, he]
    rw [if_neg (by omega)]
    simpa using e4
  · rw [if_neg h0]
    simp only [aClear, ht, he]
    rw [if_neg (by omega)]
    exact e4
end
end Go.Ev

/-
  EV, universal use, part r: slices of one's own that may begin as an empty row.
-/
namespace Go.Ev
open Go.RowKit
def OwE (H : AH) (n0 : Nat) (e : TypeId) (sz : Nat) (v : Value) (n : Nat) (cs : List Value) (o : Option (Nat × Nat)) : Prop :=
  Ow H n0 e sz v n cs o ∨ (n = 0 ∧ cs = [] ∧ ∃ b, o = some (b, b) ∧ n0 ≤ b ∧ v = .slice (some ⟨b, 0, none⟩) 0 0 ∧ Bx H b e [])
section
variable {V : Env} {H H' : AH} {n0 : Nat} {e : TypeId} {sz n : Nat} {v : Value} {cs : List Value} {o : Option (Nat × Nat)} {t : TypeId} {s0 b0 : Nat} {z0 : Value} {te : TI}
theorem OwE.ow (h : OwE H n0 e sz v n cs o) (h0 : 0 < n) : Ow H n0 e sz v n cs o := by
  rcases h with h | ⟨h, _⟩
  · exact h
  · omega
theorem OwE.sl (h : OwE H n0 e sz v n cs o) : Sl H v sz n cs := by
  rcases h with h | ⟨rfl, rfl, b, _, _, rfl, hb⟩
  · exact h.sl
  · exact ⟨by simp, by omega, .inr ⟨b, 0, 0, rfl, fun h => absurd h (by omega)⟩⟩
theorem OwE.frX (h : OwE H n0 e sz v n cs o) {bs gs : List Nat} (k : FrX bs gs H H') (hb : ∀ b ∈ obs o, b ∉ bs) (hg : ∀ g ∈ ogs o, g ∉ gs) : OwE H' n0 e sz v n cs o := by
  rcases h with h | ⟨rfl, rfl, b, rfl, h1, rfl, h2⟩
  · exact .inl (h.frX k hb hg)
  · exact .inr ⟨rfl, rfl, b, rfl, h1, rfl, h2.frX k (hb b (by simp [obs]))⟩
theorem OwE.fr (h : OwE H n0 e sz v n cs o) (k : Fr H H') : OwE H' n0 e sz v n cs o := h.frX (k.x [] []) (by simp) (by simp)
theorem OwE.young (h : OwE H n0 e sz v n cs o) : (∀ b ∈ obs o, n0 ≤ b) ∧ (∀ g ∈ ogs o, n0 ≤ g) ∧ (∀ b ∈ obs o, b < H.next) ∧ (∀ g ∈ ogs o, g < H.next) := by
  rcases h with h | ⟨rfl, rfl, b, rfl, h1, rfl, h2⟩
  · exact h.young
  · have := h2.1
    simp [obs, ogs, h1, this]
theorem OwE.new (h0 : n0 ≤ H.next) : OwE (H.alloc (.row e [] .exact 0 0)) n0 e sz (.slice (some ⟨H.next, 0, none⟩) 0 0) 0 [] (some (H.next, H.next)) :=
  .inr ⟨rfl, rfl, H.next, rfl, h0, rfl, .new⟩
theorem OwE.appSl (h : OwE H n0 e sz v n cs o) {m bytes : Nat} {y : Value} {new : List Value} (hs : Sl H y sz m new) (hz : 0 < sz) (hb : (n + m) * bytes ≤ 140737488355328) (hl : n + m < 4611686018427387904) (h0 : n0 ≤ H.next)
    (h1 : new.all Value.oneCell' = true) {u : TypeId} {a2 b2 : Nat} {z2 : Value} (ht : V.E t = some ⟨.slice e, s0, b0, z0⟩) (hu : V.E u = some ⟨.slice e, a2, b2, z2⟩) (he : V.E e = some te) (hsz : te.size = sz) (hby : te.bytes = bytes) :
    ∃ v' H' o', (∀ {g : Ft} {x w : Operand}, g x = some v → g w = some y → aopG V g H (.call ⟨.builtin .append, #[x, w], #[t, u]⟩) = some (v', H')) ∧ OwE H' n0 e sz v' (n + m) (cs ++ new) o' ∧ FrX (obs o) (ogs o) H H' ∧ (∀ b ∈ obs o', b ∈ obs o ∨ H.next ≤ b) ∧ (∀ g ∈ ogs o', g ∈ ogs o ∨ H.next ≤ g) := by
  rcases h with h | ⟨rfl, rfl, b, rfl, hnb, rfl, hbx⟩
  · obtain ⟨v', H', o', k1, k2, k3⟩ := h.appSl hs hz hb hl h0 h1 ht hu he hsz hby
    exact ⟨v', H', o', k1, .inl k2, k3⟩
  subst hsz hby
  have hsrc : H.src te.size y m = some new ∧ srcLen y = some m := by
    obtain ⟨h1, h2, ⟨rfl, rfl⟩ | ⟨b, off, cap, rfl, h4⟩⟩ := hs
    · have : new = [] := List.length_eq_zero_iff.1 (by simpa using h1)
      subst this; exact ⟨rfl, rfl⟩
    · refine ⟨?_, rfl⟩
      unfold AH.src
      by_cases hm : m = 0
      · have : new = [] := List.length_eq_zero_iff.1 (by rw [h1, hm]; simp)
        subst this; simp [hm]
      · simp only [if_neg hm]
        exact (h4 (by omega)).rd
  by_cases hm : m = 0
  · subst hm
    have hnew : new = [] := List.length_eq_zero_iff.1 (by rw [hs.1]; simp)
    subst hnew
    refine ⟨_, H, _, fun {g x w} hx hw => ?_, .inr ⟨rfl, rfl, b, rfl, hnb, rfl, hbx⟩, FrX.refl _ _ _, fun b hb => .inl hb, fun b hb => .inl hb⟩
    simp only [aopG, gvals, hx, hw, aBuiltin, ht, hu, he, hsrc.1, hsrc.2]
    simp [AH.app]
  · have hrd : H.rd b 0 (0 * te.size) = some [] := by rw [Nat.zero_mul]; exact (hbx.rd (n := 0) rfl).rd
    have happ : H.app e te.size te.bytes (.slice (some ⟨b, 0, none⟩) 0 0) m new = some (.slice (some ⟨H.next, 0, none⟩) (0 + m) unk, H.alloc (.row e new .loose H.next (H.ver H.next))) := by
      simp only [AH.app]
      rw [if_neg hm, if_neg (fun h => h ⟨hb, hl, hz⟩), if_neg (by unfold unk; omega), if_neg (by omega), hrd]
      rfl
    refine ⟨.slice (some ⟨H.next, 0, none⟩) (0 + m) unk, H.alloc (.row e new .loose H.next (H.ver H.next)), some (H.next, H.next), fun {g x w} hx hw => ?_, .inl ⟨by rw [List.nil_append, hs.1, Nat.zero_add], hl, .inr ⟨H.next, H.next, rfl, h0, h0, by simp, by simp, rfl, by simp, by omega⟩⟩, (Fr.alloc _ _).x _ _, by simp [obs], by simp [ogs]⟩
    simp only [aopG, gvals, hx, hw, aBuiltin, ht, hu, he, hsrc.1, hsrc.2, h1, if_true, happ]
end
end Go.Ev

/-
  EV, universal use, part s: arguments that are slices of one cell each.
-/
namespace Go.Ev
open Go.RowKit
theorem sl_of {α : Type} {R : Rp α} {c : α → Value} (hR : ∀ H cs x, R H cs x → cs = [c x]) {H : AH} {cs : List Value} {xs : List α} (h : RSlice 1 R H cs xs) : ∃ v, cs = [v] ∧ xs.length ≤ maxLen ∧ (∀ {V : Env} {t e : TypeId} {s b : Nat} {z : Value}, V.E t = some ⟨.slice e, s, b, z⟩ → aLen V.E H t v = some (.int .i64 xs.length)) ∧ (xs.length < 4611686018427387904 → Sl H v 1 xs.length (xs.map c)) := by
  obtain ⟨v, rfl, hl, h | ⟨b, cap, rfl, rfl⟩ | ⟨b, off, cap, et, cells, g, k, rfl, h2, h3, h4, h5, h6, h7⟩⟩ := h
  · obtain ⟨rfl, rfl⟩ := h
    exact ⟨_, rfl, hl, fun ht => by simp only [aLen, ht]; rfl, fun _ => .nil⟩
  · exact ⟨_, rfl, hl, fun ht => by simp only [aLen, ht]; rfl, fun _ => ⟨by simp, by simp, .inr ⟨b, 0, cap, rfl, fun h => absurd h (by simp)⟩⟩⟩
  · refine ⟨_, rfl, hl, fun ht => by simp only [aLen, ht], fun hlt => ⟨by simp, hlt, .inr ⟨b, off, cap, rfl, fun _ => ⟨et, cells, .ro, g, k, h4, h5, .inr (.inl rfl), by omega, ?_⟩⟩⟩⟩
    apply List.ext_getElem?
    intro i
    rw [List.getElem?_map]
    by_cases hi : i < xs.length
    · have := hR _ _ _ (h7 i xs[i] (List.getElem?_eq_getElem hi))
      rw [Nat.mul_one] at this
      rw [List.getElem?_eq_getElem hi, Option.map_some, List.getElem?_take, if_pos (by omega), List.getElem?_drop]
      have h8 := congrArg (·[0]?) this
      simp only [List.getElem?_take, List.getElem?_drop] at h8
      simpa using h8.symm
    · rw [List.getElem?_eq_none (by omega), List.getElem?_eq_none (by rw [List.length_take]; omega)]; rfl
theorem all_of {α : Type} {R : Rp α} {P : α → Prop} (hR : ∀ H cs x, R H cs x → P x) {H : AH} {cs : List Value} {xs : List α} {n : Nat} (h : RSlice n R H cs xs) : ∀ x ∈ xs, P x := by
  obtain ⟨v, rfl, hl, ⟨_, rfl⟩ | ⟨b, cap, _, rfl⟩ | ⟨b, off, cap, et, cells, g, k, _, _, _, _, _, _, h7⟩⟩ := h
  · intro x hx; cases hx
  · intro x hx; cases hx
  · intro x hx
    obtain ⟨i, hi, rfl⟩ := List.mem_iff_getElem.1 hx
    exact hR _ _ _ (h7 i _ (List.getElem?_eq_getElem hi))
theorem Bx.setE {V : Env} {H : AH} {b : Nat} {e : TypeId} {cs : List Value} (hb : Bx H b e cs) {n sz : Nat} (hc : cs.length = n * sz) {t : TypeId} {s b0 : Nat} {z : Value} (ht : V.E t = some ⟨.slice e, s, b0, z⟩) {te : TI} (he : V.E e = some te) (hz : te.size = sz)
    {kd : IntKind} {i : Int} (h0 : 0 ≤ i) (hi : i < n) {vs : List Value} (hne : vs ≠ []) {k : Nat} (hk : k + vs.length ≤ sz) :
    ∃ H', aIndex V.E t (.slice (some ⟨b, 0, none⟩) n n) (.int kd i) = some (.pointer (some ⟨b, 0 + i.toNat * sz, none⟩)) ∧ H.wr b (0 + i.toNat * sz + k) vs = some H' ∧ Bx H' b e (splice cs (i.toNat * sz + k) vs) ∧ FrX [b] [] H H' ∧ H'.next = H.next := by
  have hle : (i.toNat + 1) * sz ≤ n * sz := Nat.mul_le_mul_right sz (by omega)
  rw [Nat.add_mul, Nat.one_mul] at hle
  obtain ⟨H', h1, h2, h3, h4⟩ := hb.wr (off := i.toNat * sz + k) hne (by omega)
  refine ⟨H', ?_, by rw [Nat.zero_add]; exact h1, h2, h3, h4⟩
  simp only [aIndex, ht, he, hz]
  rw [if_pos ⟨h0, hi⟩]
end Go.Ev

