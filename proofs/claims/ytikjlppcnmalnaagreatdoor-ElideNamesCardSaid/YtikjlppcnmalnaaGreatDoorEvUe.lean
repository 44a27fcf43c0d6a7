/-
  EV, universal use, part e: the arguments of a call as it is handed them: what reads so in the world is had by the abstract heap.
-/
import Derived.Test.YtikjlppcnmalnaaGreatDoorEvUd
namespace Go.Ev
open Go.RowKit

/-- How cells read as something of Lean's. -/
abbrev Rp (α : Type) := AH → List Value → α → Prop

/-- Nothing but what is only read. -/
def Ro (H : AH) : Prop := ∀ b, (∃ et cells, H.obj b = .row et cells .ro 0 0) ∨ H.obj b = .dead

/-- What is only read is kept. -/
def Kro (H H' : AH) : Prop := H.next ≤ H'.next ∧ ∀ b et cells g v, b < H.next → H.obj b = .row et cells .ro g v → H'.obj b = .row et cells .ro g v
theorem Kro.refl (H : AH) : Kro H H := ⟨Nat.le_refl _, fun _ _ _ _ _ _ h => h⟩
theorem Kro.trans {H H' H'' : AH} (h : Kro H H') (k : Kro H' H'') : Kro H H'' := ⟨Nat.le_trans h.1 k.1, fun b et cells g v hb ho => k.2 b et cells g v (Nat.lt_of_lt_of_le hb h.1) (h.2 b et cells g v hb ho)⟩
theorem Kro.alloc (H : AH) (o : AObj) : Kro H (H.alloc o) := ⟨by simp, fun b et cells g v hb ho => by rw [AH.obj_alloc, if_neg (by omega)]; exact ho⟩

def Mono {α : Type} (R : Rp α) : Prop := ∀ {H H' : AH} {cs : List Value} {a : α}, Kro H H' → R H cs a → R H' cs a

variable {P : Program} {w : World} {H : AH} {ι : Emb}

theorem Ro.alloc (h : Ro H) {o : AObj} (ho : (∃ et cells, o = .row et cells .ro 0 0) ∨ o = .dead) : Ro (H.alloc o) := fun b => by
  rw [AH.obj_alloc]
  split
  · exact ho
  · exact h b

def Emb.put (ι : Emb) (b : Nat) (l : ILoc) : Emb := fun c => if c = b then some l else ι c

theorem Emb.le_put {ι : Emb} {b : Nat} {l : ILoc} (h : ι b = none) : ι.le (ι.put b l) := fun c m hc => by
  unfold Emb.put
  rw [if_neg (fun e => by subst e; rw [h] at hc; cases hc)]; exact hc

/-- A row more. -/
theorem HRel.row_ro {B0 : Nat} (h : HRel P B0 ι H w) (hr : Ro H) {o : AObj} {l : ILoc} (ho : (∃ et cells, o = .row et cells .ro 0 0) ∨ o = .dead) (hok : OOk P B0 ι w l o) :
    ι H.next = none ∧ HRel P B0 (ι.put H.next l) (H.alloc o) w := by
  have hn : ι H.next = none := by
    cases e : ι H.next with
    | none => rfl
    | some m => exact absurd (h.dom _ _ e) (Nat.lt_irrefl _)
  refine ⟨hn, ?_⟩
  have hcase : ∀ b m, (ι.put H.next l) b = some m → (b = H.next ∧ m = l) ∨ (b ≠ H.next ∧ ι b = some m) := fun b m hb => by
    unfold Emb.put at hb
    split at hb
    · rename_i e; cases hb; exact .inl ⟨e, rfl⟩
    · rename_i e; exact .inr ⟨e, hb⟩
  have hro := hr.alloc ho
  refine { base := h.base, dom := fun b m hb => ?_, obj := fun b m hb ha => ?_, sep := fun b b' m m' hne hb hb' ha ha' he => ?_, grp := fun b m et cells st g v hb hobj => ?_ }
  · rcases hcase b m hb with ⟨rfl, _⟩ | ⟨_, h2⟩
    · simp
    · have := h.dom b m h2; simp; omega
  · rcases hcase b m hb with ⟨rfl, rfl⟩ | ⟨h1, h2⟩
    · rw [AH.obj_alloc, if_pos rfl]
      exact hok.carry (Emb.le_put hn) rfl
    · rw [AH.obj_alloc, if_neg h1] at ha ⊢
      refine (h.obj b m h2 ?_).carry (Emb.le_put hn) rfl
      rcases hr b with ⟨et, cells, e⟩ | e <;> rw [e] at ha ⊢ <;> exact ha
  · rcases hro b with ⟨et, cells, e⟩ | e
    · rcases hro b' with ⟨et', cells', e'⟩ | e'
      · rw [e, e']; trivial
      · rw [e'] at ha'; simp [AH.alive] at ha'
    · rw [e] at ha; simp [AH.alive] at ha
  · rcases hro b with ⟨et', cells', e⟩ | e
    · rw [e] at hobj
      cases hobj
      exact ⟨by simp, Nat.zero_le _⟩
    · rw [e] at hobj; cases hobj

/-- What reads so at a type is had by a heap that is only read. -/
def Ent {α : Type} (P : Program) (R : Rp α) (t : TypeId) : Prop :=
  ∀ {Hd : Type} (enc : TypeId × Value → Hd) (w : World) (fuel : Nat) (cs : List Value) (d : DataW Hd) (ps : List MemPlace), DataW.trod enc P w 0 (fun _ => true) true fuel t cs = some (d, ps) →
    ∀ (H : AH) (ι : Emb), HRel P w.heap.size ι H w → Ro H → ∃ H' ι' as, ∃ a : α, HRel P w.heap.size ι' H' w ∧ Ro H' ∧ Kro H H' ∧ ι.le ι' ∧ LRel ι' as cs ∧ R H' as a

/-! ### Flat things -/
def RInt (k : IntKind) : Rp Int := fun _ cs n => cs = [.int k n] ∧ (Lit.int k n).wf = true
def RBool : Rp Bool := fun _ cs b => cs = [.bool b]
def RStr : Rp ByteArray := fun _ cs s => cs = [.string s] ∧ s.size ≤ maxLen

theorem RInt.mono {k : IntKind} : Mono (RInt k) := fun _ h => h
theorem RBool.mono : Mono RBool := fun _ h => h
theorem RStr.mono : Mono RStr := fun _ h => h

theorem Ent.int {t : TypeId} {k : IntKind} (hu : P.underlying t = some (.int k)) : Ent P (RInt k) t := fun enc w fuel cs d ps h H ι hr hro => by
  cases fuel with
  | zero => simp [DataW.trod] at h
  | succ fuel =>
    simp only [DataW.trod, hu] at h
    split at h <;> first | (exfalso; simp_all; done) | skip
    · rename_i k0 k' n he
      cases he
      split at h
      · rename_i hk
        obtain ⟨rfl, hk⟩ := hk
        exact ⟨H, ι, _, n, hr, hro, .refl _, Emb.le_refl _, .cons (.int _ n) .nil, rfl, hk⟩
      · cases h

theorem Ent.bool {t : TypeId} (hu : P.underlying t = some .bool) : Ent P RBool t := fun enc w fuel cs d ps h H ι hr hro => by
  cases fuel with
  | zero => simp [DataW.trod] at h
  | succ fuel =>
    simp only [DataW.trod, hu] at h
    split at h <;> first | (exfalso; simp_all; done) | skip
    · rename_i b he
      exact ⟨H, ι, _, b, hr, hro, .refl _, Emb.le_refl _, .cons (.bool b) .nil, rfl⟩

theorem Ent.str {t : TypeId} (hu : P.underlying t = some .string) : Ent P RStr t := fun enc w fuel cs d ps h H ι hr hro => by
  cases fuel with
  | zero => simp [DataW.trod] at h
  | succ fuel =>
    simp only [DataW.trod, hu] at h
    split at h <;> first | (exfalso; simp_all; done) | skip
    · rename_i s he
      split at h
      · rename_i hk
        exact ⟨H, ι, _, s, hr, hro, .refl _, Emb.le_refl _, .cons (.string s) .nil, rfl, hk⟩
      · cases h

/-! ### Slices -/
/-- A slice (of elements of n cells each) that is only read. -/
def RSlice {α : Type} (n : Nat) (R : Rp α) : Rp (List α) := fun H cs xs =>
  ∃ v, cs = [v] ∧ xs.length ≤ maxLen ∧ ((v = .slice none 0 0 ∧ xs = []) ∨ (∃ b cap, cap < unk ∧ v = .slice (some ⟨b, 0, none⟩) 0 cap ∧ xs = []) ∨
    ∃ b off cap et cells g k, v = .slice (some ⟨b, off, none⟩) xs.length cap ∧ xs.length ≤ cap ∧ cap ≤ maxLen ∧ b < H.next ∧ H.obj b = .row et cells .ro g k ∧ off + xs.length * n ≤ cells.length ∧
      ∀ (i : Nat) (x : α), xs[i]? = some x → R H ((cells.drop (off + i * n)).take n) x)

theorem RSlice.mono {α : Type} {n : Nat} {R : Rp α} (hm : Mono R) : Mono (RSlice n R) := fun hk h => by
  obtain ⟨v, rfl, hl, h | h | ⟨b, off, cap, et, cells, g, k, h1, h2, h3, h4, h5, h6, h7⟩⟩ := h
  · exact ⟨v, rfl, hl, .inl h⟩
  · exact ⟨v, rfl, hl, .inr (.inl h)⟩
  · exact ⟨v, rfl, hl, .inr (.inr ⟨b, off, cap, et, cells, g, k, h1, h2, h3, Nat.lt_of_lt_of_le h4 hk.1, hk.2 _ _ _ _ _ h4 h5, h6, fun i x hx => hm hk (h7 i x hx)⟩)⟩

theorem cells?_at {base : Nat} {a : Addr} {n : Nat} {cs : List Value} (h : w.cells? base a n = some cs) : cs.length = n ∧ ∀ i, i < n → ∃ y, cs[i]? = some y ∧ w.cell? (a.add i) = some y := by
  unfold World.cells? at h
  split at h
  · refine ⟨by simpa using Lib.mapM_length h, fun i hi => ?_⟩
    exact Lib.mapM_at h i i (by simp [hi])
  · cases h

theorem add_add (a : Addr) (i j : Nat) : (a.add i).add j = a.add (i + j) := by
  unfold Addr.add
  by_cases h : i = 0
  · subst h; simp
  · by_cases k : j = 0
    · subst k; simp [h]
    · rw [if_neg h, if_neg k, if_neg (by omega)]
      simp [Nat.add_assoc]

theorem Ent.elems {α : Type} {R : Rp α} {e : TypeId} (hR : Ent P R e) (hm : Mono R) {Hd : Type} (enc : TypeId × Value → Hd) (w : World) (fuel : Nat) (a : Addr) (n : Nat) (hn : P.cellsOf e = n) :
    ∀ (len : Nat), (∀ i, i < len → ∃ y, ((w.cells? 0 (a.add (i * n)) n).bind (DataW.trod enc P w 0 (fun _ => true) true fuel e)) = some y) →
    ∀ (H : AH) (ι : Emb), HRel P w.heap.size ι H w → Ro H → ∃ H' ι', ∃ as : List Value, ∃ xs : List α, HRel P w.heap.size ι' H' w ∧ Ro H' ∧ Kro H H' ∧ ι.le ι' ∧ xs.length = len ∧ as.length = len * n ∧
      (∀ (i : Nat) (x : Value), as[i]? = some x → ∃ y, w.cell? (a.add i) = some y ∧ VRel ι' x y) ∧ ∀ (i : Nat) (x : α), xs[i]? = some x → R H' ((as.drop (i * n)).take n) x
  | 0, _, H, ι, hr, hro => ⟨H, ι, [], [], hr, hro, .refl _, Emb.le_refl _, rfl, by simp, fun i x h => by simp at h, fun i x h => by simp at h⟩
  | len + 1, hel, H, ι, hr, hro => by
    obtain ⟨H1, ι1, as, xs, h1, h2, h3, h4, h5, h6, h7, h8⟩ := Ent.elems hR hm enc w fuel a n hn len (fun i hi => hel i (by omega)) H ι hr hro
    obtain ⟨y, hy⟩ := hel len (by omega)
    obtain ⟨cs, hc, ht⟩ := Option.bind_eq_some_iff.1 hy
    obtain ⟨H2, ι2, bs, x, k1, k2, k3, k4, k5, k6⟩ := hR enc w fuel cs y.1 y.2 ht H1 ι1 h1 h2
    obtain ⟨c1, c2⟩ := cells?_at hc
    have hbl : bs.length = n := by rw [k5.length, c1]
    refine ⟨H2, ι2, as ++ bs, xs ++ [x], k1, k2, h3.trans k3, Emb.le_trans h4 k4, by simp [h5], by simp [h6, hbl, Nat.add_mul], fun i z hz => ?_, fun i z hz => ?_⟩
    · by_cases hi : i < len * n
      · rw [List.getElem?_append_left (by omega)] at hz
        obtain ⟨y, q1, q2⟩ := h7 i z hz
        exact ⟨y, q1, q2.mono k4⟩
      · rw [List.getElem?_append_right (by omega), h6] at hz
        obtain ⟨y, q1, q2⟩ := k5.get hz
        have hlt : i - len * n < n := by have := (List.getElem?_eq_some_iff.1 hz).1; omega
        obtain ⟨y', q3, q4⟩ := c2 _ hlt
        rw [q1] at q3; cases q3
        refine ⟨y, ?_, q2⟩
        rw [add_add] at q4
        rwa [show len * n + (i - len * n) = i by omega] at q4
    · by_cases hi : i < len
      · rw [List.getElem?_append_left (by omega)] at hz
        have hle : i * n + n ≤ len * n := by
          have : (i + 1) * n ≤ len * n := Nat.mul_le_mul_right n hi
          rwa [Nat.add_mul, Nat.one_mul] at this
        have : ((as ++ bs).drop (i * n)).take n = (as.drop (i * n)).take n := by
          rw [List.drop_append_of_le_length (by omega), List.take_append_of_le_length (by simp; omega)]
        rw [this]
        exact hm k3 (h8 i z hz)
      · have : i = len := by
          have := (List.getElem?_eq_some_iff.1 hz).1
          simp at this; omega
        subst this
        rw [List.getElem?_append_right (by omega), h5] at hz
        simp at hz
        subst hz
        rw [← h6, List.drop_left, List.take_of_length_le (by omega)]
        exact k6

theorem Ent.slice {α : Type} {R : Rp α} {t e : TypeId} {n : Nat} (hu : P.underlying t = some (.slice e)) (hn : P.cellsOf e = n) (h0 : 0 < n) (hR : Ent P R e) (hm : Mono R) : Ent P (RSlice n R) t := fun {Hd} enc w fuel cs d ps h H ι hr hro => by
  cases fuel with
  | zero => simp [DataW.trod] at h
  | succ fuel =>
    simp only [DataW.trod, hu] at h
    split at h <;> first | (exfalso; simp_all; done) | skip
    · exact ⟨H, ι, _, [], hr, hro, .refl _, Emb.le_refl _, .cons .sliceNil .nil, _, rfl, Nat.zero_le _, .inl ⟨rfl, rfl⟩⟩
    · rename_i e' a len cap he
      cases he
      split at h
      · rename_i hc
        obtain ⟨_, hlc, hcm⟩ := hc
        obtain ⟨elems, hel, h⟩ := Option.bind_eq_some_iff.1 h
        obtain ⟨rest, hrest, h⟩ := Option.map_eq_some_iff.1 h
        have hat : ∀ i, i < len → ∃ y, ((w.cells? 0 (a.add (i * n)) n).bind (DataW.trod enc P w 0 (fun _ => true) true fuel e)) = some y := fun i hi => by
          obtain ⟨y, _, hy⟩ := Lib.mapM_at hel i i (by simp [hi])
          rw [hn] at hy
          exact ⟨y, hy⟩
        have hunk : cap < unk := Nat.lt_of_le_of_lt hcm (by decide)
        by_cases hl0 : len = 0
        · subst hl0
          by_cases hc0 : cap = 0
          · subst hc0
            exact ⟨H, ι, [.slice (some ⟨H.next, 0, none⟩) 0 0], [], hr, hro, .refl _, Emb.le_refl _, .cons (.sliceZ a) .nil, _, rfl, Nat.zero_le _, .inr (.inl ⟨_, _, by decide, rfl, rfl⟩)⟩
          · obtain ⟨y, _, hy⟩ := Lib.mapM_at hrest 0 0 (List.getElem?_range (by omega))
            obtain ⟨cs0, hc0', _⟩ := Option.bind_eq_some_iff.1 hy
            rw [hn] at hc0'
            obtain ⟨z, _, hz⟩ := (cells?_at hc0').2 0 h0
            simp only [Nat.zero_mul, Nat.add_zero, add_add] at hz
            have hsp : a.spot = none := by
              unfold World.cell? at hz
              split at hz
              · split at hz
                · cases hz
                · rename_i hs; simpa [Addr.add] using hs
              · cases hz
            have hd : OOk P w.heap.size ι w ⟨a.block, a.off, 0, 1⟩ .dead := trivial
            obtain ⟨q1, q2⟩ := HRel.row_ro hr hro (.inr rfl) hd
            have ha : a = ⟨a.block, a.off + 0, none⟩ := by cases a; simp at hsp; subst hsp; rfl
            refine ⟨_, _, [.slice (some ⟨H.next, 0, none⟩) 0 cap], [], q2, hro.alloc (.inr rfl), .alloc _ _, Emb.le_put q1, .cons ?_ .nil, _, rfl, Nat.zero_le _, .inr (.inl ⟨_, _, hunk, rfl, rfl⟩)⟩
            rw [ha]
            exact .slice (l := ⟨a.block, a.off, 0, 1⟩) (by simp [Emb.put]) hunk (Nat.zero_le _)
        · obtain ⟨H1, ι1, as, xs, h1, h2, h3, h4, h5, h6, h7, h8⟩ := Ent.elems hR hm enc w fuel a n hn len hat H ι hr hro
          have hpos : 0 < len * n := Nat.mul_pos (by omega) h0
          obtain ⟨z, hz, _⟩ := h7 0 as[0] (by simp [List.getElem?_eq_getElem (show 0 < as.length by omega)])
          have ⟨hsp, c, tt, fr, hw⟩ : a.spot = none ∧ ∃ c t fr, w.heap[a.block]? = some (.cells c t fr) := by
            unfold World.cell? at hz
            split at hz
            · rename_i c t fr hw
              split at hz
              · cases hz
              · rename_i hs; exact ⟨by simpa [Addr.add] using hs, c, t, fr, by simpa [Addr.add] using hw⟩
            · cases hz
          have hcell : ∀ (i : Nat) (x : Value), as[i]? = some x → ∃ y, c[a.off + i]? = some y ∧ VRel ι1 x y := fun i x hx => by
            obtain ⟨y, hy, hv⟩ := h7 i x hx
            refine ⟨y, ?_, hv⟩
            unfold World.cell? at hy
            have hb : (a.add i).block = a.block := by unfold Addr.add; split <;> rfl
            have ho : (a.add i).off = a.off + i := by unfold Addr.add; split <;> simp_all
            rw [hb, hw] at hy
            simp only at hy
            split at hy
            · cases hy
            · rw [← ho]; exact hy
          have hfit : a.off + as.length ≤ c.size := by
            obtain ⟨y, hy, _⟩ := hcell (as.length - 1) as[as.length - 1] (by simp [List.getElem?_eq_getElem (show as.length - 1 < as.length by omega)])
            have := (Array.getElem?_eq_some_iff.1 hy).1
            omega
          have hd : OOk P w.heap.size ι1 w ⟨a.block, a.off, c.size, P.cellsOf e⟩ (.row e as .ro 0 0) :=
            ⟨⟨c, tt, fr, hw, rfl, hcell, fun e => (nomatch e)⟩, hfit, rfl, fun e => absurd rfl e, fun _ => (Array.getElem?_eq_some_iff.1 hw).1, fun e => (nomatch e)⟩
          obtain ⟨q1, q2⟩ := HRel.row_ro h1 h2 (.inl ⟨_, _, rfl⟩) hd
          have ha : a = ⟨a.block, a.off + 0, none⟩ := by cases a; simp at hsp; subst hsp; rfl
          refine ⟨_, _, [.slice (some ⟨H1.next, 0, none⟩) xs.length cap], xs, q2, h2.alloc (.inl ⟨_, _, rfl⟩), h3.trans (.alloc _ _), Emb.le_trans h4 (Emb.le_put q1), .cons ?_ .nil, _, rfl, by omega, .inr (.inr ⟨H1.next, 0, cap, e, as, 0, 0, rfl, by omega, hcm, by simp, by simp, by rw [h5, h6]; omega, fun i x hx => ?_⟩)⟩
          · rw [h5, ha]
            exact .slice (l := ⟨a.block, a.off, c.size, P.cellsOf e⟩) (by simp [Emb.put]) hunk hlc
          · rw [Nat.zero_add]
            exact hm (.alloc _ _) (h8 i x hx)
      · cases h

/-! ### Structs -/
def REnd : Rp Unit := fun _ cs _ => cs = []
def RCons {α β : Type} (n : Nat) (R : Rp α) (S : Rp β) : Rp (α × β) := fun H cs x => R H (cs.take n) x.1 ∧ S H (cs.drop n) x.2
theorem REnd.mono : Mono REnd := fun _ h => h
theorem RCons.mono {α β : Type} {n : Nat} {R : Rp α} {S : Rp β} (h : Mono R) (k : Mono S) : Mono (RCons n R S) := fun hk hx => ⟨h hk hx.1, k hk hx.2⟩

def EntF {β : Type} (P : Program) (S : Rp β) (fs : List Field) (off size : Nat) : Prop :=
  ∀ {Hd : Type} (enc : TypeId × Value → Hd) (w : World) (fuel : Nat) (cs : List Value), cs.length = size →
    (∀ f, f ∈ fs → ∃ y, DataW.trod enc P w 0 (fun _ => true) true fuel f.type ((cs.drop f.offset).take (P.cellsOf f.type)) = some y) →
    ∀ (H : AH) (ι : Emb), HRel P w.heap.size ι H w → Ro H → ∃ H' ι' as, ∃ b : β, HRel P w.heap.size ι' H' w ∧ Ro H' ∧ Kro H H' ∧ ι.le ι' ∧ LRel ι' as (cs.drop off) ∧ S H' as b

theorem EntF.nil {off size : Nat} (h : size ≤ off) : EntF P REnd [] off size := fun enc w fuel cs hl _ H ι hr hro =>
  ⟨H, ι, [], (), hr, hro, .refl _, Emb.le_refl _, by rw [List.drop_eq_nil_iff.2 (by omega)]; exact .nil, rfl⟩
theorem EntF.cons {α β : Type} {R : Rp α} {S : Rp β} {f : Field} {fs : List Field} {off n size : Nat} (ho : f.offset = off) (hn : P.cellsOf f.type = n) (hs : off + n ≤ size) (hR : Ent P R f.type) (hm : Mono R) (hS : EntF P S fs (off + n) size) :
    EntF P (RCons n R S) (f :: fs) off size := fun enc w fuel cs hl hf H ι hr hro => by
  obtain ⟨y, hy⟩ := hf f (by simp)
  rw [ho, hn] at hy
  obtain ⟨H1, ι1, as, x, h1, h2, h3, h4, h5, h6⟩ := hR enc w fuel _ y.1 y.2 hy H ι hr hro
  obtain ⟨H2, ι2, bs, z, k1, k2, k3, k4, k5, k6⟩ := hS enc w fuel cs hl (fun g hg => hf g (by simp [hg])) H1 ι1 h1 h2
  have hlen : as.length = n := by rw [h5.length]; simp; omega
  refine ⟨H2, ι2, as ++ bs, (x, z), k1, k2, h3.trans k3, Emb.le_trans h4 k4, ?_, ?_, ?_⟩
  · have := (h5.mono k4).append k5
    rwa [← List.drop_drop, List.take_append_drop] at this
  · simp only [← hlen, List.take_left]; exact hm k3 h6
  · simp only [← hlen, List.drop_left]; exact k6

theorem Ent.struct {β : Type} {S : Rp β} {t : TypeId} {fs : Array Field} {l : List Field} {size : Nat} (hu : P.underlying t = some (.struct fs)) (hl : fs.toList = l) (hs : P.cellsOf t = size) (h : EntF P S l 0 size) : Ent P S t := fun {Hd} enc w fuel cs d ps ht H ι hr hro => by
  cases fuel with
  | zero => simp [DataW.trod] at ht
  | succ fuel =>
    simp only [DataW.trod, hu] at ht
    split at ht
    · rename_i hlen
      obtain ⟨xs, hm, _⟩ := Option.map_eq_some_iff.1 ht
      obtain ⟨H', ι', as, b, h1, h2, h3, h4, h5, h6⟩ := h enc w fuel cs (by omega) (fun f hf => by
        rw [← hl] at hf
        obtain ⟨i, hi⟩ := List.mem_iff_getElem?.1 hf
        obtain ⟨y, _, hy⟩ := Lib.mapM_at hm i f hi
        exact ⟨y, hy⟩) H ι hr hro
      exact ⟨H', ι', as, b, h1, h2, h3, h4, by simpa using h5, h6⟩
    · cases ht
end Go.Ev
