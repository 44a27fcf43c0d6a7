/-
  EV, universal use, part d: loops with a state of one's own.
-/
import Derived.Test.YtdkfcpadbahohaaDoorEv4
import Derived.Test.YtdkfcpadbahohaaDoorEv3
import Derived.Carry
import Derived.WalkKit
import Derived.ProofKit
import Derived.OpenShut
set_option linter.all false
namespace Go.Ev
open Go.RowKit
variable {V : Env} {O : Orc} {live : Option Nat} {n : Nat}
def Kn (l : SL) : SL → Prop
  | [] => True
  | (t, v) :: r => look l t = some v ∧ Kn l r
theorem Kn.look {l : SL} : ∀ {r : SL}, Kn l r → ∀ t v, look r t = some v → look l t = some v
  | [], _, _, _, h => by cases h
  | (u, w) :: r, hk, t, v, h => by
    simp only [Ev.look] at h
    split at h
    · rename_i e; subst e; cases h; exact hk.1
    · exact hk.2.look t v h
theorem W.loopS {σ : Type} {c : Code} {Q : Ex → SL → AH → Prop} (lit : σ → SL) (hp : σ → AH) (I : σ → Prop) (μ : σ → Nat)
    (hI : ∀ s, I s → W V O live n c (lit s) (hp s) (ThenL (fun l' H' => ∃ s', I s' ∧ μ s' < μ s ∧ Kn l' (lit s') ∧ hp s' = H') Q)) {l : SL} {H : AH} (s0 : σ) (h0 : I s0) (hl : Kn l (lit s0)) (hh : hp s0 = H) : W V O live n (.loop c) l H Q := by
  have key : ∀ k s, I s → μ s < k → ∀ T, Has T (lit s) → Dom live T → ∃ N e T' H', (∀ m, N ≤ m → ∀ lf, N ≤ lf → ∀ d, N ≤ d → loopN (fun T H => codeL V (fO V O lf d) live none n lf c T H) m T (hp s) = some (e, T', H')) ∧ Dom live T' ∧ ∃ l', Has T' l' ∧ Q e l' H' := by
    intro k
    induction k with
    | zero => intro s _ hk; omega
    | succ k ih =>
      intro s hi hk T hT hd
      obtain ⟨N, e, T1, H1, h1, d1, l1, h2, h3⟩ := hI s hi T hT hd
      cases e with
      | normal =>
        obtain ⟨s', i', m', kn', rfl⟩ := h3
        obtain ⟨M, e, T2, H2, k1, k2⟩ := ih s' i' (by omega) T1 (fun t v e => h2 t v (kn'.look t v e)) d1
        refine ⟨N + M + 1, e, T2, H2, fun m hm lf hlf d hdd => ?_, k2⟩
        obtain ⟨m, rfl⟩ : ∃ m', m = m' + 1 := ⟨m - 1, by omega⟩
        simp only [loopN]
        rw [h1 lf (by omega) d (by omega)]
        exact k1 m (by omega) lf (by omega) d (by omega)
      | exit id =>
        refine ⟨N + 1, _, T1, H1, fun m hm lf hlf d hdd => ?_, d1, l1, h2, h3⟩
        obtain ⟨m, rfl⟩ : ∃ m', m = m' + 1 := ⟨m - 1, by omega⟩
        simp only [loopN]
        rw [h1 lf (by omega) d (by omega)]
      | ret =>
        refine ⟨N + 1, _, T1, H1, fun m hm lf hlf d hdd => ?_, d1, l1, h2, h3⟩
        obtain ⟨m, rfl⟩ : ∃ m', m = m' + 1 := ⟨m - 1, by omega⟩
        simp only [loopN]
        rw [h1 lf (by omega) d (by omega)]
  intro T hT hd
  subst hh
  obtain ⟨N, e, T', H', h1, h2⟩ := key (μ s0 + 1) s0 h0 (Nat.lt_succ_self _) T (fun t v e => hT t v (hl.look t v e)) hd
  exact ⟨N, e, T', H', fun lf hlf d hdd => by simp only [codeL]; exact h1 lf hlf lf hlf d hdd, h2⟩
theorem WP.loopS {l : SL} {H : AH} {Q : Ex → SL → AH → Prop} {σ : Type} {a : PC} (lit : σ → SL) (hp : σ → AH) (I : σ → Prop) (μ : σ → Nat) (s0 : σ) (h0 : I s0) (hl : Kn l (lit s0)) (hh : hp s0 = H)
    (hI : ∀ s, I s → WP V O live n a (lit s) (hp s) (ThenL (fun l' H' => ∃ s', I s' ∧ μ s' < μ s ∧ Kn l' (lit s') ∧ hp s' = H') Q)) : WP V O live n (.loop a) l H Q := fun c hc => by
  obtain ⟨a', rfl, k1⟩ := pcOf_cases hc
  exact .loopS lit hp I μ (fun s hi => hI s hi a' k1) s0 h0 hl hh
theorem aInt_lss (P : Program) (t : TypeId) {k : IntKind} {a b : Int} : aInt P .lss t k a k b = some (.bool (decide (a < b))) := by
  simp only [aInt, if_true]
theorem aInt_neq (P : Program) (t : TypeId) {k : IntKind} {a b : Int} : aInt P .neq t k a k b = some (.bool (a != b)) := by
  simp only [aInt, if_true]
theorem aInt_eql (P : Program) (t : TypeId) {k : IntKind} {a b : Int} : aInt P .eql t k a k b = some (.bool (a == b)) := by
  simp only [aInt, if_true]
theorem OneAt.idx_op {V : Env} {g : Ft} {H : AH} {v : Value} {cs : List Value} (h : OneAt H v cs) {t e : TypeId} {s b : Nat} {z : Value} (ht : V.E t = some ⟨.slice e, s, b, z⟩) {te : TI} (he : V.E e = some te) (hz : te.size = 1) (ha : Desc.agg te.desc = false) {kd : IntKind} {i : Int} {c : Value} (h0 : 0 ≤ i) (hc : cs[i.toNat]? = some c)
    {x y : Operand} (hx : g x = some v) (hy : g y = some (.int kd i)) : ∃ p, aopG V g H (.indexAddr t x y) = some (p, H) ∧ aLoad V.E H e p = some c := by
  obtain ⟨p, h1, h2⟩ := h.idx ht he hz ha (kd := kd) h0 hc
  exact ⟨p, op_indexAddr hx hy h1, h2⟩
theorem aInt_geq (P : Program) (t : TypeId) {k : IntKind} {a b : Int} : aInt P .geq t k a k b = some (.bool (decide (a ≥ b))) := by
  simp only [aInt, if_true]
theorem aInt_leq (P : Program) (t : TypeId) {k : IntKind} {a b : Int} : aInt P .leq t k a k b = some (.bool (decide (a ≤ b))) := by
  simp only [aInt, if_true]
theorem aInt_gtr (P : Program) (t : TypeId) {k : IntKind} {a b : Int} : aInt P .gtr t k a k b = some (.bool (decide (a > b))) := by
  simp only [aInt, if_true]
section
variable {g : Ft} {H : AH}
theorem op_pickT {c x y : Operand} {b : Bool} {v : Value} (hc : g c = some (.bool b)) (hb : b = true) (hx : g x = some v) : aopG V g H (.pick c x y) = some (v, H) := by
  subst hb; simp only [aopG, hc, if_true, hx, Option.map_some]
theorem op_pickF {c x y : Operand} {b : Bool} {v : Value} (hc : g c = some (.bool b)) (hb : b = false) (hy : g y = some v) : aopG V g H (.pick c x y) = some (v, H) := by
  subst hb; simp only [aopG, hc, Bool.false_eq_true, if_false, hy, Option.map_some]
end
theorem WL.post {is : List LI} {E : List Value} {l : SL} {H : AH} {K K' : List Value → AH → Prop} (h : WL V O is E l H K) (hk : ∀ E H, K E H → K' E H) : WL V O is E l H K' := fun T hT =>
  let ⟨N, E', H', h1, h2⟩ := h T hT
  ⟨N, E', H', h1, hk _ _ h2⟩
section
variable {g : Ft} {H : AH}
theorem op_lenS {x : Operand} {t : TypeId} {s : ByteArray} {n b : Nat} {z : Value} (hx : g x = some (.string s)) (ht : V.E t = some ⟨.string, n, b, z⟩) : aopG V g H (.call ⟨.builtin .len, #[x], #[t]⟩) = some (.int .i64 s.size, H) :=
  op_len hx (by simp only [aLen, ht])
theorem op_indexS {x y : Operand} {t : TypeId} {s : ByteArray} {n b : Nat} {z : Value} {k : IntKind} {i : Int} {c : UInt8} (hx : g x = some (.string s)) (hy : g y = some (.int k i)) (ht : V.E t = some ⟨.string, n, b, z⟩) (h0 : 0 ≤ i) (hc : s.data.toList[i.toNat]? = some c) :
    aopG V g H (.index t x y) = some (.int .u8 c.toNat, H) := by
  simp only [aopG, hx, hy, aIndexOf, ht, if_pos h0, hc, Option.map_some]
end
section
variable {o : Op} {x : Operand} {w b : Bool} {is : List LI} {E : List Value} {l : SL} {H : AH} {K : List Value → AH → Prop}
theorem WL.on (hx : gS V.nG E l x = some (.bool b)) (hb : b = w) (h : WL V O (.run o none :: is) E l H K) : WL V O (.run o (some (x, w)) :: is) E l H K :=
  .guard hx (fun _ => h) (fun e => absurd (hb.symm.trans e) (by cases w <;> simp))
theorem WL.off (hx : gS V.nG E l x = some (.bool b)) (hb : b = !w) (h : WL V O is (undef :: E) l H K) : WL V O (.run o (some (x, w)) :: is) E l H K :=
  .guard hx (fun e => absurd (hb.symm.trans e) (by cases w <;> simp)) (fun _ => h)
theorem WL.offU (hx : gS V.nG E l x = some undef) (h : WL V O is (undef :: E) l H K) : WL V O (.run o (some (x, w)) :: is) E l H K := fun T hT => by
  obtain ⟨N, E', H', h1, h2⟩ := h T hT
  have hv := gS_le hT V.nG E x _ hx
  refine ⟨N, E', H', fun lf hlf d hd => ?_, h2⟩
  have := h1 lf hlf d hd
  simp only [runLI, wantL, hv, undef]
  exact this
end
theorem aBin_str {P : Program} {E : TypeId → Option TI} {op : BinOp} {t : TypeId} {ox oy : Operand} {a b : ByteArray} {v : Value} (h : pureRun P (Op.stringOp op a b) = some v) (hv : constOk v = true) : aBin P E op t ox oy (.string a) (.string b) = some v := by
  have e : aBin P E op t ox oy (.string a) (.string b) = (if constOk (.string a) && constOk (.string b) then match pureRun P (do eqGuard op t ox oy (.string a) (.string b); binOp op t (.string a) (.string b)) with
      | some v => if constOk v then some v else none
      | none => none
    else none) := by unfold aBin; rfl
  have e2 : (do eqGuard op t ox oy (.string a) (.string b); binOp op t (.string a) (.string b)) = Op.stringOp op a b := by
    have := binSem_skip (op := op) (t := t) (ox := ox) (oy := oy) (x := .string a) (y := .string b) (fun _ h => nomatch h) (fun h => nomatch h)
    unfold binSem at this
    rw [this]
    cases op <;> rfl
  rw [e, e2, h, if_pos (show (constOk (Value.string a) && constOk (Value.string b)) = true from rfl)]
  simp only [hv, if_true]
theorem aBin_eqS {P : Program} {E : TypeId → Option TI} {t : TypeId} {ox oy : Operand} {a b : ByteArray} : aBin P E .eql t ox oy (.string a) (.string b) = some (.bool (a.data.toList == b.data.toList)) := by rw [← ByteArray.toList_eq, ← ByteArray.toList_eq]; exact aBin_str rfl rfl
theorem aBin_neS {P : Program} {E : TypeId → Option TI} {t : TypeId} {ox oy : Operand} {a b : ByteArray} : aBin P E .neq t ox oy (.string a) (.string b) = some (.bool !(a.data.toList == b.data.toList)) := by rw [← ByteArray.toList_eq, ← ByteArray.toList_eq]; exact aBin_str rfl rfl
theorem aBin_addS {P : Program} {E : TypeId → Option TI} {t : TypeId} {ox oy : Operand} {a b : ByteArray} (h : a.size + b.size ≤ 9223372036854775807) : aBin P E .add t ox oy (.string a) (.string b) = some (.string (a ++ b)) := aBin_str (by
  simp only [Op.stringOp]
  rw [if_neg (by have : IntKind.i64.max = 9223372036854775807 := (by decide); omega)]; rfl) rfl
section
variable {g : Ft} {H : AH}
theorem op_eqS {x y : Operand} {t u : TypeId} {a b : ByteArray} (hx : g x = some (.string a)) (hy : g y = some (.string b)) : aopG V g H (.binOp .eql t x y u) = some (.bool (a.data.toList == b.data.toList), H) := by
  simp only [aopG, hx, hy, aBin_eqS, Option.map_some]
theorem op_neS {x y : Operand} {t u : TypeId} {a b : ByteArray} (hx : g x = some (.string a)) (hy : g y = some (.string b)) : aopG V g H (.binOp .neq t x y u) = some (.bool !(a.data.toList == b.data.toList), H) := by
  simp only [aopG, hx, hy, aBin_neS, Option.map_some]
theorem op_addS {x y : Operand} {t u : TypeId} {a b : ByteArray} (hx : g x = some (.string a)) (hy : g y = some (.string b)) (h : a.size + b.size ≤ 9223372036854775807) : aopG V g H (.binOp .add t x y u) = some (.string (a ++ b), H) := by
  simp only [aopG, hx, hy, aBin_addS h, Option.map_some]
theorem op_not {x : Operand} {t : TypeId} {b : Bool} (hx : g x = some (.bool b)) : aopG V g H (.unOp .not t x) = some (.bool (!b), H) := by
  simp only [aopG, hx]; rfl
end
theorem op_buildSlice {g : Ft} {H : AH} {t e : TypeId} {len : Nat} {ps : Array (Nat × Operand)} {vs : List (Nat × Value)} {cs : List Value} {a b : Nat} {z : Value} {te : TI} (hp : gparts g ps.toList = some vs) (ht : V.E t = some ⟨.slice e, a, b, z⟩) (he : V.E e = some te)
    (h1 : len * te.size ≤ 16777216) (hf : afill (fun i => some (i * te.size, te.size)) (azeros te.zv.cells.toList len) vs = some cs) (h2 : len < unk := by decide) : aopG V g H (.buildSlice t len ps) = some (.slice (some ⟨H.next, 0, none⟩) len len, H.alloc (.row e cs .exact 0 0)) := by
  simp only [aopG, hp, aBuildSlice, ht, he]
  rw [if_neg (by omega), hf]
theorem OneAt.alloc {H : AH} {e : TypeId} {cs : List Value} {cap : Nat} (h : cs.length < 4611686018427387904) : OneAt (H.alloc (.row e cs .exact 0 0)) (.slice (some ⟨H.next, 0, none⟩) cs.length cap) cs := by
  refine ⟨h, .inr ⟨H.next, 0, cap, rfl, fun _ => ?_⟩⟩
  unfold AH.rd
  simp [AH.lo, AH.alive]
end Go.Ev

/-
  EV, universal use, part e: the arguments of a call as it is handed them: what reads so in the world is had by the abstract heap.
-/
namespace Go.Ev
open Go.RowKit
abbrev Rp (α : Type) := AH → List Value → α → Prop
def Ro (H : AH) : Prop := ∀ b, (∃ et cells, H.obj b = .row et cells .ro 0 0) ∨ H.obj b = .dead
def Kro (H H' : AH) : Prop := H.next ≤ H'.next ∧ ∀ b et cells g v, b < H.next → H.obj b = .row et cells .ro g v → H'.obj b = .row et cells .ro g v
theorem Kro.refl (H : AH) : Kro H H := ⟨Nat.le_refl _, fun _ _ _ _ _ _ h => h⟩
theorem Kro.trans {H H' H'' : AH} (h : Kro H H') (k : Kro H' H'') : Kro H H'' := ⟨Nat.le_trans h.1 k.1, fun b et cells g v hb ho => k.2 b et cells g v (Nat.lt_of_lt_of_le hb h.1) (h.2 b et cells g v hb ho)⟩
theorem Kro.alloc (H : AH) (o : AObj) : Kro H (H.alloc o) := ⟨by simp, fun b et cells g v hb ho => by rw [AH.obj_alloc, if_neg (by omega)]; exact ho⟩
def Mono {α : Type} (R : Rp α) : Prop := ∀ {H H' : AH} {cs : List Value} {a : α}, Kro H H' → R H cs a → R H' cs a
variable {P : Program} {w : World} {H : AH} {ι : Emb}
theorem Ro.alloc (h : Ro H) {o : AObj} (ho : (∃ et cells, o = .row et cells .ro 0 0) ∨ o = .dead) : Ro (H.alloc o) := fun b => by
  rw [AH.obj_alloc]
  split
  · exact ho
  · exact h b
def Emb.put (ι : Emb) (b : Nat) (l : ILoc) : Emb := fun c => if c = b then some l else ι c
theorem Emb.le_put {ι : Emb} {b : Nat} {l : ILoc} (h : ι b = none) : ι.le (ι.put b l) := fun c m hc => by
  unfold Emb.put
  rw [if_neg (fun e => by subst e; rw [h] at hc; cases hc)]; exact hc
theorem HRel.row_ro {B0 : Nat} (h : HRel P B0 ι H w) (hr : Ro H) {o : AObj} {l : ILoc} (ho : (∃ et cells, o = .row et cells .ro 0 0) ∨ o = .dead) (hok : OOk P B0 ι w l o) :
    ι H.next = none ∧ HRel P B0 (ι.put H.next l) (H.alloc o) w := by
  have hn : ι H.next = none := by
    cases e : ι H.next with
    | none => rfl
    | some m => exact absurd (h.dom _ _ e) (Nat.lt_irrefl _)
  refine ⟨hn, ?_⟩
  have hcase : ∀ b m, (ι.put H.next l) b = some m → (b = H.next ∧ m = l) ∨ (b ≠ H.next ∧ ι b = some m) := fun b m hb => by
    unfold Emb.put at hb
    split at hb
    · rename_i e; cases hb; exact .inl ⟨e, rfl⟩
    · rename_i e; exact .inr ⟨e, hb⟩
  have hro := hr.alloc ho
  refine { base := h.base, dom := fun b m hb => ?_, obj := fun b m hb ha => ?_, sep := fun b b' m m' hne hb hb' ha ha' he => ?_, grp := fun b m et cells st g v hb hobj => ?_ }
  · rcases hcase b m hb with ⟨rfl, _⟩ | ⟨_, h2⟩
    · simp
    · have := h.dom b m h2; simp; omega
  · rcases hcase b m hb with ⟨rfl, rfl⟩ | ⟨h1, h2⟩
    · rw [AH.obj_alloc, if_pos rfl]
      exact hok.carry (Emb.le_put hn) rfl
    · rw [AH.obj_alloc, if_neg h1] at ha ⊢
      refine (h.obj b m h2 ?_).carry (Emb.le_put hn) rfl
      rcases hr b with ⟨et, cells, e⟩ | e <;> rw [e] at ha ⊢ <;> exact ha
  · rcases hro b with ⟨et, cells, e⟩ | e
    · rcases hro b' with ⟨et', cells', e'⟩ | e'
      · rw [e, e']; trivial
      · rw [e'] at ha'; simp [AH.alive] at ha'
    · rw [e] at ha; simp [AH.alive] at ha
  · rcases hro b with ⟨et', cells', e⟩ | e
    · rw [e] at hobj
      cases hobj
      exact ⟨by simp, Nat.zero_le _⟩
    · rw [e] at hobj; cases hobj
def Ent {α : Type} (P : Program) (R : Rp α) (t : TypeId) : Prop :=
  ∀ {Hd : Type} (enc : TypeId × Value → Hd) (w : World) (fuel : Nat) (cs : List Value) (d : DataW Hd) (ps : List MemPlace), DataW.trod enc P w 0 (fun _ => true) true fuel t cs = some (d, ps) →
    ∀ (H : AH) (ι : Emb), HRel P w.heap.size ι H w → Ro H → ∃ H' ι' as, ∃ a : α, HRel P w.heap.size ι' H' w ∧ Ro H' ∧ Kro H H' ∧ ι.le ι' ∧ LRel ι' as cs ∧ R H' as a
def RInt (k : IntKind) : Rp Int := fun _ cs n => cs = [.int k n] ∧ (Lit.int k n).wf = true
def RBool : Rp Bool := fun _ cs b => cs = [.bool b]
def RStr : Rp ByteArray := fun _ cs s => cs = [.string s] ∧ s.size ≤ maxLen
theorem RInt.mono {k : IntKind} : Mono (RInt k) := fun _ h => h
theorem RBool.mono : Mono RBool := fun _ h => h
theorem RStr.mono : Mono RStr := fun _ h => h
theorem Ent.int {t : TypeId} {k : IntKind} (hu : P.underlying t = some (.int k)) : Ent P (RInt k) t := fun enc w fuel cs d ps h H ι hr hro => by
  cases fuel with
  | zero => simp [DataW.trod] at h
  | succ fuel =>
    simp only [DataW.trod, hu] at h
    split at h <;> first | (exfalso; simp_all; done) | skip
    · rename_i k0 k' n he
      cases he
      split at h
      · rename_i hk
        obtain ⟨rfl, hk⟩ := hk
        exact ⟨H, ι, _, n, hr, hro, .refl _, Emb.le_refl _, .cons (.int _ n) .nil, rfl, hk⟩
      · cases h
theorem Ent.bool {t : TypeId} (hu : P.underlying t = some .bool) : Ent P RBool t := fun enc w fuel cs d ps h H ι hr hro => by
  cases fuel with
  | zero => simp [DataW.trod] at h
  | succ fuel =>
    simp only [DataW.trod, hu] at h
    split at h <;> first | (exfalso; simp_all; done) | skip
    · rename_i b he
      exact ⟨H, ι, _, b, hr, hro, .refl _, Emb.le_refl _, .cons (.bool b) .nil, rfl⟩
theorem Ent.str {t : TypeId} (hu : P.underlying t = some .string) : Ent P RStr t := fun enc w fuel cs d ps h H ι hr hro => by
  cases fuel with
  | zero => simp [DataW.trod] at h
  | succ fuel =>
    simp only [DataW.trod, hu] at h
    split at h <;> first | (exfalso; simp_all; done) | skip
    · rename_i s he
      split at h
      · rename_i hk
        exact ⟨H, ι, _, s, hr, hro, .refl _, Emb.le_refl _, .cons (.string s) .nil, rfl, hk⟩
      · cases h
def RSlice {α : Type} (n : Nat) (R : Rp α) : Rp (List α) := fun H cs xs =>
  ∃ v, cs = [v] ∧ xs.length ≤ maxLen ∧ ((v = .slice none 0 0 ∧ xs = []) ∨ (∃ b cap, v = .slice (some ⟨b, 0, none⟩) 0 cap ∧ xs = []) ∨
    ∃ b off cap et cells g k, v = .slice (some ⟨b, off, none⟩) xs.length cap ∧ xs.length ≤ cap ∧ cap ≤ maxLen ∧ b < H.next ∧ H.obj b = .row et cells .ro g k ∧ off + xs.length * n ≤ cells.length ∧
      ∀ (i : Nat) (x : α), xs[i]? = some x → R H ((cells.drop (off + i * n)).take n) x)
theorem RSlice.mono {α : Type} {n : Nat} {R : Rp α} (hm : Mono R) : Mono (RSlice n R) := fun hk h => by
  obtain ⟨v, rfl, hl, h | h | ⟨b, off, cap, et, cells, g, k, h1, h2, h3, h4, h5, h6, h7⟩⟩ := h
  · exact ⟨v, rfl, hl, .inl h⟩
  · exact ⟨v, rfl, hl, .inr (.inl h)⟩
  · exact ⟨v, rfl, hl, .inr (.inr ⟨b, off, cap, et, cells, g, k, h1, h2, h3, Nat.lt_of_lt_of_le h4 hk.1, hk.2 _ _ _ _ _ h4 h5, h6, fun i x hx => hm hk (h7 i x hx)⟩)⟩
theorem cells?_at {base : Nat} {a : Addr} {n : Nat} {cs : List Value} (h : w.cells? base a n = some cs) : cs.length = n ∧ ∀ i, i < n → ∃ y, cs[i]? = some y ∧ w.cell? (a.add i) = some y := by
  unfold World.cells? at h
  split at h
  · refine ⟨by simpa using Lib.mapM_length h, fun i hi => ?_⟩
    exact Lib.mapM_at h i i (by simp [hi])
  · cases h
theorem add_add (a : Addr) (i j : Nat) : (a.add i).add j = a.add (i + j) := by
  unfold Addr.add
  by_cases h : i = 0
  · subst h; simp
  · by_cases k : j = 0
    · subst k; simp [h]
    · rw [if_neg h, if_neg k, if_neg (by omega)]
      simp [Nat.add_assoc]
theorem Ent.elems {α : Type} {R : Rp α} {e : TypeId} (hR : Ent P R e) (hm : Mono R) {Hd : Type} (enc : TypeId × Value → Hd) (w : World) (fuel : Nat) (a : Addr) (n : Nat) (hn : P.cellsOf e = n) :
    ∀ (len : Nat), (∀ i, i < len → ∃ y, ((w.cells? 0 (a.add (i * n)) n).bind (DataW.trod enc P w 0 (fun _ => true) true fuel e)) = some y) →
    ∀ (H : AH) (ι : Emb), HRel P w.heap.size ι H w → Ro H → ∃ H' ι', ∃ as : List Value, ∃ xs : List α, HRel P w.heap.size ι' H' w ∧ Ro H' ∧ Kro H H' ∧ ι.le ι' ∧ xs.length = len ∧ as.length = len * n ∧
      (∀ (i : Nat) (x : Value), as[i]? = some x → ∃ y, w.cell? (a.add i) = some y ∧ VRel ι' x y) ∧ ∀ (i : Nat) (x : α), xs[i]? = some x → R H' ((as.drop (i * n)).take n) x
  | 0, _, H, ι, hr, hro => ⟨H, ι, [], [], hr, hro, .refl _, Emb.le_refl _, rfl, by simp, fun i x h => by simp at h, fun i x h => by simp at h⟩
  | len + 1, hel, H, ι, hr, hro => by
    obtain ⟨H1, ι1, as, xs, h1, h2, h3, h4, h5, h6, h7, h8⟩ := Ent.elems hR hm enc w fuel a n hn len (fun i hi => hel i (by omega)) H ι hr hro
    obtain ⟨y, hy⟩ := hel len (by omega)
    obtain ⟨cs, hc, ht⟩ := Option.bind_eq_some_iff.1 hy
    obtain ⟨H2, ι2, bs, x, k1, k2, k3, k4, k5, k6⟩ := hR enc w fuel cs y.1 y.2 ht H1 ι1 h1 h2
    obtain ⟨c1, c2⟩ := cells?_at hc
    have hbl : bs.length = n := by rw [k5.length, c1]
    refine ⟨H2, ι2, as ++ bs, xs ++ [x], k1, k2, h3.trans k3, Emb.le_trans h4 k4, by simp [h5], by simp [h6, hbl, Nat.add_mul], fun i z hz => ?_, fun i z hz => ?_⟩
    · by_cases hi : i < len * n
      · rw [List.getElem?_append_left (by omega)] at hz
        obtain ⟨y, q1, q2⟩ := h7 i z hz
        exact ⟨y, q1, q2.mono k4⟩
      · rw [List.getElem?_append_right (by omega), h6] at hz
        obtain ⟨y, q1, q2⟩ := k5.get hz
        have hlt : i - len * n < n := by have := (List.getElem?_eq_some_iff.1 hz).1; omega
        obtain ⟨y', q3, q4⟩ := c2 _ hlt
        rw [q1] at q3; cases q3
        refine ⟨y, ?_, q2⟩
        rw [add_add] at q4
        rwa [show len * n + (i - len * n) = i by omega] at q4
    · by_cases hi : i < len
      · rw [List.getElem?_append_left (by omega)] at hz
        have hle : i * n + n ≤ len * n := by
          have : (i + 1) * n ≤ len * n := Nat.mul_le_mul_right n hi
          rwa [Nat.add_mul, Nat.one_mul] at this
        have : ((as ++ bs).drop (i * n)).take n = (as.drop (i * n)).take n := by
          rw [List.drop_append_of_le_length (by omega), List.take_append_of_le_length (by simp; omega)]
        rw [this]
        exact hm k3 (h8 i z hz)
      · have : i = len := by
          have := (List.getElem?_eq_some_iff.1 hz).1
          simp at this; omega
        subst this
        rw [List.getElem?_append_right (by omega), h5] at hz
        simp at hz
        subst hz
        rw [← h6, List.drop_left, List.take_of_length_le (by omega)]
        exact k6
theorem Ent.slice {α : Type} {R : Rp α} {t e : TypeId} {n : Nat} (hu : P.underlying t = some (.slice e)) (hn : P.cellsOf e = n) (h0 : 0 < n) (hR : Ent P R e) (hm : Mono R) : Ent P (RSlice n R) t := fun {Hd} enc w fuel cs d ps h H ι hr hro => by
  cases fuel with
  | zero => simp [DataW.trod] at h
  | succ fuel =>
    simp only [DataW.trod, hu] at h
    split at h <;> first | (exfalso; simp_all; done) | skip
    · exact ⟨H, ι, _, [], hr, hro, .refl _, Emb.le_refl _, .cons .sliceNil .nil, _, rfl, Nat.zero_le _, .inl ⟨rfl, rfl⟩⟩
    · rename_i e' a len cap he
      cases he
      split at h
      · rename_i hc
        obtain ⟨_, hlc, hcm⟩ := hc
        obtain ⟨elems, hel, h⟩ := Option.bind_eq_some_iff.1 h
        obtain ⟨rest, hrest, h⟩ := Option.map_eq_some_iff.1 h
        have hat : ∀ i, i < len → ∃ y, ((w.cells? 0 (a.add (i * n)) n).bind (DataW.trod enc P w 0 (fun _ => true) true fuel e)) = some y := fun i hi => by
          obtain ⟨y, _, hy⟩ := Lib.mapM_at hel i i (by simp [hi])
          rw [hn] at hy
          exact ⟨y, hy⟩
        have hunk : cap < unk := Nat.lt_of_le_of_lt hcm (by decide)
        by_cases hl0 : len = 0
        · subst hl0
          by_cases hc0 : cap = 0
          · subst hc0
            have hd : OOk P w.heap.size ι w ⟨0, 0, 0, 1⟩ .dead := trivial
            obtain ⟨q1, q2⟩ := HRel.row_ro hr hro (.inr rfl) hd
            exact ⟨_, _, [.slice (some ⟨H.next, 0, none⟩) 0 unk], [], q2, hro.alloc (.inr rfl), .alloc _ _, Emb.le_put q1, .cons (.sliceEnd a (l := ⟨0, 0, 0, 1⟩) (by simp [Emb.put]) rfl) .nil, _, rfl, Nat.zero_le _, .inr (.inl ⟨_, _, rfl, rfl⟩)⟩
          · obtain ⟨y, _, hy⟩ := Lib.mapM_at hrest 0 0 (List.getElem?_range (by omega))
            obtain ⟨cs0, hc0', _⟩ := Option.bind_eq_some_iff.1 hy
            rw [hn] at hc0'
            obtain ⟨z, _, hz⟩ := (cells?_at hc0').2 0 h0
            simp only [Nat.zero_mul, Nat.add_zero, add_add] at hz
            have hsp : a.spot = none := by
              unfold World.cell? at hz
              split at hz
              · split at hz
                · cases hz
                · rename_i hs; simpa [Addr.add] using hs
              · cases hz
            have hd : OOk P w.heap.size ι w ⟨a.block, a.off, 0, 1⟩ .dead := trivial
            obtain ⟨q1, q2⟩ := HRel.row_ro hr hro (.inr rfl) hd
            have ha : a = ⟨a.block, a.off + 0, none⟩ := by cases a; simp at hsp; subst hsp; rfl
            refine ⟨_, _, [.slice (some ⟨H.next, 0, none⟩) 0 cap], [], q2, hro.alloc (.inr rfl), .alloc _ _, Emb.le_put q1, .cons ?_ .nil, _, rfl, Nat.zero_le _, .inr (.inl ⟨_, _, rfl, rfl⟩)⟩
            rw [ha]
            exact .slice (l := ⟨a.block, a.off, 0, 1⟩) (by simp [Emb.put]) hunk (Nat.zero_le _)
        · obtain ⟨H1, ι1, as, xs, h1, h2, h3, h4, h5, h6, h7, h8⟩ := Ent.elems hR hm enc w fuel a n hn len hat H ι hr hro
          have hpos : 0 < len * n := Nat.mul_pos (by omega) h0
          obtain ⟨z, hz, _⟩ := h7 0 as[0] (by simp [List.getElem?_eq_getElem (show 0 < as.length by omega)])
          have ⟨hsp, c, tt, fr, hw⟩ : a.spot = none ∧ ∃ c t fr, w.heap[a.block]? = some (.cells c t fr) := by
            unfold World.cell? at hz
            split at hz
            · rename_i c t fr hw
              split at hz
              · cases hz
              · rename_i hs; exact ⟨by simpa [Addr.add] using hs, c, t, fr, by simpa [Addr.add] using hw⟩
            · cases hz
          have hcell : ∀ (i : Nat) (x : Value), as[i]? = some x → ∃ y, c[a.off + i]? = some y ∧ VRel ι1 x y := fun i x hx => by
            obtain ⟨y, hy, hv⟩ := h7 i x hx
            refine ⟨y, ?_, hv⟩
            unfold World.cell? at hy
            have hb : (a.add i).block = a.block := by unfold Addr.add; split <;> rfl
            have ho : (a.add i).off = a.off + i := by unfold Addr.add; split <;> simp_all
            rw [hb, hw] at hy
            simp only at hy
            split at hy
            · cases hy
            · rw [← ho]; exact hy
          have hfit : a.off + as.length ≤ c.size := by
            obtain ⟨y, hy, _⟩ := hcell (as.length - 1) as[as.length - 1] (by simp [List.getElem?_eq_getElem (show as.length - 1 < as.length by omega)])
            have := (Array.getElem?_eq_some_iff.1 hy).1
            omega
          have hd : OOk P w.heap.size ι1 w ⟨a.block, a.off, c.size, P.cellsOf e⟩ (.row e as .ro 0 0) :=
            ⟨⟨c, tt, fr, hw, rfl, hcell, fun e => (nomatch e)⟩, hfit, rfl, fun e => absurd rfl e, fun _ => (Array.getElem?_eq_some_iff.1 hw).1, fun e => (nomatch e)⟩
          obtain ⟨q1, q2⟩ := HRel.row_ro h1 h2 (.inl ⟨_, _, rfl⟩) hd
          have ha : a = ⟨a.block, a.off + 0, none⟩ := by cases a; simp at hsp; subst hsp; rfl
          refine ⟨_, _, [.slice (some ⟨H1.next, 0, none⟩) xs.length cap], xs, q2, h2.alloc (.inl ⟨_, _, rfl⟩), h3.trans (.alloc _ _), Emb.le_trans h4 (Emb.le_put q1), .cons ?_ .nil, _, rfl, by omega, .inr (.inr ⟨H1.next, 0, cap, e, as, 0, 0, rfl, by omega, hcm, by simp, by simp, by rw [h5, h6]; omega, fun i x hx => ?_⟩)⟩
          · rw [h5, ha]
            exact .slice (l := ⟨a.block, a.off, c.size, P.cellsOf e⟩) (by simp [Emb.put]) hunk hlc
          · rw [Nat.zero_add]
            exact hm (.alloc _ _) (h8 i x hx)
      · cases h
def REnd : Rp Unit := fun _ cs _ => cs = []
def RCons {α β : Type} (n : Nat) (R : Rp α) (S : Rp β) : Rp (α × β) := fun H cs x => R H (cs.take n) x.1 ∧ S H (cs.drop n) x.2
theorem REnd.mono : Mono REnd := fun _ h => h
theorem RCons.mono {α β : Type} {n : Nat} {R : Rp α} {S : Rp β} (h : Mono R) (k : Mono S) : Mono (RCons n R S) := fun hk hx => ⟨h hk hx.1, k hk hx.2⟩
def EntF {β : Type} (P : Program) (S : Rp β) (fs : List Field) (off size : Nat) : Prop :=
  ∀ {Hd : Type} (enc : TypeId × Value → Hd) (w : World) (fuel : Nat) (cs : List Value), cs.length = size →
    (∀ f, f ∈ fs → ∃ y, DataW.trod enc P w 0 (fun _ => true) true fuel f.type ((cs.drop f.offset).take (P.cellsOf f.type)) = some y) →
    ∀ (H : AH) (ι : Emb), HRel P w.heap.size ι H w → Ro H → ∃ H' ι' as, ∃ b : β, HRel P w.heap.size ι' H' w ∧ Ro H' ∧ Kro H H' ∧ ι.le ι' ∧ LRel ι' as (cs.drop off) ∧ S H' as b
theorem EntF.nil {off size : Nat} (h : size ≤ off) : EntF P REnd [] off size := fun enc w fuel cs hl _ H ι hr hro =>
  ⟨H, ι, [], (), hr, hro, .refl _, Emb.le_refl _, by rw [List.drop_eq_nil_iff.2 (by omega)]; exact .nil, rfl⟩
theorem EntF.cons {α β : Type} {R : Rp α} {S : Rp β} {f : Field} {fs : List Field} {off n size : Nat} (ho : f.offset = off) (hn : P.cellsOf f.type = n) (hs : off + n ≤ size) (hR : Ent P R f.type) (hm : Mono R) (hS : EntF P S fs (off + n) size) :
    EntF P (RCons n R S) (f :: fs) off size := fun enc w fuel cs hl hf H ι hr hro => by
  obtain ⟨y, hy⟩ := hf f (by simp)
  rw [ho, hn] at hy
  obtain ⟨H1, ι1, as, x, h1, h2, h3, h4, h5, h6⟩ := hR enc w fuel _ y.1 y.2 hy H ι hr hro
  obtain ⟨H2, ι2, bs, z, k1, k2, k3, k4, k5, k6⟩ := hS enc w fuel cs hl (fun g hg => hf g (by simp [hg])) H1 ι1 h1 h2
  have hlen : as.length = n := by rw [h5.length]; simp; omega
  refine ⟨H2, ι2, as ++ bs, (x, z), k1, k2, h3.trans k3, Emb.le_trans h4 k4, ?_, ?_, ?_⟩
  · have := (h5.mono k4).append k5
    rwa [← List.drop_drop, List.take_append_drop] at this
  · simp only [← hlen, List.take_left]; exact hm k3 h6
  · simp only [← hlen, List.drop_left]; exact k6
theorem Ent.struct {β : Type} {S : Rp β} {t : TypeId} {fs : Array Field} {l : List Field} {size : Nat} (hu : P.underlying t = some (.struct fs)) (hl : fs.toList = l) (hs : P.cellsOf t = size) (h : EntF P S l 0 size) : Ent P S t := fun {Hd} enc w fuel cs d ps ht H ι hr hro => by
  cases fuel with
  | zero => simp [DataW.trod] at ht
  | succ fuel =>
    simp only [DataW.trod, hu] at ht
    split at ht
    · rename_i hlen
      obtain ⟨xs, hm, _⟩ := Option.map_eq_some_iff.1 ht
      obtain ⟨H', ι', as, b, h1, h2, h3, h4, h5, h6⟩ := h enc w fuel cs (by omega) (fun f hf => by
        rw [← hl] at hf
        obtain ⟨i, hi⟩ := List.mem_iff_getElem?.1 hf
        obtain ⟨y, _, hy⟩ := Lib.mapM_at hm i f hi
        exact ⟨y, hy⟩) H ι hr hro
      exact ⟨H', ι', as, b, h1, h2, h3, h4, by simpa using h5, h6⟩
    · cases ht
end Go.Ev

/-
  EV, universal use, part f: a law's arguments, and what its call does.
-/
namespace Go.Ev
open Go.RowKit
variable {P : Program} {w : World} {H : AH} {ι : Emb}
theorem cell_not_agg {base : Nat} {t : TypeId} {cs : Array Value} (h : Cell.okWide P w .any base t (.agg cs)) : False := by
  revert h; unfold Cell.okWide Cell.ok
  cases P.underlying t with
  | none => simp
  | some d => cases d <;> simp
def Desc.many : TypeDesc → Bool
  | .struct _ | .array _ _ => true
  | _ => false
theorem Ent.one {α : Type} {R : Rp α} {t : TypeId} {ds : TypeDesc} (hu : P.underlying t = some ds) (hm : Desc.many ds = false) (hR : Ent P R t) {Hd : Type} (enc : TypeId × Value → Hd) {base : Nat} {v : Value} {d : DataW Hd} {ps : List MemPlace} (hok : Value.okWide P w .any base t v) (ht : DataW.Trod enc P w 0 (fun _ => true) true t v d ps)
    (hr : HRel P w.heap.size ι H w) (hro : Ro H) : ∃ H' ι' av, ∃ a : α, HRel P w.heap.size ι' H' w ∧ Ro H' ∧ Kro H H' ∧ ι.le ι' ∧ VRel ι' av v ∧ R H' [av] a := by
  obtain ⟨fuel, ht⟩ := ht
  obtain ⟨H', ι', as, a, h1, h2, h3, h4, h5, h6⟩ := hR enc w fuel _ d ps ht H ι hr hro
  have hc : Cell.okWide P w .any base t v := by
    unfold Value.okWide at hok
    rw [hu] at hok
    cases ds <;> first | exact hok | cases hm
  have hv : v.cells = #[v] := by cases v <;> first | rfl | exact (cell_not_agg hc).elim
  rw [hv] at h5
  cases h5 with
  | cons hx hnil =>
    cases hnil
    exact ⟨H', ι', _, a, h1, h2, h3, h4, hx, h6⟩
theorem Ent.agg {α : Type} {R : Rp α} {t : TypeId} {fs : Array Field} (hu : P.underlying t = some (.struct fs)) (hR : Ent P R t) {Hd : Type} (enc : TypeId × Value → Hd) {base : Nat} {v : Value} {d : DataW Hd} {ps : List MemPlace} (hok : Value.okWide P w .any base t v) (ht : DataW.Trod enc P w 0 (fun _ => true) true t v d ps)
    (hr : HRel P w.heap.size ι H w) (hro : Ro H) : ∃ H' ι' as, ∃ a : α, HRel P w.heap.size ι' H' w ∧ Ro H' ∧ Kro H H' ∧ ι.le ι' ∧ VRel ι' (.agg as) v ∧ R H' as.toList a := by
  obtain ⟨fuel, ht⟩ := ht
  obtain ⟨H', ι', as, a, h1, h2, h3, h4, h5, h6⟩ := hR enc w fuel _ d ps ht H ι hr hro
  unfold Value.okWide at hok
  rw [hu] at hok
  obtain ⟨cs, rfl, _⟩ := hok
  refine ⟨H', ι', as.toArray, a, h1, h2, h3, h4, ?_, by simpa using h6⟩
  have : VRel ι' (.agg as.toArray) (.agg cs.toList.toArray) := VRel.agg' h5
  simpa using this
def AEnd : Rp Unit := fun _ avs _ => avs = []
def AOne {α β : Type} (R : Rp α) (S : Rp β) : Rp (α × β) := fun H avs x => ∃ v vs, avs = v :: vs ∧ R H [v] x.1 ∧ S H vs x.2
def AAgg {α β : Type} (R : Rp α) (S : Rp β) : Rp (α × β) := fun H avs x => ∃ cs vs, avs = .agg cs :: vs ∧ R H cs.toList x.1 ∧ S H vs x.2
def EntA {β : Type} (P : Program) (S : Rp β) (ts : List TypeId) : Prop :=
  ∀ {Hd : Type} (enc : TypeId × Value → Hd) (w : World) (base : Nat) (vs : List Value) (ds : List (DataW Hd)) (ps : List MemPlace), DataW.TrodAll enc P w 0 (fun _ => true) true ts vs ds ps →
    (∀ (j : Nat) t v, ts[j]? = some t → vs[j]? = some v → Value.okWide P w .any base t v) →
    ∀ (H : AH) (ι : Emb), HRel P w.heap.size ι H w → Ro H → ∃ H' ι' avs, ∃ b : β, HRel P w.heap.size ι' H' w ∧ Ro H' ∧ Kro H H' ∧ ι.le ι' ∧ LRel ι' avs vs ∧ S H' avs b
theorem EntA.nil : EntA P AEnd [] := fun enc w base vs ds ps h _ H ι hr hro => by
  cases vs with
  | nil => exact ⟨H, ι, [], (), hr, hro, .refl _, Emb.le_refl _, .nil, rfl⟩
  | cons v vs => exact h.elim
theorem EntA.one {α β : Type} {R : Rp α} {S : Rp β} {t : TypeId} {ts : List TypeId} {dsc : TypeDesc} (hu : P.underlying t = some dsc) (hm : Desc.many dsc = false) (hR : Ent P R t) (hmo : Mono R) (hS : EntA P S ts) : EntA P (AOne R S) (t :: ts) := fun enc w base vs ds ps h hok H ι hr hro => by
  cases vs with
  | nil => exact h.elim
  | cons v vs =>
    cases ds with
    | nil => exact h.elim
    | cons d ds =>
      obtain ⟨p, q, h1, h2, _⟩ := h
      obtain ⟨H1, ι1, av, a, k1, k2, k3, k4, k5, k6⟩ := Ent.one hu hm hR enc (hok 0 t v rfl rfl) h1 hr hro
      obtain ⟨H2, ι2, avs, b, l1, l2, l3, l4, l5, l6⟩ := hS enc w base vs ds q h2 (fun j t v ht hv => hok (j + 1) t v (by simpa using ht) (by simpa using hv)) H1 ι1 k1 k2
      exact ⟨H2, ι2, av :: avs, (a, b), l1, l2, k3.trans l3, Emb.le_trans k4 l4, .cons (k5.mono l4) l5, av, avs, rfl, hmo l3 k6, l6⟩
theorem EntA.agg {α β : Type} {R : Rp α} {S : Rp β} {t : TypeId} {ts : List TypeId} {fs : Array Field} (hu : P.underlying t = some (.struct fs)) (hR : Ent P R t) (hmo : Mono R) (hS : EntA P S ts) : EntA P (AAgg R S) (t :: ts) := fun enc w base vs ds ps h hok H ι hr hro => by
  cases vs with
  | nil => exact h.elim
  | cons v vs =>
    cases ds with
    | nil => exact h.elim
    | cons d ds =>
      obtain ⟨p, q, h1, h2, _⟩ := h
      obtain ⟨H1, ι1, as, a, k1, k2, k3, k4, k5, k6⟩ := Ent.agg hu hR enc (hok 0 t v rfl rfl) h1 hr hro
      obtain ⟨H2, ι2, avs, b, l1, l2, l3, l4, l5, l6⟩ := hS enc w base vs ds q h2 (fun j t v ht hv => hok (j + 1) t v (by simpa using ht) (by simpa using hv)) H1 ι1 k1 k2
      exact ⟨H2, ι2, .agg as :: avs, (a, b), l1, l2, k3.trans l3, Emb.le_trans k4 l4, .cons (k5.mono l4) l5, as, avs, rfl, hmo l3 k6, l6⟩
theorem Ro.laid {rows : List AObj} (hr : ∀ g o, rows[g]? = some o → RowIn w g o) : Ro (startH rows) := fun b => by
  rw [startH_obj]
  cases h : rows[b]? with
  | none => exact .inr rfl
  | some o =>
    have hi := hr b o h
    cases o with
    | row et cells st g v =>
      cases st <;> try exact hi.elim
      cases g with
      | succ g => exact hi.elim
      | zero => cases v with
        | succ v => exact hi.elim
        | zero => exact .inl ⟨et, cells, rfl⟩
    | dead => exact .inr rfl
    | map es => exact hi.elim
    | strIter s p => exact hi.elim
    | loop => exact hi.elim
theorem law_calls {β : Type} (hn : (P.funcs.toList.all fun fn => !(fn.name == "runtime.NumGoroutine")) = true) (hm : P.follows .mixedOrders = true) {rows : List AObj} (hr : ∀ g o, rows[g]? = some o → RowIn w g o)
    {S : Rp β} {ts : List TypeId} (hS : EntA P S ts) {Hd : Type} {enc : TypeId × Value → Hd} {base : Nat} {args : Array Value} {ds : List (DataW Hd)} {ps : List MemPlace} (ht : DataW.TrodAll enc P w 0 (fun _ => true) true ts args.toList ds ps)
    (hok : ∀ (j : Nat) t v, ts[j]? = some t → args[j]? = some v → Value.okWide P w .any base t v) {f : FuncId} {v : Value} (hv : plain v = true) {O : Orc} (hO : OrcOk (envOf P rows.length) O)
    (hL : ∀ H avs b, Kro (startH rows) H → S H avs b → ∃ H', Lc (envOf P rows.length) O f avs H v H') : Calls P f args w fun e w' => e = .returned v ∧ Below w.heap.size w w' := by
  obtain ⟨H', ι', avs, b, h1, h2, h3, h4, h5, h6⟩ := hS enc w base args.toList ds ps ht (fun j t v a c => hok j t v a (by simpa using c)) (startH rows) (startE P rows) (HRel.laid P w rows hr) (Ro.laid hr)
  obtain ⟨H'', hl⟩ := hL H' avs b h3 h6
  have hG : GOk (startE P rows) (envOf P rows.length).nG := fun g hg => by
    have hg' : g < rows.length := hg
    cases hs : startE P rows g with
    | some l => exact ⟨l, rfl, (startE_blk hs).2⟩
    | none =>
      unfold startE at hs
      rw [show rows[g]? = some rows[g] by simp [hg']] at hs
      split at hs <;> simp_all
  have := Lc.sound (V := envOf P rows.length) hO (fun t ti h => h) (fnOf_ok hn) hm hl w.heap.size ι' w args.toList (hG.mono h4) h1 h5
  exact this.mono fun e w' ⟨v', ι'', he, hr, hs⟩ => ⟨by rw [he, hr.plain_eq hv], hs.below⟩
end Go.Ev

/-
  EV, universal use, part g: what a universal row asks of its law.
-/
namespace Go.Ev
open Go.RowKit Go.ChangeShapes Go.WideShapes Go.ChangeAt
variable {P : Program} {W W' : World}
theorem trodAll_stays {Hd : Type} {enc : TypeId × Value → Hd} (hl : laidOutB P = true) (hb : Below W.heap.size W W') {sp : Nat → Bool} : ∀ {ts : List TypeId} {vs : List Value} {ds : List (DataW Hd)} {ps : List MemPlace},
    (∀ t ∈ ts, P.readableRec t = true ∧ t < P.types.size) → DataW.TrodAll enc P W 0 (fun _ => true) true ts vs ds ps → (∀ x ∈ ps, x.block < W.heap.size) → (∀ x ∈ ps, sp x.block = true) → DataW.TrodAll enc P W' 0 sp true ts vs ds ps
  | [], [], [], _, _, h, _, _ => h
  | [], [], _ :: _, _, _, h, _, _ => h.elim
  | [], _ :: _, _, _, _, h, _, _ => h.elim
  | _ :: _, [], _, _, _, h, _, _ => h.elim
  | _ :: _, _ :: _, [], _, _, h, _, _ => h.elim
  | t :: ts, v :: vs, d :: ds, ps, ht, h, hlt, hsp => by
    obtain ⟨p, q, h1, h2, rfl⟩ := h
    exact ⟨p, q, WideElems.Trod_stays hl (ht t (by simp)).1 (ht t (by simp)).2 h1 (fun x hx => hb.same (hlt x (by simp [hx]))) (fun x hx => hsp x (by simp [hx])),
      trodAll_stays hl hb (fun u hu => ht u (by simp [hu])) h2 (fun x hx => hlt x (by simp [hx])) (fun x hx => hsp x (by simp [hx])), rfl⟩
theorem trodAll_len {Hd : Type} {enc : TypeId × Value → Hd} {sp : Nat → Bool} : ∀ {ts : List TypeId} {vs : List Value} {ds : List (DataW Hd)} {ps : List MemPlace}, DataW.TrodAll enc P W 0 sp true ts vs ds ps → vs.length = ts.length ∧ ds.length = ts.length
  | [], [], [], _, _ => ⟨rfl, rfl⟩
  | [], [], _ :: _, _, h => h.elim
  | [], _ :: _, _, _, h => h.elim
  | _ :: _, [], _, _, h => h.elim
  | _ :: _, _ :: _, [], _, h => h.elim
  | _ :: _, _ :: _, _ :: _, _, h => by
    obtain ⟨p, q, _, h2, _⟩ := h
    have := trodAll_len h2
    simp [this.1, this.2]
theorem law_contract {β : Type} (hn : (P.funcs.toList.all fun fn => !(fn.name == "runtime.NumGoroutine")) = true) (hm : P.follows .mixedOrders = true) (hl : laidOutB P = true) {rows : List AObj} (hr : ∀ g o, rows[g]? = some o → RowIn W g o)
    {S : Rp β} {f : FuncId} {fn : Func} {ts : List TypeId} (hp : fn.params.toList = ts) (hS : EntA P S ts) (hts : (ts.all fun t => P.readableRec t && decide (t < P.types.size)) = true)
    {tb : TypeId} (hres : fn.resultTypes = #[tb]) (hbool : P.underlying tb = some .bool) {s : ChangeSpec} (hvars : s.vars = [])
    {H : Type} {enc : TypeId × Value → H} {base : Nat} {args : Array Value} {ds gs : List (DataW H)} {before : List MemPlace} (hfn : gs = [] → ds.length = ts.length → s.fn H (ds ++ gs) = { results := [.lit (.bool true)], args := ds })
    (hval : ∀ (j : Nat) t v, fn.params[j]? = some t → args[j]? = some v → Value.okWide P W .any base t v)
    (hW : DataW.Whole enc P fn.params.toList s.vars false W args.toList ds gs before) {fresh handsOn again : Bool} {O : Orc} (hO : OrcOk (envOf P rows.length) O)
    (hL : ∀ H avs b, Kro (startH rows) H → S H avs b → ∃ H', Lc (envOf P rows.length) O f avs H (.bool true) H') :
    Calls P f args W fun e W' => ∃ v, e = .returned v ∧ s.post enc P fn false fresh handsOn again W args v W' := by
  have hW' := hW
  obtain ⟨p, q, hA, hV, rfl, _, _⟩ := hW
  rw [hvars] at hV
  obtain ⟨rfl, rfl⟩ := trodVars_none hV
  rw [hp] at hA
  have hlen := trodAll_len hA
  have hf := hfn rfl hlen.2
  have hlt : ∀ x ∈ p, x.block < W.heap.size := fun x hx => hW'.lt x (by simp [hx])
  refine (law_calls hn hm hr hS hA (base := base) (fun j t v ht hv => hval j t v (by rw [← hp] at ht; simpa using ht) hv) rfl hO hL).mono fun e W' ⟨he, hb⟩ => ?_
  subst he
  have hts' : ∀ t ∈ ts, P.readableRec t = true ∧ t < P.types.size := fun t ht => by
    have := List.all_eq_true.1 hts t ht
    simpa using this
  refine ⟨_, rfl, post_below (pa := p) (pv := []) hW' hb (fun _ _ _ => ?_) (fun sp hsp => ?_) (fun sp _ => ?_) rfl (ok_one hres rfl (okWide_bool_mk hbool _))⟩
  · rw [hf, hres]
    exact trodAll_cons_mk (shut_bool hbool _) trodAll_mk0
  · rw [hf, hp]
    exact trodAll_stays hl hb hts' hA hlt (fun x hx => hsp x (by simp [hx]))
  · rw [hf, hvars]; exact rfl
end Go.Ev

/-
  EV, universal use, part h: closed calls that the kernel has run, known wherever the package-level variables are as laid.
-/
namespace Go.Ev
open Go.RowKit
def rowOk : AObj → Bool
  | .row _ cells .ro 0 0 => cells.all plain
  | .dead => true
  | _ => false
theorem plain_soundS {P : Program} {rows : List AObj} (hrows : rows.all rowOk = true) {f : FuncId} {vs : List Value} {v : Value} {H' : AH} (hvs : vs.all constOk = true) (hv : constOk v = true)
    (h1 : Sound (envOf P rows.length) (.fn f) vs (startH rows) v H') {H : AH} (hk : Kro (startH rows) H) : Sound (envOf P rows.length) (.fn f) vs H v H := by
  intro B0 ι w vs' hG hR hL
  obtain rfl := hL.constOk_eq hvs
  have hrow : ∀ b o, rows[b]? = some o → rowOk o = true := fun b o ho => List.all_eq_true.1 hrows o (List.mem_of_getElem? ho)
  let ι0 : Emb := fun b => if b < rows.length then ι b else none
  have hι0 : ∀ b l, ι0 b = some l → b < rows.length ∧ ι b = some l := fun b l hb => by
    simp only [ι0] at hb
    split at hb
    · rename_i hlt; exact ⟨hlt, hb⟩
    · cases hb
  have hobj : ∀ b, (startH rows).obj b = (rows[b]?).getD .dead := startH_obj rows
  have hRo : ∀ b, b < rows.length → (∃ et cells, (startH rows).obj b = .row et cells .ro 0 0 ∧ (∀ x ∈ cells, plain x = true)) ∨ (startH rows).obj b = .dead := fun b hb => by
    rw [hobj, show rows[b]? = some rows[b] by simp [hb]]
    have := hrow b rows[b] (by simp [hb])
    generalize rows[b] = o at this ⊢
    cases o with
    | row et cells st g v =>
      cases st <;> try cases this
      cases g with
      | succ g => cases this
      | zero => cases v with
        | succ v => cases this
        | zero => exact .inl ⟨et, cells, rfl, fun x hx => List.all_eq_true.1 this x hx⟩
    | dead => exact .inr rfl
    | map es => cases this
    | strIter s p => cases this
    | loop => cases this
  have hR0 : HRel P w.heap.size ι0 (startH rows) w := by
    refine { base := Nat.le_refl _, dom := fun b l hb => (hι0 b l hb).1, obj := fun b l hb ha => ?_, sep := fun b b' l l' hne hb hb' ha ha' he => ?_, grp := fun b l et cells st g v hb ho => ?_ }
    · obtain ⟨hlt, hb'⟩ := hι0 b l hb
      rcases hRo b hlt with ⟨et, cells, e, hp⟩ | e
      · have e' := hk.2 b et cells 0 0 hlt e
        have ok := hR.obj b l hb' (by rw [e']; rfl)
        rw [e'] at ok
        rw [e]
        obtain ⟨⟨cs, t, fr, q1, q2, q3, q4⟩, hf, he, ho, hr, hx⟩ := ok
        have hlt2 : l.blk < w.heap.size := (Array.getElem?_eq_some_iff.1 q1).1
        exact ⟨⟨cs, t, fr, q1, q2, fun i x hx => by
          obtain ⟨y, r1, r2⟩ := q3 i x hx
          have hp' := hp x (List.mem_of_getElem? hx)
          have := r2.plain_eq hp'
          subst this
          exact ⟨_, r1, VRel.of_plain hp'⟩, q4⟩, hf, he, fun e => absurd rfl e, fun _ => hlt2, fun e => (nomatch e)⟩
      · rw [e] at ha; cases ha
    · rcases hRo b (hι0 b l hb).1 with ⟨et, cells, e, _⟩ | e
      · rcases hRo b' (hι0 b' l' hb').1 with ⟨et', cells', e', _⟩ | e'
        · rw [e, e']; trivial
        · rw [e'] at ha'; cases ha'
      · rw [e] at ha; cases ha
    · have hlt := (hι0 b l hb).1
      rcases hRo b hlt with ⟨et', cells', e, _⟩ | e
      · rw [e] at ho; cases ho
        exact ⟨by show 0 < rows.length; omega, Nat.zero_le _⟩
      · rw [e] at ho; cases ho
  have hG0 : GOk ι0 (envOf P rows.length).nG := fun g hg => by
    obtain ⟨l, a, b⟩ := hG g hg
    exact ⟨l, by simp only [ι0]; rw [if_pos (show g < rows.length from hg)]; exact a, b⟩
  have hL0 : ∀ {l : List Value}, l.all constOk = true → LRel ι0 l l := fun {l} hl => by
    induction l with
    | nil => exact .nil
    | cons a l ih =>
      simp only [List.all_cons, Bool.and_eq_true] at hl
      exact .cons (VRel.of_constOk hl.1) (ih hl.2)
  have := h1 w.heap.size ι0 w vs' hG0 hR0 (hL0 hvs)
  refine this.mono fun e w' ⟨v', ι', he, hr, hs⟩ => ⟨v, ι, by rw [he, hr.constOk_eq hv], VRel.of_constOk hv, ?_⟩
  have hsame : ∀ b l, ι b = some l → H.alive (H.obj b) = true → w'.heap[l.blk]? = w.heap[l.blk]? := fun b l hb ha => hs.low _ ((hR.obj b l hb ha).lt ha)
  have hrel : HRel P B0 ι H w' :=
    { base := Nat.le_trans hR.base hs.size, dom := hR.dom, obj := fun b l hb ha => (hR.obj b l hb ha).carry (Emb.le_refl _) (hsame b l hb ha), sep := hR.sep, grp := hR.grp }
  exact
    { le := Emb.le_refl _, new := fun _ _ h => .inl h, next := Nat.le_refl _, rel := hrel, size := hs.size, frame := fun c hc _ => hs.low c hc, low := fun c hc => hs.low c (Nat.lt_of_lt_of_le hc hR.base),
      fresh := fun b l h k => (by rw [h] at k; cases k), old := fun _ _ _ h => h, loc := fun _ _ _ => rfl, os := hs.os, tape := hs.tape, output := hs.output }
noncomputable def orcOne (rows : List AObj) (f : FuncId) (v : Value) : Orc := fun g vs H => by
  classical
  exact if g = f ∧ vs = [] ∧ Kro (startH rows) H then some (v, H) else none
theorem orcOne_ok {V : Env} {rows : List AObj} {f : FuncId} {v : Value} (h : ∀ H, Kro (startH rows) H → Sound V (.fn f) [] H v H) : OrcOk V (orcOne rows f v) := fun g vs H u H' hu => by
  unfold orcOne at hu
  split at hu
  · rename_i hc
    cases hu
    obtain ⟨rfl, rfl, hk⟩ := hc
    exact h H hk
  · cases hu
theorem orcOne_ne {rows : List AObj} {f : FuncId} {v : Value} {g : FuncId} (h : g ≠ f) (vs : List Value) (H : AH) : orcOne rows f v g vs H = none := by
  unfold orcOne
  rw [if_neg (fun e => h e.1)]
theorem orcOne_eq {rows : List AObj} {f : FuncId} {v : Value} {H : AH} (h : Kro (startH rows) H) : orcOne rows f v f [] H = some (v, H) := by
  unfold orcOne
  rw [if_pos ⟨rfl, rfl, h⟩]
end Go.Ev

/-
  EV, universal use, part i: slices of strings cut, slices of one's own.
-/
namespace Go.Ev
open Go.RowKit
variable {V : Env} {O : Orc}
section
variable {g : Ft} {H : AH}
theorem op_sliceS {x lo : Operand} {t : TypeId} {s : ByteArray} {n b : Nat} {z : Value} {k : IntKind} {i : Int} (hx : g x = some (.string s)) (hi : g lo = some (.int k i)) (ht : V.E t = some ⟨.string, n, b, z⟩) (h0 : 0 ≤ i) (h1 : i ≤ s.size) :
    aopG V g H (.slice t x (some lo) none none) = some (.string (s.extract i.toNat s.size), H) := by
  simp only [aopG, hx, gopt, hi, Option.map_some, aSlice, ht, optBound, bound]
  rw [if_pos ⟨h0, h1⟩]; rfl
theorem op_sliceS2 {x lo hi : Operand} {t : TypeId} {s : ByteArray} {n b : Nat} {z : Value} {k k' : IntKind} {i j : Int} (hx : g x = some (.string s)) (hl : g lo = some (.int k i)) (hj : g hi = some (.int k' j)) (ht : V.E t = some ⟨.string, n, b, z⟩) (h0 : 0 ≤ i) (h1 : i ≤ j) (h2 : j ≤ s.size) :
    aopG V g H (.slice t x (some lo) (some hi) none) = some (.string (s.extract i.toNat j.toNat), H) := by
  simp only [aopG, hx, gopt, hl, hj, Option.map_some, aSlice, ht, optBound, bound]
  rw [if_pos ⟨by omega, h2⟩]
  simp only
  rw [if_pos ⟨h0, by omega⟩]; rfl
end
def Own (H : AH) (e : TypeId) (sz : Nat) (v : Value) (n : Nat) (cells : List Value) : Prop :=
  cells.length = n * sz ∧ ((v = .slice none 0 0 ∧ n = 0) ∨ ∃ b g k, v = .slice (some ⟨b, 0, none⟩) n unk ∧ b < H.next ∧ H.obj b = .row e cells .loose g k ∧ H.ver g = k)
theorem Own.nil {H : AH} {e : TypeId} {sz : Nat} : Own H e sz (.slice none 0 0) 0 [] := ⟨by simp, .inl ⟨rfl, rfl⟩⟩
theorem Own.app {H : AH} {e : TypeId} {sz bytes n m : Nat} {v : Value} {cells new : List Value} (h : Own H e sz v n cells) (hm : 0 < m) (hz : 0 < sz) (hn : new.length = m * sz) (hb : (n + m) * bytes ≤ 140737488355328) (hl : n + m < 4611686018427387904) :
    ∃ v' H', H.app e sz bytes v m new = some (v', H') ∧ Own H' e sz v' (n + m) (cells ++ new) ∧ Kro H H' := by
  obtain ⟨hc, ⟨rfl, rfl⟩ | ⟨b, g, k, rfl, hlt, ho, hv⟩⟩ := h
  · have : cells = [] := List.length_eq_zero_iff.1 (by simpa using hc)
    subst this
    refine ⟨.slice (some ⟨H.next, 0, none⟩) (0 + m) unk, H.alloc (.row e new .loose H.next (H.ver H.next)), ?_, ⟨by simp [hn], .inr ⟨H.next, H.next, H.ver H.next, rfl, by simp, by simp, rfl⟩⟩, .alloc _ _⟩
    simp only [AH.app]
    rw [if_neg (by omega), if_pos ⟨by simpa using hb, by omega, hz⟩]
    simp
  · have hm' : 0 < m * sz := Nat.mul_pos hm hz
    refine ⟨.slice (some ⟨H.next, 0, none⟩) (n + m) unk, (H.put b (.row e cells .shared g k)).alloc (.row e (cells ++ new) .loose g k), ?_, ⟨by simp [hc, hn, Nat.add_mul], .inr ⟨H.next, g, k, rfl, by simp, by simp, by simpa using hv⟩⟩, ?_⟩
    · simp only [AH.app, ho]
      rw [if_neg (by omega), if_neg (fun h => h ⟨hb, hl, hz⟩), if_pos trivial, if_pos ⟨trivial, hv⟩, if_neg (by omega), if_pos (by omega)]
      simp
    · refine ⟨by simp, fun c et cs g' v' hc' ho' => ?_⟩
      rw [AH.obj_alloc, if_neg (show ¬ c = (H.put b (.row e cells .shared g k)).next by rw [AH.next_put]; omega), AH.obj_put]
      by_cases e : c = b
      · subst e; rw [ho] at ho'; cases ho'
      · rw [if_neg e]; exact ho'
theorem op_append {g : Ft} {H H' : AH} {x y : Operand} {t u e : TypeId} {n b n2 b2 : Nat} {z z2 : Value} {te : TI} {v v' : Value} {c off m cap : Nat} {new : List Value} (hx : g x = some v) (hy : g y = some (.slice (some ⟨c, off, none⟩) m cap)) (ht : V.E t = some ⟨.slice e, n, b, z⟩) (hu : V.E u = some ⟨.slice e, n2, b2, z2⟩) (he : V.E e = some te)
    (hm : 0 < m) (hr : H.rd c off (m * te.size) = some new) (h1 : new.all Value.oneCell' = true) (ha : H.app e te.size te.bytes v m new = some (v', H')) : aopG V g H (.call ⟨.builtin .append, #[x, y], #[t, u]⟩) = some (v', H') := by
  simp only [aopG, gvals, hx, hy, aBuiltin, ht, hu, he, srcLen, AH.src]
  rw [if_neg (by omega), hr]
  simp only [h1, if_true, ha]
theorem rd_alloc {H : AH} {e : TypeId} {cs : List Value} {n : Nat} (hn : cs.length = n) : (H.alloc (.row e cs .exact 0 0)).rd H.next 0 n = some cs := by
  subst hn
  unfold AH.rd
  simp [AH.lo, AH.alive]
theorem op_build {g : Ft} {H : AH} {t : TypeId} {ps : Array (Nat × Operand)} {vs : List (Nat × Value)} {v : Value} (hp : gparts g ps.toList = some vs) (h : aBuild V.E t vs = some v) : aopG V g H (.build t ps) = some (v, H) := by
  simp only [aopG, hp, h, Option.map_some]
theorem WP.seqK {live : Option Nat} {n : Nat} {a b : PC} {l : SL} {H : AH} {Q : Ex → SL → AH → Prop} (lit : SL) (H1 : AH) (F : Prop) (h : WP V O live n a l H (ThenL (fun l' H' => F ∧ Kn l' lit ∧ H' = H1) Q)) (k : F → WP V O live n b lit H1 Q) : WP V O live n (.seq a b) l H Q :=
  .seq (h.mono fun e l' H' hq => by
    cases e with
    | normal => obtain ⟨hf, hk, rfl⟩ := hq; exact (k hf).sub hk.look
    | exit id => exact hq
    | ret => exact hq)
end Go.Ev

/-
  EV, universal use, part j: frames, slices that are read, slices of one's own, boxes; rules for walks.
-/
namespace Go.Ev
open Go.RowKit
def FrX (bs gs : List Nat) (H H' : AH) : Prop := H.next ≤ H'.next ∧ (∀ b, b < H.next → b ∉ bs → H'.obj b = H.obj b) ∧ (∀ g, g < H.next → g ∉ gs → H'.ver g = H.ver g)
def Fr (H H' : AH) : Prop := H.next ≤ H'.next ∧ (∀ b, b < H.next → H'.obj b = H.obj b) ∧ (∀ g, g < H.next → H'.ver g = H.ver g)
theorem Fr.refl (H : AH) : Fr H H := ⟨Nat.le_refl _, fun _ _ => rfl, fun _ _ => rfl⟩
theorem Fr.trans {A B C : AH} (h : Fr A B) (k : Fr B C) : Fr A C := ⟨Nat.le_trans h.1 k.1, fun b hb => (k.2.1 b (Nat.lt_of_lt_of_le hb h.1)).trans (h.2.1 b hb), fun b hb => (k.2.2 b (Nat.lt_of_lt_of_le hb h.1)).trans (h.2.2 b hb)⟩
theorem Fr.kro {A B : AH} (h : Fr A B) : Kro A B := ⟨h.1, fun b et cells g v hb ho => by rw [h.2.1 b hb]; exact ho⟩
theorem Fr.x {A B : AH} (h : Fr A B) (bs gs : List Nat) : FrX bs gs A B := ⟨h.1, fun b hb _ => h.2.1 b hb, fun b hb _ => h.2.2 b hb⟩
theorem Fr.alloc (H : AH) (o : AObj) : Fr H (H.alloc o) := ⟨by simp, fun b hb => by rw [AH.obj_alloc, if_neg (by omega)], fun g _ => by simp⟩
theorem Fr.step {A B : AH} (h : Fr A B) (o : AObj) : Fr A (B.alloc o) := h.trans (.alloc _ _)
theorem FrX.fr {A B : AH} (h : FrX [] [] A B) : Fr A B := ⟨h.1, fun b hb => h.2.1 b hb (by simp), fun b hb => h.2.2 b hb (by simp)⟩
theorem Fr.young {A B C : AH} {bs gs : List Nat} (h : Fr A B) (k : FrX bs gs B C) (hb : ∀ b ∈ bs, A.next ≤ b) (hg : ∀ g ∈ gs, A.next ≤ g) : Fr A C :=
  ⟨Nat.le_trans h.1 k.1, fun b hlt => (k.2.1 b (Nat.lt_of_lt_of_le hlt h.1) fun hm => by have := hb b hm; omega).trans (h.2.1 b hlt), fun g hlt => (k.2.2 g (Nat.lt_of_lt_of_le hlt h.1) fun hm => by have := hg g hm; omega).trans (h.2.2 g hlt)⟩
theorem FrX.refl (bs gs : List Nat) (H : AH) : FrX bs gs H H := (Fr.refl H).x _ _
theorem FrX.trans {A B C : AH} {bs gs bs' gs' : List Nat} (h : FrX bs gs A B) (k : FrX bs' gs' B C) (hb : ∀ b ∈ bs', b < A.next → b ∈ bs) (hg : ∀ b ∈ gs', b < A.next → b ∈ gs) : FrX bs gs A C :=
  ⟨Nat.le_trans h.1 k.1, fun b hlt hn => (k.2.1 b (Nat.lt_of_lt_of_le hlt h.1) fun hm => hn (hb b hm hlt)).trans (h.2.1 b hlt hn), fun b hlt hn => (k.2.2 b (Nat.lt_of_lt_of_le hlt h.1) fun hm => hn (hg b hm hlt)).trans (h.2.2 b hlt hn)⟩
theorem FrX.sub {A B : AH} {bs gs bs' gs' : List Nat} (h : FrX bs gs A B) (hb : ∀ b ∈ bs, b ∈ bs') (hg : ∀ b ∈ gs, b ∈ gs') : FrX bs' gs' A B :=
  ⟨h.1, fun b hlt hn => h.2.1 b hlt fun hm => hn (hb b hm), fun b hlt hn => h.2.2 b hlt fun hm => hn (hg b hm)⟩
def Rd (H : AH) (b off n : Nat) (cs : List Value) : Prop :=
  ∃ et cells st g v, b < H.next ∧ H.obj b = .row et cells st g v ∧ (st = .exact ∨ st = .ro ∨ (g < H.next ∧ H.ver g = v)) ∧ off + n ≤ cells.length ∧ cs = (cells.drop off).take n
theorem Rd.len {H : AH} {b off n : Nat} {cs : List Value} (h : Rd H b off n cs) : cs.length = n := by
  obtain ⟨et, cells, st, g, v, _, _, _, h1, rfl⟩ := h; simp; omega
theorem Rd.lt {H : AH} {b off n : Nat} {cs : List Value} (h : Rd H b off n cs) : b < H.next := by
  obtain ⟨et, cells, st, g, v, h, _⟩ := h; exact h
theorem Rd.rd {H : AH} {b off n : Nat} {cs : List Value} (h : Rd H b off n cs) : H.rd b off n = some cs := by
  obtain ⟨et, cells, st, g, v, h0, h1, h2, h3, rfl⟩ := h
  unfold AH.rd
  rw [AH.lo_lt h0, h1]
  simp only
  rw [if_pos]
  rw [Bool.and_eq_true, decide_eq_true_eq]
  refine ⟨?_, h3⟩
  rcases h2 with rfl | rfl | ⟨_, h2⟩
  · rfl
  · rfl
  · cases st <;> simp [AH.alive, h2]
theorem Rd.fr {H H' : AH} {b off n : Nat} {cs : List Value} (h : Rd H b off n cs) (k : Fr H H') : Rd H' b off n cs := by
  obtain ⟨et, cells, st, g, v, h0, h1, h2, h3, h4⟩ := h
  refine ⟨et, cells, st, g, v, Nat.lt_of_lt_of_le h0 k.1, (k.2.1 b h0).trans h1, ?_, h3, h4⟩
  rcases h2 with h2 | h2 | ⟨h2, h5⟩
  · exact .inl h2
  · exact .inr (.inl h2)
  · exact .inr (.inr ⟨Nat.lt_of_lt_of_le h2 k.1, (k.2.2 g h2).trans h5⟩)
theorem Rd.sub {H : AH} {b off n : Nat} {cs : List Value} (h : Rd H b off n cs) (i m : Nat) (hm : i + m ≤ n) : Rd H b (off + i) m ((cs.drop i).take m) := by
  obtain ⟨et, cells, st, g, v, h0, h1, h2, h3, rfl⟩ := h
  refine ⟨et, cells, st, g, v, h0, h1, h2, by omega, ?_⟩
  rw [List.drop_take, List.take_take, Nat.min_eq_left (by omega), List.drop_drop]
theorem Rd.at1 {H : AH} {b off n : Nat} {cs : List Value} (h : Rd H b off n cs) {i : Nat} {c : Value} (hc : cs[i]? = some c) : Rd H b (off + i) 1 [c] := by
  have hlt := (List.getElem?_eq_some_iff.1 hc).1
  have := h.sub i 1 (by rw [h.len] at hlt; omega)
  have e : (cs.drop i).take 1 = [c] := by
    rw [List.drop_eq_getElem_cons hlt]
    have := (List.getElem?_eq_some_iff.1 hc).2
    simp [this]
  rwa [e] at this
theorem Rd.exact {H : AH} {b : Nat} {et : TypeId} {cells : List Value} {g v : Nat} (hb : b < H.next) (h : H.obj b = .row et cells .exact g v) : Rd H b 0 cells.length cells := ⟨et, cells, .exact, g, v, hb, h, .inl rfl, by simp, by simp⟩
theorem Rd.ro {H : AH} {b : Nat} {et : TypeId} {cells : List Value} {g v : Nat} (hb : b < H.next) (h : H.obj b = .row et cells .ro g v) : Rd H b 0 cells.length cells := ⟨et, cells, .ro, g, v, hb, h, .inr (.inl rfl), by simp, by simp⟩
theorem Rd.new {H : AH} {et : TypeId} {cs : List Value} {g v n : Nat} (hn : cs.length = n) : Rd (H.alloc (.row et cs .exact g v)) H.next 0 n cs := by
  subst hn; exact Rd.exact (et := et) (g := g) (v := v) (by simp) (by simp)
variable {V : Env} {O : Orc}
theorem Rd.load1 {H : AH} {b off : Nat} {c : Value} (h : Rd H b off 1 [c]) {t : TypeId} {te : TI} (he : V.E t = some te) (ha : Desc.agg te.desc = false) : aLoad V.E H t (.pointer (some ⟨b, off, none⟩)) = some c := by
  simp only [aLoad, he, ha, h.rd]; rfl
theorem Rd.loadN {H : AH} {b off n : Nat} {cs : List Value} (h : Rd H b off n cs) {t : TypeId} {te : TI} (he : V.E t = some te) (ha : Desc.agg te.desc = true) (hn : te.size = n) : aLoad V.E H t (.pointer (some ⟨b, off, none⟩)) = some (.agg cs.toArray) := by
  subst hn
  simp only [aLoad, he, ha, h.rd]; rfl
def Sl (H : AH) (v : Value) (sz n : Nat) (cs : List Value) : Prop :=
  cs.length = n * sz ∧ n < 4611686018427387904 ∧ ((v = .slice none 0 0 ∧ n = 0) ∨ ∃ b off cap, v = .slice (some ⟨b, off, none⟩) n cap ∧ (0 < n → Rd H b off (n * sz) cs))
theorem Sl.fr {H H' : AH} {v : Value} {sz n : Nat} {cs : List Value} (h : Sl H v sz n cs) (k : Fr H H') : Sl H' v sz n cs := by
  obtain ⟨h1, h2, h3 | ⟨b, off, cap, h3, h4⟩⟩ := h
  · exact ⟨h1, h2, .inl h3⟩
  · exact ⟨h1, h2, .inr ⟨b, off, cap, h3, fun h => (h4 h).fr k⟩⟩
theorem Sl.len {H : AH} {v : Value} {sz n : Nat} {cs : List Value} (h : Sl H v sz n cs) {t e : TypeId} {s b : Nat} {z : Value} (ht : V.E t = some ⟨.slice e, s, b, z⟩) : aLen V.E H t v = some (.int .i64 n) := by
  unfold aLen
  rw [ht]
  rcases h.2.2 with ⟨rfl, rfl⟩ | ⟨b, off, cap, rfl, _⟩ <;> rfl
theorem Sl.nil {H : AH} {sz : Nat} : Sl H (.slice none 0 0) sz 0 [] := ⟨by simp, by omega, .inl ⟨rfl, rfl⟩⟩
theorem Sl.at {H : AH} {v : Value} {sz n : Nat} {cs : List Value} (h : Sl H v sz n cs) {t e : TypeId} {s b : Nat} {z : Value} (ht : V.E t = some ⟨.slice e, s, b, z⟩) {te : TI} (he : V.E e = some te) (hz : te.size = sz) {kd : IntKind} {i : Int} (h0 : 0 ≤ i) (hi : i < n) :
    ∃ b off, aIndex V.E t v (.int kd i) = some (.pointer (some ⟨b, off, none⟩)) ∧ Rd H b off sz ((cs.drop (i.toNat * sz)).take sz) := by
  obtain ⟨h1, h2, ⟨rfl, rfl⟩ | ⟨b, off, cap, rfl, h4⟩⟩ := h
  · omega
  · refine ⟨b, off + i.toNat * sz, ?_, (h4 (by omega)).sub _ _ ?_⟩
    · simp only [aIndex, ht, he, hz]
      rw [if_pos ⟨h0, hi⟩]
    · have : (i.toNat + 1) * sz ≤ n * sz := Nat.mul_le_mul_right sz (by omega)
      rwa [Nat.add_mul, Nat.one_mul] at this
def Ow (H : AH) (n0 : Nat) (e : TypeId) (sz : Nat) (v : Value) (n : Nat) (cs : List Value) (o : Option (Nat × Nat)) : Prop :=
  cs.length = n * sz ∧ n < 4611686018427387904 ∧ ((v = .slice none 0 0 ∧ n = 0 ∧ o = none) ∨ ∃ b g, o = some (b, g) ∧ n0 ≤ b ∧ n0 ≤ g ∧ b < H.next ∧ g < H.next ∧ v = .slice (some ⟨b, 0, none⟩) n unk ∧ H.obj b = .row e cs .loose g (H.ver g) ∧ 0 < n)
def obs (o : Option (Nat × Nat)) : List Nat := match o with | none => [] | some (b, _) => [b]
def ogs (o : Option (Nat × Nat)) : List Nat := match o with | none => [] | some (_, g) => [g]
theorem Ow.nil {H : AH} {n0 : Nat} {e : TypeId} {sz : Nat} : Ow H n0 e sz (.slice none 0 0) 0 [] none := ⟨by simp, by omega, .inl ⟨rfl, rfl, rfl⟩⟩
theorem Ow.isNil {H : AH} {n0 : Nat} {e : TypeId} {sz : Nat} {v : Value} {cs : List Value} {o : Option (Nat × Nat)} (h : Ow H n0 e sz v 0 cs o) : v = .slice none 0 0 := by
  obtain ⟨_, _, ⟨h, _⟩ | ⟨b, g, _, _, _, _, _, _, _, h⟩⟩ := h
  · exact h
  · omega
theorem Ow.sl {H : AH} {n0 : Nat} {e : TypeId} {sz : Nat} {v : Value} {n : Nat} {cs : List Value} {o : Option (Nat × Nat)} (h : Ow H n0 e sz v n cs o) : Sl H v sz n cs := by
  obtain ⟨h1, h2, ⟨rfl, rfl, _⟩ | ⟨b, g, _, _, _, hb, hg, rfl, ho⟩⟩ := h
  · exact ⟨h1, h2, .inl ⟨rfl, rfl⟩⟩
  · exact ⟨h1, h2, .inr ⟨b, 0, unk, rfl, fun _ => ⟨e, cs, .loose, g, _, hb, ho.1, .inr (.inr ⟨hg, rfl⟩), by omega, by rw [← h1]; simp⟩⟩⟩
theorem Ow.old {H : AH} {n0 n1 : Nat} {e : TypeId} {sz : Nat} {v : Value} {n : Nat} {cs : List Value} {o : Option (Nat × Nat)} (h : Ow H n0 e sz v n cs o) (hn : n1 ≤ n0) : Ow H n1 e sz v n cs o := by
  obtain ⟨h1, h2, h3 | ⟨b, g, h3, h4, h5, h6⟩⟩ := h
  · exact ⟨h1, h2, .inl h3⟩
  · exact ⟨h1, h2, .inr ⟨b, g, h3, Nat.le_trans hn h4, Nat.le_trans hn h5, h6⟩⟩
theorem Ow.frX {H H' : AH} {n0 : Nat} {e : TypeId} {sz : Nat} {v : Value} {n : Nat} {cs : List Value} {o : Option (Nat × Nat)} (h : Ow H n0 e sz v n cs o) {bs gs : List Nat} (k : FrX bs gs H H') (hb : ∀ b ∈ obs o, b ∉ bs) (hg : ∀ g ∈ ogs o, g ∉ gs) : Ow H' n0 e sz v n cs o := by
  obtain ⟨h1, h2, h3 | ⟨b, g, rfl, h4, h5, h6, h7, h8, h9⟩⟩ := h
  · exact ⟨h1, h2, .inl h3⟩
  · refine ⟨h1, h2, .inr ⟨b, g, rfl, h4, h5, Nat.lt_of_lt_of_le h6 k.1, Nat.lt_of_lt_of_le h7 k.1, h8, ?_⟩⟩
    rw [k.2.1 b h6 (hb b (by simp [obs])), h9.1, k.2.2 g h7 (hg g (by simp [ogs]))]
    exact ⟨rfl, h9.2⟩
theorem Ow.fr {H H' : AH} {n0 : Nat} {e : TypeId} {sz : Nat} {v : Value} {n : Nat} {cs : List Value} {o : Option (Nat × Nat)} (h : Ow H n0 e sz v n cs o) (k : Fr H H') : Ow H' n0 e sz v n cs o := h.frX (k.x [] []) (by simp) (by simp)
theorem Ow.young {H : AH} {n0 : Nat} {e : TypeId} {sz : Nat} {v : Value} {n : Nat} {cs : List Value} {o : Option (Nat × Nat)} (h : Ow H n0 e sz v n cs o) : (∀ b ∈ obs o, n0 ≤ b) ∧ (∀ g ∈ ogs o, n0 ≤ g) ∧ (∀ b ∈ obs o, b < H.next) ∧ (∀ g ∈ ogs o, g < H.next) := by
  obtain ⟨_, _, ⟨_, _, rfl⟩ | ⟨b, g, rfl, h4, h5, h6, h7, _⟩⟩ := h
  · simp [obs, ogs]
  · simp [obs, ogs, h4, h5, h6, h7]
theorem Ow.app {H : AH} {n0 : Nat} {e : TypeId} {sz bytes n m : Nat} {v : Value} {cs new : List Value} {o : Option (Nat × Nat)} (h : Ow H n0 e sz v n cs o) (hm : 0 < m) (hz : 0 < sz) (hn : new.length = m * sz) (hb : (n + m) * bytes ≤ 140737488355328) (hl : n + m < 4611686018427387904) (h0 : n0 ≤ H.next) :
    ∃ v' H' o', H.app e sz bytes v m new = some (v', H') ∧ Ow H' n0 e sz v' (n + m) (cs ++ new) o' ∧ FrX (obs o) (ogs o) H H' ∧ (∀ b ∈ obs o', H.next ≤ b) ∧ (∀ g ∈ ogs o', g ∈ ogs o ∨ H.next ≤ g) := by
  obtain ⟨hc, hlt, ⟨rfl, rfl, rfl⟩ | ⟨b, g, rfl, hb0, hg0, hbl, hgl, rfl, ho⟩⟩ := h
  · have : cs = [] := List.length_eq_zero_iff.1 (by simpa using hc)
    subst this
    refine ⟨.slice (some ⟨H.next, 0, none⟩) (0 + m) unk, H.alloc (.row e new .loose H.next (H.ver H.next)), some (H.next, H.next), ?_, ⟨by simp [hn], by omega, .inr ⟨H.next, H.next, rfl, h0, h0, by simp, by simp, rfl, by simp, by omega⟩⟩, (Fr.alloc _ _).x _ _, by simp [obs], by simp [ogs]⟩
    simp only [AH.app]
    rw [if_neg (by omega), if_pos ⟨by simpa using hb, by omega, hz⟩]
    simp
  · have hm' : 0 < m * sz := Nat.mul_pos hm hz
    refine ⟨.slice (some ⟨H.next, 0, none⟩) (n + m) unk, (H.put b (.row e cs .shared g (H.ver g))).alloc (.row e (cs ++ new) .loose g (H.ver g)), some (H.next, g), ?_, ⟨by simp [hc, hn, Nat.add_mul], hl, .inr ⟨H.next, g, rfl, h0, hg0, by simp, by simp; omega, rfl, by simp, by omega⟩⟩, ⟨by simp, fun c hc hx => ?_, fun c _ _ => by simp⟩, by simp [obs], by simp [ogs]⟩
    · simp only [AH.app, ho.1]
      rw [if_neg (by omega), if_neg (fun h => h ⟨hb, hl, hz⟩), if_pos trivial, if_pos ⟨trivial, trivial⟩, if_neg (by omega), if_pos (by omega)]
      simp
    · rw [AH.obj_alloc, if_neg (by simp; omega), AH.obj_put, if_neg (by simpa [obs] using hx)]
theorem Ow.wr {H : AH} {n0 : Nat} {e : TypeId} {sz n : Nat} {v : Value} {cs : List Value} {o : Option (Nat × Nat)} (h : Ow H n0 e sz v n cs o) {off : Nat} {vs : List Value} (hne : vs ≠ []) (hf : off + vs.length ≤ cs.length) :
    ∃ b g H', o = some (b, g) ∧ v = .slice (some ⟨b, 0, none⟩) n unk ∧ H.wr b off vs = some H' ∧ Ow H' n0 e sz v n (splice cs off vs) o ∧ FrX (obs o) (ogs o) H H' ∧ H'.next = H.next := by
  obtain ⟨hc, hlt, ⟨rfl, rfl, rfl⟩ | ⟨b, g, rfl, hb0, hg0, hbl, hgl, rfl, ho⟩⟩ := h
  · have h1 : cs = [] := List.length_eq_zero_iff.1 (by simpa using hc)
    subst h1
    have h2 : off + vs.length ≤ 0 := hf
    exact absurd (List.length_eq_zero_iff.1 (by omega)) hne
  · refine ⟨b, g, (H.put b (.row e (splice cs off vs) .loose g (H.ver g + 1))).bump g (H.ver g + 1), rfl, rfl, ?_, ⟨by rw [splice_length hf, hc], hlt, .inr ⟨b, g, rfl, hb0, hg0, by simpa using hbl, by simpa using hgl, rfl, by simp, ho.2⟩⟩, ⟨by simp, fun c hc hx => ?_, fun c hc hx => ?_⟩, by simp⟩
    · unfold AH.wr
      rw [if_neg (by simpa using hne), ho.1]
      simp only [beq_self_eq_true, Bool.true_and, decide_eq_true_eq]
      rw [if_pos hf]
    · simp only [AH.obj_bump, AH.obj_put]
      rw [if_neg (by simpa [obs] using hx)]
    · simp only [AH.ver_bump, AH.ver_put]
      rw [if_neg (by simpa [ogs] using hx)]
section
variable {live : Option Nat} {n : Nat} {l : SL} {H : AH} {Q : Ex → SL → AH → Prop}
theorem WP.condT {x : Operand} {a b : PC} (hx : lookO V.nG l x = some (.bool true)) (h : WP V O live n a l H Q) : WP V O live n (.cond x a b) l H Q := .cond hx (fun _ => h) (fun e => nomatch e)
theorem WP.condF {x : Operand} {a b : PC} (hx : lookO V.nG l x = some (.bool false)) (h : WP V O live n b l H Q) : WP V O live n (.cond x a b) l H Q := .cond hx (fun e => nomatch e) (fun _ => h)
theorem WP.condT' {x : Operand} {a b : PC} {t : Bool} (hx : lookO V.nG l x = some (.bool t)) (ht : t = true) (h : WP V O live n a l H Q) : WP V O live n (.cond x a b) l H Q := .cond hx (fun _ => h) (fun e => by rw [ht] at e; cases e)
theorem WP.condF' {x : Operand} {a b : PC} {t : Bool} (hx : lookO V.nG l x = some (.bool t)) (ht : t = false) (h : WP V O live n b l H Q) : WP V O live n (.cond x a b) l H Q := .cond hx (fun e => by rw [ht] at e; cases e) (fun _ => h)
theorem WP.seqS {σ : Type} {a b : PC} (lit : σ → SL) (F : σ → AH → Prop) (h : WP V O live n a l H (ThenL (fun l' H' => ∃ s, F s H' ∧ Kn l' (lit s)) Q)) (k : ∀ s H', F s H' → WP V O live n b (lit s) H' Q) : WP V O live n (.seq a b) l H Q :=
  .seq (h.mono fun e l' H' hq => by
    cases e with
    | normal => obtain ⟨s, hf, hk⟩ := hq; exact (k s H' hf).sub hk.look
    | exit id => exact hq
    | ret => exact hq)
end
theorem W.loopH {live : Option Nat} {n : Nat} {σ : Type} {c : Code} {Q : Ex → SL → AH → Prop} (lit : σ → SL) (I : σ → AH → Prop) (μ : σ → Nat)
    (hI : ∀ s H, I s H → W V O live n c (lit s) H (ThenL (fun l' H' => ∃ s', I s' H' ∧ μ s' < μ s ∧ Kn l' (lit s')) Q)) {l : SL} {H : AH} (s0 : σ) (h0 : I s0 H) (hl : Kn l (lit s0)) : W V O live n (.loop c) l H Q := by
  have key : ∀ k s H, I s H → μ s < k → ∀ T, Has T (lit s) → Dom live T → ∃ N e T' H', (∀ m, N ≤ m → ∀ lf, N ≤ lf → ∀ d, N ≤ d → loopN (fun T H => codeL V (fO V O lf d) live none n lf c T H) m T H = some (e, T', H')) ∧ Dom live T' ∧ ∃ l', Has T' l' ∧ Q e l' H' := by
    intro k
    induction k with
    | zero => intro s H _ hk; omega
    | succ k ih =>
      intro s H hi hk T hT hd
      obtain ⟨N, e, T1, H1, h1, d1, l1, h2, h3⟩ := hI s H hi T hT hd
      cases e with
      | normal =>
        obtain ⟨s', i', m', kn'⟩ := h3
        obtain ⟨M, e, T2, H2, k1, k2⟩ := ih s' H1 i' (by omega) T1 (fun t v e => h2 t v (kn'.look t v e)) d1
        refine ⟨N + M + 1, e, T2, H2, fun m hm lf hlf d hdd => ?_, k2⟩
        obtain ⟨m, rfl⟩ : ∃ m', m = m' + 1 := ⟨m - 1, by omega⟩
        simp only [loopN]
        rw [h1 lf (by omega) d (by omega)]
        exact k1 m (by omega) lf (by omega) d (by omega)
      | exit id =>
        refine ⟨N + 1, _, T1, H1, fun m hm lf hlf d hdd => ?_, d1, l1, h2, h3⟩
        obtain ⟨m, rfl⟩ : ∃ m', m = m' + 1 := ⟨m - 1, by omega⟩
        simp only [loopN]
        rw [h1 lf (by omega) d (by omega)]
      | ret =>
        refine ⟨N + 1, _, T1, H1, fun m hm lf hlf d hdd => ?_, d1, l1, h2, h3⟩
        obtain ⟨m, rfl⟩ : ∃ m', m = m' + 1 := ⟨m - 1, by omega⟩
        simp only [loopN]
        rw [h1 lf (by omega) d (by omega)]
  intro T hT hd
  obtain ⟨N, e, T', H', h1, h2⟩ := key (μ s0 + 1) s0 H h0 (Nat.lt_succ_self _) T (fun t v e => hT t v (hl.look t v e)) hd
  exact ⟨N, e, T', H', fun lf hlf d hdd => by simp only [codeL]; exact h1 lf hlf lf hlf d hdd, h2⟩
theorem WP.loopH {live : Option Nat} {n : Nat} {l : SL} {H : AH} {Q : Ex → SL → AH → Prop} {σ : Type} {a : PC} (lit : σ → SL) (I : σ → AH → Prop) (μ : σ → Nat) (s0 : σ) (h0 : I s0 H) (hl : Kn l (lit s0))
    (hI : ∀ s H, I s H → WP V O live n a (lit s) H (ThenL (fun l' H' => ∃ s', I s' H' ∧ μ s' < μ s ∧ Kn l' (lit s')) Q)) : WP V O live n (.loop a) l H Q := fun c hc => by
  obtain ⟨a', rfl, k1⟩ := pcOf_cases hc
  exact .loopH lit I μ (fun s H hi => hI s H hi a' k1) s0 h0 hl
theorem Lc.of_eq {f : FuncId} {vs : List Value} {H H1 : AH} {v : Value} (h : ∃ u H', Lc V O f vs H u H' ∧ (u = v ∧ H' = H1)) : Lc V O f vs H v H1 := by
  obtain ⟨u, H', h, rfl, rfl⟩ := h; exact h
theorem Sl.at1 {H : AH} {v : Value} {n : Nat} {cs : List Value} (h : Sl H v 1 n cs) {t e : TypeId} {s b : Nat} {z : Value} (ht : V.E t = some ⟨.slice e, s, b, z⟩) {te : TI} (he : V.E e = some te) (hz : te.size = 1) {kd : IntKind} {i : Int} (h0 : 0 ≤ i) {c : Value} (hc : cs[i.toNat]? = some c) :
    ∃ b off, aIndex V.E t v (.int kd i) = some (.pointer (some ⟨b, off, none⟩)) ∧ Rd H b off 1 [c] := by
  have hlt := (List.getElem?_eq_some_iff.1 hc).1
  obtain ⟨b, off, h1, h2⟩ := h.at ht he hz (kd := kd) h0 (i := i) (by rw [h.1] at hlt; omega)
  refine ⟨b, off, h1, ?_⟩
  rw [Nat.mul_one, List.drop_eq_getElem_cons hlt] at h2
  have := (List.getElem?_eq_some_iff.1 hc).2
  simpa [this] using h2
theorem OneAt.toSl {H : AH} {e : TypeId} {cs : List Value} {cap : Nat} (h : cs.length < 4611686018427387904) : Sl (H.alloc (.row e cs .exact 0 0)) (.slice (some ⟨H.next, 0, none⟩) cs.length cap) 1 cs.length cs :=
  ⟨by simp, h, .inr ⟨H.next, 0, cap, rfl, fun _ => by simpa using Rd.exact (H := H.alloc (.row e cs .exact 0 0)) (b := H.next) (et := e) (cells := cs) (g := 0) (v := 0) (by simp) (by simp)⟩⟩
section
variable {g : Ft} {H : AH}
theorem op_alloc {t : TypeId} {te : TI} {cs : List Value} (he : V.E t = some te) (hc : te.zv.cells.toList = cs) : aopG V g H (.alloc t) = some (.pointer (some ⟨H.next, 0, none⟩), H.alloc (.row t cs .exact 0 0)) := by
  subst hc; simp only [aopG, he]
theorem op_store {t : TypeId} {te : TI} {a x : Operand} {b off : Nat} {v : Value} {H' : AH} (ha : g a = some (.pointer (some ⟨b, off, none⟩))) (hx : g x = some v) (he : V.E t = some te) (hs : v.cells.size = te.size) (h1 : v.cells.toList.all Value.oneCell' = true) (hw : H.wr b off v.cells.toList = some H') :
    aopG V g H (.store t a x) = some (undef, H') := by
  simp only [aopG, ha, hx, aStore, he]
  rw [if_pos ⟨hs, h1⟩, hw]; rfl
theorem op_makeSlice {l c : Operand} {t e : TypeId} {k k' : IntKind} {n m : Nat} {a b : Nat} {z : Value} {te : TI} (hl : g l = some (.int k n)) (hc : g c = some (.int k' m)) (ht : V.E t = some ⟨.slice e, a, b, z⟩) (he : V.E e = some te) (h1 : n ≤ m) (h2 : m * te.bytes ≤ 140737488355328) (h3 : m < 4611686018427387904) :
    aopG V g H (.makeSlice t l c) = some (.slice (some ⟨H.next, 0, none⟩) n m, H.alloc (.row e (azeros te.zv.cells.toList m) .exact 0 0)) := by
  simp only [aopG, hl, hc, aMakeSlice, ht, he]
  rw [if_pos ⟨by omega, by omega, h2, by omega⟩]; rfl
theorem bytes_of (l : List UInt8) : bytesOfInts (l.map fun b => (b.toNat : Int)) = ⟨⟨l⟩⟩ := by
  have key : ∀ (l : List UInt8) (r : ByteArray), (l.map fun b => (b.toNat : Int)).foldl (fun r n => r.push (UInt8.ofNat n.toNat)) r = ⟨⟨r.data.toList ++ l⟩⟩ := by
    intro l
    induction l with
    | nil => intro r; simp
    | cons a l ih =>
      intro r
      rw [List.map_cons, List.foldl_cons, ih]
      have : UInt8.ofNat ((a.toNat : Int).toNat) = a := by simp
      rw [this]
      simp [ByteArray.push]
  rw [bytesOfInts, key]; rfl
theorem intsOf_map (l : List UInt8) : intsOf (l.map fun b => Value.int .u8 b.toNat) = some (l.map fun b => (b.toNat : Int)) := by
  induction l with
  | nil => rfl
  | cons a l ih => rw [List.map_cons, intsOf, ih]; rfl
theorem op_bytesStr {x : Operand} {s d e : TypeId} {b off n cap : Nat} {l : List UInt8} {a1 b1 a2 b2 a3 b3 : Nat} {z1 z2 z3 : Value} (hx : g x = some (.slice (some ⟨b, off, none⟩) n cap)) (hs : V.E s = some ⟨.slice e, a1, b1, z1⟩) (hd : V.E d = some ⟨.string, a2, b2, z2⟩) (he : V.E e = some ⟨.int .u8, a3, b3, z3⟩) (h0 : 0 < n)
    (hr : Rd H b off n (l.map fun b => .int .u8 b.toNat)) : aopG V g H (.convert s d x) = some (.string ⟨⟨l⟩⟩, H) := by
  simp only [aopG, hx, aConvert, hs, hd, he]
  rw [if_neg (by omega), hr.rd]
  simp only [intsOf_map, bytes_of]
theorem op_sliceH {x hi : Operand} {t : TypeId} {s : ByteArray} {n b : Nat} {z : Value} {k : IntKind} {i : Int} (hx : g x = some (.string s)) (hi' : g hi = some (.int k i)) (ht : V.E t = some ⟨.string, n, b, z⟩) (h0 : 0 ≤ i) (h1 : i ≤ s.size) :
    aopG V g H (.slice t x none (some hi) none) = some (.string (s.extract 0 i.toNat), H) := by
  simp only [aopG, hx, gopt, hi', Option.map_some, aSlice, ht, optBound, bound]
  rw [if_pos ⟨h0, h1⟩]; rfl
end
theorem Ow.set {H : AH} {n0 : Nat} {e : TypeId} {sz n : Nat} {v : Value} {cs : List Value} {o : Option (Nat × Nat)} (h : Ow H n0 e sz v n cs o) {t : TypeId} {s b : Nat} {z : Value} (ht : V.E t = some ⟨.slice e, s, b, z⟩) {te : TI} (he : V.E e = some te) (hz : te.size = sz)
    {kd : IntKind} {i : Int} (h0 : 0 ≤ i) (hi : i < n) {vs : List Value} (hne : vs ≠ []) {k : Nat} (hk : k + vs.length ≤ sz) :
    ∃ b off H', aIndex V.E t v (.int kd i) = some (.pointer (some ⟨b, off, none⟩)) ∧ Rd H b off sz ((cs.drop (i.toNat * sz)).take sz) ∧ H.wr b (off + k) vs = some H' ∧ Ow H' n0 e sz v n (splice cs (i.toNat * sz + k) vs) o ∧ FrX (obs o) (ogs o) H H' ∧ H'.next = H.next := by
  have hc := h.1
  have hle : (i.toNat + 1) * sz ≤ n * sz := Nat.mul_le_mul_right sz (by omega)
  rw [Nat.add_mul, Nat.one_mul] at hle
  obtain ⟨b, off, h1, h2⟩ := h.sl.at ht he hz (kd := kd) h0 hi
  obtain ⟨b', g, H', e1, e2, e3, e4, e5, e6⟩ := h.wr (off := i.toNat * sz + k) hne (by omega)
  subst e2
  simp only [aIndex, ht, he, hz] at h1
  rw [if_pos ⟨h0, hi⟩] at h1
  simp only [Option.some.injEq, Value.pointer.injEq, Addr.mk.injEq] at h1
  obtain ⟨rfl, rfl, _⟩ := h1
  refine ⟨b', 0 + i.toNat * sz, H', ?_, h2, ?_, e4, e5, e6⟩
  · simp only [aIndex, ht, he, hz]
    rw [if_pos ⟨h0, hi⟩]
  · rw [Nat.zero_add]; exact e3
theorem Ow.appSl {H : AH} {n0 : Nat} {e : TypeId} {sz bytes n m : Nat} {v y : Value} {cs new : List Value} {o : Option (Nat × Nat)} (h : Ow H n0 e sz v n cs o) (hs : Sl H y sz m new) (hz : 0 < sz) (hb : (n + m) * bytes ≤ 140737488355328) (hl : n + m < 4611686018427387904) (h0 : n0 ≤ H.next)
    (h1 : new.all Value.oneCell' = true) {t u : TypeId} {a b a2 b2 : Nat} {z z2 : Value} {te : TI} (ht : V.E t = some ⟨.slice e, a, b, z⟩) (hu : V.E u = some ⟨.slice e, a2, b2, z2⟩) (he : V.E e = some te) (hsz : te.size = sz) (hby : te.bytes = bytes) :
    ∃ v' H' o', (∀ {g : Ft} {x w : Operand}, g x = some v → g w = some y → aopG V g H (.call ⟨.builtin .append, #[x, w], #[t, u]⟩) = some (v', H')) ∧ Ow H' n0 e sz v' (n + m) (cs ++ new) o' ∧ FrX (obs o) (ogs o) H H' ∧ (∀ b ∈ obs o', b ∈ obs o ∨ H.next ≤ b) ∧ (∀ g ∈ ogs o', g ∈ ogs o ∨ H.next ≤ g) := by
  subst hsz hby
  have hsrc : H.src te.size y m = some new ∧ srcLen y = some m := by
    obtain ⟨h1, h2, ⟨rfl, rfl⟩ | ⟨b, off, cap, rfl, h4⟩⟩ := hs
    · have : new = [] := List.length_eq_zero_iff.1 (by simpa using h1)
      subst this; exact ⟨rfl, rfl⟩
    · refine ⟨?_, rfl⟩
      unfold AH.src
      by_cases hm : m = 0
      · have : new = [] := List.length_eq_zero_iff.1 (by rw [h1, hm]; simp)
        subst this; simp [hm]
      · simp only [if_neg hm]
        exact (h4 (by omega)).rd
  by_cases hm : m = 0
  · subst hm
    have hnew : new = [] := List.length_eq_zero_iff.1 (by rw [hs.1]; simp)
    subst hnew
    refine ⟨v, H, o, fun {g x w} hx hw => ?_, by simpa using h, FrX.refl _ _ _, fun b hb => .inl hb, fun b hb => .inl hb⟩
    simp only [aopG, gvals, hx, hw, aBuiltin, ht, hu, he, hsrc.1, hsrc.2]
    obtain ⟨_, _, ⟨rfl, _, _⟩ | ⟨b, g, _, _, _, _, _, rfl, _⟩⟩ := h <;> simp [AH.app]
  · obtain ⟨v', H', o', q1, q2, q3, q4, q5⟩ := h.app (bytes := te.bytes) (m := m) (new := new) (by omega) hz hs.1 hb hl h0
    refine ⟨v', H', o', fun {g x w} hx hw => ?_, q2, q3, fun b hb => .inr (q4 b hb), q5⟩
    simp only [aopG, gvals, hx, hw, aBuiltin, ht, hu, he, hsrc.1, hsrc.2, h1, if_true, q1]
theorem aInt_addW (P : Program) (t : TypeId) {k : IntKind} {a b c : Int} (h : k.wrap (a + b) = c) : aInt P .add t k a k b = some (.int k c) := by simp only [aInt, if_true, wr_eq, h]
theorem aInt_subW (P : Program) (t : TypeId) {k : IntKind} {a b c : Int} (h : k.wrap (a - b) = c) : aInt P .sub t k a k b = some (.int k c) := by simp only [aInt, if_true, wr_eq, h]
theorem aInt_mulW (P : Program) (t : TypeId) {k : IntKind} {a b c : Int} (h : k.wrap (a * b) = c) : aInt P .mul t k a k b = some (.int k c) := by simp only [aInt, if_true, wr_eq, h]
theorem aInt_rem (P : Program) (t : TypeId) {k : IntKind} {a b : Int} (hb : b ≠ 0) : aInt P .rem t k a k b = some (.int k (a.tmod b)) := by
  have e : aInt P .rem t k a k b = pureRun P (binOp .rem t (.int k a) (.int k b)) := rfl
  rw [e]
  unfold binOp
  simp only [ne_eq, not_true_eq_false, if_false, Op.intDiv, if_neg hb]
  rfl
theorem aInt_quo (P : Program) (t : TypeId) {k : IntKind} {a b c : Int} (hb : b ≠ 0) (h : k.wrap (a.tdiv b) = c) : aInt P .quo t k a k b = some (.int k c) := by
  have e : aInt P .quo t k a k b = pureRun P (binOp .quo t (.int k a) (.int k b)) := rfl
  rw [e]
  unfold binOp
  simp only [ne_eq, not_true_eq_false, if_false, Op.intDiv, if_neg hb, h]
  rfl
theorem pureRun_und {α : Type} {P : Program} {t : TypeId} {d : TypeDesc} (h : P.underlying t = some d) (f : TypeDesc → Sem α) : pureRun P (underlying t >>= f) = pureRun P (f d) := by
  have e : pureRun P (underlying t >>= f) = pureRun P ((match P.underlying t with | some d => pure d | none => stuck "no such type" : Sem TypeDesc) >>= f) := rfl
  rw [e, h]; rfl
theorem op_conv {V : Env} {g : Ft} {H : AH} {s d : TypeId} {x : Operand} {k k' : IntKind} {n m : Int} {ds : TypeDesc} (hs : V.P.underlying s = some ds) (hd : V.P.underlying d = some (.int k)) (hx : g x = some (.int k' n)) (h : k.wrap n = m) : aopG V g H (.convert s d x) = some (.int k m, H) := by
  have e : pureRun V.P (convert s d (.int k' n)) = some (.int k m) := by
    unfold convert
    rw [pureRun_und hs, pureRun_und hd, ← h]; rfl
  have e2 : aConvert V.P V.E H s d (.int k' n) = (aPure V.P [.int k' n] (convert s d (.int k' n))).map (·, H) := by unfold aConvert; rfl
  simp only [aopG, hx, e2, aPure, e]
  rfl
def Bx (H : AH) (b : Nat) (et : TypeId) (cs : List Value) : Prop := b < H.next ∧ H.obj b = .row et cs .exact 0 0
section
variable {H H' : AH} {b : Nat} {et : TypeId} {cs : List Value}
theorem Bx.new : Bx (H.alloc (.row et cs .exact 0 0)) H.next et cs := ⟨by simp, by simp⟩
theorem Bx.rd (h : Bx H b et cs) {n : Nat} (hn : cs.length = n) : Rd H b 0 n cs := by subst hn; exact Rd.exact h.1 h.2
theorem Bx.frX (h : Bx H b et cs) {bs gs : List Nat} (k : FrX bs gs H H') (hb : b ∉ bs) : Bx H' b et cs := ⟨Nat.lt_of_lt_of_le h.1 k.1, (k.2.1 b h.1 hb).trans h.2⟩
theorem Bx.fr (h : Bx H b et cs) (k : Fr H H') : Bx H' b et cs := h.frX (k.x [] []) (by simp)
theorem Bx.wr (h : Bx H b et cs) {off : Nat} {vs : List Value} (hne : vs ≠ []) (hf : off + vs.length ≤ cs.length) :
    ∃ H', H.wr b off vs = some H' ∧ Bx H' b et (splice cs off vs) ∧ FrX [b] [] H H' ∧ H'.next = H.next := by
  refine ⟨H.put b (.row et (splice cs off vs) .exact 0 0), ?_, ⟨by simpa using h.1, by simp⟩, ⟨by simp, fun c _ hx => by rw [AH.obj_put, if_neg (by simpa using hx)], fun c _ _ => by simp⟩, by simp⟩
  unfold AH.wr
  rw [if_neg (by simpa using hne), h.2]
  simp only
  rw [if_pos hf]
end
end Go.Ev

/-
  EV, universal use, part k: flat structs compared.
-/
namespace Go.Ev
open Go
theorem pureRun_bind {α β : Type} {P : Program} : ∀ {s : Sem α} {a : α}, pureRun P s = some a → ∀ (f : α → Sem β), pureRun P (s >>= f) = pureRun P (f a) := by
  intro s
  induction s with
  | pure b => intro a h f; cases h; rfl
  | program k ih => intro a h f; exact ih P (a := a) h f
  | mark m k ih => intro a h f; exact ih (a := a) h f
  | _ => intro a h f; cases h
inductive FlatEq (P : Program) (d : Nat) (xs ys : Array Value) : List Field → List Bool → Prop
  | nil : FlatEq P d xs ys [] []
  | cons {f : Field} {l : List Field} {x y : Value} {b : Bool} {bs : List Bool} (hn : f.name ≠ "_") (hx : pureRun P (part f.type xs f.offset) = some x) (hy : pureRun P (part f.type ys f.offset) = some y)
      (he : pureRun P (Op.equalIn d f.type x y) = some b) (t : FlatEq P d xs ys l bs) : FlatEq P d xs ys (f :: l) (b :: bs)
theorem FlatEq.run {P : Program} {d : Nat} {xs ys : Array Value} {l : List Field} {bs : List Bool} (h : FlatEq P d xs ys l bs) : ∃ r, pureRun P (forIn l (none, ()) fun f __s =>
            if f.name ≠ "_" then do
              let __do_lift ← part f.type xs f.offset
              let __do_lift_1 ← part f.type ys f.offset
              let __do_lift ← Op.equalIn d f.type __do_lift __do_lift_1
              if (!__do_lift) = true then pure (ForInStep.done (some false, ())) else pure (ForInStep.yield (none, ()))
            else pure (ForInStep.yield (none, ()))) = some r ∧ pureRun P (match r.fst with
        | some r => pure r
        | none => pure true : Sem Bool) = some (bs.all id) := by
  induction h with
  | nil => exact ⟨_, rfl, rfl⟩
  | @cons f l x y b bs hn hx hy he _ ih =>
    rw [List.forIn_cons, if_pos hn]
    have e : pureRun P (do
              let __do_lift ← part f.type xs f.offset
              let __do_lift_1 ← part f.type ys f.offset
              let __do_lift ← Op.equalIn d f.type __do_lift __do_lift_1
              if (!__do_lift) = true then pure (ForInStep.done (some false, ())) else pure (ForInStep.yield (none, ())) : Sem (ForInStep (Option Bool × Unit))) = some (if (!b) = true then ForInStep.done (some false, ()) else ForInStep.yield (none, ())) := by
      rw [pureRun_bind hx, pureRun_bind hy, pureRun_bind he]
      cases b <;> rfl
    rw [pureRun_bind e]
    cases b
    · exact ⟨_, rfl, rfl⟩
    · obtain ⟨r, h1, h2⟩ := ih
      exact ⟨r, h1, h2⟩
theorem equal_struct {P : Program} {d : Nat} {t : TypeId} {xs ys : Array Value} {fs : Array Field} {bs : List Bool} (hu : P.underlying t = some (.struct fs)) (hs : P.stoodInHeld t = false) (h : FlatEq P d xs ys fs.toList bs) : pureRun P (Op.equalIn (d + 1) t (.agg xs) (.agg ys)) = some (bs.all id) := by
  rw [Op.equalIn, pureRun_und hu]
  show pureRun P (do
      if (← program).stoodInHeld t then
        unsupported (.noEntry "binop/eql.a struct with addresses of a package that the model stands in for")
      for f in fs do
        if f.name ≠ "_" then
          if !(← Op.equalIn d f.type (← part f.type xs f.offset) (← part f.type ys f.offset)) then return false
      pure true) = some (bs.all id)
  have hp : pureRun P program = some P := rfl
  rw [pureRun_bind hp, hs]
  simp only [Bool.false_eq_true, if_false]
  rw [← Array.forIn_toList]
  obtain ⟨r, h1, h2⟩ := h.run
  rw [pureRun_bind h1]
  obtain ⟨r1, u⟩ := r
  cases r1 <;> exact h2
theorem equal_int {P : Program} {d : Nat} {t : TypeId} {k k' : IntKind} {a b : Int} (hu : P.underlying t = some (.int k')) : pureRun P (Op.equalIn (d + 1) t (.int k a) (.int k b)) = some (a == b) := by
  rw [Op.equalIn, pureRun_und hu]
  show pureRun P (if k = k then pure (a == b) else stuck _) = _
  rw [if_pos rfl]; rfl
theorem equal_str {P : Program} {d : Nat} {t : TypeId} {a b : ByteArray} (hu : P.underlying t = some .string) : pureRun P (Op.equalIn (d + 1) t (.string a) (.string b)) = some (a.data.toList == b.data.toList) := by
  rw [Op.equalIn, pureRun_und hu]
  have : (a == b) = (a.data.toList == b.data.toList) := by
    have e : (a == b) = (a.data == b.data) := by cases a; cases b; rfl
    rw [e, Bool.eq_iff_iff, beq_iff_eq, beq_iff_eq]
    exact ⟨fun h => by rw [h], fun h => Array.ext' h⟩
  rw [← this]; rfl
theorem equal_bool {P : Program} {d : Nat} {t : TypeId} {a b : Bool} (hu : P.underlying t = some .bool) : pureRun P (Op.equalIn (d + 1) t (.bool a) (.bool b)) = some (a == b) := by
  rw [Op.equalIn, pureRun_und hu]; rfl
theorem part_one {P : Program} {t : TypeId} {ds : TypeDesc} {cs : Array Value} {i : Nat} {v : Value} (hu : P.underlying t = some ds) (hd : Desc.agg ds = false) (hv : cs[i]? = some v) : pureRun P (part t cs i) = some v := by
  unfold part
  have : pureRun P (isAgg t) = some false := by
    unfold isAgg
    rw [pureRun_und hu]
    cases ds <;> first | rfl | cases hd
  rw [pureRun_bind this, hv]; rfl
section
variable {V : Env} {g : Ft} {H : AH}
theorem aBin_eqAgg {t : TypeId} {ox oy : Operand} {xs ys : Array Value} {b : Bool} (hx : constOk (.agg xs) = true) (hy : constOk (.agg ys) = true) (hg : V.P.eqGuardType V.P.depth t = false) (h : pureRun V.P (Op.equal t (.agg xs) (.agg ys)) = some b) :
    aBin V.P V.E .eql t ox oy (.agg xs) (.agg ys) = some (.bool b) ∧ aBin V.P V.E .neq t ox oy (.agg xs) (.agg ys) = some (.bool !b) := by
  have gd : ∀ op, pureRun V.P (eqGuard op t ox oy (.agg xs) (.agg ys)) = some () := fun op => by
    have hp : pureRun V.P program = some V.P := rfl
    cases op <;> first
      | rfl
      | (show pureRun V.P (program >>= fun p => program >>= fun q => if (!p.eqGuardType q.depth t) = true then pure () else _) = _
         rw [pureRun_bind hp, pureRun_bind hp, hg]; rfl)
  constructor
  · unfold aBin
    simp only [hx, hy, Bool.and_self, if_true]
    rw [pureRun_bind (gd _)]
    have : pureRun V.P (binOp .eql t (.agg xs) (.agg ys)) = some (.bool b) := by
      show pureRun V.P (do pure (Value.bool (← Op.equal t (.agg xs) (.agg ys)))) = _
      rw [pureRun_bind h]; rfl
    rw [this]; rfl
  · unfold aBin
    simp only [hx, hy, Bool.and_self, if_true]
    rw [pureRun_bind (gd _)]
    have : pureRun V.P (binOp .neq t (.agg xs) (.agg ys)) = some (.bool !b) := by
      show pureRun V.P (do pure (Value.bool !(← Op.equal t (.agg xs) (.agg ys)))) = _
      rw [pureRun_bind h]; rfl
    rw [this]; rfl
theorem op_bin {op : BinOp} {x y : Operand} {t u : TypeId} {a b v : Value} (hx : g x = some a) (hy : g y = some b) (h : aBin V.P V.E op t x y a b = some v) : aopG V g H (.binOp op t x y u) = some (v, H) := by
  simp only [aopG, hx, hy, h, Option.map_some]
theorem aBin_eqB {P : Program} {E : TypeId → Option TI} {t : TypeId} {ox oy : Operand} {a b : Bool} (hu : P.underlying t = some .bool) : aBin P E .eql t ox oy (.bool a) (.bool b) = some (.bool (a == b)) := by
  unfold aBin
  have h : pureRun P (Op.equal t (.bool a) (.bool b)) = some (a == b) := equal_bool (d := 9999) hu
  have : pureRun P (do eqGuard .eql t ox oy (.bool a) (.bool b); binOp .eql t (.bool a) (.bool b)) = some (.bool (a == b)) := by
    have gd : pureRun P (eqGuard .eql t ox oy (.bool a) (.bool b)) = some () := rfl
    rw [pureRun_bind gd]
    show pureRun P (do pure (Value.bool (← Op.equal t (.bool a) (.bool b)))) = _
    rw [pureRun_bind h]; rfl
  simp only [this]; rfl
end
end Go.Ev

/-
  EV, universal use, part l: the steps of a walk, by short names.
-/
namespace Go.Ev
open Go.RowKit
section
variable {V : Env} {O : Orc} {live : Option Nat} {n : Nat} {l : SL} {H : AH} {Q : Ex → SL → AH → Prop} {a b : PC} {id : Nat} {is : List LI} {outs : List (Tmp × Nat)} {E : List Value} {K : List Value → AH → Prop} {o : Op} {x y z : Operand} {w t : Bool} {u v : Value}
theorem zSeq (h : WP V O live n a l H (ThenL (fun l1 H1 => WP V O live n b l1 H1 Q) Q)) : WP V O live n (.seq a b) l H Q := .seq h
theorem zReg (h : WL V O is [] l H fun E H' => ∃ l', outsL E outs l = some l' ∧ Q .normal l' H') : WP V O live n (.reg is outs) l H Q := .reg h
theorem zBlk (h : WP V O live n a l H fun e l' H' => Q (e.out id) l' H') : WP V O live n (.block id a) l H Q := .block h
theorem zSkp (h : Q .normal l H) : WP V O live n .skip l H Q := .skip h
theorem zExt (h : Q (.exit id) l H) : WP V O live n (.exit id) l H Q := .exit h
theorem zNil {l' : SL} (h : outsL E outs l = some l') (k : Q .normal l' H) : WL V O [] E l H fun E H' => ∃ l', outsL E outs l = some l' ∧ Q .normal l' H' := .nil ⟨l', h, k⟩
theorem zGet {t : Tmp} (hv : look l t = some v) (h : WL V O is (v :: E) l H K) : WL V O (.get t :: is) E l H K := .get hv h
theorem zOn (hx : gS V.nG E l x = some (.bool t)) (hb : t = w) (h : WL V O (.run o none :: is) E l H K) : WL V O (.run o (some (x, w)) :: is) E l H K := .on hx hb h
theorem zOff (hx : gS V.nG E l x = some (.bool t)) (hb : t = !w) (h : WL V O is (undef :: E) l H K) : WL V O (.run o (some (x, w)) :: is) E l H K := .off hx hb h
theorem zU (hx : gS V.nG E l x = some undef) (h : WL V O is (undef :: E) l H K) : WL V O (.run o (some (x, w)) :: is) E l H K := .offU hx h
theorem zGd (hx : gS V.nG E l x = some (.bool t)) (h1 : t = w → WL V O (.run o none :: is) E l H K) (h2 : t = !w → WL V O is (undef :: E) l H K) : WL V O (.run o (some (x, w)) :: is) E l H K := .guard hx h1 h2
theorem zMov (hx : gS V.nG E l x = some v) (h : WL V O is (v :: E) l H K) : WL V O (.run (.move x) none :: is) E l H K := .op (by simp only [aopG, hx, Option.map_some]) h
theorem zAsg (hx : gS V.nG E l x = some v) (h : WL V O is (v :: E) l H K) : WL V O (.run (.assign x) none :: is) E l H K := .op (by simp only [aopG, hx, Option.map_some]) h
theorem zXtr {i : Nat} (hx : aopG V (gS V.nG E l) H (.extract x i) = some (v, H)) (h : WL V O is (v :: E) l H K) : WL V O (.run (.extract x i) none :: is) E l H K := .op hx h
theorem zPT (hc : gS V.nG E l x = some (.bool t)) (hb : t = true) (hx : gS V.nG E l y = some v) (h : WL V O is (v :: E) l H K) : WL V O (.run (.pick x y z) none :: is) E l H K := .op (op_pickT hc hb hx) h
theorem zPF (hc : gS V.nG E l x = some (.bool t)) (hb : t = false) (hx : gS V.nG E l z = some v) (h : WL V O is (v :: E) l H K) : WL V O (.run (.pick x y z) none :: is) E l H K := .op (op_pickF hc hb hx) h
section
variable {ty ty2 : TypeId} {k : IntKind} {i j : Int} (hx : gS V.nG E l x = some (.int k i)) (hy : gS V.nG E l y = some (.int k j))
include hx hy
theorem zLss (h : WL V O is (.bool (decide (i < j)) :: E) l H K) : WL V O (.run (.binOp .lss ty x y ty2) none :: is) E l H K := .op (op_int hx hy (aInt_lss _ _)) h
theorem zLeq (h : WL V O is (.bool (decide (i ≤ j)) :: E) l H K) : WL V O (.run (.binOp .leq ty x y ty2) none :: is) E l H K := .op (op_int hx hy (aInt_leq _ _)) h
theorem zGtr (h : WL V O is (.bool (decide (i > j)) :: E) l H K) : WL V O (.run (.binOp .gtr ty x y ty2) none :: is) E l H K := .op (op_int hx hy (aInt_gtr _ _)) h
theorem zGeq (h : WL V O is (.bool (decide (i ≥ j)) :: E) l H K) : WL V O (.run (.binOp .geq ty x y ty2) none :: is) E l H K := .op (op_int hx hy (aInt_geq _ _)) h
theorem zEql (h : WL V O is (.bool (i == j) :: E) l H K) : WL V O (.run (.binOp .eql ty x y ty2) none :: is) E l H K := .op (op_int hx hy (aInt_eql _ _)) h
theorem zNeq (h : WL V O is (.bool (i != j) :: E) l H K) : WL V O (.run (.binOp .neq ty x y ty2) none :: is) E l H K := .op (op_int hx hy (aInt_neq _ _)) h
end
theorem zAdd {ty ty2 : TypeId} {i j : Int} (hx : gS V.nG E l x = some (.int .i64 i)) (hy : gS V.nG E l y = some (.int .i64 j)) (h1 : -9223372036854775808 ≤ i + j ∧ i + j ≤ 9223372036854775807) (h : WL V O is (.int .i64 (i + j) :: E) l H K) : WL V O (.run (.binOp .add ty x y ty2) none :: is) E l H K := .op (op_int hx hy (aInt_add _ _ h1.1 h1.2)) h
theorem zSub {ty ty2 : TypeId} {i j : Int} (hx : gS V.nG E l x = some (.int .i64 i)) (hy : gS V.nG E l y = some (.int .i64 j)) (h1 : -9223372036854775808 ≤ i - j ∧ i - j ≤ 9223372036854775807) (h : WL V O is (.int .i64 (i - j) :: E) l H K) : WL V O (.run (.binOp .sub ty x y ty2) none :: is) E l H K := .op (op_int hx hy (aInt_sub _ _ h1.1 h1.2)) h
theorem zLenS {ty : TypeId} {s : ByteArray} {n b : Nat} {z : Value} (hx : gS V.nG E l x = some (.string s)) (ht : V.E ty = some ⟨.string, n, b, z⟩) (h : WL V O is (.int .i64 s.size :: E) l H K) : WL V O (.run (.call ⟨.builtin .len, #[x], #[ty]⟩) none :: is) E l H K := .op (op_lenS hx ht) h
theorem zLen {ty : TypeId} (hx : gS V.nG E l x = some u) (h0 : aLen V.E H ty u = some v) (h : WL V O is (v :: E) l H K) : WL V O (.run (.call ⟨.builtin .len, #[x], #[ty]⟩) none :: is) E l H K := .op (op_len hx h0) h
theorem zNot {ty : TypeId} (hx : gS V.nG E l x = some (.bool t)) (h : WL V O is (.bool (!t) :: E) l H K) : WL V O (.run (.unOp .not ty x) none :: is) E l H K := .op (op_not hx) h
theorem zEqS {ty ty2 : TypeId} {s r : ByteArray} (hx : gS V.nG E l x = some (.string s)) (hy : gS V.nG E l y = some (.string r)) (h : WL V O is (.bool (s.data.toList == r.data.toList) :: E) l H K) : WL V O (.run (.binOp .eql ty x y ty2) none :: is) E l H K := .op (op_eqS hx hy) h
theorem zNeS {ty ty2 : TypeId} {s r : ByteArray} (hx : gS V.nG E l x = some (.string s)) (hy : gS V.nG E l y = some (.string r)) (h : WL V O is (.bool (!(s.data.toList == r.data.toList)) :: E) l H K) : WL V O (.run (.binOp .neq ty x y ty2) none :: is) E l H K := .op (op_neS hx hy) h
theorem zIdx {ty : TypeId} {p : Value} (hx : gS V.nG E l x = some u) (hi : gS V.nG E l y = some v) (h0 : aIndex V.E ty u v = some p) (h : WL V O is (p :: E) l H K) : WL V O (.run (.indexAddr ty x y) none :: is) E l H K := .op (op_indexAddr hx hi h0) h
theorem zLd {ty : TypeId} (hx : gS V.nG E l x = some u) (h0 : aLoad V.E H ty u = some v) (h : WL V O is (v :: E) l H K) : WL V O (.run (.load ty x) none :: is) E l H K := .op (op_load hx h0) h
theorem zFld {ty : TypeId} {f : Nat} (hx : gS V.nG E l x = some u) (h0 : aField V.E ty f u = some v) (h : WL V O is (v :: E) l H K) : WL V O (.run (.fieldAddr ty x f) none :: is) E l H K := .op (op_fieldAddr hx h0) h
theorem zT (hx : lookO V.nG l x = some (.bool t)) (ht : t = true) (h : WP V O live n a l H Q) : WP V O live n (.cond x a b) l H Q := .condT' hx ht h
theorem zF (hx : lookO V.nG l x = some (.bool t)) (ht : t = false) (h : WP V O live n b l H Q) : WP V O live n (.cond x a b) l H Q := .condF' hx ht h
theorem zC (hx : lookO V.nG l x = some (.bool t)) (h1 : t = true → WP V O live n a l H Q) (h2 : t = false → WP V O live n b l H Q) : WP V O live n (.cond x a b) l H Q := .cond hx h1 h2
end
end Go.Ev

/-
  EV, universal use, part m: a function whose answer leads nowhere, and that has turned nothing: the heap is as it was.
-/
namespace Go.Ev
open Go.RowKit
theorem VRel.back {ι ι' : Emb} (hi : ι.le ι') {x y : Value} (h : VRel ι' x y) : ∀ {y0 : Value}, VRel ι x y0 → VRel ι x y := by
  have eqv : ∀ {b : Nat} {l l' : ILoc}, ι b = some l → ι' b = some l' → l' = l := fun h h' => by
    have := hi _ _ h
    rw [h'] at this; cases this; rfl
  induction h with
  | bool b => intro _ _; exact .bool b
  | int k n => intro _ _; exact .int k n
  | float k n => intro _ _; exact .float k n
  | string s => intro _ _; exact .string s
  | ptrNil => intro _ _; exact .ptrNil
  | ptr h => intro y0 h0; cases h0 with | ptr h1 => obtain rfl := eqv h1 h; exact .ptr h1
  | sliceNil => intro _ _; exact .sliceNil
  | slice h hc hl =>
    intro y0 h0
    cases h0 with
    | slice h1 _ _ => obtain rfl := eqv h1 h; exact .slice h1 hc hl
    | sliceUnk h1 _ _ _ => obtain rfl := eqv h1 h; exact .slice h1 hc hl
    | sliceEnd _ h1 _ => obtain rfl := eqv h1 h; exact .slice h1 hc hl
  | sliceUnk h hl hs he =>
    intro y0 h0
    cases h0 with
    | slice h1 _ _ => obtain rfl := eqv h1 h; exact .sliceUnk h1 hl hs he
    | sliceUnk h1 _ _ _ => obtain rfl := eqv h1 h; exact .sliceUnk h1 hl hs he
    | sliceEnd _ h1 _ => obtain rfl := eqv h1 h; exact .sliceUnk h1 hl hs he
  | sliceEnd a h hs =>
    intro y0 h0
    cases h0 with
    | slice h1 _ _ => obtain rfl := eqv h1 h; exact .sliceEnd a h1 hs
    | sliceUnk h1 _ _ _ => obtain rfl := eqv h1 h; exact .sliceEnd a h1 hs
    | sliceEnd _ h1 _ => obtain rfl := eqv h1 h; exact .sliceEnd a h1 hs
  | mapNil => intro _ _; exact .mapNil
  | map h => intro y0 h0; cases h0 with | map h1 => obtain rfl := eqv h1 h; exact .map h1
  | func hx hy h k ih ik =>
    intro y0 h0
    cases h0 with
    | func hx0 hy0 h0 k0 => exact .func hx hy (fun i a b => ih i a b (h0 i a (by omega))) (fun i a b => ik i a b (k0 i a (by omega)))
  | yield h => intro y0 h0; cases h0 with | yield h1 => obtain rfl := eqv h1 h; exact .yield h1
  | nilFunc => intro _ _; exact .nilFunc
  | iface _ ih => intro y0 h0; cases h0 with | iface h1 => exact .iface (ih h1)
  | nilIface => intro _ _; exact .nilIface
  | agg hx h ih => intro y0 h0; cases h0 with | agg hx0 h0 => exact .agg hx fun i a b => ih i a b (h0 i a (by omega))
  | tuple hx h ih => intro y0 h0; cases h0 with | tuple hx0 h0 => exact .tuple hx fun i a b => ih i a b (h0 i a (by omega))
theorem OOk.back {P : Program} {B0 : Nat} {ι ι' : Emb} {w w' : World} {l : ILoc} {o : AObj} (hi : ι.le ι') (h : OOk P B0 ι' w' l o) (h0 : OOk P B0 ι w l o) : OOk P B0 ι w' l o := by
  cases o with
  | row et cells st g v =>
    obtain ⟨⟨cs, t, fr, h1, h2, h3, h4⟩, hf, he, hb, hr, hx⟩ := h
    obtain ⟨⟨_, _, _, _, _, k3, _⟩, _⟩ := h0
    exact ⟨⟨cs, t, fr, h1, h2, fun i x hx => by
      obtain ⟨y, a, b⟩ := h3 i x hx
      obtain ⟨y0, _, b0⟩ := k3 i x hx
      exact ⟨y, a, b.back hi b0⟩, h4⟩, hf, he, hb, hr, hx⟩
  | map es =>
    obtain ⟨⟨mes, clock, h1, h2, h3⟩, hb⟩ := h
    obtain ⟨⟨_, _, _, _, k3⟩, _⟩ := h0
    exact ⟨⟨mes, clock, h1, h2, fun i k v hx => by
      obtain ⟨e, a, b, c, d⟩ := h3 i k v hx
      obtain ⟨_, _, _, _, d0⟩ := k3 i k v hx
      exact ⟨e, a, b, c, d.back hi d0⟩⟩, hb⟩
  | strIter s pos => exact h
  | loop st pend n T ps assign body =>
    obtain ⟨h0', f, t, d, h1, h2, h3⟩ := h
    obtain ⟨_, _, _, _, _, _, k3⟩ := h0
    exact ⟨h0', f, t, d, h1, h2, fun t v e => (h3 t v e).back hi (k3 t v e)⟩
  | dead => trivial
theorem alive_fr {P : Program} {B0 : Nat} {ι : Emb} {H H' : AH} {w : World} (hR : HRel P B0 ι H w) (hf : Fr H H') {b : Nat} {l : ILoc} (hb : ι b = some l) : H'.alive (H.obj b) = H.alive (H.obj b) := by
  cases ho : H.obj b with
  | row et cells st g v =>
    have := hR.grp b l et cells st g v hb ho
    cases st <;> simp [AH.alive, hf.2.2 g this.1]
  | _ => rfl
theorem Sound.keep {V : Env} {f : FuncId} {vs : List Value} {H H' : AH} {v : Value} (h : Sound V (.fn f) vs H v H') (hf : Fr H H') (hv : constOk v = true) : Sound V (.fn f) vs H v H := fun B0 ι w vs' hG hR hL => by
  refine (h B0 ι w vs' hG hR hL).mono fun e w' ⟨v', ι', he, hr, hs⟩ => ⟨v, ι, by rw [he, hr.constOk_eq hv], VRel.of_constOk hv, ?_⟩
  have hrel : HRel V.P B0 ι H w' :=
    { base := Nat.le_trans hR.base hs.size
      dom := hR.dom
      obj := fun b l hb ha => by
        have hlt := hR.dom b l hb
        have h2 := hs.rel.obj b l (hs.le b l hb) (by rw [hf.2.1 b hlt, alive_fr hR hf hb]; exact ha)
        rw [hf.2.1 b hlt] at h2
        exact h2.back hs.le (hR.obj b l hb ha)
      sep := hR.sep
      grp := hR.grp }
  exact
    { le := Emb.le_refl _, new := fun _ _ h => .inl h, next := Nat.le_refl _, rel := hrel, size := hs.size, frame := hs.frame, low := hs.low,
      fresh := fun b l h k => (by rw [h] at k; cases k), old := fun _ _ _ h => h, loc := fun _ _ _ => rfl, os := hs.os, tape := hs.tape, output := hs.output }
end Go.Ev

