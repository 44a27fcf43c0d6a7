/-
  EV, universal use, part d: loops with a state of one's own.
-/
import Derived.Test.YtikjlppcnmalnaaGreatDoorEvUc
namespace Go.Ev
open Go.RowKit

variable {V : Env} {O : Orc} {live : Option Nat} {n : Nat}

/-- What a literal list says is known. -/
def Kn (l : SL) : SL → Prop
  | [] => True
  | (t, v) :: r => look l t = some v ∧ Kn l r

theorem Kn.look {l : SL} : ∀ {r : SL}, Kn l r → ∀ t v, look r t = some v → look l t = some v
  | [], _, _, _, h => by cases h
  | (u, w) :: r, hk, t, v, h => by
    simp only [Ev.look] at h
    split at h
    · rename_i e; subst e; cases h; exact hk.1
    · exact hk.2.look t v h

theorem W.loopS {σ : Type} {c : Code} {Q : Ex → SL → AH → Prop} (lit : σ → SL) (hp : σ → AH) (I : σ → Prop) (μ : σ → Nat)
    (hI : ∀ s, I s → W V O live n c (lit s) (hp s) (ThenL (fun l' H' => ∃ s', I s' ∧ μ s' < μ s ∧ Kn l' (lit s') ∧ hp s' = H') Q)) {l : SL} {H : AH} (s0 : σ) (h0 : I s0) (hl : Kn l (lit s0)) (hh : hp s0 = H) : W V O live n (.loop c) l H Q := by
  have key : ∀ k s, I s → μ s < k → ∀ T, Has T (lit s) → Dom live T → ∃ N e T' H', (∀ m, N ≤ m → ∀ lf, N ≤ lf → ∀ d, N ≤ d → loopN (fun T H => codeL V (fO V O lf d) live none n lf c T H) m T (hp s) = some (e, T', H')) ∧ Dom live T' ∧ ∃ l', Has T' l' ∧ Q e l' H' := by
    intro k
    induction k with
    | zero => intro s _ hk; omega
    | succ k ih =>
      intro s hi hk T hT hd
      obtain ⟨N, e, T1, H1, h1, d1, l1, h2, h3⟩ := hI s hi T hT hd
      cases e with
      | normal =>
        obtain ⟨s', i', m', kn', rfl⟩ := h3
        obtain ⟨M, e, T2, H2, k1, k2⟩ := ih s' i' (by omega) T1 (fun t v e => h2 t v (kn'.look t v e)) d1
        refine ⟨N + M + 1, e, T2, H2, fun m hm lf hlf d hdd => ?_, k2⟩
        obtain ⟨m, rfl⟩ : ∃ m', m = m' + 1 := ⟨m - 1, by omega⟩
        simp only [loopN]
        rw [h1 lf (by omega) d (by omega)]
        exact k1 m (by omega) lf (by omega) d (by omega)
      | exit id =>
        refine ⟨N + 1, _, T1, H1, fun m hm lf hlf d hdd => ?_, d1, l1, h2, h3⟩
        obtain ⟨m, rfl⟩ : ∃ m', m = m' + 1 := ⟨m - 1, by omega⟩
        simp only [loopN]
        rw [h1 lf (by omega) d (by omega)]
      | ret =>
        refine ⟨N + 1, _, T1, H1, fun m hm lf hlf d hdd => ?_, d1, l1, h2, h3⟩
        obtain ⟨m, rfl⟩ : ∃ m', m = m' + 1 := ⟨m - 1, by omega⟩
        simp only [loopN]
        rw [h1 lf (by omega) d (by omega)]
  intro T hT hd
  subst hh
  obtain ⟨N, e, T', H', h1, h2⟩ := key (μ s0 + 1) s0 h0 (Nat.lt_succ_self _) T (fun t v e => hT t v (hl.look t v e)) hd
  exact ⟨N, e, T', H', fun lf hlf d hdd => by simp only [codeL]; exact h1 lf hlf lf hlf d hdd, h2⟩

/-- A loop with a state of one's own: what is known at each round's begin is a literal list of the state. -/
theorem WP.loopS {l : SL} {H : AH} {Q : Ex → SL → AH → Prop} {σ : Type} {a : PC} (lit : σ → SL) (hp : σ → AH) (I : σ → Prop) (μ : σ → Nat) (s0 : σ) (h0 : I s0) (hl : Kn l (lit s0)) (hh : hp s0 = H)
    (hI : ∀ s, I s → WP V O live n a (lit s) (hp s) (ThenL (fun l' H' => ∃ s', I s' ∧ μ s' < μ s ∧ Kn l' (lit s') ∧ hp s' = H') Q)) : WP V O live n (.loop a) l H Q := fun c hc => by
  obtain ⟨a', rfl, k1⟩ := pcOf_cases hc
  exact .loopS lit hp I μ (fun s hi => hI s hi a' k1) s0 h0 hl hh

/-! ### Comparisons -/
theorem aInt_lss (P : Program) (t : TypeId) {k : IntKind} {a b : Int} : aInt P .lss t k a k b = some (.bool (decide (a < b))) := by
  simp only [aInt, if_true]
theorem aInt_neq (P : Program) (t : TypeId) {k : IntKind} {a b : Int} : aInt P .neq t k a k b = some (.bool (a != b)) := by
  simp only [aInt, if_true]
theorem aInt_eql (P : Program) (t : TypeId) {k : IntKind} {a b : Int} : aInt P .eql t k a k b = some (.bool (a == b)) := by
  simp only [aInt, if_true]

theorem OneAt.idx_op {V : Env} {g : Ft} {H : AH} {v : Value} {cs : List Value} (h : OneAt H v cs) {t e : TypeId} {s b : Nat} {z : Value} (ht : V.E t = some ⟨.slice e, s, b, z⟩) {te : TI} (he : V.E e = some te) (hz : te.size = 1) (ha : Desc.agg te.desc = false) {kd : IntKind} {i : Int} {c : Value} (h0 : 0 ≤ i) (hc : cs[i.toNat]? = some c)
    {x y : Operand} (hx : g x = some v) (hy : g y = some (.int kd i)) : ∃ p, aopG V g H (.indexAddr t x y) = some (p, H) ∧ aLoad V.E H e p = some c := by
  obtain ⟨p, h1, h2⟩ := h.idx ht he hz ha (kd := kd) h0 hc
  exact ⟨p, op_indexAddr hx hy h1, h2⟩

theorem aInt_geq (P : Program) (t : TypeId) {k : IntKind} {a b : Int} : aInt P .geq t k a k b = some (.bool (decide (a ≥ b))) := by
  simp only [aInt, if_true]
theorem aInt_leq (P : Program) (t : TypeId) {k : IntKind} {a b : Int} : aInt P .leq t k a k b = some (.bool (decide (a ≤ b))) := by
  simp only [aInt, if_true]
theorem aInt_gtr (P : Program) (t : TypeId) {k : IntKind} {a b : Int} : aInt P .gtr t k a k b = some (.bool (decide (a > b))) := by
  simp only [aInt, if_true]

section
variable {g : Ft} {H : AH}
theorem op_pickT {c x y : Operand} {b : Bool} {v : Value} (hc : g c = some (.bool b)) (hb : b = true) (hx : g x = some v) : aopG V g H (.pick c x y) = some (v, H) := by
  subst hb; simp only [aopG, hc, if_true, hx, Option.map_some]
theorem op_pickF {c x y : Operand} {b : Bool} {v : Value} (hc : g c = some (.bool b)) (hb : b = false) (hy : g y = some v) : aopG V g H (.pick c x y) = some (v, H) := by
  subst hb; simp only [aopG, hc, Bool.false_eq_true, if_false, hy, Option.map_some]
end

/-- What is known of the end may be said more loosely. -/
theorem WL.post {is : List LI} {E : List Value} {l : SL} {H : AH} {K K' : List Value → AH → Prop} (h : WL V O is E l H K) (hk : ∀ E H, K E H → K' E H) : WL V O is E l H K' := fun T hT =>
  let ⟨N, E', H', h1, h2⟩ := h T hT
  ⟨N, E', H', h1, hk _ _ h2⟩

/-! ### Strings -/
section
variable {g : Ft} {H : AH}
theorem op_lenS {x : Operand} {t : TypeId} {s : ByteArray} {n b : Nat} {z : Value} (hx : g x = some (.string s)) (ht : V.E t = some ⟨.string, n, b, z⟩) : aopG V g H (.call ⟨.builtin .len, #[x], #[t]⟩) = some (.int .i64 s.size, H) :=
  op_len hx (by simp only [aLen, ht])
theorem op_indexS {x y : Operand} {t : TypeId} {s : ByteArray} {n b : Nat} {z : Value} {k : IntKind} {i : Int} {c : UInt8} (hx : g x = some (.string s)) (hy : g y = some (.int k i)) (ht : V.E t = some ⟨.string, n, b, z⟩) (h0 : 0 ≤ i) (hc : s.data.toList[i.toNat]? = some c) :
    aopG V g H (.index t x y) = some (.int .u8 c.toNat, H) := by
  simp only [aopG, hx, hy, aIndexOf, ht, if_pos h0, hc, Option.map_some]
end

/-! ### Guards whose answer is known -/
section
variable {o : Op} {x : Operand} {w b : Bool} {is : List LI} {E : List Value} {l : SL} {H : AH} {K : List Value → AH → Prop}
theorem WL.on (hx : gS V.nG E l x = some (.bool b)) (hb : b = w) (h : WL V O (.run o none :: is) E l H K) : WL V O (.run o (some (x, w)) :: is) E l H K :=
  .guard hx (fun _ => h) (fun e => absurd (hb.symm.trans e) (by cases w <;> simp))
theorem WL.off (hx : gS V.nG E l x = some (.bool b)) (hb : b = !w) (h : WL V O is (undef :: E) l H K) : WL V O (.run o (some (x, w)) :: is) E l H K :=
  .guard hx (fun e => absurd (hb.symm.trans e) (by cases w <;> simp)) (fun _ => h)
theorem WL.offU (hx : gS V.nG E l x = some undef) (h : WL V O is (undef :: E) l H K) : WL V O (.run o (some (x, w)) :: is) E l H K := fun T hT => by
  obtain ⟨N, E', H', h1, h2⟩ := h T hT
  have hv := gS_le hT V.nG E x _ hx
  refine ⟨N, E', H', fun lf hlf d hd => ?_, h2⟩
  have := h1 lf hlf d hd
  simp only [runLI, wantL, hv, undef]
  exact this
end

theorem aBin_str {P : Program} {E : TypeId → Option TI} {op : BinOp} {t : TypeId} {ox oy : Operand} {a b : ByteArray} {v : Value} (h : pureRun P (Op.stringOp op a b) = some v) (hv : constOk v = true) : aBin P E op t ox oy (.string a) (.string b) = some v := by
  have e : aBin P E op t ox oy (.string a) (.string b) = (if constOk (.string a) && constOk (.string b) then match pureRun P (do eqGuard op t ox oy (.string a) (.string b); binOp op t (.string a) (.string b)) with
      | some v => if constOk v then some v else none
      | none => none
    else none) := by unfold aBin; rfl
  have e2 : (do eqGuard op t ox oy (.string a) (.string b); binOp op t (.string a) (.string b)) = Op.stringOp op a b := by
    have := binSem_skip (op := op) (t := t) (ox := ox) (oy := oy) (x := .string a) (y := .string b) (fun _ h => nomatch h) (fun h => nomatch h)
    unfold binSem at this
    rw [this]
    cases op <;> rfl
  rw [e, e2, h, if_pos (show (constOk (Value.string a) && constOk (Value.string b)) = true from rfl)]
  simp only [hv, if_true]
theorem aBin_eqS {P : Program} {E : TypeId → Option TI} {t : TypeId} {ox oy : Operand} {a b : ByteArray} : aBin P E .eql t ox oy (.string a) (.string b) = some (.bool (a.data.toList == b.data.toList)) := by rw [← ByteArray.toList_eq, ← ByteArray.toList_eq]; exact aBin_str rfl rfl
theorem aBin_neS {P : Program} {E : TypeId → Option TI} {t : TypeId} {ox oy : Operand} {a b : ByteArray} : aBin P E .neq t ox oy (.string a) (.string b) = some (.bool !(a.data.toList == b.data.toList)) := by rw [← ByteArray.toList_eq, ← ByteArray.toList_eq]; exact aBin_str rfl rfl
theorem aBin_addS {P : Program} {E : TypeId → Option TI} {t : TypeId} {ox oy : Operand} {a b : ByteArray} (h : a.size + b.size ≤ 9223372036854775807) : aBin P E .add t ox oy (.string a) (.string b) = some (.string (a ++ b)) := aBin_str (by
  simp only [Op.stringOp]
  rw [if_neg (by have : IntKind.i64.max = 9223372036854775807 := (by decide); omega)]; rfl) rfl

section
variable {g : Ft} {H : AH}
theorem op_eqS {x y : Operand} {t u : TypeId} {a b : ByteArray} (hx : g x = some (.string a)) (hy : g y = some (.string b)) : aopG V g H (.binOp .eql t x y u) = some (.bool (a.data.toList == b.data.toList), H) := by
  simp only [aopG, hx, hy, aBin_eqS, Option.map_some]
theorem op_neS {x y : Operand} {t u : TypeId} {a b : ByteArray} (hx : g x = some (.string a)) (hy : g y = some (.string b)) : aopG V g H (.binOp .neq t x y u) = some (.bool !(a.data.toList == b.data.toList), H) := by
  simp only [aopG, hx, hy, aBin_neS, Option.map_some]
theorem op_addS {x y : Operand} {t u : TypeId} {a b : ByteArray} (hx : g x = some (.string a)) (hy : g y = some (.string b)) (h : a.size + b.size ≤ 9223372036854775807) : aopG V g H (.binOp .add t x y u) = some (.string (a ++ b), H) := by
  simp only [aopG, hx, hy, aBin_addS h, Option.map_some]
theorem op_not {x : Operand} {t : TypeId} {b : Bool} (hx : g x = some (.bool b)) : aopG V g H (.unOp .not t x) = some (.bool (!b), H) := by
  simp only [aopG, hx]; rfl
end

theorem op_buildSlice {g : Ft} {H : AH} {t e : TypeId} {len : Nat} {ps : Array (Nat × Operand)} {vs : List (Nat × Value)} {cs : List Value} {a b : Nat} {z : Value} {te : TI} (hp : gparts g ps.toList = some vs) (ht : V.E t = some ⟨.slice e, a, b, z⟩) (he : V.E e = some te)
    (h1 : len * te.size ≤ 16777216) (hf : afill (fun i => some (i * te.size, te.size)) (azeros te.zv.cells.toList len) vs = some cs) (h2 : len < unk := by decide) : aopG V g H (.buildSlice t len ps) = some (.slice (some ⟨H.next, 0, none⟩) len len, H.alloc (.row e cs .exact 0 0)) := by
  simp only [aopG, hp, aBuildSlice, ht, he]
  rw [if_neg (by omega), hf]

theorem OneAt.alloc {H : AH} {e : TypeId} {cs : List Value} {cap : Nat} (h : cs.length < 4611686018427387904) : OneAt (H.alloc (.row e cs .exact 0 0)) (.slice (some ⟨H.next, 0, none⟩) cs.length cap) cs := by
  refine ⟨h, .inr ⟨H.next, 0, cap, rfl, fun _ => ?_⟩⟩
  unfold AH.rd
  simp [AH.lo, AH.alive]
end Go.Ev
