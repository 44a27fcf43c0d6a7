/-
  EV, universal use, part b: code with its regions prepared.
-/
import Derived.Test.YtikjlppcnmalnaaGreatDoorEvUa
namespace Go.Ev
open Go.RowKit

variable {V : Env} {O : Orc} {live : Option Nat} {n : Nat}

/-- Code with its regions prepared. -/
inductive PC where
  | skip
  | reg (is : List LI) (outs : List (Tmp × Nat))
  | rega (is : List LI) (outs : List (Tmp × Nat)) (c : Nat) (chks : List Chk)
  | seq (a b : PC)
  | cond (x : Operand) (a b : PC)
  | block (id : Nat) (c : PC)
  | loop (c : PC)
  | exit (id : Nat)
  | label (id : Nat)
  | ret
  | rfunc (f : Operand) (ps : Array Tmp) (x y : PC)

/-- Is there no range over a function? -/
def noRF : Code → Bool
  | .seq a b => noRF a && noRF b
  | .cond _ a b => noRF a && noRF b
  | .block _ c => noRF c
  | .loop c => noRF c
  | .rangeFunc .. => false
  | _ => true

def pcOf (V : Env) (n : Nat) (live : Option Nat) : Code → Option PC
  | .skip => some .skip
  | .region _ ops d => match planL V n live ops d with
    | some (.fast is outs) => if outs.all (fun o => isLive live o.1) then some (.reg is outs) else none
    | some (.again is outs c chks) => if outs.all (fun o => isLive live o.1) then some (.rega is outs c chks) else none
    | none => none
  | .seq a b => match pcOf V n live a, pcOf V n live b with
    | some a, some b => some (.seq a b)
    | _, _ => none
  | .cond x a b => match pcOf V n live a, pcOf V n live b with
    | some a, some b => some (.cond x a b)
    | _, _ => none
  | .block id c => (pcOf V n live c).map (.block id)
  | .loop c => (pcOf V n live c).map .loop
  | .exit id => some (.exit id)
  | .label id => some (.label id)
  | .ret => some .ret
  | .rangeFunc f ps x y => match pcOf V n none x, pcOf V n none y with
    | some a, some b => if noRF x && noRF y then some (.rfunc f ps a b) else none
    | _, _ => none
  | _ => none

/-- Prepared code comes out somewhere as Q says. -/
def WP (V : Env) (O : Orc) (live : Option Nat) (n : Nat) (p : PC) (l : SL) (H : AH) (Q : Ex → SL → AH → Prop) : Prop := ∀ c, pcOf V n live c = some p → W V O live n c l H Q

theorem pcOf_cases {c : Code} {p : PC} (h : pcOf V n live c = some p) : match p with
    | .skip => c = .skip
    | .reg is outs => ∃ id ops d, c = .region id ops d ∧ planL V n live ops d = some (.fast is outs) ∧ ∀ o ∈ outs, isLive live o.1 = true
    | .rega is outs k chks => ∃ id ops d, c = .region id ops d ∧ planL V n live ops d = some (.again is outs k chks) ∧ ∀ o ∈ outs, isLive live o.1 = true
    | .seq a b => ∃ a' b', c = .seq a' b' ∧ pcOf V n live a' = some a ∧ pcOf V n live b' = some b
    | .cond x a b => ∃ a' b', c = .cond x a' b' ∧ pcOf V n live a' = some a ∧ pcOf V n live b' = some b
    | .block id a => ∃ a', c = .block id a' ∧ pcOf V n live a' = some a
    | .loop a => ∃ a', c = .loop a' ∧ pcOf V n live a' = some a
    | .exit id => c = .exit id
    | .label id => c = .label id
    | .ret => c = .ret
    | .rfunc f ps x y => ∃ x' y', c = .rangeFunc f ps x' y' ∧ pcOf V n none x' = some x ∧ pcOf V n none y' = some y ∧ noRF x' = true ∧ noRF y' = true := by
  cases c with
  | skip => cases h; rfl
  | region id ops d =>
    simp only [pcOf] at h
    split at h
    · rename_i is outs hp
      split at h
      · rename_i ha
        cases h
        exact ⟨id, ops, d, rfl, hp, fun o ho => List.all_eq_true.1 ha o ho⟩
      · cases h
    · rename_i is outs k chks hp
      split at h
      · rename_i ha
        cases h
        exact ⟨id, ops, d, rfl, hp, fun o ho => List.all_eq_true.1 ha o ho⟩
      · cases h
    · cases h
  | seq a b =>
    simp only [pcOf] at h
    split at h
    · rename_i a' b' h1 h2; cases h; exact ⟨a, b, rfl, h1, h2⟩
    · cases h
  | cond x a b =>
    simp only [pcOf] at h
    split at h
    · rename_i a' b' h1 h2; cases h; exact ⟨a, b, rfl, h1, h2⟩
    · cases h
  | block id a =>
    obtain ⟨a', h1, h2⟩ := map_some h
    subst h2; exact ⟨a, rfl, h1⟩
  | loop a =>
    obtain ⟨a', h1, h2⟩ := map_some h
    subst h2; exact ⟨a, rfl, h1⟩
  | exit id => cases h; rfl
  | label id => cases h; rfl
  | ret => cases h; rfl
  | rangeFunc f ps x y =>
    simp only [pcOf] at h
    split at h
    · rename_i a b h1 h2
      split at h
      · rename_i h3
        rw [Bool.and_eq_true] at h3
        cases h; exact ⟨x, y, rfl, h1, h2, h3.1, h3.2⟩
      · cases h
    · cases h
  | _ => cases h

variable {l : SL} {H : AH} {Q Q' : Ex → SL → AH → Prop}

theorem WP.mono {p : PC} (h : WP V O live n p l H Q) (hq : ∀ e l H, Q e l H → Q' e l H) : WP V O live n p l H Q' := fun c hc => (h c hc).mono hq
theorem WP.sub {p : PC} {l' : SL} (h : WP V O live n p l' H Q) (hl : ∀ t v, look l' t = some v → look l t = some v) : WP V O live n p l H Q := fun c hc => (h c hc).sub hl
theorem WP.skip (h : Q .normal l H) : WP V O live n .skip l H Q := fun c hc => by
  obtain rfl : c = .skip := pcOf_cases hc
  exact .skip h
theorem WP.exit {id : Nat} (h : Q (.exit id) l H) : WP V O live n (.exit id) l H Q := fun c hc => by
  obtain rfl : c = .exit id := pcOf_cases hc
  exact .exit h
theorem WP.label {id : Nat} (h : Q .normal l H) : WP V O live n (.label id) l H Q := fun c hc => by
  obtain rfl : c = .label id := pcOf_cases hc
  exact .label h
theorem WP.ret (h : Q .ret l H) : WP V O live n .ret l H Q := fun c hc => by
  obtain rfl : c = .ret := pcOf_cases hc
  exact .ret h
theorem WP.seq {a b : PC} (h : WP V O live n a l H (ThenL (fun l1 H1 => WP V O live n b l1 H1 Q) Q)) : WP V O live n (.seq a b) l H Q := fun c hc => by
  obtain ⟨a', b', rfl, h1, h2⟩ := pcOf_cases hc
  refine .seq ((h a' h1).mono fun e l1 H1 hq => ?_)
  cases e with
  | normal => exact hq b' h2
  | exit id => exact hq
  | ret => exact hq
theorem WP.cond {x : Operand} {a b : PC} {t : Bool} (hx : lookO V.nG l x = some (.bool t)) (h1 : t = true → WP V O live n a l H Q) (h2 : t = false → WP V O live n b l H Q) : WP V O live n (.cond x a b) l H Q := fun c hc => by
  obtain ⟨a', b', rfl, k1, k2⟩ := pcOf_cases hc
  exact .cond hx (fun e => h1 e a' k1) (fun e => h2 e b' k2)
theorem WP.block {id : Nat} {a : PC} (h : WP V O live n a l H fun e l' H' => Q (e.out id) l' H') : WP V O live n (.block id a) l H Q := fun c hc => by
  obtain ⟨a', rfl, k1⟩ := pcOf_cases hc
  exact .block (h a' k1)
theorem WP.loop {a : PC} (I : SL → AH → Prop) (μ : SL → AH → Nat) (h0 : I l H) (hI : ∀ l H, I l H → WP V O live n a l H (ThenL (fun l' H' => I l' H' ∧ μ l' H' < μ l H) Q)) : WP V O live n (.loop a) l H Q := fun c hc => by
  obtain ⟨a', rfl, k1⟩ := pcOf_cases hc
  exact .loop I μ (fun l H hi => hI l H hi a' k1) h0
theorem WP.reg {is : List LI} {outs : List (Tmp × Nat)} (h : WL V O is [] l H fun E H' => ∃ l', outsL E outs l = some l' ∧ Q .normal l' H') : WP V O live n (.reg is outs) l H Q := fun c hc => by
  obtain ⟨id, ops, d, rfl, hp, hl⟩ := pcOf_cases hc
  exact .region hp hl h

/-! ### Regions in which something is looked at again -/
/-- A row of prepared operations comes to its end as K says of the heaps ahead of each, too. -/
def WH (V : Env) (O : Orc) (is : List LI) (E : List Value) (l : SL) (H : AH) (Hs0 : List AH) (K : List Value → AH → List AH → Prop) : Prop :=
  ∀ T, Has T l → ∃ N E' H' Hs, (∀ lf, N ≤ lf → ∀ d, N ≤ d → heapsLI V (fO V O lf d) is E T H = some (E', H', Hs)) ∧ K E' H' (Hs0 ++ Hs)

section
variable {E : List Value} {Hs0 : List AH} {K : List Value → AH → List AH → Prop} {is : List LI}
theorem WH.nil (h : K E H (Hs0 ++ [H])) : WH V O [] E l H Hs0 K := fun _ _ => ⟨0, E, H, [H], fun _ _ _ _ => rfl, h⟩
theorem WH.get {t : Tmp} {v : Value} (hv : look l t = some v) (h : WH V O is (v :: E) l H (Hs0 ++ [H]) K) : WH V O (.get t :: is) E l H Hs0 K := fun T hT => by
  obtain ⟨N, E', H', Hs, h1, h2⟩ := h T hT
  exact ⟨N, E', H', H :: Hs, fun lf hlf d hd => by simp only [heapsLI, hT t v hv]; rw [h1 lf hlf d hd]; rfl, by simpa using h2⟩
theorem WH.op {o : Op} {H1 : AH} {v : Value} (ho : aopG V (gS V.nG E l) H o = some (v, H1)) (h : WH V O is (v :: E) l H1 (Hs0 ++ [H]) K) : WH V O (.run o none :: is) E l H Hs0 K := fun T hT => by
  obtain ⟨N, E', H', Hs, h1, h2⟩ := h T hT
  have := aopG_mono (gS_le hT V.nG E) ho
  exact ⟨N, E', H', H :: Hs, fun lf hlf d hd => by simp only [heapsLI, wantL, aopG_call this]; rw [h1 lf hlf d hd]; rfl, by simpa using h2⟩
theorem WH.guard {o : Op} {x : Operand} {w b : Bool} (hx : gS V.nG E l x = some (.bool b)) (h1 : b = w → WH V O (.run o none :: is) E l H Hs0 K) (h2 : b = !w → WH V O is (undef :: E) l H (Hs0 ++ [H]) K) : WH V O (.run o (some (x, w)) :: is) E l H Hs0 K := fun T hT => by
  have hv := gS_le hT V.nG E x _ hx
  by_cases e : b = w
  · obtain ⟨N, E', H', Hs, k1, k2⟩ := h1 e T hT
    refine ⟨N, E', H', Hs, fun lf hlf d hd => ?_, k2⟩
    have := k1 lf hlf d hd
    simp only [heapsLI, wantL] at this ⊢
    rw [hv]
    simp only [e, beq_self_eq_true]
    exact this
  · obtain ⟨N, E', H', Hs, k1, k2⟩ := h2 (by cases b <;> cases w <;> simp_all) T hT
    refine ⟨N, E', H', H :: Hs, fun lf hlf d hd => ?_, by simpa using k2⟩
    simp only [heapsLI, wantL]
    rw [hv]
    have : (b == w) = false := by simpa using e
    simp only [this]
    rw [k1 lf hlf d hd]; rfl
theorem WH.call {f : Operand} {args : Array Operand} {ts : Array TypeId} {k : FuncId} {first cap : Array Value} {vs : List Value} {H1 : AH} {v : Value}
    (hf : gS V.nG E l f = some (.func (.func k) first cap)) (ha : gvals (gS V.nG E l) args.toList = some vs) (hk : (V.F k).isSome = true) (hc : Lc V O k (first.toList ++ vs ++ cap.toList) H v H1) (h : WH V O is (v :: E) l H1 (Hs0 ++ [H]) K) :
    WH V O (.run (.call ⟨.value f, args, ts⟩) none :: is) E l H Hs0 K := fun T hT => by
  obtain ⟨N, E', H', Hs, h1, h2⟩ := h T hT
  obtain ⟨M, hc⟩ := hc
  have e1 := gS_le hT V.nG E f _ hf
  have e2 := gvals_mono (gS_le hT V.nG E) ha
  obtain ⟨fn, hfn⟩ := Option.isSome_iff_exists.1 hk
  refine ⟨N + M, E', H', H :: Hs, fun lf hlf d hd => ?_, by simpa using h2⟩
  simp only [heapsLI, wantL, evOpG, e1, e2, hfn, hc lf (by omega) d (by omega)]
  rw [h1 lf (by omega) d (by omega)]; rfl
end

/-- What is looked at again is the same. -/
def chkS (V : Env) (E : List Value) (l : SL) (c : Nat) (Hs : List AH) (x : Chk) : Prop :=
  wantL (gS V.nG E l) x.guard = some false ∨ (wantL (gS V.nG E l) x.guard = some true ∧ ∃ H v H', Hs[x.q]? = some H ∧ atP E c x.p = some v ∧ aopG V (gS V.nG E l) H x.op = some (v, H') ∧ sameV v v = true)

theorem wantL_mono {g g' : Ft} (hg : g.le g') {x : Option (Operand × Bool)} {b : Bool} (h : wantL g x = some b) : wantL g' x = some b := by
  cases x with
  | none => exact h
  | some p =>
    obtain ⟨x, w⟩ := p
    simp only [wantL] at h ⊢
    split at h
    · rename_i c hc; rw [hg _ _ hc]; exact h
    · rename_i v hne hc
      rw [hg _ _ hc]
      cases v <;> first | exact h | exact absurd rfl (hne _)
    · cases h

theorem chkS_ok {T : PTree Value} (hT : Has T l) {E : List Value} {c : Nat} {Hs : List AH} {x : Chk} (h : chkS V E l c Hs x) : chkOk V T E c Hs x = true := by
  unfold chkOk
  rcases h with h | ⟨h, H, v, H', h1, h2, h3, h4⟩
  · rw [wantL_mono (gS_le hT V.nG E) h]
  · rw [wantL_mono (gS_le hT V.nG E) h]
    simp only [h1, h2, aopG_mono (gS_le hT V.nG E) h3, h4]

theorem WP.rega {is : List LI} {outs : List (Tmp × Nat)} {k : Nat} {chks : List Chk} (h : WH V O is [] l H [] fun E H' Hs => (∀ x ∈ chks, chkS V E l k Hs x) ∧ ∃ l', outsL E outs l = some l' ∧ Q .normal l' H') : WP V O live n (.rega is outs k chks) l H Q := fun c hc => by
  obtain ⟨id, ops, d, rfl, hp, hl⟩ := pcOf_cases hc
  intro T hT hd
  obtain ⟨N, E, H', Hs, h1, h0, l', h2, h3⟩ := h T hT
  obtain ⟨T', k1, k2⟩ := outsL_ok h2 hT
  refine ⟨N, .normal, T', H', fun lf hlf d' hdd => ?_, fun t v hv => ?_, l', k2, h3⟩
  · simp only [codeL, regionL, hp]
    rw [h1 lf hlf d' hdd]
    have : chks.all (chkOk V T E k Hs) = true := List.all_eq_true.2 fun x hx => chkS_ok hT (by simpa using h0 x hx)
    simp only [this, if_true, k1, Option.map_some]
  · rcases setOuts_ok k1 t with ⟨i, m1, _⟩ | ⟨_, m2⟩
    · exact hl _ m1
    · rw [m2] at hv; exact hd t v hv

/-- A function's contract from its prepared body. -/
theorem Lc.fnP {f : FuncId} {fn : Func} {c : Code} {p : PC} {vs : List Value} {R : Value → AH → Prop} (ho : O f vs H = none) (hfn : V.F f = some fn) (hb : fn.body = some c) (hp : pcOf V fn.ntmps (some (liveOf fn c)) c = some p) (hlen : vs.length ≤ fn.ntmps) (hlive : (List.range vs.length).all (isLive (some (liveOf fn c))) = true)
    (h : WP V O (some (liveOf fn c)) fn.ntmps p (initL vs 0) H fun e l H' => (e = .normal ∨ e = .ret) ∧ ∃ rs, resL V l H' fn.results.toList = some rs ∧ R (resOf rs) H') : ∃ v H', Lc V O f vs H v H' ∧ R v H' :=
  Lc.fn ho hfn hb hlen hlive (h c hp)
end Go.Ev
