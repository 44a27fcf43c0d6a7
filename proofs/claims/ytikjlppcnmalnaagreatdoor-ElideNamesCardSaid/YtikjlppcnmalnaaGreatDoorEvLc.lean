/-
  EV, kernel, part Lc: prepared regions are run soundly; code and functions over them.
-/
import Derived.Test.YtikjlppcnmalnaaGreatDoorEvLi
namespace Go.Ev
open Go.RowKit

variable {V : Env} {call : CallFn} {n : Nat} {ro : Option Nat}

/-! ### What is kept -/
def isLive (live : Option Nat) (t : Nat) : Bool :=
  match live with
  | none => true
  | some m => m.testBit t

def Dom (live : Option Nat) (T : PTree Value) : Prop := ∀ t v, T.get t = some v → isLive live t = true
def SubT (T' T : PTree Value) : Prop := ∀ t v, T'.get t = some v → T.get t = some v

theorem TRel.sub {ι : Emb} {T T' : PTree Value} {tmps : Array Value} (h : TRel ι T tmps) (hs : SubT T' T) : TRel ι T' tmps := fun t v e => h t v (hs t v e)

theorem FrOk.sub {B0 : Nat} {s0 : Fr0} {rr : Option Nat} {ι : Emb} {T T' : PTree Value} {H : AH} {a : Act} {w : World} (h : FrOk V B0 s0 n ro rr ι T H a w) (hs : SubT T' T) : FrOk V B0 s0 n ro rr ι T' H a w :=
  { h with tr := h.tr.sub hs }

theorem Runs.weaken {c : Code} {T T1 T2 : PTree Value} {H H' : AH} {e : Ex} (h : Runs V n ro c T H e T1 H') (hs : SubT T2 T1) : Runs V n ro c T H e T2 H' :=
  fun B0 s0 rr ι a w hf Q hQ => h B0 s0 rr ι a w hf Q fun ι' a' w' g1 g2 => hQ ι' a' w' (g1.sub hs) g2

theorem Runs.region (hE : TOk V.E V.P) (hF : FOk V.F V.P) (hc : CallOk V call) {id : Nat} {ops : Array Oper} {T T' : PTree Value} {H H' : AH} (h : evOps V call n ops ops.toList T H = some (T', H')) : Runs V n ro (.region id ops false) T H .normal T' H' := by
  intro B0 s0 rr ι a w hf Qm hQm
  refine wpIn_region ?_
  have hl := evOps_wp (Q := Qm) (ro := rr) hE hF hc (all := ops) ops.toList 0 (fun j hj => by simp) hf.tr hf.sz rfl hf.g hf.rel h fun ι' a' w' g1 g2 g3 g4 => hQm ι' a' w' (hf.next g1 g2 g3 g4) g4
  simpa [List.range_eq_range'] using hl

theorem Runs.draw (hE : TOk V.E V.P) (hF : FOk V.F V.P) (hm : V.P.follows .mixedOrders = true) (hc : CallOk V call) {id : Nat} {ops : Array Oper} {σ : List Nat} {R : List Rec} {T T' : PTree Value} {H H' : AH} (h : Ran V call n ops σ T H R T' H') : Runs V n ro (.region id ops true) T H .normal T' H' :=
  fun B0 s0 rr ι a w hf Qm hQm => ran_wp hE hF hm hc rr id hf.tr hf.sz rfl hf.g hf.rel h Qm fun ι' a' w' g1 g2 g3 g4 => hQm ι' a' w' (hf.next g1 g2 g3 g4) g4

/-! ### What is put back -/
def isTop (all : List (Tmp × Nat)) (u q : Nat) : Bool :=
  match findR all u with
  | some p => Nat.beq p q
  | none => false
theorem isTop_iff {all : List (Tmp × Nat)} {u q : Nat} : isTop all u q = true ↔ findR all u = some q := by
  unfold isTop
  cases findR all u with
  | none => simp
  | some p => simp [Nat.beq_eq]

def outsOf (live : Option Nat) (all : List (Tmp × Nat)) (c : Nat) : List (Tmp × Nat) → List (Tmp × Nat)
  | [] => []
  | (d, p) :: ρ => if isLive live d && isTop all d p then (d, c - 1 - p) :: outsOf live all c ρ else outsOf live all c ρ

def setOuts (E : List Value) : List (Tmp × Nat) → PTree Value → Option (PTree Value)
  | [], T => some T
  | (d, i) :: os, T => match E[i]? with
    | some v => setOuts E os (T.set d v)
    | none => none

theorem findR_mem : ∀ {ρ : List (Tmp × Nat)} {t p : Nat}, findR ρ t = some p → (t, p) ∈ ρ
  | [], t, p, h => by cases h
  | (d, q) :: ρ, t, p, h => by
    rw [findR_cons] at h
    split at h
    · rename_i e; subst e; cases h; exact List.mem_cons_self
    · exact List.mem_cons_of_mem _ (findR_mem h)

theorem outsOf_mem {live : Option Nat} {all : List (Tmp × Nat)} {c : Nat} : ∀ {ρ : List (Tmp × Nat)} {d i : Nat}, (d, i) ∈ outsOf live all c ρ ↔ ∃ p, (d, p) ∈ ρ ∧ isLive live d = true ∧ findR all d = some p ∧ i = c - 1 - p
  | [], d, i => by simp [outsOf]
  | (u, q) :: ρ, d, i => by
    simp only [outsOf]
    have ih := outsOf_mem (live := live) (all := all) (c := c) (ρ := ρ) (d := d) (i := i)
    split
    · rename_i h
      rw [Bool.and_eq_true] at h
      obtain ⟨h1, h2⟩ := h
      have hq := isTop_iff.1 h2
      constructor
      · intro hm
        rcases List.mem_cons.1 hm with e | hm
        · cases e; exact ⟨q, List.mem_cons_self, h1, hq, rfl⟩
        · obtain ⟨p, a, b⟩ := ih.1 hm; exact ⟨p, List.mem_cons_of_mem _ a, b⟩
      · rintro ⟨p, a, b, cc, e⟩
        rcases List.mem_cons.1 a with e2 | a
        · cases e2; rw [e]; exact List.mem_cons_self
        · exact List.mem_cons_of_mem _ (ih.2 ⟨p, a, b, cc, e⟩)
    · rename_i h
      rw [ih]
      constructor
      · rintro ⟨p, a, b⟩; exact ⟨p, List.mem_cons_of_mem _ a, b⟩
      · rintro ⟨p, a, b, cc, e⟩
        rcases List.mem_cons.1 a with e2 | a
        · cases e2
          exfalso; apply h
          rw [b, isTop_iff.2 cc]; rfl
        · exact ⟨p, a, b, cc, e⟩

theorem setOuts_ok {E : List Value} : ∀ {os : List (Tmp × Nat)} {T T' : PTree Value}, setOuts E os T = some T' → ∀ t, (∃ i, (t, i) ∈ os ∧ T'.get t = E[i]?) ∨ ((∀ i, (t, i) ∉ os) ∧ T'.get t = T.get t)
  | [], T, T', h, t => by simp [setOuts] at h; subst h; exact .inr ⟨fun i => by simp, rfl⟩
  | (d, j) :: os, T, T', h, t => by
    simp only [setOuts] at h
    split at h
    · rename_i v hv
      rcases setOuts_ok h t with ⟨i, h1, h2⟩ | ⟨h1, h2⟩
      · exact .inl ⟨i, List.mem_cons_of_mem _ h1, h2⟩
      · by_cases e : t = d
        · subst e
          exact .inl ⟨j, List.mem_cons_self, by rw [h2, PTree.get_set_same, hv]⟩
        · refine .inr ⟨fun i hm => ?_, by rw [h2, PTree.get_set_ne _ _ e]⟩
          rcases List.mem_cons.1 hm with e2 | hm
          · cases e2; exact e rfl
          · exact h1 i hm
    · cases h

theorem outs_sub {live : Option Nat} {ρ : List (Tmp × Nat)} {c : Nat} {E : List Value} {T Tf T' : PTree Value} (hI : InvL ρ c E T Tf) (hd : Dom live T) (h : setOuts E (outsOf live ρ c ρ) T = some T') : SubT T' Tf ∧ Dom live T' := by
  refine ⟨fun t v hv => ?_, fun t v hv => ?_⟩
  · rcases setOuts_ok h t with ⟨i, h1, h2⟩ | ⟨h1, h2⟩
    · obtain ⟨p, _, _, hf, e⟩ := outsOf_mem.1 h1
      obtain ⟨hp, hT⟩ := hI.pos t p hf
      rw [hT, atP, if_pos hp, ← e, ← h2]; exact hv
    · rw [h2] at hv
      cases hf : findR ρ t with
      | none => rw [hI.old t hf]; exact hv
      | some p => exact absurd (outsOf_mem.2 ⟨p, findR_mem hf, hd t v hv, hf, rfl⟩) (h1 _)
  · rcases setOuts_ok h t with ⟨i, h1, h2⟩ | ⟨h1, h2⟩
    · obtain ⟨p, _, hl, _⟩ := outsOf_mem.1 h1
      exact hl
    · rw [h2] at hv; exact hd t v hv

/-! ### Regions -/
inductive Plan where
  | fast (is : List LI) (outs : List (Tmp × Nat))
  | again (is : List LI) (outs : List (Tmp × Nat)) (c : Nat) (chks : List Chk)

def fastOf (n : Nat) (live : Option Nat) (all : Array Oper) (l : List Oper) : Option Plan :=
  match comp n all l [] 0 with
  | some (is, ρ, c) => some (.fast is (outsOf live ρ c ρ))
  | none => none

/-- What must be looked at again in a region. -/
def chksAt (V : Env) (ops : Array Oper) (l : List Oper) (c : Nat) : List Chk :=
  chksOf V (masks ops.toList []) ops c (((orderOf ops).zip l).zip (tr l [] 0) |>.map fun x => (x.1.1, x.1.2, x.2.1, x.2.2))

def againOf (V : Env) (n : Nat) (live : Option Nat) (ops : Array Oper) (l : List Oper) : Option Plan :=
  match comp n ops l [] 0 with
  | some (is, ρ, c) => some (.again is (outsOf live ρ c ρ) c (chksAt V ops l c))
  | none => none

/-- What is known of a region ahead of its run. -/
def planL (V : Env) (n : Nat) (live : Option Nat) (ops : Array Oper) (draw : Bool) : Option Plan :=
  match draw with
  | false => fastOf n live ops ops.toList
  | true => match planOf V ops with
    | some (false, l) => fastOf n live ops l
    | some (true, l) => againOf V n live ops l
    | none => none

def regionL (V : Env) (call : CallFn) (n : Nat) (live : Option Nat) (ops : Array Oper) (draw : Bool) (T : PTree Value) (H : AH) : Option (PTree Value × AH) :=
  match planL V n live ops draw with
  | some (.fast is outs) => match runLI V call is [] T H with
    | some (E, H') => (setOuts E outs T).map (·, H')
    | none => none
  | some (.again is outs c chks) => match heapsLI V call is [] T H with
    | some (E, H', Hs) => if chks.all (chkOk V T E c Hs) then (setOuts E outs T).map (·, H') else none
    | none => none
  | none => none

theorem InvL.start (T : PTree Value) : InvL [] 0 [] T T := ⟨rfl, Nat.zero_le _, fun t p h => (nomatch h), fun _ _ => rfl⟩

theorem fast_ok {live : Option Nat} {all : Array Oper} {l : List Oper} {is : List LI} {outs : List (Tmp × Nat)} (hp : fastOf n live all l = some (.fast is outs)) {E : List Value} {T T' : PTree Value} {H H' : AH} (hd : Dom live T) (hr : runLI V call is [] T H = some (E, H')) (ho : setOuts E outs T = some T') :
    ∃ Tf, evOps V call n all l T H = some (Tf, H') ∧ SubT T' Tf ∧ Dom live T' := by
  unfold fastOf at hp
  split at hp
  · rename_i is' ρ c hc
    simp only [Option.some.injEq, Plan.fast.injEq] at hp
    obtain ⟨rfl, rfl⟩ := hp
    obtain ⟨Tf, h1, h2⟩ := comp_ok hc (InvL.start T) hr
    obtain ⟨h3, h4⟩ := outs_sub h2 hd ho
    exact ⟨Tf, h1, h3, h4⟩
  · cases hp

theorem planOf_ord {ops : Array Oper} {b : Bool} {l : List Oper} (hp : planOf V ops = some (b, l)) : Ord ops (orderOf ops) ∧ (∀ o ∈ l, noAlloc V o.op = true) ∧ (orderOf ops).map (ops[·]?) = l.map some := by
  unfold planOf at hp
  simp only at hp
  split at hp
  · rename_i hok
    split at hp
    · rename_i l' hl
      split at hp
      · rename_i hall
        simp only [Option.some.injEq, Prod.mk.injEq] at hp
        obtain ⟨_, rfl⟩ := hp
        exact ⟨ordFast_ord hok, fun o ho => List.all_eq_true.1 hall o ho, opersOf_ok hl⟩
      · cases hp
    · cases hp
  · cases hp

theorem planOf_fast {ops : Array Oper} {l : List Oper} (hp : planOf V ops = some (false, l)) {T T' : PTree Value} {H H' : AH} (h : evOps V call n ops l T H = some (T', H')) : ∃ R, Ran V call n ops (orderOf ops) T H R T' H' :=
  drawX_ran (by unfold drawX; rw [hp]; exact h)

theorem regionL_runs (hE : TOk V.E V.P) (hF : FOk V.F V.P) (hm : V.P.follows .mixedOrders = true) (hc_ : CallOk V call) {live : Option Nat} {id : Nat} {ops : Array Oper} {draw : Bool} {T T' : PTree Value} {H H' : AH} (hd : Dom live T) (h : regionL V call n live ops draw T H = some (T', H')) :
    Runs V n ro (.region id ops draw) T H .normal T' H' ∧ Dom live T' := by
  unfold regionL at h
  split at h
  · rename_i is outs hp
    split at h
    · rename_i E H1 hr
      obtain ⟨T1, ho, he⟩ := map_some h
      simp only [Prod.mk.injEq] at he
      obtain ⟨rfl, rfl⟩ := he
      cases draw with
      | false =>
        obtain ⟨Tf, h1, h2, h3⟩ := fast_ok (all := ops) hp hd hr ho
        exact ⟨(Runs.region hE hF hc_ h1).weaken h2, h3⟩
      | true =>
        simp only [planL] at hp
        split at hp
        · rename_i l hpl
          obtain ⟨Tf, h1, h2, h3⟩ := fast_ok (all := ops) hp hd hr ho
          obtain ⟨R, hR⟩ := planOf_fast hpl h1
          exact ⟨(Runs.draw hE hF hm hc_ hR).weaken h2, h3⟩
        · simp only [againOf] at hp
          split at hp <;> cases hp
        · cases hp
    · cases h
  · rename_i is outs c chks hp
    split at h
    · rename_i E H1 Hs hr
      split at h
      · rename_i hk
        obtain ⟨T1, ho, he⟩ := map_some h
        simp only [Prod.mk.injEq] at he
        obtain ⟨rfl, rfl⟩ := he
        cases draw with
        | false =>
          simp only [planL, fastOf] at hp
          split at hp <;> cases hp
        | true =>
          simp only [planL] at hp
          split at hp
          · simp only [fastOf] at hp
            split at hp <;> cases hp
          · rename_i l hpl
            unfold againOf at hp
            split at hp
            · rename_i is' ρ c' hc
              simp only [Option.some.injEq, Plan.again.injEq] at hp
              obtain ⟨rfl, rfl, rfl, rfl⟩ := hp
              obtain ⟨hord, hna, hl⟩ := planOf_ord hpl
              obtain ⟨R, Tf, hran, hI⟩ := again_ran hord hna hl hc hr hk
              obtain ⟨h3, h4⟩ := outs_sub hI hd ho
              exact ⟨(Runs.draw hE hF hm hc_ hran).weaken h3, h4⟩
            · cases hp
          · cases hp
      · cases h
    · cases h
  · cases h
end Go.Ev
