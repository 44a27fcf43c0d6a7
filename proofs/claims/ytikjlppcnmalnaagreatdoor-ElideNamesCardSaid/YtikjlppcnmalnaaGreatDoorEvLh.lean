/-
  EV, kernel, part Lh: regions in which something must be looked at again.
-/
import Derived.Test.YtikjlppcnmalnaaGreatDoorEvLb
namespace Go.Ev
open Go.RowKit

variable {V : Env} {call : CallFn} {n : Nat}

/-- As 'runLI', with the heaps ahead of each item, and the last. -/
def heapsLI (V : Env) (call : CallFn) : List LI → List Value → PTree Value → AH → Option (List Value × AH × List AH)
  | [], E, _, H => some (E, H, [H])
  | .get t :: is, E, T, H => match T.get t with
    | some v => (heapsLI V call is (v :: E) T H).map fun r => (r.1, r.2.1, H :: r.2.2)
    | none => none
  | .run o gd :: is, E, T, H => match wantL (gL V.nG E T) gd with
    | some true => match evOpG V call (gL V.nG E T) H o with
      | some (v, H') => (heapsLI V call is (v :: E) T H').map fun r => (r.1, r.2.1, H :: r.2.2)
      | none => none
    | some false => (heapsLI V call is (undef :: E) T H).map fun r => (r.1, r.2.1, H :: r.2.2)
    | none => none

/-- Where the temporaries lie ahead of each operation. -/
def tr : List Oper → List (Tmp × Nat) → Nat → List (List (Tmp × Nat) × Nat)
  | [], _, _ => []
  | o :: os, ρ, c => (ρ, c) :: (match freeMove ρ o with
    | some (d, p) => tr os ((d, p) :: ρ) c
    | none => tr os (addR o.dst c ρ) (c + 1))

structure TrOk (T0 : PTree Value) (c c' : Nat) (E' : List Value) (Hs : List AH) (r : Rec) (o : Oper) (ρk : List (Tmp × Nat)) (ck : Nat) : Prop where
  lo : c ≤ ck
  hi : ck ≤ c'
  env : ∃ E3 Ek, E' = E3 ++ Ek ∧ InvL ρk ck Ek T0 r.T
  heap : Hs[ck - c]? = some r.H
  val : freeMove ρk o = none → atP E' c' ck = some r.v

theorem atP_app {E E3 : List Value} {c c' p : Nat} (hl : E.length = c) (hl' : (E3 ++ E).length = c') (hp : p < c) : atP (E3 ++ E) c' p = atP E c p := by
  unfold atP
  simp only [List.length_append] at hl'
  rw [if_pos (by omega), if_pos hp, List.getElem?_append_right (by omega)]
  congr 1
  omega

theorem heapsLI_zero {T0 : PTree Value} {is : List LI} {E : List Value} {H : AH} {E' : List Value} {H' : AH} {Hs : List AH} (h : heapsLI V call is E T0 H = some (E', H', Hs)) : Hs[0]? = some H := by
  have fin : ∀ {x : Option (List Value × AH × List AH)}, (x.map fun r => (r.1, r.2.1, H :: r.2.2)) = some (E', H', Hs) → Hs[0]? = some H := fun {x} hx => by
    obtain ⟨_, _, h2⟩ := map_some hx
    simp only [Prod.mk.injEq] at h2
    rw [← h2.2.2]; rfl
  cases is with
  | nil => simp only [heapsLI, Option.some.injEq, Prod.mk.injEq] at h; rw [← h.2.2]; rfl
  | cons i is =>
    cases i with
    | get t =>
      simp only [heapsLI] at h
      split at h
      · exact fin h
      · cases h
    | run o g =>
      simp only [heapsLI] at h
      split at h
      · split at h
        · exact fin h
        · cases h
      · exact fin h
      · cases h

theorem tr_ok {ops : Array Oper} : ∀ {l : List Oper} {σ : List Nat} {ρ : List (Tmp × Nat)} {c : Nat} {is : List LI} {ρ' : List (Tmp × Nat)} {c' : Nat}, (∀ o ∈ l, noAlloc V o.op = true) → σ.map (ops[·]?) = l.map some → comp n ops l ρ c = some (is, ρ', c') →
    ∀ {E E' : List Value} {T0 T : PTree Value} {H H' : AH} {Hs : List AH}, InvL ρ c E T0 T → heapsLI V call is E T0 H = some (E', H', Hs) →
    ∃ R Tf, runSeq V call n ops σ T H = some (R, Tf, H') ∧ InvL ρ' c' E' T0 Tf ∧ (∃ E2, E' = E2 ++ E) ∧ c ≤ c' ∧ Hs[c' - c]? = some H' ∧
      ∀ (k : Nat) (r : Rec) (o : Oper), R[k]? = some r → ops[r.i]? = some o → ∃ ρk ck, (tr l ρ c)[k]? = some (ρk, ck) ∧ TrOk T0 c c' E' Hs r o ρk ck
  | [], σ, ρ, c, is, ρ', c', _, hl, hc, E, E', T0, T, H, H', Hs, hI, hr => by
    simp only [comp, Option.some.injEq, Prod.mk.injEq] at hc
    obtain ⟨rfl, rfl, rfl⟩ := hc
    simp only [heapsLI, Option.some.injEq, Prod.mk.injEq] at hr
    obtain ⟨rfl, rfl, rfl⟩ := hr
    cases σ with
    | nil => exact ⟨[], T, rfl, hI, ⟨[], rfl⟩, Nat.le_refl _, by simp, fun k r o h => by simp at h⟩
    | cons i σ => simp at hl
  | o :: os, [], ρ, c, is, ρ', c', _, hl, hc, E, E', T0, T, H, H', Hs, hI, hr => by simp at hl
  | o :: os, i :: σ, ρ, c, is, ρ', c', hna, hl, hc, E, E', T0, T, H, H', Hs, hI, hr => by
    have hna' := fun o' ho' => hna o' (List.mem_cons_of_mem _ ho')
    simp only [List.map_cons, List.cons.injEq] at hl
    obtain ⟨ho, hl⟩ := hl
    simp only [comp] at hc
    split at hc
    case isFalse => cases hc
    rename_i hd
    unfold dOk at hd
    rw [Bool.and_eq_true] at hd
    have hcf : c < far := Nat.blt_eq.mp hd.1
    simp only [runSeq, ho, stepOp_ev (hna o (by simp))]
    -- the rest, once the operation has been done
    split at hc
    · rename_i d p hf
      obtain ⟨t, hop, hg, hdst, ht⟩ := freeMove_ok hf
      obtain ⟨hp, hT⟩ := hI.pos t p ht
      obtain ⟨v, hv⟩ := atP_some hI.len hp
      have hs : aSeen ops T o = true := by unfold aSeen; rw [hg]
      have hw : aWanted ops T o = true := by unfold aWanted; rw [hg]
      have hev : evOp V call T H o.op = some (v, H) := by
        rcases hop with hop | hop <;> rw [hop] <;> simp only [evOp, aop, oval, hT, hv, Option.map_some]
      rw [if_pos hs, if_pos hw, hev]
      simp only
      have hdn : d < n := by have := hd.2; rw [hdst] at this; exact Nat.blt_eq.mp this
      rw [hdst]
      simp only [put, if_pos hdn]
      have hI' : InvL ((d, p) :: ρ) c E T0 (T.set d v) := ⟨hI.len, hI.lim, fun u q hu => by
        rw [findR_cons] at hu
        split at hu
        · rename_i e; subst e; cases hu
          exact ⟨hp, by rw [PTree.get_set_same, hv]⟩
        · rename_i e
          rw [PTree.get_set_ne _ _ (Ne.symm e)]; exact hI.pos u q hu, fun u hu => by
        rw [findR_cons] at hu
        split at hu
        · cases hu
        · rename_i e
          rw [PTree.get_set_ne _ _ (Ne.symm e)]; exact hI.old u hu⟩
      obtain ⟨R, Tf, k1, k2, k3, k4, k5, k6⟩ := tr_ok hna' hl hc hI' hr
      rw [k1]
      refine ⟨_, Tf, rfl, k2, k3, k4, k5, fun k r o' hk ho' => ?_⟩
      simp only [tr, hf]
      cases k with
      | zero =>
        simp at hk
        subst hk
        simp only at ho'
        rw [ho] at ho'; cases ho'
        obtain ⟨E2, e2⟩ := k3
        refine ⟨ρ, c, by simp, Nat.le_refl _, k4, ⟨E2, E, e2, hI⟩, ?_, fun hn => by rw [hf] at hn; cases hn⟩
        rw [Nat.sub_self]
        exact heapsLI_zero hr
      | succ k => simpa using k6 k r o' (by simpa using hk) ho'
    · split at hc
      · cases hc
      · rename_i hfm _ g hgd
        split at hc
        · rename_i is' r hrec
          obtain ⟨ρ2, c2⟩ := r
          simp only [Option.some.injEq, Prod.mk.injEq] at hc
          obtain ⟨rfl, rfl, rfl⟩ := hc
          -- behind an item that yields v
          have done : ∀ {v : Value} {H1 : AH} {Hs' : List AH}, heapsLI V call is' (v :: E) T0 H1 = some (E', H', Hs') → Hs = H :: Hs' → ∀ {T1 : PTree Value}, put n T o.dst v = some T1 →
              ∃ R Tf, (match (match runSeq V call n ops σ T1 H1 with
                | some (rs, Tf, Hf) => some (⟨i, T, H, v, H1⟩ :: rs, Tf, Hf)
                | none => none : Option (List Rec × PTree Value × AH)) with
                | r => r) = some (R, Tf, H') ∧ InvL ρ2 c2 E' T0 Tf ∧ (∃ E2, E' = E2 ++ E) ∧ c ≤ c2 ∧ Hs[c2 - c]? = some H' ∧
                ∀ (k : Nat) (r : Rec) (o' : Oper), R[k]? = some r → ops[r.i]? = some o' → ∃ ρk ck, (tr (o :: os) ρ c)[k]? = some (ρk, ck) ∧ TrOk T0 c c2 E' Hs r o' ρk ck := fun {v H1 Hs'} hr' hHs {T1} hT1 => by
            obtain ⟨R, Tf, k1, k2, ⟨E2, k3⟩, k4, k5, k6⟩ := tr_ok hna' hl hrec (hI.push hcf hT1) hr'
            rw [k1]
            refine ⟨_, Tf, rfl, k2, ⟨E2 ++ [v], by rw [k3]; simp⟩, by omega, ?_, fun k r o' hk ho' => ?_⟩
            · rw [hHs, show c2 - c = (c2 - (c + 1)) + 1 by omega]; simpa using k5
            · simp only [tr, hfm]
              cases k with
              | zero =>
                simp at hk
                subst hk
                simp only at ho'
                rw [ho] at ho'; cases ho'
                refine ⟨ρ, c, by simp, Nat.le_refl _, by omega, ⟨E2 ++ [v], E, by rw [k3]; simp, hI⟩, by rw [hHs, Nat.sub_self]; rfl, fun _ => ?_⟩
                have h1 := k2.len
                rw [k3] at h1 ⊢
                rw [atP_app (c := c + 1) (by simp [hI.len]) h1 (by omega), atP_cons hI.len, if_pos rfl]
              | succ k =>
                obtain ⟨ρk, ck, m1, m2⟩ := k6 k r o' (by simpa using hk) ho'
                refine ⟨ρk, ck, by simpa using m1, by have := m2.lo; omega, m2.hi, m2.env, ?_, m2.val⟩
                have h1 := m2.lo
                rw [hHs, show ck - c = (ck - (c + 1)) + 1 by omega]
                simpa using m2.heap
          -- what is done
          have run : ∀ gd, guardOf ops ρ c o.guard = some gd → heapsLI V call (.run (ren (resv ρ c) o.op) gd :: is') E T0 H = some (E', H', Hs) →
              ∃ R Tf, (match (if aSeen ops T o = true then (if aWanted ops T o = true then evOp V call T H o.op else some (undef, H)) else none) with
                | some (v, H1) => match put n T o.dst v with
                  | some T1 => match runSeq V call n ops σ T1 H1 with
                    | some (rs, Tf, Hf) => some (⟨i, T, H, v, H1⟩ :: rs, Tf, Hf)
                    | none => none
                  | none => none
                | none => none : Option (List Rec × PTree Value × AH)) = some (R, Tf, H') ∧ InvL ρ2 c2 E' T0 Tf ∧ (∃ E2, E' = E2 ++ E) ∧ c ≤ c2 ∧ Hs[c2 - c]? = some H' ∧
                ∀ (k : Nat) (r : Rec) (o' : Oper), R[k]? = some r → ops[r.i]? = some o' → ∃ ρk ck, (tr (o :: os) ρ c)[k]? = some (ρk, ck) ∧ TrOk T0 c c2 E' Hs r o' ρk ck := fun gd hgd hr => by
            simp only [heapsLI] at hr
            split at hr
            · rename_i hw
              obtain ⟨w1, w2⟩ := want_ok hI hgd hw
              rw [if_pos w1, if_pos w2]
              split at hr
              · rename_i v H1 hev
                obtain ⟨⟨E1, H2, Hs'⟩, h1, h2⟩ := map_some hr
                simp only [Prod.mk.injEq] at h2
                obtain ⟨rfl, rfl, rfl⟩ := h2
                have h3 := evOpG_mono (hI.fetch V.nG) (evOpG_ren (resv_tame ρ c) hev)
                rw [← evOp_G] at h3
                rw [h3]
                obtain ⟨T1, hT1⟩ := put_lt (T := T) hd.2 v
                simp only [hT1]
                exact done h1 rfl hT1
              · cases hr
            · rename_i hw
              obtain ⟨w1, w2⟩ := want_ok hI hgd hw
              rw [if_pos w1, if_neg (by rw [w2]; simp)]
              obtain ⟨⟨E1, H2, Hs'⟩, h1, h2⟩ := map_some hr
              simp only [Prod.mk.injEq] at h2
              obtain ⟨rfl, rfl, rfl⟩ := h2
              obtain ⟨T1, hT1⟩ := put_lt (T := T) hd.2 undef
              simp only [hT1]
              exact done h1 rfl hT1
            · cases hr
          split at hr
          · rename_i t hop
            split at hr
            · rename_i hn
              simp only [heapsLI] at hr
              split at hr
              · rename_i v hv
                have hg : o.guard = none := by
                  unfold guardOf at hgd
                  split at hgd
                  · assumption
                  · split at hgd <;> cases hgd
                have hs : aSeen ops T o = true := by unfold aSeen; rw [hg]
                have hw : aWanted ops T o = true := by unfold aWanted; rw [hg]
                have hfn : findR ρ t = none := by simpa using hn
                have hev : evOp V call T H o.op = some (v, H) := by
                  rw [hop]; simp only [evOp, aop, oval, hI.old t hfn, hv, Option.map_some]
                rw [if_pos hs, if_pos hw, hev]
                obtain ⟨⟨E1, H2, Hs'⟩, h1, h2⟩ := map_some hr
                simp only [Prod.mk.injEq] at h2
                obtain ⟨rfl, rfl, rfl⟩ := h2
                obtain ⟨T1, hT1⟩ := put_lt (T := T) hd.2 v
                simp only [hT1]
                exact done h1 rfl hT1
              · cases hr
            · exact run _ hgd hr
          · exact run _ hgd hr
        · cases hc
end Go.Ev
