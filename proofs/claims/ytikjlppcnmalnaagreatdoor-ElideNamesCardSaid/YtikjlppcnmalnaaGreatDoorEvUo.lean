/-
  EV, universal use: the run of a function with calls whose answers are known otherwise.
-/
import Derived.Test.YtikjlppcnmalnaaGreatDoorEvLd
import Derived.Test.YtikjlppcnmalnaaGreatDoorEvZ
namespace Go.Ev
open Go.RowKit

/-- What is known of calls otherwise. -/
abbrev Orc := FuncId → List Value → AH → Option (Value × AH)
def OrcOk (V : Env) (O : Orc) : Prop := ∀ f vs H v H', O f vs H = some (v, H') → Sound V (.fn f) vs H v H'

variable {V : Env}

def fO (V : Env) (O : Orc) (lf : Nat) : Nat → CallFn
  | 0, _, _, _ => none
  | d + 1, .fn f, vs, H => match O f vs H with
    | some x => some x
    | none => match V.F f with
      | some fn => match fn.body with
        | some c => if vs.length ≤ fn.ntmps ∧ (List.range vs.length).all (isLive (some (liveOf fn c))) = true then
            match codeL V (fO V O lf d) (some (liveOf fn c)) none fn.ntmps lf c (initT vs 0 .leaf) H with
            | some (.normal, T, H') | some (.ret, T, H') => (aResults V T H' fn.results.toList).map fun vs => (resOf vs, H')
            | _ => none
          else none
        | none => none
      | none => none
  | d + 1, .yld b, vs, H => roundL V (fO V O lf d) lf b vs H

theorem fO_ok {O : Orc} (hO : OrcOk V O) (hE : TOk V.E V.P) (hF : FOk V.F V.P) (hm : V.P.follows .mixedOrders = true) (lf : Nat) : ∀ d, CallOk V (fO V O lf d)
  | 0 => ⟨fun f vs H v H' h => by simp [fO] at h, fun b vs H v H' h => by simp [fO] at h⟩
  | d + 1 => by
    have ih := fO_ok hO hE hF hm lf d
    refine CallOk.iff.2 fun t vs H v H' h => ?_
    cases t with
    | fn f =>
      simp only [fO] at h
      split at h
      · rename_i x hx
        cases h
        exact hO _ _ _ _ _ hx
      split at h
      · rename_i fn hfn
        split at h
        · rename_i c hb
          split at h
          · rename_i hlen
            have hdom : Dom (some (liveOf fn c)) (initT vs 0 .leaf) := fun t v hv => by
              rw [initT_get] at hv
              split at hv
              · rename_i ht
                have := hlen.2
                rw [List.all_eq_true] at this
                exact this t (List.mem_range.2 (by omega))
              · simp at hv
            have fin : ∀ (e : Ex) (T : PTree Value) (H1 : AH), (e = .normal ∨ e = .ret) → codeL V (fO V O lf d) (some (liveOf fn c)) none fn.ntmps lf c (initT vs 0 .leaf) H = some (e, T, H1) → (aResults V T H1 fn.results.toList).map (fun vs => (resOf vs, H1)) = some (v, H') → Sound V (.fn f) vs H v H' := fun e T H1 he hev hres => by
              obtain ⟨rs, hrs, hv⟩ := map_some hres
              simp only [Prod.mk.injEq] at hv
              obtain ⟨rfl, rfl⟩ := hv
              obtain ⟨hr, _⟩ := codeL_runs hE hF hm ih (some (liveOf fn c)) lf c hdom hev
              obtain ⟨v0, H0, hR, hS⟩ := Sound.fn (R := fun v0 H0 => v0 = resOf rs ∧ H0 = H1) hE hF hfn hb hlen.1 ⟨e, T, H1, hr, he, rs, hrs, rfl, rfl⟩
              obtain ⟨rfl, rfl⟩ := hR
              exact hS
            split at h
            · rename_i T H1 hev; exact fin .normal T H1 (.inl rfl) hev h
            · rename_i T H1 hev; exact fin .ret T H1 (.inr rfl) hev h
            · cases h
          · cases h
        · cases h
      · cases h
    | yld b =>
      simp only [fO] at h
      exact fun B0 ι w vs' l hG hR hL hb => roundL_ok hE hF hm ih lf h hG hR hL hb
end Go.Ev
