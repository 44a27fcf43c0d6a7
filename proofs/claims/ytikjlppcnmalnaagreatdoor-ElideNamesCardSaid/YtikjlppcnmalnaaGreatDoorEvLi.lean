/-
  EV, kernel, part Li: what is looked at again, and what that shows.
-/
import Derived.Test.YtikjlppcnmalnaaGreatDoorEvLh
namespace Go.Ev
open Go.RowKit

variable {V : Env} {call : CallFn} {n : Nat}

theorem aopG_call {g : Ft} {H : AH} {o : Op} {r : Value × AH} (h : aopG V g H o = some r) (call : CallFn) : evOpG V call g H o = some r := by
  cases o with
  | call c =>
    obtain ⟨cal, args, ts⟩ := c
    cases cal with
    | builtin b => exact h
    | _ => cases h
  | _ => exact h


structure Chk where
  op : Op
  guard : Option (Operand × Bool)
  p : Nat
  q : Nat

/-- The places at which it must be looked again: behind a first big operation, ahead of each next one and at the end, until one that waits. -/
def win (ms : List Nat) (i : Nat) (cf : Nat) : Bool → List (Nat × Oper × Nat) → List Nat
  | seen, [] => match seen with
    | true => [cf]
    | false => []
  | seen, (j, o, c) :: os => match cls o.op with
    | .big => (match seen with
      | true => [c]
      | false => []) ++ (match anc ms i j with
      | true => []
      | false => win ms i cf true os)
    | _ => win ms i cf seen os

def chksOf (V : Env) (ms : List Nat) (all : Array Oper) (cf : Nat) : List (Nat × Oper × List (Tmp × Nat) × Nat) → List Chk
  | [] => []
  | (i, o, ρ, c) :: os => (match cls o.op, heapLook V o.op with
    | .look, true => (win ms i cf false (os.map fun x => (x.1, x.2.1, x.2.2.2))).map fun q => ⟨ren (resv ρ cf) o.op, match guardOf all ρ cf o.guard with
      | some g => g
      | none => none, c, q⟩
    | _, _ => []) ++ chksOf V ms all cf os

def chkOk (V : Env) (T : PTree Value) (E : List Value) (c : Nat) (Hs : List AH) (x : Chk) : Bool :=
  match wantL (gL V.nG E T) x.guard with
  | some false => true
  | some true => match Hs[x.q]?, atP E c x.p with
    | some H, some v => match aopG V (gL V.nG E T) H x.op with
      | some (u, _) => sameV u v
      | none => false
    | _, _ => false
  | none => false

theorem win_mem {ms : List Nat} {i cf : Nat} : ∀ {os : List (Nat × Oper × Nat)} {seen : Bool} {m : Nat}, (seen = true ∨ ∃ m0 x, m0 < m ∧ os[m0]? = some x ∧ cls x.2.1.op = .big) → (∀ (m' : Nat) (x : Nat × Oper × Nat), m' < m → os[m']? = some x → cls x.2.1.op = .big → anc ms i x.1 = false) →
    (∀ x : Nat × Oper × Nat, os[m]? = some x → cls x.2.1.op = .big → x.2.2 ∈ win ms i cf seen os) ∧ (m = os.length → cf ∈ win ms i cf seen os)
  | [], seen, m, hs, hno => by
    refine ⟨fun x h => by simp at h, fun _ => ?_⟩
    rcases hs with rfl | ⟨m0, x, _, h, _⟩
    · simp [win]
    · simp at h
  | (j, o, c) :: os, seen, m, hs, hno => by
    cases m with
    | zero =>
      have hseen : seen = true := by
        rcases hs with h | ⟨m0, _, h, _⟩
        · exact h
        · omega
      subst hseen
      refine ⟨fun x hx hb => ?_, fun h => by simp at h⟩
      simp at hx; subst hx
      simp only at hb
      simp only [win, hb]
      simp
    | succ m =>
      have hno' : ∀ (m' : Nat) (x : Nat × Oper × Nat), m' < m → os[m']? = some x → cls x.2.1.op = .big → anc ms i x.1 = false := fun m' x hm hx => hno (m' + 1) x (by omega) (by simpa using hx)
      by_cases hb : cls o.op = .big
      · have ha : anc ms i j = false := hno 0 (j, o, c) (by omega) (by simp) hb
        obtain ⟨h1, h2⟩ := win_mem (cf := cf) (os := os) (seen := true) (m := m) (.inl rfl) hno'
        simp only [win, hb, ha]
        exact ⟨fun x hx hbx => List.mem_append_right _ (h1 x (by simpa using hx) hbx), fun e => List.mem_append_right _ (h2 (by simpa using e))⟩
      · have hs' : seen = true ∨ ∃ m0 x, m0 < m ∧ os[m0]? = some x ∧ cls x.2.1.op = .big := by
          rcases hs with h | ⟨m0, x, h1, h2, h3⟩
          · exact .inl h
          · cases m0 with
            | zero => simp at h2; subst h2; exact absurd h3 hb
            | succ m0 => exact .inr ⟨m0, x, by omega, by simpa using h2, h3⟩
        obtain ⟨h1, h2⟩ := win_mem (cf := cf) (os := os) (seen := seen) (m := m) hs' hno'
        have hw : win ms i cf seen ((j, o, c) :: os) = win ms i cf seen os := by
          simp only [win]
          first | done | (split; (rename_i e; exact absurd e hb); rfl)
        rw [hw]
        exact ⟨fun x hx hbx => h1 x (by simpa using hx) hbx, fun e => h2 (by simpa using e)⟩

theorem chksOf_mem {ms : List Nat} {all : Array Oper} {cf : Nat} : ∀ {os : List (Nat × Oper × List (Tmp × Nat) × Nat)} {k i : Nat} {o : Oper} {ρ : List (Tmp × Nat)} {c q : Nat}, os[k]? = some (i, o, ρ, c) → cls o.op = .look → heapLook V o.op = true →
    q ∈ win ms i cf false ((os.drop (k + 1)).map fun x => (x.1, x.2.1, x.2.2.2)) → (⟨ren (resv ρ cf) o.op, match guardOf all ρ cf o.guard with
      | some g => g
      | none => none, c, q⟩ : Chk) ∈ chksOf V ms all cf os
  | [], k, i, o, ρ, c, q, h, _, _, _ => by simp at h
  | (i', o', ρ', c') :: os, 0, i, o, ρ, c, q, h, hc, hh, hq => by
    simp at h
    obtain ⟨rfl, rfl, rfl, rfl⟩ := h
    simp only [chksOf, hc, hh]
    refine List.mem_append_left _ ?_
    rw [List.mem_map]
    exact ⟨q, by simpa using hq, rfl⟩
  | x :: os, k + 1, i, o, ρ, c, q, h, hc, hh, hq => by
    obtain ⟨i', o', ρ', c'⟩ := x
    simp only [chksOf]
    exact List.mem_append_right _ (chksOf_mem (by simpa using h) hc hh (by simpa using hq))

/-- Where no big operation lies between, what looks finds the same. -/
theorem looks_small {ops : Array Oper} {R : List Rec} {Tf : PTree Value} {Hf : AH} (hstep : ∀ (k : Nat) (r : Rec), R[k]? = some r → ∃ o, ops[r.i]? = some o ∧ stepOp V call ops r.T r.H o = some (r.v, r.H') ∧ put n r.T o.dst r.v = some (Tat R Tf (k + 1)) ∧ Hat R Hf (k + 1) = r.H')
    {k nb : Nat} {r : Rec} {o : Oper} (hr : R[k]? = some r) (hc : cls o.op = .look) (hn1 : noAlloc V o.op = true) (hev : aop V r.T r.H o.op = some (r.v, r.H')) (hlt : k < nb) (hle : nb ≤ R.length) (hnone : ∀ (m : Nat) (q : Rec), k < m → m < nb → R[m]? = some q → bigAt ops q = false) :
    aop V r.T (Hat R Hf nb) o.op = some (r.v, Hat R Hf nb) := by
  have hgrow : ∀ d, k + 1 + d ≤ nb → Grows r.H (Hat R Hf (k + 1 + d)) := fun d => by
    induction d with
    | zero =>
      intro _
      obtain ⟨o2, ho2, hs2, _, hH⟩ := hstep k r hr
      rw [Nat.add_zero, hH, look_same hc hn1 hev]
      exact Grows.refl _
    | succ d ih =>
      intro hd
      have hlt2 : k + 1 + d < R.length := by omega
      have hr2 : R[k + 1 + d]? = some R[k + 1 + d] := by simp [hlt2]
      obtain ⟨o2, ho2, hs2, _, hH⟩ := hstep (k + 1 + d) R[k + 1 + d] hr2
      have hnb := hnone (k + 1 + d) _ (by omega) (by omega) hr2
      have hc2 : cls o2.op ≠ .big := fun e => by rw [(bigAt_iff ho2).2 e] at hnb; cases hnb
      have hHk : (R[k + 1 + d]).H = Hat R Hf (k + 1 + d) := by simp [Hat, hlt2]
      have hg := ih (by omega)
      rw [← hHk] at hg
      rw [show k + 1 + (d + 1) = k + 1 + d + 1 by omega, hH]
      rcases small_step hc2 hs2 with e | ⟨mk, ob, _, _, _, _, e⟩
      · rw [e]; exact hg
      · rw [e]
        refine ⟨by have := hg.next; simp; omega, fun b hb => ?_, fun g => by simpa using hg.ver g⟩
        rw [AH.obj_alloc, if_neg (by have := hg.next; omega)]
        exact hg.obj b hb
  have := hgrow (nb - (k + 1)) (by omega)
  rw [show k + 1 + (nb - (k + 1)) = nb by omega] at this
  exact look_grows hc hn1 hev this

theorem heapLook_free {o : Oper} {ρ : List (Tmp × Nat)} (hc : cls o.op = .look) (hh : heapLook V o.op = true) : freeMove ρ o = none := by
  unfold freeMove
  split
  · rename_i ho _ _; rw [ho] at hh; simp [heapLook] at hh
  · rename_i ho _ _; rw [ho] at hh; simp [heapLook] at hh
  · rfl

theorem again_ran {ops : Array Oper} {σ : List Nat} {l : List Oper} {is : List LI} {ρ : List (Tmp × Nat)} {c : Nat} (hord : Ord ops σ) (hna : ∀ o ∈ l, noAlloc V o.op = true) (hl : σ.map (ops[·]?) = l.map some) (hc : comp n ops l [] 0 = some (is, ρ, c)) {E : List Value} {T : PTree Value} {H H' : AH} {Hs : List AH}
    (hr : heapsLI V call is [] T H = some (E, H', Hs)) (hk : (chksOf V (masks ops.toList []) ops c ((σ.zip l).zip (tr l [] 0) |>.map fun x => (x.1.1, x.1.2, x.2.1, x.2.2))).all (chkOk V T E c Hs) = true) :
    ∃ R Tf, Ran V call n ops σ T H R Tf H' ∧ InvL ρ c E T Tf := by
  obtain ⟨R, Tf, hrun, hI, _, _, hlast, htr⟩ := tr_ok hna hl hc ⟨rfl, Nat.zero_le _, fun t p h => (nomatch h), fun _ _ => rfl⟩ hr
  have hids := runSeq_len hrun
  have hstep := runSeq_step hrun
  have hzero := runSeq_zero hrun
  refine ⟨R, Tf, ⟨hord, hids, hzero, hstep, fun k nb r o hrk ho hcl hw hlt hle hbig hno => ?_⟩, hI⟩
  obtain ⟨o', ho', hs, _, _⟩ := hstep k r hrk
  rw [ho] at ho'; cases ho'
  have hev : aop V r.T r.H o.op = some (r.v, r.H') := by
    have hsn := stepOp_seen hs
    unfold stepOp at hs
    rw [if_pos hsn, if_pos hw, hcl] at hs
    simp only at hs
    split at hs
    · exact hs
    · cases hs
  have hn1 : noAlloc V o.op = true := by
    have hsn := stepOp_seen hs
    unfold stepOp at hs
    rw [if_pos hsn, if_pos hw, hcl] at hs
    simp only at hs
    split at hs
    · assumption
    · cases hs
  cases hh : heapLook V o.op with
  | false => exact look_any hcl hh hev _
  | true =>
    by_cases hx : ∃ m q, k < m ∧ m < nb ∧ R[m]? = some q ∧ bigAt ops q = true
    · obtain ⟨m, q, hkm, hmn, hq, hbq⟩ := hx
      -- the rows
      have hpos : ∀ (k : Nat) (r : Rec) (o : Oper), R[k]? = some r → ops[r.i]? = some o → ∃ ρk ck, (((σ.zip l).zip (tr l [] 0)).map fun x => (x.1.1, x.1.2, x.2.1, x.2.2))[k]? = some (r.i, o, ρk, ck) ∧ TrOk T 0 c E Hs r o ρk ck := fun k r o hr ho => by
        obtain ⟨ρk, ck, h1, h2⟩ := htr k r o hr ho
        refine ⟨ρk, ck, ?_, h2⟩
        have e1 : σ[k]? = some r.i := by rw [← hids]; simp [hr]
        have e2 := congrArg (·[k]?) hl
        simp only [List.getElem?_map, e1, Option.map_some, ho] at e2
        have e3 : l[k]? = some o := by
          cases hlk : l[k]? with
          | none => rw [hlk] at e2; cases e2
          | some p => rw [hlk] at e2; simp at e2; rw [e2]
        have e4 : (σ.zip l)[k]? = some (r.i, o) := List.getElem?_zip_eq_some.2 ⟨e1, e3⟩
        have e5 : ((σ.zip l).zip (tr l [] 0))[k]? = some ((r.i, o), ρk, ck) := List.getElem?_zip_eq_some.2 ⟨e4, h1⟩
        rw [List.getElem?_map, e5]; rfl
      obtain ⟨ρk, ck, p1, p2⟩ := hpos k r o hrk ho
      generalize hrows : (((σ.zip l).zip (tr l [] 0)).map fun x => (x.1.1, x.1.2, x.2.1, x.2.2)) = rows at hpos p1 hk
      have hlen : rows.length = R.length := by
        rw [← hrows]
        have a1 : σ.length = R.length := by rw [← hids]; simp
        have a2 : l.length = σ.length := by have := congrArg List.length hl; simpa using this.symm
        have a3 : ∀ (l : List Oper) (ρ : List (Tmp × Nat)) (c : Nat), (tr l ρ c).length = l.length := fun l => by
          induction l with
          | nil => intro ρ c; rfl
          | cons o l ih => intro ρ c; simp only [tr]; split <;> simp [ih]
        simp [a3]; omega
      have hbl : ∀ (m : Nat) (q : Rec) (oq : Oper), R[m]? = some q → ops[q.i]? = some oq → bigAt ops q = true → cls oq.op = .big := fun m q oq _ hoq hb => (bigAt_iff hoq).1 hb
      -- the place at which it is looked at again
      have hwin := win_mem (ms := masks ops.toList []) (i := r.i) (cf := c) (os := (rows.drop (k + 1)).map fun x => (x.1, x.2.1, x.2.2.2)) (seen := false) (m := nb - (k + 1))
        (.inr (by
          obtain ⟨oq, hoq, _⟩ := hstep m q hq
          obtain ⟨ρm, cm, m1, _⟩ := hpos m q oq hq hoq
          refine ⟨m - (k + 1), (q.i, oq, cm), by omega, ?_, hbl m q oq hq hoq hbq⟩
          rw [List.getElem?_map, List.getElem?_drop, show k + 1 + (m - (k + 1)) = m by omega, m1]; rfl))
        (fun m' x hm' hx' hbx => by
          rw [List.getElem?_map, List.getElem?_drop] at hx'
          have hlt2 : k + 1 + m' < R.length := by omega
          have hq' : R[k + 1 + m']? = some R[k + 1 + m'] := by simp [hlt2]
          obtain ⟨oq', hoq', _⟩ := hstep _ _ hq'
          obtain ⟨ρm, cm, m1, _⟩ := hpos _ _ _ hq' hoq'
          rw [m1] at hx'
          simp only [Option.map_some, Option.some.injEq] at hx'
          subst hx'
          exact hno (k + 1 + m') _ (by omega) (by omega) hq' ((bigAt_iff hoq').2 hbx))
      have hq2 : ∃ q2, q2 ∈ win (masks ops.toList []) r.i c false ((rows.drop (k + 1)).map fun x => (x.1, x.2.1, x.2.2.2)) ∧ Hs[q2]? = some (Hat R H' nb) := by
        rcases Nat.eq_or_lt_of_le hle with e | hlt3
        · refine ⟨c, hwin.2 (by rw [List.length_map, List.length_drop, hlen, e]), ?_⟩
          have : Hat R H' nb = H' := by rw [e]; simp [Hat]
          rw [this]; simpa using hlast
        · have hqn : R[nb]? = some R[nb] := by simp [hlt3]
          obtain ⟨on, hon, _⟩ := hstep _ _ hqn
          obtain ⟨ρn, cn, m1, m2⟩ := hpos _ _ _ hqn hon
          refine ⟨cn, hwin.1 (R[nb].i, on, cn) ?_ ((bigAt_iff hon).1 (hbig _ hqn)), ?_⟩
          · rw [List.getElem?_map, List.getElem?_drop, show k + 1 + (nb - (k + 1)) = nb by omega, m1]; rfl
          · have := m2.heap
            rw [Nat.sub_zero] at this
            rw [this]; simp [Hat, hlt3]
      obtain ⟨q2, hq2, hHq⟩ := hq2
      have hchk := List.all_eq_true.1 hk _ (chksOf_mem (V := V) (all := ops) p1 hcl hh hq2)
      -- how its operands are fetched now
      obtain ⟨E3, Ek, hE, hIk⟩ := p2.env
      have hfet : Ft.le (fun x => gL V.nG E T (resv ρk c x)) (oval V.nG r.T) := fun x v hv => hIk.fetch V.nG x v (by
        cases x with
        | tmp t =>
          simp only [resv] at hv ⊢
          cases hf : findR ρk t with
          | none => rw [hf] at hv; simp only [gL] at hv ⊢; rw [if_neg (show ¬ far + t < far by omega)] at hv ⊢; exact hv
          | some p =>
            rw [hf] at hv
            obtain ⟨hp, _⟩ := hIk.pos t p hf
            have h1 := p2.hi
            have h2 := hI.lim
            simp only [gL] at hv ⊢
            rw [if_pos (show c - 1 - p < far by omega)] at hv
            rw [if_pos (show ck - 1 - p < far by omega)]
            have h3 := atP_app (E := Ek) (E3 := E3) (c := ck) (c' := c) (p := p) hIk.len (by rw [← hE]; exact hI.len) hp
            unfold atP at h3
            rw [if_pos (show p < c by omega), if_pos hp, ← hE] at h3
            rw [← h3]; exact hv
        | _ => exact hv)
      unfold chkOk at hchk
      have hwant : wantL (gL V.nG E T) (match guardOf ops ρk c o.guard with
        | some g => g
        | none => none) ≠ some false := by
        intro hwf
        cases hg : guardOf ops ρk c o.guard with
        | none => rw [hg] at hwf; simp [wantL] at hwf
        | some g =>
          rw [hg] at hwf
          have := (want_le hfet hg hwf).2
          rw [hw] at this; cases this
      split at hchk
      · rename_i e; exact absurd e hwant
      · simp only [hHq] at hchk
        have hval := p2.val (heapLook_free hcl hh)
        rw [hval] at hchk
        simp only at hchk
        split at hchk
        · rename_i u Hx hop
          have e1 := aopG_call hop call
          have e2 := evOpG_mono hfet (evOpG_ren (resv_tame ρk c) e1)
          rw [← evOp_G] at e2
          have e3 : aop V r.T (Hat R H' nb) o.op = some (u, Hx) := by
            unfold evOp at e2
            split at e2
            · rename_i heq; rw [heq] at hcl; simp [cls] at hcl
            · exact e2
          rw [e3, sameV_eq hchk, look_same hcl hn1 e3]
        · cases hchk
      · cases hchk
    · exact looks_small hstep hrk hcl hn1 hev hlt hle fun m q h1 h2 h3 => by
        cases hb : bigAt ops q with
        | false => rfl
        | true => exact absurd ⟨m, q, h1, h2, h3, hb⟩ hx
end Go.Ev
