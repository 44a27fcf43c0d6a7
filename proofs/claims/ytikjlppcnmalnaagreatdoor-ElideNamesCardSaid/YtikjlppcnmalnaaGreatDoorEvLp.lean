/-
  EV, kernel, part Lp: the run with a table of closed calls that have been run by themselves.
-/
import Derived.Test.YtikjlppcnmalnaaGreatDoorEvLo
import Derived.Test.YtikjlppcnmalnaaGreatDoorEvUh
namespace Go.Ev
open Go.RowKit

def beqP : Value → Value → Bool
  | .bool a, .bool b => a == b
  | .int k a, .int j b => decide (k = j) && a == b
  | .string a, .string b => a.data == b.data
  | .slice none 0 0, .slice none 0 0 => true
  | _, _ => false
theorem beqP_eq {a b : Value} (h : beqP a b = true) : a = b := by
  unfold beqP at h
  split at h
  · simp at h; rw [h]
  · simp at h; rw [h.1, h.2]
  · rename_i a b; cases a; cases b; simp at h; rw [h]
  · rfl
  · cases h
def beqLs : List Value → List Value → Bool
  | [], [] => true
  | a :: as, b :: bs => beqP a b && beqLs as bs
  | _, _ => false
theorem beqLs_eq : ∀ {as bs : List Value}, beqLs as bs = true → as = bs
  | [], [], _ => rfl
  | a :: as, b :: bs, h => by
    simp only [beqLs, Bool.and_eq_true] at h
    rw [beqP_eq h.1, beqLs_eq h.2]
  | [], _ :: _, h => by cases h
  | _ :: _, [], h => by cases h

/-- Do the laid rows still stand in a heap? -/
def roSame (H : AH) : List AObj → Nat → Bool
  | [], _ => true
  | .row et cells .ro 0 0 :: rs, i => (match H.obj i with
    | .row et' cells' .ro 0 0 => Nat.beq et et' && beqLs cells cells'
    | _ => false) && roSame H rs (i + 1)
  | .dead :: rs, i => roSame H rs (i + 1)
  | _ :: _, _ => false
theorem roSame_ok {H : AH} : ∀ {rs : List AObj} {i : Nat}, roSame H rs i = true → ∀ (j : Nat) et cells g v, rs[j]? = some (.row et cells .ro g v) → H.obj (i + j) = .row et cells .ro g v
  | [], i, _, j, et, cells, g, v, hj => by simp at hj
  | o :: rs, i, h, j, et, cells, g, v, hj => by
    unfold roSame at h
    split at h
    · rename_i hl; cases hl
    · rename_i et0 cells0 rs0 hl
      cases hl
      rw [Bool.and_eq_true] at h
      obtain ⟨h1, h2⟩ := h
      cases j with
      | zero =>
        simp at hj
        obtain ⟨rfl, rfl, rfl, rfl⟩ := hj
        split at h1
        · rename_i et' cells' ho
          rw [Bool.and_eq_true] at h1
          rw [Nat.add_zero, ho, Nat.eq_of_beq_eq_true h1.1, beqLs_eq h1.2]
        · cases h1
      | succ j =>
        have := roSame_ok h2 j et cells g v (by simpa using hj)
        rw [Nat.add_assoc, Nat.add_comm 1 j] at this
        exact this
    · rename_i rs0 hl
      cases hl
      cases j with
      | zero => simp at hj
      | succ j =>
        have := roSame_ok h j et cells g v (by simpa using hj)
        rw [Nat.add_assoc, Nat.add_comm 1 j] at this
        exact this
    · cases h

theorem kro_of {rows : List AObj} {H : AH} (h : roSame H rows 0 = true) (hn : rows.length ≤ H.next) : Kro (startH rows) H := by
  refine ⟨hn, fun b et cells g v _ hb => ?_⟩
  rw [startH_obj] at hb
  have hb' : rows[b]? = some (.row et cells .ro g v) := by
    cases hr : rows[b]? with
    | none => rw [hr] at hb; cases hb
    | some o => rw [hr] at hb; exact congrArg some hb
  have := roSame_ok h b et cells g v hb'
  rwa [Nat.zero_add] at this

abbrev Tbl := List (FuncId × List Value × Value)
def Tbl.get (tbl : Tbl) (rows : List AObj) (f : FuncId) (vs : List Value) (H : AH) : Option Value :=
  match tbl.find? fun e => Nat.beq e.1 f && beqLs e.2.1 vs with
  | some e => if Nat.ble rows.length H.next && roSame H rows 0 then some e.2.2 else none
  | none => none
/-- What a table owes. -/
def TblOk (P : Program) (rows : List AObj) (tbl : Tbl) : Prop := ∀ e ∈ tbl, ∃ H', Sound (envOf P rows.length) (.fn e.1) e.2.1 (startH rows) e.2.2 H'

theorem Tbl.get_ok {P : Program} {rows : List AObj} {tbl : Tbl} (hrows : rows.all rowOk = true) (hc : (tbl.all fun e => e.2.1.all constOk && constOk e.2.2) = true) (ht : TblOk P rows tbl) {f : FuncId} {vs : List Value} {H : AH} {v : Value} (h : tbl.get rows f vs H = some v) : Sound (envOf P rows.length) (.fn f) vs H v H := by
  unfold Tbl.get at h
  split at h
  · rename_i e he
    split at h
    · rename_i hk
      cases h
      simp only [Bool.and_eq_true, Nat.ble_eq] at hk
      have hp := List.find?_some he
      have hm := List.mem_of_find?_eq_some he
      simp only [Bool.and_eq_true] at hp
      obtain rfl := Nat.eq_of_beq_eq_true hp.1
      obtain rfl := beqLs_eq hp.2
      have := List.all_eq_true.1 hc e hm
      rw [Bool.and_eq_true] at this
      obtain ⟨H', hs⟩ := ht e hm
      exact plain_soundS hrows this.1 this.2 hs (kro_of hk.2 hk.1)
    · cases h
  · cases h

noncomputable section
variable {ck : CallK} {call : CallFn}

def fT (V : Env) (tbl : Tbl) (rows : List AObj) (dl : List FuncId) (lf : Nat) : Nat → CallFn
  | 0, _, _, _ => none
  | d + 1, .fn f, vs, H => match tbl.get rows f vs H with
    | some v => some (v, H)
    | none => match V.F f with
      | some fn => if dl.contains f = true then deferL V (fT V tbl rows dl lf d) lf fn vs H else match fn.body with
        | some c => if vs.length ≤ fn.ntmps ∧ (List.range vs.length).all (isLive (some (liveOf fn c))) = true then
            match codeL V (fT V tbl rows dl lf d) (some (liveOf fn c)) none fn.ntmps lf c (initT vs 0 .leaf) H with
            | some (.normal, T, H') | some (.ret, T, H') => endL V fn T H'
            | _ => none
          else none
        | none => none
      | none => none
  | d + 1, .yld b, vs, H => roundL V (fT V tbl rows dl lf d) lf b vs H

theorem fT_ok {P : Program} {rows : List AObj} {tbl : Tbl} {dl : List FuncId} (hrows : rows.all rowOk = true) (hcs : (tbl.all fun e => e.2.1.all constOk && constOk e.2.2) = true) (ht : TblOk P rows tbl) (hE : TOk (envOf P rows.length).E P) (hF : FOk (envOf P rows.length).F P) (hm : P.follows .mixedOrders = true) (lf : Nat) : ∀ d, CallOk (envOf P rows.length) (fT (envOf P rows.length) tbl rows dl lf d)
  | 0 => ⟨fun f vs H v H' h => by simp [fT] at h, fun b vs H v H' h => by simp [fT] at h⟩
  | d + 1 => by
    have ih := fT_ok (dl := dl) hrows hcs ht hE hF hm lf d
    refine CallOk.iff.2 fun t vs H v H' h => ?_
    cases t with
    | fn f =>
      simp only [fT] at h
      split at h
      · rename_i v0 hg
        simp only [Option.some.injEq, Prod.mk.injEq] at h
        obtain ⟨rfl, rfl⟩ := h
        exact Tbl.get_ok hrows hcs ht hg
      split at h
      · rename_i fn hfn
        split at h
        · exact deferL_ok (V := envOf P rows.length) hE hF hm ih hfn h
        split at h
        · rename_i c hb
          split at h
          · rename_i hlen
            have hdom : Dom (some (liveOf fn c)) (initT vs 0 .leaf) := fun t v hv => by
              rw [initT_get] at hv
              split at hv
              · rename_i ht
                have := hlen.2
                rw [List.all_eq_true] at this
                exact this t (List.mem_range.2 (by omega))
              · simp at hv
            have fin : ∀ (e : Ex) (T : PTree Value) (H1 : AH), (e = .normal ∨ e = .ret) → codeL (envOf P rows.length) (fT (envOf P rows.length) tbl rows dl lf d) (some (liveOf fn c)) none fn.ntmps lf c (initT vs 0 .leaf) H = some (e, T, H1) → endL (envOf P rows.length) fn T H1 = some (v, H') → Sound (envOf P rows.length) (.fn f) vs H v H' := fun e T H1 he hev hres => by
              obtain ⟨rs, hrs, hv⟩ := map_some hres
              simp only [Prod.mk.injEq] at hv
              obtain ⟨rfl, rfl⟩ := hv
              obtain ⟨hr, _⟩ := codeL_runs (V := envOf P rows.length) hE hF hm ih (some (liveOf fn c)) lf c hdom hev
              obtain ⟨v0, H0, hR, hS⟩ := Sound.fn (V := envOf P rows.length) (R := fun v0 H0 => v0 = resOf rs ∧ H0 = H1) hE hF hfn hb hlen.1 ⟨e, T, H1, hr, he, rs, hrs, rfl, rfl⟩
              obtain ⟨rfl, rfl⟩ := hR
              exact hS
            split at h
            · rename_i T H1 hev; exact fin .normal T H1 (.inl rfl) hev h
            · rename_i T H1 hev; exact fin .ret T H1 (.inr rfl) hev h
            · cases h
          · cases h
        · cases h
      · cases h
    | yld b =>
      simp only [fT] at h
      exact fun B0 ι w vs' l hG hR hL hb => roundL_ok (V := envOf P rows.length) hE hF hm ih lf h hG hR hL hb

variable {V : Env}
def fnTK (V : Env) (tbl : Tbl) (rows : List AObj) (dl : List FuncId) (lf : Nat) (d : Nat) : CallK :=
  Nat.rec (motive := fun _ => CallK) (fun _ _ _ _ => none) (fun _ ih t vs H k => match t with
    | .fn f => match tbl.get rows f vs H with
      | some v => k v H
      | none => match V.F f with
        | some fn => ifK (dl.contains f) (deferK V ih lf fn vs H k) (match fn.body with
          | some c => ifK (Nat.ble vs.length fn.ntmps && (List.range vs.length).all (isLive (some (liveOf fn c)))) (initK vs 0 .leaf fun T => codeK V ih (some (liveOf fn c)) none fn.ntmps lf c T H (fun T H => resK V T H fn.results.toList fun vs => outR vs H k) (fun _ _ _ => none) (fun T H => resK V T H fn.results.toList fun vs => outR vs H k)) none
          | none => none)
        | none => none
    | .yld b => roundK V ih lf b vs H k) d
theorem fnTK_eq (tbl : Tbl) (rows : List AObj) (dl : List FuncId) (lf : Nat) : ∀ d, IsK (fnTK V tbl rows dl lf d) (fT V tbl rows dl lf d)
  | 0 => fun t vs H k => by simp only [fT]; rfl
  | d + 1 => fun t vs H k => by
    have ih := fnTK_eq tbl rows dl lf d
    cases t with
    | fn f =>
      show (match tbl.get rows f vs H with
      | some v => k v H
      | none => match V.F f with
      | some fn => ifK (dl.contains f) (deferK V (fnTK V tbl rows dl lf d) lf fn vs H k) (match fn.body with
        | some c => ifK (Nat.ble vs.length fn.ntmps && (List.range vs.length).all (isLive (some (liveOf fn c)))) (initK vs 0 .leaf fun T => codeK V (fnTK V tbl rows dl lf d) (some (liveOf fn c)) none fn.ntmps lf c T H (fun T H => resK V T H fn.results.toList fun vs => outR vs H k) (fun _ _ _ => none) (fun T H => resK V T H fn.results.toList fun vs => outR vs H k)) none
        | none => none)
      | none => none) = _
      simp only [fT]
      cases tbl.get rows f vs H with
      | some v => rfl
      | none =>
      simp only
      cases V.F f with
      | none => rfl
      | some fn =>
        simp only [ifK_eq, deferK_eq ih]
        by_cases hd : dl.contains f = true
        · simp only [if_pos hd]
        · simp only [if_neg hd]
          cases fn.body with
          | none => rfl
          | some c =>
            simp only [Bool.and_eq_true, Nat.ble_eq, initK_eq, codeK_eq ih, endK_eq]
            split
            · cases codeL V (fT V tbl rows dl lf d) (some (liveOf fn c)) none fn.ntmps lf c (initT vs 0 .leaf) H with
              | none => rfl
              | some p =>
                obtain ⟨e, T', H'⟩ := p
                cases e with
                | normal => rfl
                | exit id => rfl
                | ret => rfl
            · rfl
    | yld b =>
      show roundK V (fnTK V tbl rows dl lf d) lf b vs H k = _
      rw [roundK_eq ih]
      simp only [fT]

/-- A closed call of constants, run for the kernel. -/
def runTK (V : Env) (tbl : Tbl) (dl : List FuncId) (rows : List AObj) (lf d : Nat) (f : FuncId) (vs : List Value) : KR :=
  startK rows 0 .leaf fun t => forceN rows.length fun n => fnTK V tbl rows dl lf d (.fn f) vs ⟨t, n, .leaf⟩ fun v _ => some v
theorem runTK_eq (tbl : Tbl) (dl : List FuncId) (rows : List AObj) (lf d : Nat) (f : FuncId) (vs : List Value) : runTK V tbl dl rows lf d f vs = (fT V tbl rows dl lf d (.fn f) vs (startH rows)).map (·.1) := by
  unfold runTK
  rw [startK_eq, forceN_eq, fnTK_eq]
  show bk (fT V tbl rows dl lf d (.fn f) vs (startH rows)) _ = _
  cases fT V tbl rows dl lf d (.fn f) vs (startH rows) <;> rfl
end

/-- What a run says. -/
theorem sound_of_run {P : Program} (hn : (P.funcs.toList.all fun fn => !(fn.name == "runtime.NumGoroutine")) = true) (hm : P.follows .mixedOrders = true) {rows : List AObj} (hrows : rows.all rowOk = true) {tbl : Tbl} (hcs : (tbl.all fun e => e.2.1.all constOk && constOk e.2.2) = true) (ht : TblOk P rows tbl) {dl : List FuncId} {lf d : Nat} {f : FuncId} {vs : List Value} {v : Value}
    (h : runTK (envOf P rows.length) tbl dl rows lf d f vs = some v) : ∃ H', Sound (envOf P rows.length) (.fn f) vs (startH rows) v H' := by
  rw [runTK_eq] at h
  obtain ⟨⟨v0, H'⟩, h1, h2⟩ := map_some h
  simp only at h2
  subst h2
  exact ⟨H', CallOk.iff.1 (fT_ok (dl := dl) hrows hcs ht (fun t ti h => h) (fnOf_ok hn) hm lf d) (.fn f) vs (startH rows) _ H' h1⟩

theorem TblOk.nil {P : Program} {rows : List AObj} : TblOk P rows [] := fun e he => by cases he
theorem TblOk.cons {P : Program} {rows : List AObj} {tbl : Tbl} {f : FuncId} {vs : List Value} {v : Value} (h : ∃ H', Sound (envOf P rows.length) (.fn f) vs (startH rows) v H') (ht : TblOk P rows tbl) : TblOk P rows ((f, vs, v) :: tbl) := fun e he => by
  rcases List.mem_cons.1 he with rfl | he
  · exact h
  · exact ht e he

/-- A closed call, the package-level variables laid, from what a run says. -/
theorem laid_callsT {P : Program} {rows : List AObj} {w : World} (hr : ∀ g o, rows[g]? = some o → RowIn w g o) {f : FuncId} {v : Value} (hv : plain v = true)
    (h : ∃ H', Sound (envOf P rows.length) (.fn f) [] (startH rows) v H') : Calls P f #[] w fun e w' => e = .returned v ∧ Below w.heap.size w w' := by
  obtain ⟨H', h1⟩ := h
  have hG : GOk (startE P rows) (envOf P rows.length).nG := fun g hg => by
    have hg' : g < rows.length := hg
    cases hs : startE P rows g with
    | some l => exact ⟨l, rfl, (startE_blk hs).2⟩
    | none =>
      unfold startE at hs
      rw [show rows[g]? = some rows[g] by simp [hg']] at hs
      split at hs <;> simp_all
  have := h1 w.heap.size (startE P rows) w [] hG (HRel.laid P w rows hr) .nil
  exact this.mono fun e w' ⟨v', ι', he, hr, hs⟩ => ⟨by rw [he, hr.plain_eq hv], hs.below⟩
end Go.Ev
