/-
  EV, kernel, part Lo: the run with functions that defer a closure which recovers, in handing-on form.
-/
import Derived.Test.YtikjlppcnmalnaaGreatDoorEvLn
import Derived.Test.YtikjlppcnmalnaaGreatDoorEvLf
namespace Go.Ev
open Go.RowKit

noncomputable section
variable {V : Env} {ck : CallK} {call : CallFn}

/-! ### Operations one behind the other -/
def putTK (n : Nat) (T : PTree Value) (d : Option Tmp) (v : Value) (k : PTree Value → KR) : KR :=
  match d with
  | none => k T
  | some d => ifK (Nat.blt d n) (setTK T d v k) none
theorem putTK_eq (n : Nat) (T : PTree Value) (d : Option Tmp) (v : Value) (k : PTree Value → KR) : putTK n T d v k = (put n T d v).bind k := by
  unfold putTK put
  cases d with
  | none => rfl
  | some d =>
    simp only [ifK_eq, setTK_eq, Nat.blt_eq]
    split <;> rfl

def evOpsK (V : Env) (ck : CallK) (n : Nat) (all : Array Oper) (l : List Oper) : PTree Value → AH → StK → KR :=
  List.rec (motive := fun _ => PTree Value → AH → StK → KR) (fun T H k => k T H) (fun o _ ih T H k =>
    ifK (aSeen all T o) (ifK (aWanted all T o) (evOpK V ck o.op (ovalK V T) H fun v H => putTK n T o.dst v fun T => ih T H k) (putTK n T o.dst undef fun T => ih T H k)) none) l
theorem evOpsK_eq (hc : IsK ck call) (n : Nat) (all : Array Oper) : ∀ (l : List Oper) (T : PTree Value) (H : AH) (k : StK), evOpsK V ck n all l T H k = (evOps V call n all l T H).bind fun p => k p.1 p.2
  | [], T, H, k => rfl
  | o :: l, T, H, k => by
    show ifK (aSeen all T o) (ifK (aWanted all T o) (evOpK V ck o.op (ovalK V T) H fun v H => putTK n T o.dst v fun T => evOpsK V ck n all l T H k) (putTK n T o.dst undef fun T => evOpsK V ck n all l T H k)) none = _
    simp only [ifK_eq, evOps, putTK_eq, evOpsK_eq hc n all l]
    by_cases h1 : aSeen all T o = true
    · simp only [if_pos h1]
      by_cases h2 : aWanted all T o = true
      · simp only [if_pos h2]
        rw [evOpK_eq hc (fun x k => ovalK_eq V T x k), ← evOp_G]
        cases evOp V call T H o.op with
        | none => rfl
        | some p =>
          obtain ⟨v, H1⟩ := p
          simp only [bk, Option.bind_some]
          cases put n T o.dst v <;> rfl
      · simp only [if_neg h2]
        cases put n T o.dst undef <;> rfl
    · simp only [if_neg h1]; rfl

/-! ### Functions that defer -/
def recK (V : Env) (fn : Func) (g : FuncId) (xs : List Value) (T : PTree Value) (H : AH) (k : Value → AH → KR) : KR :=
  match recL V g xs H with
  | some H5 => resK V T H5 fn.results.toList fun vs => outR vs H5 k
  | none => none

def deferCK (V : Env) (ck : CallK) (lf : Nat) (fn : Func) (k : Value → AH → KR) (c : Code) : StK :=
  Code.rec (motive := fun _ => StK) (fun _ _ => none) (fun _ _ _ _ _ => none)
    (fun a c _ ih T H => match pref a with
      | some (ops, pre, o, post) => evOpsK V ck fn.ntmps ops pre T H fun T1 H1 => match deferTo V T1 o with
        | some (g, cap, us) => putTK fn.ntmps T1 o.dst undef fun T2 => evOpsK V ck fn.ntmps ops post T2 H1 fun T3 H3 =>
            codeK V ck none none fn.ntmps lf c T3 H3 (fun T4 H4 => forceL (us ++ cap.toList) fun xs => recK V fn g xs T4 H4 k) (fun _ _ _ => none) (fun T4 H4 => forceL (us ++ cap.toList) fun xs => recK V fn g xs T4 H4 k)
        | none => none
      | none => codeK V ck none none fn.ntmps lf a T H ih (fun _ _ _ => none) (fun T H => resK V T H fn.results.toList fun vs => outR vs H k))
    (fun _ _ _ _ _ _ _ => none) (fun _ _ _ _ _ => none) (fun _ _ _ _ => none) (fun _ _ _ _ _ _ _ _ => none) (fun _ _ _ => none) (fun _ _ _ _ => none) (fun _ _ _ => none) (fun _ _ _ => none) (fun _ _ => none) (fun _ _ _ => none) c

theorem endK_eq (fn : Func) (T : PTree Value) (H : AH) (k : Value → AH → KR) : (resK V T H fn.results.toList fun vs => outR vs H k) = bk (endL V fn T H) k := by
  simp only [resK_eq, outR_eq, endL]
  cases aResults V T H fn.results.toList <;> rfl
theorem recK_eq (fn : Func) (g : FuncId) (xs : List Value) (T : PTree Value) (H : AH) (k : Value → AH → KR) : recK V fn g xs T H k = bk (match recL V g xs H with
    | some H5 => endL V fn T H5
    | none => none) k := by
  unfold recK
  cases recL V g xs H with
  | none => rfl
  | some H5 => exact endK_eq fn T H5 k

theorem deferCK_eq (hc : IsK ck call) (lf : Nat) (fn : Func) (k : Value → AH → KR) : ∀ (c : Code) (T : PTree Value) (H : AH), deferCK V ck lf fn k c T H = bk (deferC V call lf fn c T H) k := by
  intro c
  induction c with
  | seq a c _ ih =>
    intro T H
    show (match pref a with
      | some (ops, pre, o, post) => evOpsK V ck fn.ntmps ops pre T H fun T1 H1 => match deferTo V T1 o with
        | some (g, cap, us) => putTK fn.ntmps T1 o.dst undef fun T2 => evOpsK V ck fn.ntmps ops post T2 H1 fun T3 H3 =>
            codeK V ck none none fn.ntmps lf c T3 H3 (fun T4 H4 => forceL (us ++ cap.toList) fun xs => recK V fn g xs T4 H4 k) (fun _ _ _ => none) (fun T4 H4 => forceL (us ++ cap.toList) fun xs => recK V fn g xs T4 H4 k)
        | none => none
      | none => codeK V ck none none fn.ntmps lf a T H (deferCK V ck lf fn k c) (fun _ _ _ => none) (fun T H => resK V T H fn.results.toList fun vs => outR vs H k)) = _
    simp only [deferC]
    rcases pref a with _ | ⟨ops, pre, o, post⟩
    · simp only [codeK_eq hc]
      rcases codeL V call none none fn.ntmps lf a T H with _ | ⟨e, T1, H1⟩
      · rfl
      · cases e with
        | normal => exact ih T1 H1
        | exit id => rfl
        | ret => exact endK_eq fn T1 H1 k
    · simp only [evOpsK_eq hc]
      rcases evOps V call fn.ntmps ops pre T H with _ | ⟨T1, H1⟩
      · rfl
      · simp only [Option.bind_some]
        rcases deferTo V T1 o with _ | ⟨g, cap, us⟩
        · rfl
        · simp only [putTK_eq]
          rcases put fn.ntmps T1 o.dst undef with _ | T2
          · rfl
          · simp only [Option.bind_some]
            rcases evOps V call fn.ntmps ops post T2 H1 with _ | ⟨T3, H3⟩
            · rfl
            · simp only [Option.bind_some, codeK_eq hc, forceL_eq]
              rcases codeL V call none none fn.ntmps lf c T3 H3 with _ | ⟨e, T4, H4⟩
              · rfl
              · cases e with
                | exit id => rfl
                | normal => exact recK_eq fn g _ T4 H4 k
                | ret => exact recK_eq fn g _ T4 H4 k
  | _ => intro T H; rfl

def deferK (V : Env) (ck : CallK) (lf : Nat) (fn : Func) (vs : List Value) (H : AH) (k : Value → AH → KR) : KR :=
  match fn.body with
  | some c => ifK (Nat.ble vs.length fn.ntmps) (initK vs 0 .leaf fun T => deferCK V ck lf fn k c T H) none
  | none => none
theorem deferK_eq (hc : IsK ck call) (lf : Nat) (fn : Func) (vs : List Value) (H : AH) (k : Value → AH → KR) : deferK V ck lf fn vs H k = bk (deferL V call lf fn vs H) k := by
  unfold deferK deferL
  cases fn.body with
  | none => rfl
  | some c =>
    simp only [ifK_eq, Nat.ble_eq, initK_eq, deferCK_eq hc]
    split <;> rfl

/-! ### All functions; those of a list defer -/
def fM (V : Env) (dl : List FuncId) (lf : Nat) : Nat → CallFn
  | 0, _, _, _ => none
  | d + 1, .fn f, vs, H => match V.F f with
    | some fn => if dl.contains f = true then deferL V (fM V dl lf d) lf fn vs H else match fn.body with
      | some c => if vs.length ≤ fn.ntmps ∧ (List.range vs.length).all (isLive (some (liveOf fn c))) = true then
          match codeL V (fM V dl lf d) (some (liveOf fn c)) none fn.ntmps lf c (initT vs 0 .leaf) H with
          | some (.normal, T, H') | some (.ret, T, H') => (aResults V T H' fn.results.toList).map fun vs => (resOf vs, H')
          | _ => none
        else none
      | none => none
    | none => none
  | d + 1, .yld b, vs, H => roundL V (fM V dl lf d) lf b vs H

theorem fM_ok {dl : List FuncId} (hE : TOk V.E V.P) (hF : FOk V.F V.P) (hm : V.P.follows .mixedOrders = true) (lf : Nat) : ∀ d, CallOk V (fM V dl lf d)
  | 0 => ⟨fun f vs H v H' h => by simp [fM] at h, fun b vs H v H' h => by simp [fM] at h⟩
  | d + 1 => by
    have ih := fM_ok (dl := dl) hE hF hm lf d
    refine CallOk.iff.2 fun t vs H v H' h => ?_
    cases t with
    | fn f =>
      simp only [fM] at h
      split at h
      · rename_i fn hfn
        split at h
        · exact deferL_ok hE hF hm ih hfn h
        split at h
        · rename_i c hb
          split at h
          · rename_i hlen
            have hdom : Dom (some (liveOf fn c)) (initT vs 0 .leaf) := fun t v hv => by
              rw [initT_get] at hv
              split at hv
              · rename_i ht
                have := hlen.2
                rw [List.all_eq_true] at this
                exact this t (List.mem_range.2 (by omega))
              · simp at hv
            have fin : ∀ (e : Ex) (T : PTree Value) (H1 : AH), (e = .normal ∨ e = .ret) → codeL V (fM V dl lf d) (some (liveOf fn c)) none fn.ntmps lf c (initT vs 0 .leaf) H = some (e, T, H1) → (aResults V T H1 fn.results.toList).map (fun vs => (resOf vs, H1)) = some (v, H') → Sound V (.fn f) vs H v H' := fun e T H1 he hev hres => by
              obtain ⟨rs, hrs, hv⟩ := map_some hres
              simp only [Prod.mk.injEq] at hv
              obtain ⟨rfl, rfl⟩ := hv
              obtain ⟨hr, _⟩ := codeL_runs hE hF hm ih (some (liveOf fn c)) lf c hdom hev
              obtain ⟨v0, H0, hR, hS⟩ := Sound.fn (R := fun v0 H0 => v0 = resOf rs ∧ H0 = H1) hE hF hfn hb hlen.1 ⟨e, T, H1, hr, he, rs, hrs, rfl, rfl⟩
              obtain ⟨rfl, rfl⟩ := hR
              exact hS
            split at h
            · rename_i T H1 hev; exact fin .normal T H1 (.inl rfl) hev h
            · rename_i T H1 hev; exact fin .ret T H1 (.inr rfl) hev h
            · cases h
          · cases h
        · cases h
      · cases h
    | yld b =>
      simp only [fM] at h
      exact fun B0 ι w vs' l hG hR hL hb => roundL_ok hE hF hm ih lf h hG hR hL hb

def fnMK (V : Env) (dl : List FuncId) (lf : Nat) (d : Nat) : CallK :=
  Nat.rec (motive := fun _ => CallK) (fun _ _ _ _ => none) (fun _ ih t vs H k => match t with
    | .fn f => match V.F f with
      | some fn => ifK (dl.contains f) (deferK V ih lf fn vs H k) (match fn.body with
        | some c => ifK (Nat.ble vs.length fn.ntmps && (List.range vs.length).all (isLive (some (liveOf fn c)))) (initK vs 0 .leaf fun T => codeK V ih (some (liveOf fn c)) none fn.ntmps lf c T H (fun T H => resK V T H fn.results.toList fun vs => outR vs H k) (fun _ _ _ => none) (fun T H => resK V T H fn.results.toList fun vs => outR vs H k)) none
        | none => none)
      | none => none
    | .yld b => roundK V ih lf b vs H k) d
theorem fnMK_eq (dl : List FuncId) (lf : Nat) : ∀ d, IsK (fnMK V dl lf d) (fM V dl lf d)
  | 0 => fun t vs H k => by simp only [fM]; rfl
  | d + 1 => fun t vs H k => by
    have ih := fnMK_eq dl lf d
    cases t with
    | fn f =>
      show (match V.F f with
      | some fn => ifK (dl.contains f) (deferK V (fnMK V dl lf d) lf fn vs H k) (match fn.body with
        | some c => ifK (Nat.ble vs.length fn.ntmps && (List.range vs.length).all (isLive (some (liveOf fn c)))) (initK vs 0 .leaf fun T => codeK V (fnMK V dl lf d) (some (liveOf fn c)) none fn.ntmps lf c T H (fun T H => resK V T H fn.results.toList fun vs => outR vs H k) (fun _ _ _ => none) (fun T H => resK V T H fn.results.toList fun vs => outR vs H k)) none
        | none => none)
      | none => none) = _
      simp only [fM]
      cases V.F f with
      | none => rfl
      | some fn =>
        simp only [ifK_eq, deferK_eq ih]
        by_cases hd : dl.contains f = true
        · simp only [if_pos hd]
        · simp only [if_neg hd]
          cases fn.body with
          | none => rfl
          | some c =>
            simp only [Bool.and_eq_true, Nat.ble_eq, initK_eq, codeK_eq ih, resK_eq, outR_eq]
            split
            · cases codeL V (fM V dl lf d) (some (liveOf fn c)) none fn.ntmps lf c (initT vs 0 .leaf) H with
              | none => rfl
              | some p =>
                obtain ⟨e, T', H'⟩ := p
                cases e with
                | normal => simp only [bE, Option.bind_some, exK]; cases aResults V T' H' fn.results.toList <;> rfl
                | exit id => rfl
                | ret => simp only [bE, Option.bind_some, exK]; cases aResults V T' H' fn.results.toList <;> rfl
            · rfl
    | yld b =>
      show roundK V (fnMK V dl lf d) lf b vs H k = _
      rw [roundK_eq ih]
      simp only [fM]

/-- A closed call, run for the kernel; the functions of the list defer. -/
def runMK (V : Env) (dl : List FuncId) (rows : List AObj) (lf d : Nat) (f : FuncId) : KR :=
  startK rows 0 .leaf fun t => forceN rows.length fun n => fnMK V dl lf d (.fn f) [] ⟨t, n, .leaf⟩ fun v _ => some v

theorem runMK_eq (dl : List FuncId) (rows : List AObj) (lf d : Nat) (f : FuncId) : runMK V dl rows lf d f = (fM V dl lf d (.fn f) [] (startH rows)).map (·.1) := by
  unfold runMK
  rw [startK_eq, forceN_eq, fnMK_eq]
  show bk (fM V dl lf d (.fn f) [] (startH rows)) _ = _
  cases fM V dl lf d (.fn f) [] (startH rows) <;> rfl

/-- A closed call, the package-level variables laid. -/
theorem laid_callsMK {P : Program} (hn : (P.funcs.toList.all fun fn => !(fn.name == "runtime.NumGoroutine")) = true) (hm : P.follows .mixedOrders = true) {rows : List AObj} {w : World} (hr : ∀ g o, rows[g]? = some o → RowIn w g o) {dl : List FuncId} {lf d : Nat} {f : FuncId} {v : Value} (hv : plain v = true)
    (h : runMK (envOf P rows.length) dl rows lf d f = some v) : Calls P f #[] w fun e w' => e = .returned v ∧ Below w.heap.size w w' := by
  rw [runMK_eq] at h
  obtain ⟨⟨v0, H'⟩, h1, h2⟩ := map_some h
  simp only at h2
  subst h2
  have hG : GOk (startE P rows) (envOf P rows.length).nG := fun g hg => by
    have hg' : g < rows.length := hg
    cases hs : startE P rows g with
    | some l => exact ⟨l, rfl, (startE_blk hs).2⟩
    | none =>
      unfold startE at hs
      rw [show rows[g]? = some rows[g] by simp [hg']] at hs
      split at hs <;> simp_all
  have := (fM_ok (V := envOf P rows.length) (dl := dl) (fun t ti h => h) (fnOf_ok hn) hm lf d).fn f [] (startH rows) _ H' h1 w.heap.size (startE P rows) w [] hG (HRel.laid P w rows hr) .nil
  exact this.mono fun e w' ⟨v', ι', he, hr, hs⟩ => ⟨by rw [he, hr.plain_eq hv], hs.below⟩
end
end Go.Ev
