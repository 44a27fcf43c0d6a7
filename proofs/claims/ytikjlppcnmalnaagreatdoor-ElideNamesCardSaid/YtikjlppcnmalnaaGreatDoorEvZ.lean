/-
  EV, part Z: closed calls: what the kernel's run of the abstract machine yields holds of the model's.
-/
import Derived.Test.YtikjlppcnmalnaaGreatDoorEvY
import Derived.Lib.LaidTab
import Derived.ChangeSame
namespace Go.Ev
open Go.RowKit

def fnOf (P : Program) (f : FuncId) : Option Func :=
  match P.funcs[f]? with
  | some fn => if fn.body.isSome then some fn else none
  | none => none

theorem fnOf_ok {P : Program} (h : (P.funcs.toList.all fun fn => !(fn.name == "runtime.NumGoroutine")) = true) : FOk (fnOf P) P := fun f fn hf => by
  unfold fnOf at hf
  split at hf
  · rename_i g hg
    split at hf
    · rename_i hb
      cases hf
      refine ⟨hg, hb, ?_⟩
      have := List.all_eq_true.1 h fn (by simpa using Array.mem_of_getElem? hg)
      simpa using this
    · cases hf
  · cases hf

def envOf (P : Program) (nG : Nat) : Env := ⟨P, tiOf P, fnOf P, nG⟩
def H00 : AH := ⟨.leaf, 0, .leaf⟩

theorem HRel.start (P : Program) (w : World) : HRel P w.heap.size (fun _ => none) H00 w :=
  { base := Nat.le_refl _, dom := fun _ _ h => (nomatch h), obj := fun _ _ h => (nomatch h), sep := fun _ _ _ _ _ h => (nomatch h), grp := fun _ _ _ _ _ _ _ h => (nomatch h) }

theorem Step.below {P : Program} {B0 : Nat} {ι ι' : Emb} {H H' : AH} {w w' : World} (h : Step P B0 ι H w ι' H' w') : Below B0 w w' := ⟨h.os, h.tape, h.output, h.size, h.low⟩

/-- A closed call whose abstract run answers a plain value. -/
theorem closed_calls {P : Program} (hn : (P.funcs.toList.all fun fn => !(fn.name == "runtime.NumGoroutine")) = true) (hm : P.follows .mixedOrders = true) {lf d : Nat} {f : FuncId} {v : Value} (hv : plain v = true)
    (h : (evF (envOf P 0) (drawEv (envOf P 0)) lf d (.fn f) [] H00).map (·.1) = some v) (w : World) : Calls P f #[] w fun e w' => e = .returned v ∧ Below w.heap.size w w' := by
  obtain ⟨⟨v0, H'⟩, h1, h2⟩ := map_some h
  simp only at h2
  subst h2
  have := (ev_sound (V := envOf P 0) (fun t ti h => h) (fnOf_ok hn) hm lf d).fn f [] H00 _ H' h1 w.heap.size (fun _ => none) w [] (fun g hg => absurd hg (Nat.not_lt_zero g)) (HRel.start P w) .nil
  exact this.mono fun e w' ⟨v', ι', he, hr, hs⟩ => ⟨by rw [he, hr.plain_eq hv], hs.below⟩

/-! ### Laid package-level variables -/
def flatA (g : DataW Unit → Option (List Value)) : List (DataW Unit) → Option (List Value)
  | [] => some []
  | d :: ds => match g d, flatA g ds with
    | some v, some vs => some (v ++ vs)
    | _, _ => none
def flatF (P : Program) (g : TypeId → DataW Unit → Option (List Value)) (size : Nat) : Nat → List Field → List (DataW Unit) → Option (List Value)
  | off, [], [] => if off = size then some [] else none
  | off, f :: fs, d :: ds => if f.offset = off then match g f.type d, flatF P g size (off + P.cellsOf f.type) fs ds with
      | some v, some vs => some (v ++ vs)
      | _, _ => none
    else none
  | _, _, _ => none
/-- The cells that a datum of a type is, where it leads nowhere. -/
def flatT (P : Program) : Nat → TypeId → DataW Unit → Option (List Value)
  | 0, _, _ => none
  | fuel + 1, t, d => match P.underlying t, d with
    | some .bool, .lit (.bool b) => some [.bool b]
    | some (.int _), .lit (.int k z) => some [.int k z]
    | some .string, .lit (.string s) => some [.string ⟨s.toArray⟩]
    | some (.slice _), .nil => some [.slice none 0 0]
    | some (.struct fs), .agg ds => flatF P (flatT P fuel) (P.cellsOf t) 0 fs.toList ds
    | some (.array n e), .agg ds => if ds.length = n ∧ P.cellsOf t = n * P.cellsOf e then flatA (flatT P fuel e) ds else none
    | _, _ => none

section
variable {P : Program} {w : World} {base : Nat} {sp : Nat → Bool} {held : Bool} {enc : TypeId × Value → Unit}
def FlatOk (enc : TypeId × Value → Unit) (P : Program) (w : World) (base : Nat) (sp : Nat → Bool) (held : Bool) (g : TypeId → DataW Unit → Option (List Value)) : Prop :=
  ∀ t d vs, g t d = some vs → ∀ fuel' cs p, DataW.trod enc P w base sp held fuel' t cs = some (d, p) → cs = vs

theorem flatA_ok {g : TypeId → DataW Unit → Option (List Value)} (hg : FlatOk enc P w base sp held g) {e : TypeId} : ∀ (ds : List (DataW Unit)) (vs : List Value), flatA (g e) ds = some vs → ∀ cs : List Value, cs.length = ds.length * P.cellsOf e →
    (∀ (i : Nat) (d : DataW Unit), ds[i]? = some d → ∃ fuel' p, DataW.trod enc P w base sp held fuel' e ((cs.drop (i * P.cellsOf e)).take (P.cellsOf e)) = some (d, p)) → cs = vs
  | [], vs, h, cs, hl, _ => by simp [flatA] at h; subst h; exact List.length_eq_zero_iff.1 (by simpa using hl)
  | d :: ds, vs, h, cs, hl, ht => by
    simp only [flatA] at h
    split at h
    · rename_i v vs' h1 h2
      cases h
      obtain ⟨f0, p0, h0⟩ := ht 0 d (by simp)
      have e1 := hg _ _ _ h1 f0 _ p0 (by simpa using h0)
      have e2 := flatA_ok hg ds _ h2 (cs.drop (P.cellsOf e)) (by simp at hl ⊢; rw [hl, Nat.add_mul]; omega) fun i d' hd => by
        obtain ⟨f1, p1, h1⟩ := ht (i + 1) d' (by simpa using hd)
        refine ⟨f1, p1, ?_⟩
        rw [List.drop_drop, ← h1]
        congr 3
        rw [Nat.add_mul]; omega
      rw [← e1, ← e2, List.take_append_drop]
    · cases h

theorem flatF_ok {g : TypeId → DataW Unit → Option (List Value)} (hg : FlatOk enc P w base sp held g) {size : Nat} : ∀ (fs : List Field) (ds : List (DataW Unit)) (off : Nat) (vs : List Value), flatF P g size off fs ds = some vs → ∀ cs : List Value, cs.length = size →
    (∀ (i : Nat) (f : Field) (d : DataW Unit), fs[i]? = some f → ds[i]? = some d → ∃ fuel' p, DataW.trod enc P w base sp held fuel' f.type ((cs.drop f.offset).take (P.cellsOf f.type)) = some (d, p)) → cs.drop off = vs
  | [], [], off, vs, h, cs, hl, _ => by
    simp only [flatF] at h
    split at h
    · cases h; exact List.drop_eq_nil_iff.2 (by omega)
    · cases h
  | [], d :: ds, off, vs, h, cs, hl, ht => by simp [flatF] at h
  | f :: fs, [], off, vs, h, cs, hl, ht => by simp [flatF] at h
  | f :: fs, d :: ds, off, vs, h, cs, hl, ht => by
    simp only [flatF] at h
    split at h
    · rename_i ho
      split at h
      · rename_i v vs' h1 h2
        cases h
        obtain ⟨f0, p0, h0⟩ := ht 0 f d (by simp) (by simp)
        have e1 := hg _ _ _ h1 f0 _ p0 h0
        have e2 := flatF_ok hg fs ds _ _ h2 cs hl fun i f' d' hf hd => ht (i + 1) f' d' (by simpa using hf) (by simpa using hd)
        rw [← e1, ← e2, ho, ← List.drop_drop, List.take_append_drop]
      · cases h
    · cases h

theorem flat_ok : ∀ fuel, FlatOk enc P w base sp held (flatT P fuel)
  | 0 => fun t d vs h => by simp [flatT] at h
  | fuel + 1 => fun t d vs h fuel' cs p ht => by
    have ih := flat_ok fuel
    cases fuel' with
    | zero => simp [DataW.trod] at ht
    | succ fuel' =>
      unfold flatT at h
      split at h
      · rename_i b hu
        simp only [DataW.trod, hu] at ht
        split at ht <;> simp_all
      · rename_i k0 k z hu
        simp only [DataW.trod, hu] at ht
        split at ht <;> simp_all
      · rename_i b hu
        simp only [DataW.trod, hu] at ht
        split at ht
        all_goals try (simp_all; done)
        simp at ht
        cases h
        rw [← ht.2.1]
      · rename_i hu
        simp only [DataW.trod, hu] at ht
        split at ht
        all_goals try (simp_all; done)
        split at ht
        · simp only [Option.bind_eq_some_iff, Option.map_eq_some_iff] at ht
          obtain ⟨_, _, _, _, e⟩ := ht
          simp at e
        · cases ht
      · rename_i fs ds hu
        simp only [DataW.trod, hu] at ht
        split at ht
        · rename_i hl
          obtain ⟨xs, hm, hx⟩ := Option.map_eq_some_iff.1 ht
          have hds : xs.map (·.1) = ds := by have := congrArg Prod.fst hx; simpa using this
          have := flatF_ok ih _ _ _ _ h cs hl fun i f d hf hd => by
            obtain ⟨b, hb, hb2⟩ := Lib.mapM_at hm i f hf
            rw [← hds] at hd
            simp only [List.getElem?_map, hb, Option.map_some, Option.some.injEq] at hd
            exact ⟨fuel', b.2, by rw [hb2, ← hd]⟩
          simpa using this
        · cases ht
      · rename_i n e ds hu
        split at h
        · rename_i hn
          simp only [DataW.trod, hu] at ht
          split at ht
          · rename_i hl
            obtain ⟨xs, hm, hx⟩ := Option.map_eq_some_iff.1 ht
            have hds : xs.map (·.1) = ds := by have := congrArg Prod.fst hx; simpa using this
            refine flatA_ok ih _ _ h cs (by rw [hl, hn.2, hn.1]) fun i d hd => ?_
            have hi : i < n := by have := (List.getElem?_eq_some_iff.1 hd).1; omega
            obtain ⟨b, hb, hb2⟩ := Lib.mapM_at hm i i (by simp [hi])
            rw [← hds] at hd
            simp only [List.getElem?_map, hb, Option.map_some, Option.some.injEq] at hd
            exact ⟨fuel', b.2, by rw [hb2, ← hd]⟩
          · cases ht
        · cases h
      · cases h
end

theorem laid_row {P : Program} {W : World} {n : String} {d : DataW Unit} {g : Nat} {t : TypeId} {vs : List Value} (hg : P.globalNamed n = some g) (ht : (P.globals[g]?).map (·.type) = some t) (hf : flatT P 100 t d = some vs) :
    ∀ {laid : List (String × DataW Unit)} {ps : List MemPlace}, DataW.LaidVars P W laid ps → (n, d) ∈ laid → ∃ cs t' fr, W.heap[g]? = some (.cells cs t' fr) ∧ cs.toList = vs
  | [], ps, _, hm => (nomatch hm)
  | (n', d') :: laid, ps, h, hm => by
    obtain ⟨g', t', cs, fuel, p, q, h1, h2, h3, h4, h5, h6⟩ := h
    rcases List.mem_cons.1 hm with e | hm
    · cases e
      rw [hg] at h1; cases h1
      rw [ht] at h2; cases h2
      unfold World.var? at h3
      rw [hg] at h3
      simp only [Option.bind_some] at h3
      split at h3
      · rename_i cs' t0 fr0 hw
        cases h3
        exact ⟨cs, t0, fr0, hw, flat_ok 100 _ _ _ hf _ _ _ h4⟩
      · cases h3
    · exact laid_row hg ht hf h5 hm

theorem laidMet_row {P : Program} {W : World} {n : String} {d : DataW Unit} {g : Nat} {t : TypeId} {vs : List Value} {laid : List (String × DataW Unit)} (h : laidMet P laid W) (hm : (n, d) ∈ laid) (hg : P.globalNamed n = some g) (ht : (P.globals[g]?).map (·.type) = some t) (hf : flatT P 100 t d = some vs) :
    ∃ cs t' fr, W.heap[g]? = some (.cells cs t' fr) ∧ cs.toList = vs :=
  let ⟨_, h1, _⟩ := h
  laid_row hg ht hf h1 hm

/-- The heap that a call with laid variables starts from. -/
def startT : List AObj → Nat → PTree AObj → PTree AObj
  | [], _, t => t
  | o :: os, i, t => startT os (i + 1) (t.set i o)
def startH (rows : List AObj) : AH := ⟨startT rows 0 .leaf, rows.length, .leaf⟩

theorem startT_get : ∀ (os : List AObj) (i : Nat) (T : PTree AObj) (t : Nat), (startT os i T).get t = if i ≤ t ∧ t < i + os.length then os[t - i]? else T.get t
  | [], i, T, t => by simp [startT]; omega
  | v :: vs, i, T, t => by
    simp only [startT, startT_get vs (i + 1) (T.set i v) t, PTree.get_set, List.length_cons]
    by_cases e : t = i
    · subst e
      rw [if_neg (by omega), if_pos rfl, if_pos (by omega)]
      simp
    · by_cases h : i + 1 ≤ t ∧ t < i + 1 + vs.length
      · rw [if_pos h, if_pos (by omega), show t - i = (t - (i + 1)) + 1 by omega]
        simp
      · rw [if_neg h, if_neg e, if_neg (by omega)]

theorem startH_obj (rows : List AObj) (b : Nat) : (startH rows).obj b = (rows[b]?).getD .dead := by
  unfold startH AH.obj
  rw [startT_get]
  by_cases h : b < rows.length
  · rw [if_pos (by omega)]; simp
  · rw [if_neg (by omega), List.getElem?_eq_none (by omega)]; rfl

/-- What a laid row asks of the world. -/
def RowIn (w : World) (g : Nat) : AObj → Prop
  | .row _ cells .ro 0 0 => (∀ v, v ∈ cells → plain v = true) ∧ ∃ cs t fr, w.heap[g]? = some (.cells cs t fr) ∧ cs.toList = cells
  | .dead => True
  | _ => False

def startE (P : Program) (rows : List AObj) : Emb := fun g => match rows[g]? with
  | some (.row et cells _ _ _) => some ⟨g, 0, cells.length, P.cellsOf et⟩
  | some _ => some ⟨g, 0, 0, 0⟩
  | none => none

theorem startE_blk {P : Program} {rows : List AObj} {b : Nat} {l : ILoc} (h : startE P rows b = some l) : b < rows.length ∧ l.blk = b ∧ l.base = 0 := by
  unfold startE at h
  split at h
  · rename_i hr; cases h; exact ⟨(List.getElem?_eq_some_iff.1 hr).1, rfl, rfl⟩
  · rename_i hr; cases h; exact ⟨(List.getElem?_eq_some_iff.1 (by assumption)).1, rfl, rfl⟩
  · cases h

theorem HRel.laid (P : Program) (w : World) (rows : List AObj) (hr : ∀ g o, rows[g]? = some o → RowIn w g o) : HRel P w.heap.size (startE P rows) (startH rows) w where
  base := Nat.le_refl _
  dom b l h := (startE_blk h).1
  obj b l h ha := by
    obtain ⟨h1, h2, h3⟩ := startE_blk h
    rw [startH_obj] at ha ⊢
    have ho : rows[b]? = some rows[b] := by simp [h1]
    have hi := hr b _ ho
    rw [ho] at ha ⊢
    simp only [Option.getD_some] at ha ⊢
    unfold startE at h
    rw [ho] at h
    generalize rows[b] = o at ha hi h ⊢
    cases o with
    | row et cells st g v =>
      cases st <;> try exact hi.elim
      cases g with
      | succ g => exact hi.elim
      | zero =>
        cases v with
        | succ v => exact hi.elim
        | zero =>
          simp only [Option.some.injEq] at h
          subst h
          obtain ⟨hp, cs, t, fr, hw, hc⟩ := hi
          have hlt : b < w.heap.size := (Array.getElem?_eq_some_iff.1 hw).1
          refine ⟨⟨cs, t, fr, hw, by rw [← hc]; simp, fun i x hx => ?_, fun e => (nomatch e)⟩, by simp, rfl, fun e => absurd rfl e, fun _ => hlt, fun e => (nomatch e)⟩
          rw [← hc] at hx
          refine ⟨x, by simpa using hx, VRel.of_plain (hp x ?_)⟩
          rw [← hc]
          exact List.mem_of_getElem? hx
    | dead => trivial
    | map es bs ck => exact hi.elim
    | mapIter m si se la => exact hi.elim
    | strIter s p => exact hi.elim
    | loop => exact hi.elim
  sep b b' l l' hne h h' _ _ he := by
    have := (startE_blk h).2.1
    have := (startE_blk h').2.1
    omega
  grp b l et cells st g v h ho := by
    obtain ⟨h1, _, _⟩ := startE_blk h
    rw [startH_obj] at ho
    have ho' : rows[b]? = some rows[b] := by simp [h1]
    have hi := hr b _ ho'
    rw [ho'] at ho
    simp only [Option.getD_some] at ho
    rw [ho] at hi
    cases st <;> try exact hi.elim
    cases g with
    | succ g => exact hi.elim
    | zero => cases v with
      | succ v => exact hi.elim
      | zero => exact ⟨by show 0 < rows.length; omega, Nat.zero_le _⟩

/-- A closed call, the package-level variables laid. -/
theorem laid_calls {P : Program} (hn : (P.funcs.toList.all fun fn => !(fn.name == "runtime.NumGoroutine")) = true) (hm : P.follows .mixedOrders = true) {rows : List AObj} {w : World} (hr : ∀ g o, rows[g]? = some o → RowIn w g o) {lf d : Nat} {f : FuncId} {v : Value} (hv : plain v = true)
    (h : (evF (envOf P rows.length) (drawEv (envOf P rows.length)) lf d (.fn f) [] (startH rows)).map (·.1) = some v) : Calls P f #[] w fun e w' => e = .returned v ∧ Below w.heap.size w w' := by
  obtain ⟨⟨v0, H'⟩, h1, h2⟩ := map_some h
  simp only at h2
  subst h2
  have hG : GOk (startE P rows) (envOf P rows.length).nG := fun g hg => by
    have hg' : g < rows.length := hg
    cases hs : startE P rows g with
    | some l => exact ⟨l, rfl, (startE_blk hs).2⟩
    | none =>
      unfold startE at hs
      rw [show rows[g]? = some rows[g] by simp [hg']] at hs
      split at hs <;> simp_all
  have := (ev_sound (V := envOf P rows.length) (fun t ti h => h) (fnOf_ok hn) hm lf d).fn f [] (startH rows) _ H' h1 w.heap.size (startE P rows) w [] hG (HRel.laid P w rows hr) .nil
  exact this.mono fun e w' ⟨v', ι', he, hr, hs⟩ => ⟨by rw [he, hr.plain_eq hv], hs.below⟩

open Go.ChangeShapes in
/-- What a call that turns nothing old owes to its row. -/
theorem post_below {H : Type} {enc : TypeId × Value → H} {P : Program} {f : Func} {s : ChangeSpec} {apart fresh handsOn again : Bool} {W W' : World} {args : Array Value} {v : Value} {ds gs : List (DataW H)} {before pa pv : List MemPlace}
    (hW : DataW.Whole enc P f.params.toList s.vars apart W args.toList ds gs before) (hb : Below W.heap.size W W')
    (hres : ∀ (b : Nat) (sp : Nat → Bool) (hd : Bool), DataW.TrodAll enc P W' b sp hd f.resultTypes.toList (v.resultList f.resultTypes.size) (s.fn H (ds ++ gs)).results [])
    (hargs : ∀ sp : Nat → Bool, (∀ p ∈ before, sp p.block = true) → DataW.TrodAll enc P W' 0 sp true f.params.toList args.toList (s.fn H (ds ++ gs)).args pa)
    (hvars : ∀ sp : Nat → Bool, (∀ p ∈ before, sp p.block = true) → DataW.TrodVars enc P W' sp s.vars (s.fn H (ds ++ gs)).vars pv)
    (hps : before = pa ++ pv)
    (hok : ∀ (j : Nat) (t : TypeId) (r : Value), f.resultTypes[j]? = some t → (v.resultList f.resultTypes.size)[j]? = some r → Value.okWide P W' .any 0 t r) :
    s.post enc P f apart fresh handsOn again W args v W' := by
  have hold : ∀ p ∈ before, (fun b => decide (b < W.heap.size)) p.block = true := fun p hp => by simpa using hW.lt p hp
  have hlt : ∀ p ∈ before, p.block < W.heap.size := fun p hp => hW.lt p hp
  refine ⟨ds, gs, before, [], pa, pv, hW, hres _ _ _, hargs _ hold, hvars _ hold, hb.frame _, fun _ => ?_⟩
  obtain ⟨_, _, _, _, _, hz, hn⟩ := hW
  refine ⟨hok, _, _, ([] ++ pa) ++ pv, ⟨[] ++ pa, pv, trodAll_append (hargs _ (fun _ _ => rfl)) (hres _ _ _), hvars _ (fun _ _ => rfl), rfl, ?_, ?_⟩, ?_⟩
  · intro b off hp
    have hp' : MemPlace.cell b off ∈ before := by rw [hps]; simpa using hp
    rw [hb.frozen (p := ⟨b, off, none⟩) (hlt _ hp')]
    exact hz b off hp'
  · intro ha
    have := hn ha
    rw [hps] at this
    simpa using this
  · intro p hp _
    rw [hps]
    simpa using hp
end Go.Ev
