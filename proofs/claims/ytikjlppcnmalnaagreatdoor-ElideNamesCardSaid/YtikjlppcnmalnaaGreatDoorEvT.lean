/-
  EV, part T: the run of a region in the chosen order; what each operation looks at.
-/
import Derived.Test.YtikjlppcnmalnaaGreatDoorEvS
namespace Go.Ev
open Go.RowKit

variable {B0 : Nat} {ι : Emb} {H H' : AH} {w : World} {T T' : PTree Value} {V : Env} {call : CallFn}

/-- Does an operation that looks make nothing? (A conversion to a slice does.) -/
def noAlloc (V : Env) : Op → Bool
  | .convert _ d _ => match V.E d with
    | some ⟨.slice _, _, _, _⟩ => false
    | some _ => true
    | none => false
  | _ => true

/-- One operation of the run. -/
def stepOp (V : Env) (call : CallFn) (ops : Array Oper) (T : PTree Value) (H : AH) (o : Oper) : Option (Value × AH) :=
  if aSeen ops T o then
    if aWanted ops T o then
      match cls o.op with
      | .look => if noAlloc V o.op then aop V T H o.op else none
      | .create => match aCreate V T o.op with
        | some (mk, ob) => some (mk H.next, H.alloc ob)
        | none => none
      | .big => evOp V call T H o.op
    else some (undef, H)
  else none

structure Rec where
  i : Nat
  T : PTree Value
  H : AH
  v : Value
  H' : AH

def runSeq (V : Env) (call : CallFn) (n : Nat) (ops : Array Oper) : List Nat → PTree Value → AH → Option (List Rec × PTree Value × AH)
  | [], T, H => some ([], T, H)
  | i :: σ, T, H => match ops[i]? with
    | some o => match stepOp V call ops T H o with
      | some (v, H') => match put n T o.dst v with
        | some T' => match runSeq V call n ops σ T' H' with
          | some (rs, Tf, Hf) => some (⟨i, T, H, v, H'⟩ :: rs, Tf, Hf)
          | none => none
        | none => none
      | none => none
    | none => none

/-! ### What looks on alone changes nothing -/
theorem map_fst_same {o : Option Value} {v : Value} {H H' : AH} (h : o.map (·, H) = some (v, H')) : H' = H := by
  obtain ⟨x, _, h2⟩ := map_some h
  cases h2; rfl

theorem convert_noAlloc {P : Program} {E : TypeId → Option TI} {H H' : AH} {s d : TypeId} {x v : Value} {td : TI} (hd : E d = some td) (hn : ∀ e, td.desc ≠ .slice e) (h : aConvert P E H s d x = some (v, H')) : H' = H := by
  unfold aConvert at h
  split at h
  · split at h
    · split at h
      · cases h; rfl
      · cases h
    · cases h
  · split at h
    · split at h
      · split at h
        · cases h; rfl
        · split at h
          · split at h
            · cases h; rfl
            · cases h
          · cases h
      · cases h
    · cases h
  · split at h
    · rename_i e _ _ _ h1 h2
      rw [hd] at h2; cases h2
      exact absurd rfl (hn _)
    · exact map_fst_same h
  · exact map_fst_same h
theorem noAlloc_same {s d : TypeId} {x : Operand} (hn : noAlloc V (.convert s d x) = true) {y v : Value} (h : aConvert V.P V.E H s d y = some (v, H')) : H' = H := by
  simp only [noAlloc] at hn
  split at hn
  · cases hn
  · rename_i td hne hd
    refine convert_noAlloc hd (fun e he => ?_) h
    obtain ⟨ds, a, b, c⟩ := td
    simp only at he
    subst he
    exact hne _ _ _ _ rfl
  · cases hn

theorem look_same {o : Op} {v : Value} (hc : cls o = .look) (hn : noAlloc V o = true) (h : aop V T H o = some (v, H')) : H' = H := by
  unfold aop at h
  split at h
  case _ => exact map_fst_same h
  case _ => exact map_fst_same h
  case _ => split at h
            · exact map_fst_same h
            · cases h
  case _ => simp [cls] at hc
  case _ => simp [cls] at hc
  case _ => split at h
            · exact map_fst_same h
            · cases h
  case _ => simp [cls] at hc
  case _ => split at h
            · exact map_fst_same h
            · cases h
  case _ => simp [cls] at hc
  case _ => split at h <;> first | (cases h; rfl) | cases h
  case _ => split at h
            · exact map_fst_same h
            · cases h
  case _ => split at h
            · exact map_fst_same h
            · cases h
  case _ => split at h
            · exact noAlloc_same hn h
            · cases h
  case _ => split at h
            · split at h
              · cases h
              · cases h; rfl
            · cases h
  case _ => split at h <;> first | (cases h; rfl) | cases h
  case _ => simp [cls] at hc
  case _ => simp [cls] at hc
  case _ => split at h
            · exact map_fst_same h
            · cases h
  case _ => split at h
            · exact map_fst_same h
            · cases h
  case _ => split at h
            · exact map_fst_same h
            · cases h
  case _ => split at h
            · exact map_fst_same h
            · cases h
  case _ => split at h
            · exact map_fst_same h
            · cases h
  case _ => split at h
            · exact map_fst_same h
            · cases h
  case _ => simp [cls] at hc
  case _ => simp [cls] at hc
  case _ => split at h
            · exact map_fst_same h
            · cases h
  case _ => simp [cls] at hc
  case _ => simp [cls] at hc
  case _ => simp [cls] at hc
  case _ => simp [cls] at hc
  case _ b args ts =>
    split at h
    · unfold aBuiltin at h
      split at h
      · exact map_fst_same h
      · simp [cls] at hc
      · simp [cls] at hc
      · simp [cls] at hc
      · simp [cls] at hc
      · exact map_fst_same h
      · exact map_fst_same h
      · split at h
        · split at h
          · cases h; rfl
          · cases h
        · cases h
      · cases h
    · cases h
  case _ => cases h

/-! ### What an operation looks at -/
def Agree (ops : Array Oper) (o : Oper) (T T2 : PTree Value) : Prop := ∀ t, t ∈ o.looksAt ops → T.get t = T2.get t

theorem oval_agree {nG : Nat} {T T2 : PTree Value} {x : Operand} (h : ∀ t, x = .tmp t → T.get t = T2.get t) : oval nG T x = oval nG T2 x := by
  cases x with
  | tmp t => simp [oval, h t rfl]
  | _ => rfl

theorem ovals_agree {nG : Nat} {T T2 : PTree Value} : ∀ {xs : List Operand}, (∀ t, Operand.tmp t ∈ xs → T.get t = T2.get t) → ovals nG T xs = ovals nG T2 xs
  | [], _ => rfl
  | x :: xs, h => by
    simp only [ovals]
    rw [oval_agree (T2 := T2) fun t e => h t (by simp [e]), ovals_agree (T2 := T2) fun t e => h t (by simp [e])]

theorem oparts_agree {nG : Nat} {T T2 : PTree Value} : ∀ {xs : List (Nat × Operand)}, (∀ t, Operand.tmp t ∈ xs.map (·.2) → T.get t = T2.get t) → oparts nG T xs = oparts nG T2 xs
  | [], _ => rfl
  | (i, x) :: xs, h => by
    simp only [oparts]
    rw [oval_agree (T2 := T2) fun t e => h t (by simp [e]), oparts_agree (T2 := T2) fun t e => h t (by simp at e ⊢; exact .inr e)]

theorem oopt_agree {nG : Nat} {T T2 : PTree Value} {x : Option Operand} (h : ∀ t, x = some (.tmp t) → T.get t = T2.get t) : oopt nG T x = oopt nG T2 x := by
  cases x with
  | none => rfl
  | some x => simp only [oopt]; rw [oval_agree (T2 := T2) fun t e => h t (by rw [e])]

theorem mem_looksAt {ops : Array Oper} {o : Oper} {t : Tmp} (h : Operand.tmp t ∈ o.op.operands.toList) : t ∈ o.looksAt ops :=
  List.mem_append_left _ (List.mem_filterMap.2 ⟨.tmp t, h, rfl⟩)

theorem aop_agree {ops : Array Oper} {o : Oper} {T T2 : PTree Value} (h : Agree ops o T T2) (H : AH) : aop V T H o.op = aop V T2 H o.op := by
  have h' : ∀ t, Operand.tmp t ∈ o.op.operands.toList → T.get t = T2.get t := fun t ht => h t (mem_looksAt ht)
  clear h
  generalize o.op = op at h'
  cases op with
  | call c =>
    obtain ⟨cal, args, ts⟩ := c
    cases cal with
    | builtin b =>
      simp only [aop]
      rw [ovals_agree (T2 := T2) fun t e => h' t (by simp [Op.operands, Call.operands]; exact Array.mem_toList_iff.1 e)]
    | _ => rfl
  | build t ps =>
    simp only [aop]
    rw [oparts_agree (T2 := T2) fun t e => h' t (by simpa [Op.operands] using e)]
  | buildSlice t n ps =>
    simp only [aop]
    rw [oparts_agree (T2 := T2) fun t e => h' t (by simpa [Op.operands] using e)]
  | makeFunc fn first cap =>
    cases fn with
    | func f =>
      simp only [aop]
      rw [ovals_agree (T2 := T2) (xs := first.toList) fun t e => h' t (by simp [Op.operands]; exact .inl (Array.mem_toList_iff.1 e)), ovals_agree (T2 := T2) (xs := cap.toList) fun t e => h' t (by simp [Op.operands]; exact .inr (Array.mem_toList_iff.1 e))]
    | _ => rfl
  | slice t x lo hi mx =>
    simp only [aop]
    rw [oval_agree (T2 := T2) (x := x) fun t e => h' t (by simp [Op.operands, e]), oopt_agree (T2 := T2) (x := lo) fun t e => h' t (by simp [Op.operands, e]), oopt_agree (T2 := T2) (x := hi) fun t e => h' t (by simp [Op.operands, e]),
      oopt_agree (T2 := T2) (x := mx) fun t e => h' t (by simp [Op.operands, e])]
  | pick c a b =>
    simp only [aop]
    rw [oval_agree (T2 := T2) (x := c) fun t e => h' t (by simp [Op.operands, e])]
    split
    · rename_i t _
      rw [oval_agree (T2 := T2) fun t' e => h' t' (by cases t <;> simp [Op.operands] at e ⊢ <;> simp [e])]
    · rfl
  | move x => simp only [aop]; rw [oval_agree (T2 := T2) (x := x) fun t e => h' t (by simp [Op.operands, e])]
  | assign x => simp only [aop]; rw [oval_agree (T2 := T2) (x := x) fun t e => h' t (by simp [Op.operands, e])]
  | box t x => simp only [aop]; rw [oval_agree (T2 := T2) (x := x) fun t e => h' t (by simp [Op.operands, e])]
  | load t x => simp only [aop]; rw [oval_agree (T2 := T2) (x := x) fun t e => h' t (by simp [Op.operands, e])]
  | nilCheck x => simp only [aop]; rw [oval_agree (T2 := T2) (x := x) fun t e => h' t (by simp [Op.operands, e])]
  | unOp op t x => simp only [aop]; rw [oval_agree (T2 := T2) (x := x) fun t e => h' t (by simp [Op.operands, e])]
  | convert s d x => simp only [aop]; rw [oval_agree (T2 := T2) (x := x) fun t e => h' t (by simp [Op.operands, e])]
  | makeInterface t x => simp only [aop]; rw [oval_agree (T2 := T2) (x := x) fun t e => h' t (by simp [Op.operands, e])]
  | fieldAddr s x f => simp only [aop]; rw [oval_agree (T2 := T2) (x := x) fun t e => h' t (by simp [Op.operands, e])]
  | field t x f => simp only [aop]; rw [oval_agree (T2 := T2) (x := x) fun t e => h' t (by simp [Op.operands, e])]
  | extract x i => simp only [aop]; rw [oval_agree (T2 := T2) (x := x) fun t e => h' t (by simp [Op.operands, e])]
  | range t x => simp only [aop]; rw [oval_agree (T2 := T2) (x := x) fun t e => h' t (by simp [Op.operands, e])]
  | entry x => simp only [aop]; rw [oval_agree (T2 := T2) (x := x) fun t e => h' t (by simp [Op.operands, e])]
  | next x b => simp only [aop]; rw [oval_agree (T2 := T2) (x := x) fun t e => h' t (by simp [Op.operands, e])]
  | typeAssert x xt t ok => simp only [aop]; rw [oval_agree (T2 := T2) (x := x) fun t e => h' t (by simp [Op.operands, e])]
  | store t x y => simp only [aop]; rw [oval_agree (T2 := T2) (x := x) fun t e => h' t (by simp [Op.operands, e]), oval_agree (T2 := T2) (x := y) fun t e => h' t (by simp [Op.operands, e])]
  | binOp op t x y u => simp only [aop]; rw [oval_agree (T2 := T2) (x := x) fun t e => h' t (by simp [Op.operands, e]), oval_agree (T2 := T2) (x := y) fun t e => h' t (by simp [Op.operands, e])]
  | makeSlice t x y => simp only [aop]; rw [oval_agree (T2 := T2) (x := x) fun t e => h' t (by simp [Op.operands, e]), oval_agree (T2 := T2) (x := y) fun t e => h' t (by simp [Op.operands, e])]
  | indexAddr t x y => simp only [aop]; rw [oval_agree (T2 := T2) (x := x) fun t e => h' t (by simp [Op.operands, e]), oval_agree (T2 := T2) (x := y) fun t e => h' t (by simp [Op.operands, e])]
  | index t x y => simp only [aop]; rw [oval_agree (T2 := T2) (x := x) fun t e => h' t (by simp [Op.operands, e]), oval_agree (T2 := T2) (x := y) fun t e => h' t (by simp [Op.operands, e])]
  | lookup t x y ok => simp only [aop]; rw [oval_agree (T2 := T2) (x := x) fun t e => h' t (by simp [Op.operands, e]), oval_agree (T2 := T2) (x := y) fun t e => h' t (by simp [Op.operands, e])]
  | mapUpdate t x y z => simp only [aop]; rw [oval_agree (T2 := T2) (x := x) fun t e => h' t (by simp [Op.operands, e]), oval_agree (T2 := T2) (x := y) fun t e => h' t (by simp [Op.operands, e]), oval_agree (T2 := T2) (x := z) fun t e => h' t (by simp [Op.operands, e])]
  | makeMap t r => cases r <;> rfl
  | insert t x y z => simp only [aop]; rw [oval_agree (T2 := T2) (x := x) fun t e => h' t (by simp [Op.operands, e]), oval_agree (T2 := T2) (x := y) fun t e => h' t (by simp [Op.operands, e]), oval_agree (T2 := T2) (x := z) fun t e => h' t (by simp [Op.operands, e])]
  | _ => rfl

theorem evOp_agree {ops : Array Oper} {o : Oper} {T T2 : PTree Value} (h : Agree ops o T T2) (H : AH) : evOp V call T H o.op = evOp V call T2 H o.op := by
  have h' : ∀ t, Operand.tmp t ∈ o.op.operands.toList → T.get t = T2.get t := fun t ht => h t (mem_looksAt ht)
  have ha := aop_agree (V := V) h H
  generalize o.op = op at h' ha
  unfold evOp
  split
  · rename_i f args ts
    rw [oval_agree (T2 := T2) (x := f) fun t e => h' t (by simp [Op.operands, Call.operands, e]), ovals_agree (T2 := T2) (xs := args.toList) fun t e => h' t (by simp [Op.operands, Call.operands]; exact .inr (Array.mem_toList_iff.1 e))]
  · exact ha

theorem aCreate_agree {ops : Array Oper} {o : Oper} {T T2 : PTree Value} (h : Agree ops o T T2) : aCreate V T o.op = aCreate V T2 o.op := by
  have h' : ∀ t, Operand.tmp t ∈ o.op.operands.toList → T.get t = T2.get t := fun t ht => h t (mem_looksAt ht)
  clear h
  generalize o.op = op at h'
  cases op with
  | buildSlice t n ps =>
    simp only [aCreate]
    rw [oparts_agree (T2 := T2) fun t e => h' t (by simpa [Op.operands] using e)]
  | box t x => simp only [aCreate]; rw [oval_agree (T2 := T2) (x := x) fun t e => h' t (by simp [Op.operands, e])]
  | makeMap t r => cases r <;> rfl
  | makeSlice t x y => simp only [aCreate]; rw [oval_agree (T2 := T2) (x := x) fun t e => h' t (by simp [Op.operands, e]), oval_agree (T2 := T2) (x := y) fun t e => h' t (by simp [Op.operands, e])]
  | _ => rfl

theorem aWanted_agree {ops : Array Oper} {o : Oper} {T T2 : PTree Value} (h : Agree ops o T T2) : aWanted ops T o = aWanted ops T2 o := by
  unfold aWanted
  cases hg : o.guard with
  | none => rfl
  | some g =>
    obtain ⟨j, b⟩ := g
    simp only
    unfold aYielded
    cases hd : (ops[j]?).bind (·.dst) with
    | none => rfl
    | some d =>
      have : d ∈ o.looksAt ops := by
        refine List.mem_append_right _ ?_
        simp [hg, hd]
      simp only [h d this]

theorem aSeen_agree {ops : Array Oper} {o : Oper} {T T2 : PTree Value} (h : Agree ops o T T2) : aSeen ops T o = aSeen ops T2 o := by
  unfold aSeen
  cases hg : o.guard with
  | none => rfl
  | some g =>
    obtain ⟨j, b⟩ := g
    simp only
    cases hd : (ops[j]?).bind (·.dst) with
    | none => rfl
    | some d =>
      have : d ∈ o.looksAt ops := by
        refine List.mem_append_right _ ?_
        simp [hg, hd]
      simp only [h d this]

theorem stepOp_seen {ops : Array Oper} {T : PTree Value} {H : AH} {o : Oper} {r : Value × AH} (h : stepOp V call ops T H o = some r) : aSeen ops T o = true := by
  unfold stepOp at h
  split at h
  · assumption
  · cases h
end Go.Ev
