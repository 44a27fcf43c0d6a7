/-
  EV, kernel, part a: a quick check of the order in which a region that draws is run; what need not be looked at twice.
-/
import Derived.Test.YtikjlppcnmalnaaGreatDoorEvZ
namespace Go.Ev
open Go.RowKit

variable {V : Env} {call : CallFn} {n : Nat} {ops : Array Oper}

/-! ### The order, checked quickly -/
def ordGo (ops : Array Oper) (ms : List Nat) : List Nat → Nat → Nat → Option Nat
  | [], done, _ => some done
  | i :: σ, done, bigs => match ops[i]? with
    | none => none
    | some o => if done.testBit i = false ∧ Nat.land done (ms.getD i 0) = ms.getD i 0 ∧ Nat.land (ms.getD i 0) bigs = bigs then
        ordGo ops ms σ (done ||| 2 ^ i) (if cls o.op = .big then bigs ||| 2 ^ i else bigs)
      else none

def wtab : List Oper → Nat → PTree Nat → Option (PTree Nat)
  | [], _, t => some t
  | o :: os, i, t => match o.dst with
    | none => wtab os (i + 1) t
    | some d => match t.get d with
      | none => wtab os (i + 1) (t.set d i)
      | some _ => none

def rdOk (ms : List Nat) (tab : PTree Nat) (j : Nat) : List Tmp → Bool
  | [] => true
  | t :: ts => (match tab.get t with
    | none => true
    | some i => Nat.beq i j || anc ms i j || anc ms j i) && rdOk ms tab j ts

def rdsOk (ops : Array Oper) (ms : List Nat) (tab : PTree Nat) : List Oper → Nat → Bool
  | [], _ => true
  | o :: os, j => rdOk ms tab j (o.looksAt ops) && rdsOk ops ms tab os (j + 1)

def ordFast (ops : Array Oper) (σ : List Nat) : Bool :=
  let ms := masks ops.toList []
  (match ordGo ops ms σ 0 0 with
  | some d => Nat.beq d (2 ^ ops.size - 1)
  | none => false) &&
  (match wtab ops.toList 0 .leaf with
  | some tab => rdsOk ops ms tab ops.toList 0
  | none => false)

theorem land_sub {a b : Nat} (h : Nat.land a b = b) {i : Nat} (hi : b.testBit i = true) : a.testBit i = true := by
  have h' : a &&& b = b := h
  rw [← h'] at hi
  simp only [Nat.testBit_and, Bool.and_eq_true] at hi
  exact hi.1
theorem land_sub' {a b : Nat} (h : Nat.land b a = a) {i : Nat} (hi : a.testBit i = true) : b.testBit i = true := by
  have h' : b &&& a = a := h
  rw [← h'] at hi
  simp only [Nat.testBit_and, Bool.and_eq_true] at hi
  exact hi.1

theorem bit_or (d i j : Nat) : (d ||| 2 ^ i).testBit j = true ↔ d.testBit j = true ∨ j = i := by
  simp only [Nat.testBit_or, Bool.or_eq_true, Nat.testBit_two_pow, decide_eq_true_eq]
  exact ⟨fun h => h.imp id Eq.symm, fun h => h.imp id Eq.symm⟩

theorem ordGo_ok {ms : List Nat} : ∀ {σ : List Nat} {done bigs d : Nat}, ordGo ops ms σ done bigs = some d →
    σ.Nodup ∧ (∀ i, i ∈ σ → done.testBit i = false ∧ i < ops.size) ∧ (∀ i, d.testBit i = true ↔ done.testBit i = true ∨ i ∈ σ) ∧
    (∀ (k j i : Nat), σ[k]? = some j → (ms.getD j 0).testBit i = true → done.testBit i = true ∨ i ∈ σ.take k) ∧
    (∀ (k j : Nat), σ[k]? = some j → (∀ i, bigs.testBit i = true → (ms.getD j 0).testBit i = true) ∧ (∀ k1 i o, k1 < k → σ[k1]? = some i → ops[i]? = some o → cls o.op = .big → (ms.getD j 0).testBit i = true))
  | [], done, bigs, d, h => by
    simp [ordGo] at h; subst h
    simp
  | x :: σ, done, bigs, d, h => by
    simp only [ordGo] at h
    split at h
    · cases h
    · rename_i o ho
      split at h
      · rename_i hc
        obtain ⟨c1, c2, c3⟩ := hc
        obtain ⟨i1, i2, i3, i4, i5⟩ := ordGo_ok h
        have hx : x < ops.size := (Array.getElem?_eq_some_iff.1 ho).1
        have hd : ∀ i, (done ||| 2 ^ x).testBit i = false → done.testBit i = false ∧ i ≠ x := fun i hi => by
          constructor
          · cases hb : done.testBit i with
            | false => rfl
            | true => rw [(bit_or done x i).2 (.inl hb)] at hi; cases hi
          · intro e; rw [(bit_or done x i).2 (.inr e)] at hi; cases hi
        refine ⟨List.nodup_cons.2 ⟨fun hm => (hd x (i2 x hm).1).2 rfl, i1⟩, fun i hi => ?_, fun i => ?_, fun k j i hk hm => ?_, fun k j hk => ?_⟩
        · rcases List.mem_cons.1 hi with rfl | hi
          · exact ⟨c1, hx⟩
          · exact ⟨(hd i (i2 i hi).1).1, (i2 i hi).2⟩
        · rw [i3 i, bit_or, List.mem_cons, or_assoc]
        · cases k with
          | zero =>
            simp at hk; subst hk
            exact .inl (land_sub c2 hm)
          | succ k =>
            have := i4 k j i (by simpa using hk) hm
            rw [bit_or] at this
            rcases this with (h | h) | h
            · exact .inl h
            · exact .inr (by simp [h])
            · exact .inr (by simp [h])
        · cases k with
          | zero =>
            simp at hk; subst hk
            exact ⟨fun i hi => land_sub' c3 hi, fun k1 i o h1 => by omega⟩
          | succ k =>
            obtain ⟨j1, j2⟩ := i5 k j (by simpa using hk)
            refine ⟨fun i hi => j1 i ?_, fun k1 i o' h1 h2 h3 h4 => ?_⟩
            · split
              · exact (bit_or _ _ _).2 (.inl hi)
              · exact hi
            · cases k1 with
              | zero =>
                simp at h2; subst h2
                rw [ho] at h3; cases h3
                refine j1 _ ?_
                rw [if_pos h4]
                exact (bit_or _ _ _).2 (.inr rfl)
              | succ k1 => exact j2 k1 i o' (by omega) (by simpa using h2) h3 h4
      · cases h

theorem wtab_ok : ∀ {os : List Oper} {s : Nat} {t tab : PTree Nat}, wtab os s t = some tab → (∀ d i, t.get d = some i → tab.get d = some i) ∧ (∀ j o d, os[j]? = some o → o.dst = some d → tab.get d = some (s + j))
  | [], s, t, tab, h => by simp [wtab] at h; subst h; simp
  | o :: os, s, t, tab, h => by
    simp only [wtab] at h
    split at h
    · rename_i hd
      obtain ⟨i1, i2⟩ := wtab_ok h
      refine ⟨i1, fun j p d hj hp => ?_⟩
      cases j with
      | zero => simp at hj; subst hj; rw [hd] at hp; cases hp
      | succ j => rw [show s + (j + 1) = s + 1 + j by omega]; exact i2 j p d (by simpa using hj) hp
    · rename_i d0 hd
      split at h
      · rename_i hn
        obtain ⟨i1, i2⟩ := wtab_ok h
        refine ⟨fun d i hdi => i1 d i ?_, fun j p d hj hp => ?_⟩
        · rw [PTree.get_set]
          split
          · rename_i e; subst e; rw [hn] at hdi; cases hdi
          · exact hdi
        · cases j with
          | zero => simp at hj; subst hj; rw [hd] at hp; cases hp; exact i1 _ _ (by simp)
          | succ j => rw [show s + (j + 1) = s + 1 + j by omega]; exact i2 j p d (by simpa using hj) hp
      · cases h

theorem rdOk_ok {ms : List Nat} {tab : PTree Nat} {j : Nat} : ∀ {ts : List Tmp}, rdOk ms tab j ts = true → ∀ t i, t ∈ ts → tab.get t = some i → i = j ∨ anc ms i j = true ∨ anc ms j i = true
  | [], _, t, i, ht, _ => by cases ht
  | u :: ts, h, t, i, ht, hi => by
    simp only [rdOk, Bool.and_eq_true] at h
    rcases List.mem_cons.1 ht with rfl | ht
    · have h1 := h.1
      rw [hi] at h1
      simp only [Bool.or_eq_true] at h1
      rcases h1 with (h1 | h1) | h1
      · exact .inl (Nat.eq_of_beq_eq_true h1)
      · exact .inr (.inl h1)
      · exact .inr (.inr h1)
    · exact rdOk_ok h.2 t i ht hi

theorem rdsOk_ok {ms : List Nat} {tab : PTree Nat} : ∀ {os : List Oper} {s : Nat}, rdsOk ops ms tab os s = true → ∀ j o, os[j]? = some o → rdOk ms tab (s + j) (o.looksAt ops) = true
  | [], s, _, j, o, h => by simp at h
  | p :: os, s, h, j, o, ho => by
    simp only [rdsOk, Bool.and_eq_true] at h
    cases j with
    | zero => simp at ho; subst ho; exact h.1
    | succ j => rw [show s + (j + 1) = s + 1 + j by omega]; exact rdsOk_ok h.2 j o (by simpa using ho)

theorem mask_mono (acc : List Nat) (i : Nat) : ∀ (es : List Edge) (s : Nat), s.testBit i = true → (es.foldl (fun s e => if Region.binds .any e then s ||| (2 ^ e.on ||| acc.getD e.on 0) else s) s).testBit i = true
  | [], s, h => h
  | e :: es, s, h => by
    simp only [List.foldl_cons]
    refine mask_mono acc i es _ ?_
    split
    · simp [Nat.testBit_or, h]
    · exact h
theorem mask_edge (acc : List Nat) : ∀ (es : List Edge) (s : Nat) (e : Edge), e ∈ es → Region.binds .any e = true → (es.foldl (fun s e => if Region.binds .any e then s ||| (2 ^ e.on ||| acc.getD e.on 0) else s) s).testBit e.on = true
  | [], s, e, h, _ => by cases h
  | x :: es, s, e, h, hb => by
    simp only [List.foldl_cons]
    rcases List.mem_cons.1 h with rfl | h
    · refine mask_mono acc _ es _ ?_
      rw [if_pos hb]
      simp [Nat.testBit_or]
    · exact mask_edge acc es _ e h hb

theorem anc_edge {j : Nat} {o : Oper} (ho : ops[j]? = some o) {e : Edge} (he : e ∈ o.after) (hb : Region.binds .any e = true) : anc (masks ops.toList []) e.on j = true := by
  obtain ⟨acc', h1, h2, h3⟩ := masks_new ops.toList [] j o (by simpa using ho)
  simp only [List.length_nil, Nat.zero_add] at h3
  unfold anc
  rw [h3]
  exact mask_edge acc' _ 0 e (by simpa using he) hb

theorem idxOf_mem : ∀ {l : List Nat} {x : Nat}, x ∈ l → l[l.idxOf x]? = some x
  | [], x, h => by cases h
  | y :: l, x, h => by
    rw [List.idxOf_cons]
    by_cases e : y = x
    · subst e; simp
    · have : (y == x) = false := by simpa using e
      rw [this]
      simp only [cond_false, List.getElem?_cons_succ]
      exact idxOf_mem ((List.mem_cons.1 h).resolve_left (Ne.symm e))

theorem ordFast_ord {σ : List Nat} (h : ordFast ops σ = true) : Ord ops σ := by
  unfold ordFast at h
  rw [Bool.and_eq_true] at h
  obtain ⟨ha, hb⟩ := h
  split at ha
  · rename_i d hd
    have hd' := Nat.eq_of_beq_eq_true ha
    obtain ⟨h1, h2, h3, h4, h5⟩ := ordGo_ok hd
    split at hb
    · rename_i tab htab
      obtain ⟨_, w2⟩ := wtab_ok htab
      have hlt : ∀ {k1 k2 i j : Nat}, σ[k1]? = some i → σ[k2]? = some j → σ.idxOf i = k1 ∧ σ.idxOf j = k2 := fun a b => ⟨idxOf_at h1 a, idxOf_at h1 b⟩
      have hall : ∀ i, i < ops.size → i ∈ σ := fun i hi => by
        have := (h3 i).1 (by rw [hd', Nat.testBit_two_pow_sub_one]; simpa using hi)
        simpa using this
      refine ⟨h1, fun i hi => (h2 i hi).2, hall, fun j o ho e he hbd => ?_, fun i j o hi hj ho hc hlt' => ?_, fun i j o p t hi hj ho hp hne hdst => ?_⟩
      · have hj := hall j (Array.getElem?_eq_some_iff.1 ho).1
        have hm := h4 (σ.idxOf j) j e.on (idxOf_mem hj) (anc_edge ho he hbd)
        rcases hm with hm | hm
        · simp at hm
        · obtain ⟨k, hk2⟩ := List.mem_iff_getElem?.1 hm
          rw [List.getElem?_take] at hk2
          split at hk2
          · rename_i hlt2
            rw [idxOf_at h1 hk2]; exact hlt2
          · cases hk2
      · exact (h5 (σ.idxOf j) j (idxOf_mem hj)).2 (σ.idxOf i) i o hlt' (idxOf_mem hi) ho hc
      · have hwi := w2 i o t (by simpa using ho) hdst
        simp only [Nat.zero_add] at hwi
        refine ⟨fun hpd => ?_, fun ht => ?_⟩
        · have hwj := w2 j p t (by simpa using hp) hpd
          rw [hwi] at hwj
          simp at hwj
          exact hne hwj
        · have hr := rdsOk_ok hb j p (by simpa using hp)
          simp only [Nat.zero_add] at hr
          rcases rdOk_ok hr t i ht hwi with e | e | e
          · exact absurd e hne
          · exact .inl e
          · exact .inr e
    · cases hb
  · cases ha

/-! ### What looks at no memory -/
def heapLook (V : Env) : Op → Bool
  | .load .. | .lookup .. => true
  | .slice t _ _ _ _ => match V.E t with
    | some ⟨.string, _, _, _⟩ => false
    | _ => true
  | .call ⟨.builtin .len, _, ts⟩ => match ts.toList with
    | [t] => match V.E t with
      | some ⟨.slice _, _, _, _⟩ => false
      | some ⟨.string, _, _, _⟩ => false
      | _ => true
    | _ => true
  | .convert _ d _ => match V.E d with
    | some ⟨.int _, _, _, _⟩ => false
    | _ => true
  | _ => false

theorem convert_any {P : Program} {E : TypeId → Option TI} {H : AH} {s d : TypeId} {x v : Value} {H' : AH} {k : IntKind} {a b : Nat} {z : Value} (hd : E d = some ⟨.int k, a, b, z⟩) (h : aConvert P E H s d x = some (v, H')) (H2 : AH) : aConvert P E H2 s d x = some (v, H2) := by
  have fin : ∀ {x : Option Value}, x.map (·, H) = some (v, H') → x.map (·, H2) = some (v, H2) := fun {x} hx => by
    obtain ⟨u, h1, h2⟩ := map_some hx
    cases h2; rw [h1]; rfl
  unfold aConvert at h ⊢
  rw [hd] at h ⊢
  split at h
  · split at h
    · rename_i h2; cases h2
    · cases h
  · split at h
    · rename_i h2; cases h2
    · cases h
  · split at h
    · rename_i h2; cases h2
    · exact fin h
  · exact fin h

theorem look_any {o : Op} (hc : cls o = .look) (hl : heapLook V o = false) {T : PTree Value} {H : AH} {v : Value} {H' : AH} (h : aop V T H o = some (v, H')) (H2 : AH) : aop V T H2 o = some (v, H2) := by
  have fin : ∀ {x : Option Value}, x.map (·, H) = some (v, H') → x.map (·, H2) = some (v, H2) := fun {x} hx => by
    obtain ⟨u, h1, h2⟩ := map_some hx
    cases h2; rw [h1]; rfl
  unfold aop at h ⊢
  split at h
  case _ => exact fin h
  case _ => exact fin h
  case _ => split at h
            · exact fin h
            · cases h
  case _ => simp [cls] at hc
  case _ => simp [cls] at hc
  case _ => split at h
            · exact fin h
            · cases h
  case _ => simp [cls] at hc
  case _ => simp [heapLook] at hl
  case _ => simp [cls] at hc
  case _ => split at h <;> first | (cases h; rfl) | cases h
  case _ => split at h
            · exact fin h
            · cases h
  case _ => split at h
            · exact fin h
            · cases h
  case _ =>
    split at h
    · rename_i u hu
      simp only [heapLook] at hl
      split at hl
      · rename_i hE
        exact convert_any hE h H2
      · cases hl
    · cases h
  case _ => split at h
            · split at h
              · cases h
              · cases h; rfl
            · cases h
  case _ => split at h <;> first | (cases h; rfl) | cases h
  case _ => simp [cls] at hc
  case _ => simp [cls] at hc
  case _ t x lo hi mx =>
    split at h
    · rename_i u l hh m h1 h2 h3 h4
      simp only [heapLook] at hl
      split at hl
      · rename_i hE
        unfold aSlice at h ⊢
        rw [hE] at h ⊢
        exact fin h
      · cases hl
    · cases h
  case _ => split at h
            · exact fin h
            · cases h
  case _ => split at h
            · exact fin h
            · cases h
  case _ => split at h
            · exact fin h
            · cases h
  case _ => split at h
            · exact fin h
            · cases h
  case _ => simp [heapLook] at hl
  case _ => simp [cls] at hc
  case _ => simp [cls] at hc
  case _ => split at h
            · exact fin h
            · cases h
  case _ => simp [cls] at hc
  case _ => simp [cls] at hc
  case _ => simp [cls] at hc
  case _ => simp [cls] at hc
  case _ b args ts =>
    split at h
    · rename_i vs hvs
      unfold aBuiltin at h ⊢
      split at h
      · rename_i t x hts
        simp only [heapLook, hts] at hl
        split at hl
        · rename_i hE
          unfold aLen at h ⊢
          rw [hE] at h ⊢
          obtain ⟨u, h1, h2⟩ := map_some h
          cases h2
          cases x <;> simp at h1 <;> simp [h1]
        · rename_i hE
          unfold aLen at h ⊢
          rw [hE] at h ⊢
          obtain ⟨u, h1, h2⟩ := map_some h
          cases h2
          cases x <;> simp at h1 <;> simp [h1]
        · cases hl
      · simp [cls] at hc
      · simp [cls] at hc
      · simp [cls] at hc
      · simp [cls] at hc
      · exact fin h
      · exact fin h
      · split at h
        · split at h
          · cases h; rename_i hE hlt; simp [hlt]
          · cases h
        · cases h
      · cases h
    · cases h
  case _ => cases h

/-! ### What is made is made alike -/
theorem create_same {o : Op} (hc : cls o = .create) (T : PTree Value) (H : AH) : (match aCreate V T o with
      | some (mk, ob) => some (mk H.next, H.alloc ob)
      | none => none) = evOp V call T H o := by
  unfold cls at hc
  split at hc
  all_goals try cases hc
  · simp only [aCreate, evOp, aop]
    cases V.E _ <;> rfl
  · simp only [aCreate, evOp, aop]
    cases oval V.nG T _ <;> rfl
  · rename_i t nn ps
    simp only [aCreate, evOp, aop]
    cases oparts V.nG T ps.toList with
    | none => rfl
    | some vs =>
      simp only [aBuildSlice]
      rcases V.E t with _ | ⟨d, sz, by_, zv⟩
      · rfl
      · cases d <;> try rfl
        rename_i e
        simp only
        cases V.E e with
        | none => rfl
        | some te =>
          simp only
          by_cases h : 16777216 < nn * te.size ∨ unk ≤ nn
          · simp only [if_pos h]
          · simp only [if_neg h]
            cases afill (fun i => some (i * te.size, te.size)) (azeros te.zv.cells.toList nn) vs <;> rfl
  · rename_i t l c
    simp only [aCreate, evOp, aop]
    cases oval V.nG T l with
    | none => rfl
    | some u =>
      cases oval V.nG T c with
      | none => cases u <;> rfl
      | some x =>
        simp only [aMakeSlice]
        cases u <;> cases x <;> try rfl
        rename_i k1 n1 k2 n2
        simp only
        rcases V.E t with _ | ⟨d, sz, by_, zv⟩
        · rfl
        · cases d <;> try rfl
          rename_i e
          simp only
          cases V.E e with
          | none => rfl
          | some te =>
            simp only
            by_cases h : 0 ≤ n1 ∧ n1 ≤ n2 ∧ n2.toNat * te.bytes ≤ 140737488355328 ∧ n2 < 4611686018427387904
            · simp only [if_pos h]
            · simp only [if_neg h]
  · rfl

theorem stepOp_ev {T : PTree Value} {H : AH} {o : Oper} (hn : noAlloc V o.op = true) : stepOp V call ops T H o = if aSeen ops T o then if aWanted ops T o then evOp V call T H o.op else some (undef, H) else none := by
  unfold stepOp
  simp only [hn, if_true]
  split
  · split
    · split
      · rename_i hc
        unfold evOp
        split
        · rename_i heq; rw [heq] at hc; simp [cls] at hc
        · rfl
      · rename_i hc; exact create_same hc T H
      · rfl
    · rfl
  · rfl

theorem runSeq_evOps : ∀ {σ : List Nat} {l : List Oper} {T : PTree Value} {H : AH} {Tf : PTree Value} {Hf : AH}, (∀ o ∈ l, noAlloc V o.op = true) → σ.map (ops[·]?) = l.map some → evOps V call n ops l T H = some (Tf, Hf) → ∃ R, runSeq V call n ops σ T H = some (R, Tf, Hf)
  | [], l, T, H, Tf, Hf, _, hl, h => by
    cases l with
    | nil => simp [evOps] at h; obtain ⟨rfl, rfl⟩ := h; exact ⟨[], rfl⟩
    | cons o l => simp at hl
  | i :: σ, l, T, H, Tf, Hf, hna, hl, h => by
    cases l with
    | nil => simp at hl
    | cons o l =>
      simp only [List.map_cons, List.cons.injEq] at hl
      obtain ⟨ho, hl⟩ := hl
      have hna' := fun o' ho' => hna o' (List.mem_cons_of_mem _ ho')
      simp only [evOps] at h
      unfold runSeq
      rw [ho]
      simp only [stepOp_ev (hna o (by simp))]
      split at h
      case isFalse => cases h
      rename_i hseen
      rw [if_pos hseen]
      split at h
      · rename_i hw
        rw [if_pos hw]
        split at h
        · rename_i v H1 hev
          try rw [hev]
          try simp only
          split at h
          · rename_i T1 hp
            try rw [hp]
            obtain ⟨R, hR⟩ := runSeq_evOps hna' hl h
            exact ⟨_, by simp only [hR]; rfl⟩
          · cases h
        · cases h
      · rename_i hw
        rw [if_neg hw]
        try simp only
        split at h
        · rename_i T1 hp
          try rw [hp]
          obtain ⟨R, hR⟩ := runSeq_evOps hna' hl h
          exact ⟨_, by simp only [hR]; rfl⟩
        · cases h

/-! ### What looks on finds the same when more has been made -/
structure Grows (H K : AH) : Prop where
  next : H.next ≤ K.next
  obj : ∀ b, b < H.next → K.obj b = H.obj b
  ver : ∀ g, K.ver g = H.ver g

theorem Grows.refl (H : AH) : Grows H H := ⟨Nat.le_refl _, fun _ _ => rfl, fun _ => rfl⟩
theorem Grows.lo {H K : AH} (h : Grows H K) {b : Nat} {o : AObj} (ho : H.lo b = o) (hd : o ≠ .dead) : K.lo b = o := by
  obtain ⟨h1, h2⟩ := AH.lo_of ho hd
  rw [AH.lo_lt (Nat.lt_of_lt_of_le h1 h.next), h.obj b h1, h2]
theorem Grows.alive {H K : AH} (h : Grows H K) (o : AObj) : K.alive o = H.alive o := by
  cases o <;> simp [AH.alive, h.ver]
theorem Grows.rd {H K : AH} (h : Grows H K) {b off n : Nat} {vs : List Value} (hr : H.rd b off n = some vs) : K.rd b off n = some vs := by
  unfold AH.rd at hr ⊢
  split at hr
  · rename_i et cells st g v ho
    rw [h.lo ho (by simp)]
    simp only [h.alive]
    exact hr
  · cases hr
theorem Grows.rowOf {H K : AH} (h : Grows H K) {b : Nat} {e : TypeId} {vs : List Value} (hr : H.rowOf b e = some vs) : K.rowOf b e = some vs := by
  unfold AH.rowOf at hr ⊢
  split at hr
  · rename_i et cells st g v ho
    rw [h.lo ho (by simp)]
    simp only [h.alive]
    exact hr
  · cases hr
theorem Grows.load {H K : AH} (h : Grows H K) {E : TypeId → Option TI} {t : TypeId} {p v : Value} (hl : aLoad E H t p = some v) : aLoad E K t p = some v := by
  unfold aLoad at hl ⊢
  split at hl
  · rename_i b off
    split at hl
    · rename_i ti _
      split at hl
      · rename_i hagg
        rw [if_pos hagg]
        obtain ⟨u, h1, h2⟩ := map_some hl
        rw [h.rd h1]; exact congrArg some h2
      · rename_i hagg
        rw [if_neg hagg]
        split at hl
        · rename_i u hu; rw [h.rd hu]; exact hl
        · cases hl
    · cases hl
  · cases hl
theorem Grows.lookup {H K : AH} (h : Grows H K) {E : TypeId → Option TI} {t : TypeId} {m k v : Value} {ok : Bool} (hl : aLookup E H t m k ok = some v) : aLookup E K t m k ok = some v := by
  unfold aLookup at hl ⊢
  cases m with
  | map r =>
    cases r with
    | none => exact hl
    | some b =>
      simp only at hl ⊢
      cases ho : H.lo b with
      | map es bs ck => rw [ho] at hl; rw [h.lo ho (by simp)]; exact hl
      | _ =>
        exfalso
        rw [ho] at hl
        split at hl
        · split at hl
          · split at hl <;> cases hl
          · cases hl
        · cases hl
  | _ => exact hl
theorem Grows.lookupS {H K : AH} (h : Grows H K) {P : Program} {E : TypeId → Option TI} {t : TypeId} {m k v : Value} {ok : Bool} (hl : aLookupS P E H t m k ok = some v) : aLookupS P E K t m k ok = some v := by
  unfold aLookupS at hl ⊢
  cases m with
  | map r =>
    cases r with
    | none => exact hl
    | some b =>
      simp only at hl ⊢
      cases ho : H.lo b with
      | map es bs ck => rw [ho] at hl; rw [h.lo ho (by simp)]; exact hl
      | _ =>
        exfalso
        rw [ho] at hl
        split at hl
        · split at hl
          · split at hl <;> cases hl
          · cases hl
        · cases hl
  | _ => exact hl
theorem Grows.lookupX {H K : AH} (h : Grows H K) {P : Program} {E : TypeId → Option TI} {t : TypeId} {m k v : Value} {ok : Bool} (hl : aLookupX P E H t m k ok = some v) : aLookupX P E K t m k ok = some v := by
  unfold aLookupX at hl ⊢
  split at hl <;> rename_i hs
  · rw [if_pos hs]; exact h.lookupS hl
  · rw [if_neg hs]; exact h.lookup hl
theorem Grows.len {H K : AH} (h : Grows H K) {E : TypeId → Option TI} {t : TypeId} {x v : Value} (hl : aLen E H t x = some v) : aLen E K t x = some v := by
  unfold aLen at hl ⊢
  split at hl
  · rename_i ti _
    split at hl
    · exact hl
    · exact hl
    · exact hl
    · rename_i b hd
      split at hl
      · rename_i es ho
        rw [h.lo ho (by simp)]
        exact hl
      · cases hl
    · exact hl
    · cases hl
  · cases hl
theorem Grows.slice {H K : AH} (h : Grows H K) {E : TypeId → Option TI} {t : TypeId} {x v : Value} {lo hi mx : Option Value} (hl : aSlice E H t x lo hi mx = some v) : aSlice E K t x lo hi mx = some v := by
  unfold aSlice at hl ⊢
  split at hl
  · exact hl
  · rename_i e _ _ _ _
    split at hl
    · cases hl
    · split at hl
      · exact hl
      · rename_i b off len cap
        split at hl
        · cases hl
        · rename_i hq
          rw [if_neg hq]
          split at hl
          · rename_i hc
            rw [if_pos hc]
            split at hl
            · cases hl
            · rename_i hz
              rw [if_neg hz]
              cases hr : H.rowOf b e with
              | none => rw [hr] at hl; cases hl
              | some cells => rw [hr] at hl; rw [h.rowOf hr]; exact hl
          · rename_i hc; rw [if_neg hc]; exact hl
      · cases hl
  · exact hl
  · cases hl

theorem Grows.convert {H K : AH} (h : Grows H K) {s d : TypeId} {x : Operand} (hn : noAlloc V (.convert s d x) = true) {y v : Value} {H' : AH} (hl : aConvert V.P V.E H s d y = some (v, H')) : aConvert V.P V.E K s d y = some (v, K) := by
  have fin : ∀ {x : Option Value}, x.map (·, H) = some (v, H') → x.map (·, K) = some (v, K) := fun {x} hx => by
    obtain ⟨u, h1, h2⟩ := map_some hx
    cases h2; rw [h1]; rfl
  unfold aConvert at hl ⊢
  split at hl
  · split at hl
    · split at hl
      · cases hl; rfl
      · cases hl
    · cases hl
  · split at hl
    · split at hl
      · split at hl
        · rename_i h0; rw [if_pos h0]; cases hl; rfl
        · rename_i h0
          rw [if_neg h0]
          split at hl
          · rename_i vs hv
            rw [h.rd hv]
            simp only
            split at hl
            · cases hl; rfl
            · cases hl
          · cases hl
      · cases hl
    · cases hl
  · split at hl
    · rename_i e _ _ _ h1 h2
      simp only [noAlloc, h2] at hn
      cases hn
    · exact fin hl
  · exact fin hl

theorem look_grows {o : Op} (hc : cls o = .look) (hn : noAlloc V o = true) {T : PTree Value} {H : AH} {v : Value} {H' : AH} (h : aop V T H o = some (v, H')) {K : AH} (hg : Grows H K) : aop V T K o = some (v, K) := by
  cases hl : heapLook V o with
  | false => exact look_any hc hl h K
  | true =>
    unfold heapLook at hl
    split at hl
    · rename_i t a
      simp only [aop] at h ⊢
      split at h
      · obtain ⟨u, h1, h2⟩ := map_some h
        cases h2
        rw [hg.load h1]; rfl
      · cases h
    · rename_i t m i ok
      simp only [aop] at h ⊢
      split at h
      · obtain ⟨u, h1, h2⟩ := map_some h
        cases h2
        rw [hg.lookupX h1]; rfl
      · cases h
    · rename_i t x lo hi mx
      simp only [aop] at h ⊢
      split at h
      · obtain ⟨u, h1, h2⟩ := map_some h
        cases h2
        rw [hg.slice h1]; rfl
      · cases h
    · rename_i args ts
      simp only [aop] at h ⊢
      split at h
      · rename_i vs hvs
        clear hl hvs
        generalize ts.toList = tl at h ⊢
        rcases tl with _ | ⟨t, _ | ⟨t2, tl⟩⟩ <;> rcases vs with _ | ⟨x, _ | ⟨y, yl⟩⟩ <;> simp only [aBuiltin] at h ⊢ <;> try (cases h; done)
        obtain ⟨u, h1, h2⟩ := map_some h
        cases h2
        rw [hg.len h1]; rfl
      · cases h
    · rename_i s d x
      simp only [aop] at h ⊢
      split at h
      · rename_i u hu
        exact hg.convert hn h
      · cases h
    · cases hl

/-- Is the first big operation behind one that does not wait for it? -/
def needAt (ms : List Nat) (i : Nat) : List (Nat × Oper) → Bool
  | [] => false
  | (j, p) :: os => match cls p.op with
    | .big => !anc ms i j
    | _ => needAt ms i os
/-- Must anything be looked at again? (Only where memory is looked at, and what may write need not wait for it.) -/
def needLook (V : Env) (ms : List Nat) : List (Nat × Oper) → Bool
  | [] => false
  | (i, o) :: os => (match cls o.op with
    | .look => heapLook V o.op && needAt ms i os
    | _ => false) || needLook V ms os

theorem noNeedAt {ms : List Nat} {i : Nat} : ∀ {l : List (Nat × Oper)}, needAt ms i l = false → ∀ (m j : Nat) (p : Oper), l[m]? = some (j, p) → cls p.op = .big → (∀ (m' j' : Nat) (p' : Oper), m' < m → l[m']? = some (j', p') → cls p'.op ≠ .big) → anc ms i j = true
  | [], _, m, j, p, h, _, _ => by simp at h
  | (j', p') :: l, h, m, j, p, hp, hb, hno => by
    simp only [needAt] at h
    cases m with
    | zero =>
      simp at hp
      obtain ⟨rfl, rfl⟩ := hp
      rw [hb] at h
      simpa using h
    | succ m =>
      have hn := hno 0 j' p' (by omega) (by simp)
      have h' : needAt ms i l = false := by
        split at h
        · rename_i e; exact absurd e hn
        · exact h
      exact noNeedAt h' m j p (by simpa using hp) hb fun m' j2 p2 hm hp2 => hno (m' + 1) j2 p2 (by omega) (by simpa using hp2)

theorem noNeed {ms : List Nat} : ∀ {l : List (Nat × Oper)}, needLook V ms l = false → ∀ (k i : Nat) (o : Oper), l[k]? = some (i, o) → cls o.op = .look → heapLook V o.op = true → needAt ms i (l.drop (k + 1)) = false
  | [], _, k, i, o, h, _, _ => by simp at h
  | (i', o') :: l, h, k, i, o, ho, hc, hh => by
    simp only [needLook, Bool.or_eq_false_iff] at h
    cases k with
    | zero =>
      simp at ho
      obtain ⟨rfl, rfl⟩ := ho
      have h1 := h.1
      rw [hc, hh] at h1
      simpa using h1
    | succ k => simpa using noNeed h.2 k i o (by simpa using ho) hc hh

/-- The operations in the order chosen. -/
def opersOf (ops : Array Oper) : List Nat → Option (List Oper)
  | [] => some []
  | i :: σ => match ops[i]?, opersOf ops σ with
    | some o, some l => some (o :: l)
    | _, _ => none
theorem opersOf_ok : ∀ {σ : List Nat} {l : List Oper}, opersOf ops σ = some l → σ.map (ops[·]?) = l.map some
  | [], l, h => by simp [opersOf] at h; subst h; rfl
  | i :: σ, l, h => by
    simp only [opersOf] at h
    split at h
    · rename_i o l' h1 h2
      cases h
      simp [h1, opersOf_ok h2]
    · cases h

/-- What is known of a region ahead of its run: nothing, or the operations in order and whether what was looked at must be looked at again. -/
def planOf (V : Env) (ops : Array Oper) : Option (Bool × List Oper) :=
  match orderOf ops with
  | σ => if ordFast ops σ then match opersOf ops σ with
      | some l => if l.all (fun o => noAlloc V o.op) then some (needLook V (masks ops.toList []) (σ.zip l), l) else none
      | none => none
    else none

/-- A region that draws, run quickly. -/
def drawX (V : Env) : CallFn → Nat → Array Oper → PTree Value → AH → Option (PTree Value × AH) := fun call n ops T H =>
  match planOf V ops with
  | some (false, l) => evOps V call n ops l T H
  | some (true, _) => match runSeq V call n ops (orderOf ops) T H with
    | some (rs, Tf, Hf) => if lookAll V ops (masks ops.toList []) Hf rs then some (Tf, Hf) else none
    | none => none
  | none => none

theorem drawX_ran {T : PTree Value} {H : AH} {T' : PTree Value} {H' : AH} (h : drawX V call n ops T H = some (T', H')) : ∃ R, Ran V call n ops (orderOf ops) T H R T' H' := by
  unfold drawX planOf at h
  simp only at h
  split at h
  · rename_i l hp
    split at hp
    · rename_i hok
      obtain ⟨hl, hna, hneed⟩ : opersOf ops (orderOf ops) = some l ∧ (∀ o ∈ l, noAlloc V o.op = true) ∧ needLook V (masks ops.toList []) ((orderOf ops).zip l) = false := by
        split at hp
        · rename_i l' hl
          split at hp
          · rename_i hall
            simp only [Option.some.injEq, Prod.mk.injEq] at hp
            obtain ⟨h1, rfl⟩ := hp
            exact ⟨hl, fun o ho => List.all_eq_true.1 hall o ho, h1⟩
          · cases hp
        · cases hp
      obtain ⟨R, hR⟩ := runSeq_evOps hna (opersOf_ok hl) h
      have hord := ordFast_ord hok
      have hids := runSeq_len hR
      have hstep := runSeq_step hR
      have hzero := runSeq_zero hR
      refine ⟨R, hord, hids, hzero, hstep, fun k nb r o hr ho hc hw hlt hle hbig hno => ?_⟩
      obtain ⟨o', ho', hs, _, _⟩ := hstep k r hr
      rw [ho] at ho'; cases ho'
      have hev : aop V r.T r.H o.op = some (r.v, r.H') := by
        have hsn := stepOp_seen hs
        unfold stepOp at hs
        rw [if_pos hsn, if_pos hw, hc] at hs
        simp only at hs
        split at hs
        · exact hs
        · cases hs
      have hn1 : noAlloc V o.op = true := by
        have hsn := stepOp_seen hs
        unfold stepOp at hs
        rw [if_pos hsn, if_pos hw, hc] at hs
        simp only at hs
        split at hs
        · assumption
        · cases hs
      have hpairs : ∀ (k : Nat) (r : Rec) (o : Oper), R[k]? = some r → ops[r.i]? = some o → ((orderOf ops).zip l)[k]? = some (r.i, o) := fun k r o hr ho => by
        have h1 : (orderOf ops)[k]? = some r.i := by rw [← hids]; simp [hr]
        have h2 := congrArg (·[k]?) (opersOf_ok hl)
        simp only [List.getElem?_map, h1, Option.map_some, ho] at h2
        rw [List.getElem?_zip_eq_some]
        refine ⟨h1, ?_⟩
        cases hlk : l[k]? with
        | none => rw [hlk] at h2; cases h2
        | some p => rw [hlk] at h2; simp at h2; rw [h2]
      cases hh : heapLook V o.op with
      | false => exact look_any hc hh hev _
      | true =>
        have hna := noNeed hneed k r.i o (hpairs k r o hr ho) hc hh
        -- no big one lies between
        have hnone : ∀ (m : Nat) (q : Rec), k < m → m < nb → R[m]? = some q → bigAt ops q = false := by
          intro m
          induction m using Nat.strongRecOn with
          | _ m ih =>
            intro q hkm hmn hq
            cases hb : bigAt ops q with
            | false => rfl
            | true =>
              obtain ⟨oq, hoq, _⟩ := hstep m q hq
              have ha := noNeedAt hna (m - (k + 1)) q.i oq (by rw [List.getElem?_drop, show k + 1 + (m - (k + 1)) = m by omega]; exact hpairs m q oq hq hoq) ((bigAt_iff hoq).1 hb) fun m' j' p' hm' hp' hbig' => by
                rw [List.getElem?_drop] at hp'
                have hlt : k + 1 + m' < R.length := by have := (List.getElem?_eq_some_iff.1 hq).1; omega
                have hq' : R[k + 1 + m']? = some R[k + 1 + m'] := by simp [hlt]
                obtain ⟨oq', hoq', _⟩ := hstep _ _ hq'
                have := hpairs _ _ _ hq' hoq'
                rw [hp'] at this
                simp only [Option.some.injEq, Prod.mk.injEq] at this
                have hb' := ih (k + 1 + m') (by omega) _ (by omega) (by omega) hq'
                rw [(bigAt_iff hoq').2 (by rw [← this.2]; exact hbig')] at hb'
                cases hb'
              rw [hno m q hkm hmn hq hb] at ha
              cases ha
        have hgrow : ∀ d, k + 1 + d ≤ nb → Grows r.H (Hat R H' (k + 1 + d)) := fun d => by
          induction d with
          | zero =>
            intro _
            obtain ⟨o2, ho2, hs2, _, hH⟩ := hstep k r hr
            rw [Nat.add_zero, hH, look_same hc hn1 hev]
            exact Grows.refl _
          | succ d ih =>
            intro hd
            have hlt2 : k + 1 + d < R.length := by omega
            have hr2 : R[k + 1 + d]? = some R[k + 1 + d] := by simp [hlt2]
            obtain ⟨o2, ho2, hs2, _, hH⟩ := hstep (k + 1 + d) R[k + 1 + d] hr2
            have hnb := hnone (k + 1 + d) _ (by omega) (by omega) hr2
            have hc2 : cls o2.op ≠ .big := fun e => by rw [(bigAt_iff ho2).2 e] at hnb; cases hnb
            have hHk : (R[k + 1 + d]).H = Hat R H' (k + 1 + d) := by simp [Hat, hlt2]
            have hg := ih (by omega)
            rw [← hHk] at hg
            rw [show k + 1 + (d + 1) = k + 1 + d + 1 by omega, hH]
            rcases small_step hc2 hs2 with e | ⟨mk, ob, _, _, _, _, e⟩
            · rw [e]; exact hg
            · rw [e]
              refine ⟨by have := hg.next; simp; omega, fun b hb => ?_, fun g => by simpa using hg.ver g⟩
              rw [AH.obj_alloc, if_neg (by have := hg.next; omega)]
              exact hg.obj b hb
        have := hgrow (nb - (k + 1)) (by omega)
        rw [show k + 1 + (nb - (k + 1)) = nb by omega] at this
        exact look_grows hc hn1 hev this
    · cases hp
  · rename_i l hp
    split at hp
    · rename_i hok
      split at h
      · rename_i R Tf Hf hrun
        split at h
        · rename_i hl
          cases h
          exact ⟨R, ordFast_ord hok, runSeq_len hrun, runSeq_zero hrun, runSeq_step hrun, fun k nb r o hr ho hc hw => looks_of_all hl k nb r o hr ho hc (by
            obtain ⟨o', ho', hs, _⟩ := runSeq_step hrun k r hr
            rw [ho] at ho'; cases ho'
            have hsn := stepOp_seen hs
            unfold stepOp at hs
            rw [if_pos hsn, if_pos hw, hc] at hs
            simp only at hs
            split at hs
            · assumption
            · cases hs) hw⟩
        · cases h
      · cases h
    · cases hp
  · cases h

theorem drawX_ok (hE : TOk V.E V.P) (hF : FOk V.F V.P) (hm : V.P.follows .mixedOrders = true) : DrawOk V (drawX V) := by
  intro call hc ro n ds ops id B0 ι T H a w T' H' hT hn hd hG hR he Q hQ
  obtain ⟨R, h⟩ := drawX_ran he
  exact ran_wp hE hF hm hc ro id hT hn hd hG hR h Q hQ

theorem evX_sound (hE : TOk V.E V.P) (hF : FOk V.F V.P) (hm : V.P.follows .mixedOrders = true) (lf d : Nat) : CallOk V (evF V (drawX V) lf d) :=
  evF_ok (drawX V) hE hF (drawX_ok hE hF hm) lf d
end Go.Ev
