/-
  EV, part L: maps; parts of values; operators; conversions.
-/
import Derived.Test.YtikjlppcnmalnaaGreatDoorEvK
import Derived.WalkLawsBesides
namespace Go.Ev
open Go.RowKit

variable {P : Program} {B0 : Nat} {ι : Emb} {H H' : AH} {w : World} {E : TypeId → Option TI}

theorem bytes_beq (a b : ByteArray) : (a == b) = (a.data == b.data) := rfl
theorem bytes_eq {a b : ByteArray} (h : (a == b) = true) : a = b := by
  rw [bytes_beq, beq_iff_eq] at h
  cases a; cases b; simp_all
theorem bytes_self (a : ByteArray) : (a == a) = true := by rw [bytes_beq, beq_iff_eq]

/-! ### Maps keyed by numbers, strings and truth values -/
/-- Is a key of the kind that its type says? -/
def keyOk : TypeDesc → Value → Bool
  | .int k, .int k' _ => k = k'
  | .string, .string _ => true
  | .bool, .bool _ => true
  | _, _ => false

def sameKey : Value → Value → Bool
  | .int _ a, .int _ b => a == b
  | .string a, .string b => a == b
  | .bool a, .bool b => a == b
  | _, _ => false

def findA (k : Value) : List (Value × Value) → Nat → Option (Nat × Value)
  | [], _ => none
  | (k', v) :: es, i => if sameKey k k' then some (i, v) else findA k es (i + 1)

def entriesOk (d : TypeDesc) (es : List (Value × Value)) : Bool := es.all fun e => keyOk d e.1

theorem findA_ok {d : TypeDesc} {k : Value} (hk : keyOk d k = true) : ∀ (es : List (Value × Value)) (mes : List MapEntry) (i : Nat), ERel ι es mes → entriesOk d es = true →
    (findA k es i = none → Instr.findNow d k mes i = some none) ∧ (∀ j v, findA k es i = some (j, v) → ∃ v', Instr.findNow d k mes i = some (some (j, v')) ∧ VRel ι v v' ∧ i ≤ j ∧ (es[j - i]?).map (·.1) = some k)
  | [], mes, i, h, _ => by
    have : mes = [] := List.length_eq_zero_iff.1 (by simpa using h.len)
    subst this
    simp [findA, Instr.findNow]
  | (k', v') :: es, [], i, h, _ => by have := h.len; simp at this
  | (k', v') :: es, e :: mes, i, h, hok => by
    obtain ⟨e0, he, hp, hke, hv⟩ := h.get 0 k' v' (by simp)
    simp at he; subst he
    have ht : ERel ι es mes := ⟨by have := h.len; simpa using this, fun j a b hab => by
      have := h.get (j + 1) a b (by simpa using hab)
      simpa using this⟩
    simp only [entriesOk, List.all_cons, Bool.and_eq_true] at hok
    have ih := findA_ok hk es mes (i + 1) ht hok.2
    have hs : Instr.sameNow d k e.key = some (sameKey k k') := by
      rw [hke]
      have h1 := hok.1
      cases d <;> cases k <;> simp [keyOk] at hk <;> cases k' <;> simp [keyOk] at h1 <;> (try subst hk) <;> (try subst h1) <;> simp [Instr.sameNow, sameKey]
    simp only [findA, Instr.findNow, hs]
    by_cases hsk : sameKey k k' = true
    · rw [if_pos hsk]
      simp only [hsk]
      refine ⟨fun h => (by cases h), fun j v hj => ?_⟩
      cases hj
      refine ⟨_, rfl, hv, Nat.le_refl _, ?_⟩
      simp
      have h1 := hok.1
      cases d <;> cases k <;> simp [keyOk] at hk <;> cases k' <;> simp [keyOk] at h1 <;> simp [sameKey] at hsk <;> (try subst hk) <;> (try subst h1) <;> first | (simp [hsk]; done) | exact congrArg _ (bytes_eq hsk).symm
    · rw [if_neg hsk]
      have : sameKey k k' = false := by simpa using hsk
      simp only [this]
      refine ⟨ih.1, fun j v hj => ?_⟩
      obtain ⟨v'', a, b, c, d⟩ := ih.2 j v hj
      refine ⟨v'', a, b, by omega, ?_⟩
      rw [show j - i = (j - (i + 1)) + 1 by omega]
      simpa using d

def aLookup (E : TypeId → Option TI) (H : AH) (t : TypeId) (m k : Value) (ok : Bool) : Option Value :=
  match E t with
  | some ⟨.map kt et, _, _, _⟩ => match E kt, E et with
    | some tk, some te =>
      if keyOk tk.desc k then
        match (match m with
          | .map none => some []
          | .map (some b) => match H.lo b with
            | .map es _ _ => some es
            | _ => none
          | _ => none : Option (List (Value × Value))) with
        | some es => if entriesOk tk.desc es then
            match findA k es 0 with
            | some (_, v) => some (if ok then .tuple #[v, .bool true] else v)
            | none => if constOk te.zv then some (if ok then .tuple #[te.zv, .bool false] else te.zv) else none
          else none
        | none => none
      else none
    | _, _ => none
  | _ => none

theorem run_checkKey {d : TypeDesc} {kt : TypeId} {k : Value} (hu : P.underlying kt = some d) (hk : keyOk d k = true) (b : Bool) (w : World) : (Instr.checkKey b 10000 kt k).run P w = .ok () w := by
  unfold Instr.checkKey
  simp only [Sem.run_bind, run_underlying' hu, Result.andThen_ok]
  cases d <;> cases k <;> simp [keyOk] at hk <;> rfl

theorem aLookup_ok (hE : TOk E P) (h : HRel P B0 ι H w) {t : TypeId} {m m' k k' v : Value} {ok : Bool} (hm : VRel ι m m') (hk : VRel ι k k') (ha : aLookup E H t m k ok = some v) :
    ∃ v', (Instr.lookup t m' k' ok).run P w = .ok v' w ∧ VRel ι v v' := by
  unfold aLookup at ha
  split at ha
  · rename_i kt et sz by_ zv hti
    obtain ⟨i, hT⟩ := hE.get hti
    have hu : P.underlying t = some (.map kt et) := hT.u
    split at ha
    · rename_i tk te htk hte
      obtain ⟨ik, hTk⟩ := hE.get htk
      obtain ⟨ie, hTe⟩ := hE.get hte
      split at ha
      · rename_i hkey
        have hk' : k' = k := hk.plain_eq (by cases hd : tk.desc <;> rw [hd] at hkey <;> cases k <;> simp [keyOk] at hkey <;> rfl)
        subst hk'
        split at ha
        · rename_i es hes
          split at ha
          · rename_i heok
            have fin : ∀ mes : List MapEntry, ERel ι es mes → ∃ r, Instr.findNow tk.desc k' mes 0 = some r ∧ ∃ v', VRel ι v v' ∧
                (match r with
                  | some (_, v) => v' = (if ok then .tuple #[v, .bool true] else v)
                  | none => v' = (if ok then .tuple #[te.zv, .bool false] else te.zv)) := fun mes hER => by
              obtain ⟨f1, f2⟩ := findA_ok (ι := ι) hkey es mes 0 hER heok
              split at ha
              · rename_i j v0 hf
                cases ha
                obtain ⟨v1, g1, g2, _⟩ := f2 j v0 hf
                refine ⟨_, g1, _, ?_, rfl⟩
                cases ok
                · exact g2
                · exact VRel.tuple' (xs := [_, _]) (ys := [_, _]) (.cons g2 (.cons (.bool true) .nil))
              · rename_i hf
                split at ha
                · rename_i hc
                  cases ha
                  refine ⟨_, f1 hf, _, ?_, rfl⟩
                  cases ok
                  · exact VRel.of_constOk hc
                  · exact VRel.tuple' (xs := [_, _]) (ys := [_, _]) (.cons (VRel.of_constOk hc) (.cons (.bool false) .nil))
                · cases ha
            cases hm with
            | mapNil =>
              simp only [Option.some.injEq] at hes; subst hes
              obtain ⟨r, hr, v', hv, hm⟩ := fin [] ⟨rfl, fun i k v hx => by simp at hx⟩
              refine ⟨v', ?_, hv⟩
              cases r with
              | none => simp only at hm; simp [Instr.lookup, run_underlying' hu, run_checkKey hTk.u hkey, Instr.findKey, run_underlying' hTk.u, hr, run_zeroValue hTe, hm]
              | some r => simp [Instr.findNow] at hr
            | map hb =>
              simp only at hes
              split at hes
              · rename_i b l _ es' ho
                cases hes
                have ho := AH.lo_map ho
                have hO := h.obj _ _ hb (by rw [ho]; rfl)
                rw [ho] at hO
                obtain ⟨⟨mes, clock, h1, h2, h3, _⟩, _⟩ := hO
                obtain ⟨r, hr, v', hv, hm⟩ := fin mes.toList ⟨by simpa using h2, fun i k v hx => by simpa using h3 i k v hx⟩
                refine ⟨v', ?_, hv⟩
                cases r with
                | none => simp only at hm; simp [Instr.lookup, run_underlying' hu, getObj, Sem.run, h1, run_checkKey hTk.u hkey, Instr.findKey, run_underlying' hTk.u, hr, run_zeroValue hTe, hm]
                | some r => simp only at hm; simp [Instr.lookup, run_underlying' hu, getObj, Sem.run, h1, run_checkKey hTk.u hkey, Instr.findKey, run_underlying' hTk.u, hr, hm]
              · cases hes
            | _ => simp at hes
          · cases ha
        · cases ha
      · cases ha
    · cases ha
  · cases ha

def aMapUpdate (E : TypeId → Option TI) (H : AH) (t : TypeId) (m k v : Value) : Option AH :=
  match E t, m with
  | some ⟨.map kt _, _, _, _⟩, .map (some b) => match E kt, H.obj b with
    | some tk, .map es bs ck => if keyOk tk.desc k && entriesOk tk.desc es then
        match findA k es 0 with
        | some (j, _) => some (H.put b (.map (es.set j (k, v)) bs ck))
        | none => some (H.put b (.map (es ++ [(k, v)]) (bs ++ [ck]) (ck + 1)))
      else none
    | _, _ => none
  | _, _ => none

theorem keyOk_plain {d : TypeDesc} {k : Value} (h : keyOk d k = true) : plain k = true := by cases d <;> cases k <;> simp [keyOk] at h <;> rfl

theorem sameBits_self {d : TypeDesc} {k : Value} (h : keyOk d k = true) : Instr.sameBits 10000 k k = true := by
  cases d <;> cases k <;> simp [keyOk] at h <;> simp [Instr.sameBits]
  exact bytes_self _

theorem aMapUpdate_ok (hE : TOk E P) (h : HRel P B0 ι H w) {t : TypeId} {m m' k k' v v' : Value} (hm : VRel ι m m') (hk : VRel ι k k') (hv : VRel ι v v') (ha : aMapUpdate E H t m k v = some H') :
    ∃ w', (Instr.mapUpdate t m' k' v').run P w = .ok () w' ∧ Step P B0 ι H w ι H' w' := by
  unfold aMapUpdate at ha
  split at ha
  · rename_i kt et sz by_ zv b hti
    obtain ⟨i, hT⟩ := hE.get hti
    have hu : P.underlying t = some (.map kt et) := hT.u
    split at ha
    · rename_i tk es bs ck htk ho
      obtain ⟨ik, hTk⟩ := hE.get htk
      split at ha
      · rename_i hc
        rw [Bool.and_eq_true] at hc
        obtain ⟨hkey, heok⟩ := hc
        have hpk := keyOk_plain hkey
        have hk' : k' = k := hk.plain_eq hpk
        subst hk'
        cases hm with
        | map hb =>
          rename_i l
          have hO := h.obj b _ hb (by rw [ho]; rfl)
          rw [ho] at hO
          obtain ⟨⟨mes, clock, h1, h2, h3, h4, rfl⟩, _⟩ := hO
          have hER : ERel ι es mes.toList := ⟨by simpa using h2, fun i k v hx => by simpa using h3 i k v hx⟩
          obtain ⟨f1, f2⟩ := findA_ok (ι := ι) hkey es mes.toList 0 hER heok
          split at ha
          · rename_i j v0 hf
            cases ha
            obtain ⟨v1, g1, g2, _, g4⟩ := f2 j v0 hf
            have hkold : ((mes[j]?).map (·.key)).getD k' = k' := by
              simp only [Nat.sub_zero] at g4
              cases hes : es[j]? with
              | none => rw [hes] at g4; simp at g4
              | some kv =>
                rw [hes] at g4; simp at g4
                obtain ⟨e, he, _, hke, _⟩ := hER.get j kv.1 kv.2 hes
                simp at he
                rw [he]; simp [hke, g4]
            refine ⟨_, ?_, h.mapPut hb ho (mes' := mes.modify j fun e => { e with key := k', val := v' }) (ck' := clock) h1 ⟨by simpa using h2, fun i k v hx => ?_⟩ ?_⟩
            · have hst : (Instr.keyThatStays (((mes[j]?).map (·.key)).getD k') k').run P w = .ok k' w := by
                rw [hkold]; simp [Instr.keyThatStays, sameBits_self hkey]
              simp [Instr.mapUpdate, run_underlying' hu, getObj, setObj, Sem.run, h1, run_checkKey hTk.u hkey, Instr.findKey, run_underlying' hTk.u, g1, hst]
            · simp only [Array.getElem?_toList, Array.getElem?_modify]
              by_cases e : i = j
              · subst e
                have hlt : i < es.length := by
                  have := (List.getElem?_eq_some_iff.1 hx).1; simpa using this
                rw [List.getElem?_set_self hlt] at hx
                cases hx
                have hlt' : i < mes.size := by omega
                simp [hlt', plain_constOk hpk]
                exact hv
              · rw [List.getElem?_set_ne (Ne.symm e)] at hx
                obtain ⟨en, a, b, c, d⟩ := hER.get i k v hx
                simp only [Array.getElem?_toList] at a
                refine ⟨en, ?_, b, c, d⟩
                simp [Ne.symm e, a]
            · rw [← h4]
              apply List.ext_getElem?
              intro i
              simp only [List.getElem?_map, Array.getElem?_toList, Array.getElem?_modify]
              split
              · cases mes[i]? <;> rfl
              · rfl
          · rename_i hf
            cases ha
            refine ⟨_, ?_, h.mapPut hb ho (mes' := mes.push { key := k', val := v', born := clock }) (ck' := clock + 1) h1 ⟨by simpa using h2, fun i k v hx => ?_⟩ (by simp [h4])⟩
            · simp [Instr.mapUpdate, run_underlying' hu, getObj, setObj, Sem.run, h1, run_checkKey hTk.u hkey, Instr.findKey, run_underlying' hTk.u, f1 hf]
            · simp only [Array.getElem?_toList, Array.getElem?_push]
              by_cases e : i < es.length
              · rw [List.getElem?_append_left e] at hx
                obtain ⟨en, a, b, c, d⟩ := hER.get i k v hx
                simp only [Array.getElem?_toList] at a
                exact ⟨en, by rw [if_neg (by omega)]; exact a, b, c, d⟩
              · rw [List.getElem?_append_right (by omega)] at hx
                have hi : i = es.length := by
                  have := (List.getElem?_eq_some_iff.1 hx).1; simp at this; omega
                subst hi
                simp at hx
                obtain ⟨rfl, rfl⟩ := hx
                exact ⟨{ key := k', val := v', born := clock }, by rw [if_pos (by omega)], plain_constOk hpk, rfl, hv⟩
      · cases ha
    · cases ha
  · cases ha

/-! ### Parts of values -/
def aExtract (v : Value) (i : Nat) : Option Value :=
  match v with
  | .tuple vs => vs[i]?
  | _ => none
theorem aExtract_ok {x x' v : Value} {i : Nat} (hx : VRel ι x x') (ha : aExtract x i = some v) : ∃ v', (Instr.extract x' i).run P w = .ok v' w ∧ VRel ι v v' := by
  unfold aExtract at ha
  split at ha
  · cases hx with
    | tuple hs h =>
      obtain ⟨h1, rfl⟩ := Array.getElem?_eq_some_iff.1 ha
      refine ⟨_, ?_, h i h1 (by omega)⟩
      simp [Instr.extract]
      rw [Array.getElem?_eq_getElem (by omega)]
      rfl
  · cases ha

/-- Part of a value's cells. -/
def aPart (E : TypeId → Option TI) (t : TypeId) (cs : List Value) (off : Nat) : Option Value :=
  match E t with
  | some ti => if Desc.agg ti.desc then (if off + ti.size ≤ cs.length then some (.agg ((cs.drop off).take ti.size).toArray) else none) else cs[off]?
  | none => none
theorem aPart_ok (hE : TOk E P) {t : TypeId} {cs : List Value} {cs' : Array Value} {off : Nat} {v : Value} (hc : LRel ι cs cs'.toList) (ha : aPart E t cs off = some v) : ∃ v', (part t cs' off).run P w = .ok v' w ∧ VRel ι v v' := by
  unfold aPart at ha
  split at ha
  · rename_i ti hti
    obtain ⟨i, hT⟩ := hE.get hti
    split at ha
    · rename_i hagg
      split at ha
      · cases ha
        refine ⟨.agg (cs'.extract off (off + ti.size)), by simp [part, run_isAgg hT.u, hagg, run_sizeOf hT], ?_⟩
        have := VRel.agg' ((hc.drop off).take ti.size)
        have e : ((cs'.toList.drop off).take ti.size).toArray = cs'.extract off (off + ti.size) := by
          apply Array.ext'
          simp [List.take_drop, Nat.add_sub_cancel_left]
        rwa [e] at this
      · cases ha
    · rename_i hagg
      obtain ⟨y, hy, hr⟩ := hc.get ha
      simp only [Array.getElem?_toList] at hy
      exact ⟨y, by simp [part, run_isAgg hT.u, hagg, hy], hr⟩
  · cases ha

def aFieldOf (E : TypeId → Option TI) (t : TypeId) (x : Value) (f : Nat) : Option Value :=
  match E t, x with
  | some ⟨.struct fs, _, _, _⟩, .agg cs => match fs[f]? with
    | some fd => aPart E fd.type cs.toList fd.offset
    | none => none
  | _, _ => none
theorem aFieldOf_ok (hE : TOk E P) {t : TypeId} {x x' v : Value} {f : Nat} (hx : VRel ι x x') (ha : aFieldOf E t x f = some v) : ∃ v', (Instr.field t x' f).run P w = .ok v' w ∧ VRel ι v v' := by
  unfold aFieldOf at ha
  split at ha
  · rename_i fs sz by_ zv cs hti
    obtain ⟨i, hT⟩ := hE.get hti
    have hu : P.underlying t = some (.struct fs) := hT.u
    cases hx with
    | agg hs h =>
      split at ha
      · rename_i fd hfd
        obtain ⟨v', h1, h2⟩ := aPart_ok (P := P) (w := w) hE (LRel.of_array hs h) ha
        exact ⟨v', by simp [Instr.field, run_underlying' hu, hfd, asAgg, h1], h2⟩
      · cases ha
  · cases ha

def aIndexOf (E : TypeId → Option TI) (t : TypeId) (x i : Value) : Option Value :=
  match i with
  | .int _ n => match E t, x with
    | some ⟨.array len e, _, _, _⟩, .agg cs => match E e with
      | some te => if 0 ≤ n ∧ n < len then aPart E e cs.toList (n.toNat * te.size) else none
      | none => none
    | some ⟨.string, _, _, _⟩, .string s => if 0 ≤ n then match s.data.toList[n.toNat]? with
        | some b => some (.int .u8 b.toNat)
        | none => none
      else none
    | _, _ => none
  | _ => none
theorem aIndexOf_ok (hE : TOk E P) {t : TypeId} {x x' i i' v : Value} (hx : VRel ι x x') (hi : VRel ι i i') (ha : aIndexOf E t x i = some v) : ∃ v', (Instr.index t x' i').run P w = .ok v' w ∧ VRel ι v v' := by
  unfold aIndexOf at ha
  split at ha
  · rename_i k n
    cases hi
    split at ha
    · rename_i len e sz by_ zv cs hti
      obtain ⟨j, hT⟩ := hE.get hti
      have hu : P.underlying t = some (.array len e) := hT.u
      cases hx with
      | agg hs h =>
        split at ha
        · rename_i te hte
          obtain ⟨je, hTe⟩ := hE.get hte
          split at ha
          · rename_i hr
            obtain ⟨v', h1, h2⟩ := aPart_ok (P := P) (w := w) hE (LRel.of_array hs h) ha
            exact ⟨v', by simp [Instr.index, asIntOf, run_underlying' hu, hr.1, hr.2, run_sizeOf hTe, h1], h2⟩
          · cases ha
        · cases ha
    · rename_i sz by_ zv s hti
      obtain ⟨j, hT⟩ := hE.get hti
      have hu : P.underlying t = some .string := hT.u
      cases hx
      split at ha
      · rename_i h0
        split at ha
        · rename_i b hb
          cases ha
          refine ⟨_, ?_, .int _ _⟩
          have : s[n.toNat]? = some b := by
            simp only [Array.getElem?_toList] at hb
            obtain ⟨h1, h2⟩ := Array.getElem?_eq_some_iff.1 hb
            rw [getElem?_pos s n.toNat h1]
            exact congrArg some h2
          simp [Instr.index, asIntOf, run_underlying' hu, h0, this]
        · cases ha
      · cases ha
    · cases ha
  · cases ha
end Go.Ev
