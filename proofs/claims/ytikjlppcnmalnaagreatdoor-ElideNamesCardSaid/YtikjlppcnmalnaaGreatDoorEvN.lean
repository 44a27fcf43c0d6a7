/-
  EV, part N: conversions with bytes; single operations, all together.
-/
import Derived.Test.YtikjlppcnmalnaaGreatDoorEvM
import Derived.Laws.BytesString
import Derived.Lib.ConvBytes
namespace Go.Ev
open Go.RowKit

variable {P : Program} {B0 : Nat} {ι : Emb} {H H' : AH} {w : World} {E : TypeId → Option TI}

def intsOf : List Value → Option (List Int)
  | [] => some []
  | .int .u8 n :: vs => (intsOf vs).map (n :: ·)
  | _ => none

theorem intsOf_eq : ∀ {vs : List Value} {ns : List Int}, intsOf vs = some ns → vs = ns.map (Value.int .u8)
  | [], ns, h => by simp [intsOf] at h; subst h; rfl
  | v :: vs, ns, h => by
    cases v with
    | int k n =>
      cases k with
      | u8 =>
        simp only [intsOf] at h
        cases hi : intsOf vs with
        | none => rw [hi] at h; cases h
        | some ms => rw [hi] at h; cases h; simp [intsOf_eq hi]
      | _ => simp [intsOf] at h
    | _ => simp [intsOf] at h

def bytesOfInts (ns : List Int) : ByteArray := ns.foldl (fun r n => r.push (UInt8.ofNat n.toNat)) ByteArray.empty

def aConvert (P : Program) (E : TypeId → Option TI) (H : AH) (src dst : TypeId) (x : Value) : Option (Value × AH) :=
  match x with
  | .slice none 0 0 => match E src, E dst with
    | some ⟨.slice e, _, _, _⟩, some ⟨.string, _, _, _⟩ => match E e with
      | some ⟨.int .u8, _, _, _⟩ => some (.string .empty, H)
      | _ => none
    | _, _ => none
  | .slice (some ⟨b, off, none⟩) len _ => match E src, E dst with
    | some ⟨.slice e, _, _, _⟩, some ⟨.string, _, _, _⟩ => match E e with
      | some ⟨.int .u8, _, _, _⟩ => if len = 0 then some (.string .empty, H) else match H.rd b off len with
        | some vs => match intsOf vs with
          | some ns => some (.string (bytesOfInts ns), H)
          | none => none
        | none => none
      | _ => none
    | _, _ => none
  | .string s => match E src, E dst with
    | some _, some ⟨.slice e, _, _, _⟩ => match E e with
      | some ⟨.int .u8, 1, _, _⟩ => some (.slice (some ⟨H.next, 0, none⟩) s.size unk, H.alloc (.row e (s.data.toList.map fun b => .int .u8 b.toNat) .loose H.next (H.ver H.next)))
      | _ => none
    | _, _ => (aPure P [x] (convert src dst x)).map (·, H)
  | x => (aPure P [x] (convert src dst x)).map (·, H)

theorem aConvert_ok (hE : TOk E P) (h : HRel P B0 ι H w) {src dst : TypeId} {x x' v : Value} (hx : VRel ι x x') (ha : aConvert P E H src dst x = some (v, H')) :
    ∃ v' w' ι', (convert src dst x').run P w = .ok v' w' ∧ VRel ι' v v' ∧ Step P B0 ι H w ι' H' w' := by
  have pureCase : ∀ {o : Option Value}, o = aPure P [x] (convert src dst x) → o.map (·, H) = some (v, H') → ∃ v' w' ι', (convert src dst x').run P w = .ok v' w' ∧ VRel ι' v v' ∧ Step P B0 ι H w ι' H' w' := fun {o} ho hm => by
    cases o with
    | none => cases hm
    | some u =>
      cases hm
      obtain ⟨v', h1, h2⟩ := aPure_ok (P := P) (w := w) (f := fun xs => convert src dst (xs.getD 0 undef)) (.cons hx .nil) ho.symm
      exact ⟨v', w, ι, h1, h2, Step.refl h⟩
  unfold aConvert at ha
  split at ha
  · split at ha
    · rename_i e sz by_ zv sz2 by2 zv2 hts htd
      obtain ⟨i, hTs⟩ := hE.get hts
      obtain ⟨j, hTd⟩ := hE.get htd
      have hs : P.underlying src = some (.slice e) := hTs.u
      have hd : P.underlying dst = some .string := hTd.u
      split at ha
      · rename_i hte
        obtain ⟨k, hTe⟩ := hE.get hte
        have he : P.underlying e = some (.int .u8) := hTe.u
        cases ha; cases hx
        exact ⟨_, w, ι, by rw [run_convert_bytes_string w src dst e none 0 0 hs he hd]; simp [Conv.bytesToString], .string _, Step.refl h⟩
      · cases ha
    · cases ha
  · rename_i b off len cap
    split at ha
    · rename_i e sz by_ zv sz2 by2 zv2 hts htd
      obtain ⟨i, hTs⟩ := hE.get hts
      obtain ⟨j, hTd⟩ := hE.get htd
      have hs : P.underlying src = some (.slice e) := hTs.u
      have hd : P.underlying dst = some .string := hTd.u
      split at ha
      · rename_i hte
        obtain ⟨k, hTe⟩ := hE.get hte
        have he : P.underlying e = some (.int .u8) := hTe.u
        split at ha
        · rename_i h0
          cases ha; subst h0
          have fin : ∀ (a : Addr) (c : Nat), (convert src dst (.slice (some a) 0 c)).run P w = .ok (.string .empty) w := fun a c => by
            rw [run_convert_bytes_string w src dst e _ _ _ hs he hd, run_bytesToString w a 0 c [] (by simp [Go.loadCells, loadCellsFrom])]
            rfl
          cases hx <;> exact ⟨_, w, ι, fin _ _, .string _, Step.refl h⟩
        · rename_i h0
          split at ha
          · rename_i vs hr
            split at ha
            · rename_i ns hi
              cases ha
              have hvs := intsOf_eq hi
              have fin : ∀ (l : ILoc) (c : Nat), ι b = some l → (convert src dst (.slice (some ⟨l.blk, l.base + off, none⟩) len c)).run P w = .ok (.string (bytesOfInts ns)) w := fun l c hb => by
                obtain ⟨vs', hv, hrun⟩ := h.loadCells hb hr
                have : vs' = vs := hv.plain_eq fun u hu => by rw [hvs] at hu; simp at hu; obtain ⟨n, _, rfl⟩ := hu; rfl
                subst this
                rw [hvs] at hrun
                rw [run_convert_bytes_string w src dst e _ _ _ hs he hd, run_bytesToString w _ len c ns hrun]
                rfl
              cases hx with
              | slice hb hc hl => exact ⟨_, w, ι, fin _ _ hb, .string _, Step.refl h⟩
              | sliceUnk hb hl hsz hez => exact ⟨_, w, ι, fin _ _ hb, .string _, Step.refl h⟩
              | sliceEnd => exact absurd rfl h0
              | sliceZ => exact absurd rfl h0
            · cases ha
          · cases ha
      · cases ha
    · cases ha
  · rename_i s
    cases hx
    split at ha
    · rename_i ts e sz by_ zv hts htd
      obtain ⟨i, hTs⟩ := hE.get hts
      obtain ⟨j, hTd⟩ := hE.get htd
      have hd : P.underlying dst = some (.slice e) := hTd.u
      split at ha
      · rename_i by3 zv3 hte
        obtain ⟨k, hTe⟩ := hE.get hte
        have he : P.underlying e = some (.int .u8) := hTe.u
        have hce : P.cellsOf e = 1 := hTe.cellsOf
        cases ha
        have hrun := Lib.run_convert_string_bytes w src dst e s hTs.u hd he
        have hcsz : (Lib.bytesCells w e s).size = grownCap w s.size 0 e := by
          have : s.size ≤ grownCap w s.size 0 e := by unfold grownCap; simp [Question.cut]
          have e1 : s.data.size = s.size := rfl
          simp [Lib.bytesCells, e1]; omega
        have hst := h.allocW (.row e (s.data.toList.map fun b => .int .u8 b.toNat) .loose H.next (H.ver H.next)) (Lib.bytesWorld w e s) ⟨w.heap.size, 0, (Lib.bytesCells w e s).size, 1⟩ rfl (Lib.bytesWorld_size w e s) (fun k hk => Lib.bytesWorld_at_old w e s k hk)
          (by simp [Lib.bytesWorld, World.freeze]; rfl) (by simp [Lib.bytesWorld, World.freeze]) (by simp [Lib.bytesWorld, World.freeze]; rfl)
          ⟨⟨_, _, _, Lib.bytesWorld_at_new w e s, rfl, fun i x hx => ?_, fun _ j (hj : j < (Lib.bytesCells w e s).size) => by simp; omega⟩, by simp [Lib.bytesCells], hce, fun _ => h.base, fun e => (nomatch e), fun e => (nomatch e)⟩
          (fun _ _ _ _ _ e => by cases e; simp)
        · refine ⟨_, _, _, hrun, ?_, hst⟩
          have := VRel.sliceUnk (off := 0) (len := s.size) (cap := grownCap w s.size 0 e) (Emb.ext_same ι H.next ⟨w.heap.size, 0, (Lib.bytesCells w e s).size, 1⟩) (by unfold grownCap; simp [Question.cut]) (by simp [hcsz]) (by simp)
          simpa using this
        · refine ⟨x, ?_, ?_⟩
          · simp only [List.getElem?_map] at hx
            cases hb : s.data.toList[i]? with
            | none => rw [hb] at hx; cases hx
            | some b =>
              rw [hb] at hx; cases hx
              have hlt : i < s.data.size := by simpa using (List.getElem?_eq_some_iff.1 hb).1
              simp only [Nat.zero_add, Lib.bytesCells]
              rw [Array.getElem?_append_left (by simpa using hlt)]
              simp only [Array.getElem?_toList] at hb
              simp [hb]
          · simp only [List.getElem?_map] at hx
            cases hb : s.data.toList[i]? with
            | none => rw [hb] at hx; cases hx
            | some b => rw [hb] at hx; cases hx; exact .int _ _
      · cases ha
    · exact pureCase rfl ha
  · exact pureCase rfl ha
end Go.Ev
