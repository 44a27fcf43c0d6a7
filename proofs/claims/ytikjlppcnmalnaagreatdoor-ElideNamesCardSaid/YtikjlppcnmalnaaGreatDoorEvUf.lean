/-
  EV, universal use, part f: a law's arguments, and what its call does.
-/
import Derived.Test.YtikjlppcnmalnaaGreatDoorEvUe
import Derived.Test.YtikjlppcnmalnaaGreatDoorEvZ
namespace Go.Ev
open Go.RowKit

variable {P : Program} {w : World} {H : AH} {ι : Emb}

theorem cell_not_agg {base : Nat} {t : TypeId} {cs : Array Value} (h : Cell.okWide P w .any base t (.agg cs)) : False := by
  revert h; unfold Cell.okWide Cell.ok
  cases P.underlying t with
  | none => simp
  | some d => cases d <;> simp

def Desc.many : TypeDesc → Bool
  | .struct _ | .array _ _ => true
  | _ => false

/-- An argument of one cell. -/
theorem Ent.one {α : Type} {R : Rp α} {t : TypeId} {ds : TypeDesc} (hu : P.underlying t = some ds) (hm : Desc.many ds = false) (hR : Ent P R t) {Hd : Type} (enc : TypeId × Value → Hd) {base : Nat} {v : Value} {d : DataW Hd} {ps : List MemPlace} (hok : Value.okWide P w .any base t v) (ht : DataW.Trod enc P w 0 (fun _ => true) true t v d ps)
    (hr : HRel P w.heap.size ι H w) (hro : Ro H) : ∃ H' ι' av, ∃ a : α, HRel P w.heap.size ι' H' w ∧ Ro H' ∧ Kro H H' ∧ ι.le ι' ∧ VRel ι' av v ∧ R H' [av] a := by
  obtain ⟨fuel, ht⟩ := ht
  obtain ⟨H', ι', as, a, h1, h2, h3, h4, h5, h6⟩ := hR enc w fuel _ d ps ht H ι hr hro
  have hc : Cell.okWide P w .any base t v := by
    unfold Value.okWide at hok
    rw [hu] at hok
    cases ds <;> first | exact hok | cases hm
  have hv : v.cells = #[v] := by cases v <;> first | rfl | exact (cell_not_agg hc).elim
  rw [hv] at h5
  cases h5 with
  | cons hx hnil =>
    cases hnil
    exact ⟨H', ι', _, a, h1, h2, h3, h4, hx, h6⟩

/-- An argument that is a struct. -/
theorem Ent.agg {α : Type} {R : Rp α} {t : TypeId} {fs : Array Field} (hu : P.underlying t = some (.struct fs)) (hR : Ent P R t) {Hd : Type} (enc : TypeId × Value → Hd) {base : Nat} {v : Value} {d : DataW Hd} {ps : List MemPlace} (hok : Value.okWide P w .any base t v) (ht : DataW.Trod enc P w 0 (fun _ => true) true t v d ps)
    (hr : HRel P w.heap.size ι H w) (hro : Ro H) : ∃ H' ι' as, ∃ a : α, HRel P w.heap.size ι' H' w ∧ Ro H' ∧ Kro H H' ∧ ι.le ι' ∧ VRel ι' (.agg as) v ∧ R H' as.toList a := by
  obtain ⟨fuel, ht⟩ := ht
  obtain ⟨H', ι', as, a, h1, h2, h3, h4, h5, h6⟩ := hR enc w fuel _ d ps ht H ι hr hro
  unfold Value.okWide at hok
  rw [hu] at hok
  obtain ⟨cs, rfl, _⟩ := hok
  refine ⟨H', ι', as.toArray, a, h1, h2, h3, h4, ?_, by simpa using h6⟩
  have : VRel ι' (.agg as.toArray) (.agg cs.toList.toArray) := VRel.agg' h5
  simpa using this

/-! ### Lists of arguments -/
def AEnd : Rp Unit := fun _ avs _ => avs = []
def AOne {α β : Type} (R : Rp α) (S : Rp β) : Rp (α × β) := fun H avs x => ∃ v vs, avs = v :: vs ∧ R H [v] x.1 ∧ S H vs x.2
def AAgg {α β : Type} (R : Rp α) (S : Rp β) : Rp (α × β) := fun H avs x => ∃ cs vs, avs = .agg cs :: vs ∧ R H cs.toList x.1 ∧ S H vs x.2

def EntA {β : Type} (P : Program) (S : Rp β) (ts : List TypeId) : Prop :=
  ∀ {Hd : Type} (enc : TypeId × Value → Hd) (w : World) (base : Nat) (vs : List Value) (ds : List (DataW Hd)) (ps : List MemPlace), DataW.TrodAll enc P w 0 (fun _ => true) true ts vs ds ps →
    (∀ (j : Nat) t v, ts[j]? = some t → vs[j]? = some v → Value.okWide P w .any base t v) →
    ∀ (H : AH) (ι : Emb), HRel P w.heap.size ι H w → Ro H → ∃ H' ι' avs, ∃ b : β, HRel P w.heap.size ι' H' w ∧ Ro H' ∧ Kro H H' ∧ ι.le ι' ∧ LRel ι' avs vs ∧ S H' avs b

theorem EntA.nil : EntA P AEnd [] := fun enc w base vs ds ps h _ H ι hr hro => by
  cases vs with
  | nil => exact ⟨H, ι, [], (), hr, hro, .refl _, Emb.le_refl _, .nil, rfl⟩
  | cons v vs => exact h.elim

theorem EntA.one {α β : Type} {R : Rp α} {S : Rp β} {t : TypeId} {ts : List TypeId} {dsc : TypeDesc} (hu : P.underlying t = some dsc) (hm : Desc.many dsc = false) (hR : Ent P R t) (hmo : Mono R) (hS : EntA P S ts) : EntA P (AOne R S) (t :: ts) := fun enc w base vs ds ps h hok H ι hr hro => by
  cases vs with
  | nil => exact h.elim
  | cons v vs =>
    cases ds with
    | nil => exact h.elim
    | cons d ds =>
      obtain ⟨p, q, h1, h2, _⟩ := h
      obtain ⟨H1, ι1, av, a, k1, k2, k3, k4, k5, k6⟩ := Ent.one hu hm hR enc (hok 0 t v rfl rfl) h1 hr hro
      obtain ⟨H2, ι2, avs, b, l1, l2, l3, l4, l5, l6⟩ := hS enc w base vs ds q h2 (fun j t v ht hv => hok (j + 1) t v (by simpa using ht) (by simpa using hv)) H1 ι1 k1 k2
      exact ⟨H2, ι2, av :: avs, (a, b), l1, l2, k3.trans l3, Emb.le_trans k4 l4, .cons (k5.mono l4) l5, av, avs, rfl, hmo l3 k6, l6⟩

theorem EntA.agg {α β : Type} {R : Rp α} {S : Rp β} {t : TypeId} {ts : List TypeId} {fs : Array Field} (hu : P.underlying t = some (.struct fs)) (hR : Ent P R t) (hmo : Mono R) (hS : EntA P S ts) : EntA P (AAgg R S) (t :: ts) := fun enc w base vs ds ps h hok H ι hr hro => by
  cases vs with
  | nil => exact h.elim
  | cons v vs =>
    cases ds with
    | nil => exact h.elim
    | cons d ds =>
      obtain ⟨p, q, h1, h2, _⟩ := h
      obtain ⟨H1, ι1, as, a, k1, k2, k3, k4, k5, k6⟩ := Ent.agg hu hR enc (hok 0 t v rfl rfl) h1 hr hro
      obtain ⟨H2, ι2, avs, b, l1, l2, l3, l4, l5, l6⟩ := hS enc w base vs ds q h2 (fun j t v ht hv => hok (j + 1) t v (by simpa using ht) (by simpa using hv)) H1 ι1 k1 k2
      exact ⟨H2, ι2, .agg as :: avs, (a, b), l1, l2, k3.trans l3, Emb.le_trans k4 l4, .cons (k5.mono l4) l5, as, avs, rfl, hmo l3 k6, l6⟩

theorem Ro.laid {rows : List AObj} (hr : ∀ g o, rows[g]? = some o → RowIn w g o) : Ro (startH rows) := fun b => by
  rw [startH_obj]
  cases h : rows[b]? with
  | none => exact .inr rfl
  | some o =>
    have hi := hr b o h
    cases o with
    | row et cells st g v =>
      cases st <;> try exact hi.elim
      cases g with
      | succ g => exact hi.elim
      | zero => cases v with
        | succ v => exact hi.elim
        | zero => exact .inl ⟨et, cells, rfl⟩
    | dead => exact .inr rfl
    | map es bs ck => exact hi.elim
    | mapIter m si se la => exact hi.elim
    | strIter s p => exact hi.elim
    | loop => exact hi.elim

/-- A law's call. -/
theorem law_calls {β : Type} (hn : (P.funcs.toList.all fun fn => !(fn.name == "runtime.NumGoroutine")) = true) (hm : P.follows .mixedOrders = true) {rows : List AObj} (hr : ∀ g o, rows[g]? = some o → RowIn w g o)
    {S : Rp β} {ts : List TypeId} (hS : EntA P S ts) {Hd : Type} {enc : TypeId × Value → Hd} {base : Nat} {args : Array Value} {ds : List (DataW Hd)} {ps : List MemPlace} (ht : DataW.TrodAll enc P w 0 (fun _ => true) true ts args.toList ds ps)
    (hok : ∀ (j : Nat) t v, ts[j]? = some t → args[j]? = some v → Value.okWide P w .any base t v) {f : FuncId} {v : Value} (hv : plain v = true) {O : Orc} (hO : OrcOk (envOf P rows.length) O)
    (hL : ∀ H avs b, Kro (startH rows) H → S H avs b → ∃ H', Lc (envOf P rows.length) O f avs H v H') : Calls P f args w fun e w' => e = .returned v ∧ Below w.heap.size w w' := by
  obtain ⟨H', ι', avs, b, h1, h2, h3, h4, h5, h6⟩ := hS enc w base args.toList ds ps ht (fun j t v a c => hok j t v a (by simpa using c)) (startH rows) (startE P rows) (HRel.laid P w rows hr) (Ro.laid hr)
  obtain ⟨H'', hl⟩ := hL H' avs b h3 h6
  have hG : GOk (startE P rows) (envOf P rows.length).nG := fun g hg => by
    have hg' : g < rows.length := hg
    cases hs : startE P rows g with
    | some l => exact ⟨l, rfl, (startE_blk hs).2⟩
    | none =>
      unfold startE at hs
      rw [show rows[g]? = some rows[g] by simp [hg']] at hs
      split at hs <;> simp_all
  have := Lc.sound (V := envOf P rows.length) hO (fun t ti h => h) (fnOf_ok hn) hm hl w.heap.size ι' w args.toList (hG.mono h4) h1 h5
  exact this.mono fun e w' ⟨v', ι'', he, hr, hs⟩ => ⟨by rw [he, hr.plain_eq hv], hs.below⟩
end Go.Ev
