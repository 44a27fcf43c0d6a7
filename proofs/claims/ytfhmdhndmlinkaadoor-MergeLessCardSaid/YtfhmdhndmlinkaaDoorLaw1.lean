/-
  Which graphs may be, in plain words: what flow.May answers.
-/
import Derived.Test.YtfhmdhndmlinkaaDoorEv6
import Derived.Test.YtfhmdhndmlinkaaDoorProg
import Derived.KernelRfl
set_option linter.all false
namespace Go.Flo
open Go.Ev
structure OpD where
  r : Bool
  a : Bool
  b : Bool
  bare : Bool
  n : Int
def opL : List OpD := [⟨false, false, false, false, 0⟩, ⟨true, false, false, false, 1⟩, ⟨true, true, false, false, 0⟩, ⟨true, true, false, false, 2⟩, ⟨true, true, true, false, 3⟩, ⟨true, true, false, true, 4⟩, ⟨false, true, true, true, 4⟩, ⟨false, false, false, false, 5⟩, ⟨false, false, false, false, 5⟩, ⟨false, true, false, false, 0⟩, ⟨true, false, false, false, 6⟩, ⟨false, false, false, false, 7⟩, ⟨false, true, false, false, 7⟩, ⟨false, true, false, false, 0⟩]
def opD (op : Int) : OpD := opL.getD op.toNat ⟨false, false, false, false, 0⟩
def isOp (op : Int) : Bool := !(decide (op < 1) || decide (op ≥ 14))
def ends (op : Int) : Bool := op == 11 || op == 12 || op == 13
def within (regs x : Int) : Bool := !(decide (x < 0) || decide (x ≥ regs))
variable (mi : Int → Ins → Bool)
def insOk (regs : Int) (len : Nat) (n : Nat) (i : Ins) : Bool := mi regs i && !(ends i.op && decide (n + 1 < len))
def codeOk (regs : Int) (len : Nat) : Nat → List Ins → Bool
  | _, [] => true
  | n, i :: l => insOk mi regs len n i && codeOk regs len (n + 1) l
def toN (t : Int) (i : Ins) : Int := if i.op == 12 then 2 else if i.op == 13 then 0 else t
def toOf (l : List Ins) : Int := l.foldl toN 1
def phiOk (regs : Int) (nf : Nat) (p : Phi) : Bool := within regs p.r && (p.args.length : Int) == nf && p.args.all (within regs)
def blockOk (regs : Int) (b : Block) : Bool :=
  codeOk mi regs b.code.length 0 b.code && (b.to.length : Int) == toOf b.code && b.phis.all (phiOk regs b.frm.length)
def fromOf (l : List Block) (n : Nat) (t : Int) : List Int := ((List.range n).filter fun k => match l[k]? with | some b => b.to.contains t | none => false).map fun k : Nat => (k : Int)
def froms (l : List Block) : Bool :=
  l.all (fun b => b.to.all (within l.length)) && (List.range l.length).all (fun n => match l[n]? with | some b => b.frm == fromOf l l.length n | none => false) && (match l[0]? with | some b => b.frm.isEmpty | none => false)
def circ (l : List Block) (n : Nat) : Nat → Nat → Bool
  | 0, _ => false
  | f + 1, at_ => match l[at_]? with
    | some b => if b.code.length > 0 then false else match b.to with
      | t :: _ => if t = n then true else circ l n f t.toNat
      | [] => false
    | none => false
def odd (g : Graph) : Bool :=
  decide (g.params < 0) || (decide (g.params > 8) || ((g.thread && decide (g.params > 0)) || (decide (g.regs < g.params) || (decide (g.regs > 65536) || (decide ((g.blocks.length : Int) < 1) || (decide ((g.blocks.length : Int) > 32768) || (match g.blocks[0]? with | some b => decide ((b.phis.length : Int) > 0) | none => false)))))))
def may (g : Graph) : Bool :=
  !odd g && (g.blocks.all (blockOk mi g.regs) && (froms g.blocks && (List.range g.blocks.length).all fun k => !circ g.blocks k g.blocks.length k))
theorem codeOk_iff {mi : Int → Ins → Bool} {regs : Int} {len : Nat} : ∀ {l : List Ins} {n : Nat}, codeOk mi regs len n l = true ↔ ∀ j (h : j < l.length), insOk mi regs len (n + j) l[j] = true
  | [], n => by simp [codeOk]
  | i :: l, n => by
    unfold codeOk
    rw [Bool.and_eq_true, codeOk_iff (l := l) (n := n + 1)]
    constructor
    · rintro ⟨h1, h2⟩ j hj
      cases j with
      | zero => simpa using h1
      | succ j => have := h2 j (by simpa using hj); simpa [Nat.add_assoc, Nat.add_comm 1 j] using this
    · intro h
      refine ⟨h 0 (by simp), fun j hj => ?_⟩
      have := h (j + 1) (by simpa using hj)
      simpa [Nat.add_assoc, Nat.add_comm 1 j] using this
theorem isOp_of {i : Ins} (h : isOp i.op = true) : 1 ≤ i.op ∧ i.op < 14 := by
  unfold isOp at h
  simp at h
  omega
theorem may_op {mi : Int → Ins → Bool} (hmi : ∀ r i, mi r i = true → isOp i.op = true) {g : Graph} (h : may mi g = true) : ∀ b ∈ g.blocks, ∀ i ∈ b.code, 1 ≤ i.op ∧ i.op < 14 := by
  intro b hb i hi
  unfold may at h
  simp only [Bool.and_eq_true] at h
  have h2 := List.all_eq_true.1 h.2.1 b hb
  unfold blockOk at h2
  simp only [Bool.and_eq_true] at h2
  obtain ⟨j, hj, rfl⟩ := List.mem_iff_getElem.1 hi
  have := codeOk_iff.1 h2.1.1 j hj
  unfold insOk at this
  rw [Bool.and_eq_true] at this
  exact isOp_of (hmi _ _ this.1)
end Go.Flo

/-
  Locks let go and taken again, in plain words: what merge makes of instructions.
-/
namespace Go.Mer
open Go.Ev
def quiet (x : Ins) : Bool := x.op == 1 || x.op == 2 || x.op == 3 || x.op == 4
def givesR (lock : Int) : List Ins → Option Nat
  | [] => none
  | x :: xs => if quiet x then (givesR lock xs).map (· + 1) else if x.op = 8 ∧ x.n = lock then some 0 else none
def gives (l : List Ins) (lock : Int) : Option Nat := (givesR lock l.reverse).map fun k => l.length - 1 - k
def step (acc : List Ins) (i : Ins) : List Ins :=
  if i.op = 7 then match gives acc i.n with
    | some at_ => acc.eraseIdx at_
    | none => acc ++ [i]
  else acc ++ [i]
def code (l : List Ins) : List Ins := l.foldl step []
def block (b : Block) : Block := { b with code := code b.code }
def Pair (l : List Ins) (i k : Nat) : Prop := ∃ (_ : i < k) (hk : k < l.length), (l[i]'(by omega)).op = 8 ∧ l[k].op = 7 ∧ (l[i]'(by omega)).n = l[k].n ∧ ∀ j (hj : i < j) (hjk : j < k), quiet (l[j]'(by omega)) = true
def NoPair (l : List Ins) : Prop := ∀ i k, ¬ Pair l i k
theorem givesR_some {lock : Int} : ∀ {l : List Ins} {k : Nat}, givesR lock l = some k → ∃ h : k < l.length, l[k].op = 8 ∧ l[k].n = lock ∧ ∀ j (hj : j < k), quiet (l[j]'(by omega)) = true
  | [], k, h => by cases h
  | x :: xs, k, h => by
    unfold givesR at h
    split at h
    · rename_i hq
      obtain ⟨k', h1, rfl⟩ := Option.map_eq_some_iff.1 h
      obtain ⟨h2, h3, h4, h5⟩ := givesR_some h1
      refine ⟨by simp; omega, by simpa using h3, by simpa using h4, fun j hj => ?_⟩
      cases j with
      | zero => simpa using hq
      | succ j => simpa using h5 j (by omega)
    · split at h
      · rename_i h1
        cases h
        exact ⟨by simp, by simpa using h1.1, by simpa using h1.2, fun j hj => absurd hj (by omega)⟩
      · cases h
theorem givesR_none {lock : Int} : ∀ {l : List Ins}, givesR lock l = none → ∀ k (h : k < l.length), l[k].op = 8 → l[k].n = lock → (∀ j (hj : j < k), quiet (l[j]'(by omega)) = true) → False
  | [], _, k, h, _, _, _ => by simp at h
  | x :: xs, hn, k, h, h1, h2, h3 => by
    unfold givesR at hn
    split at hn
    · rename_i hq
      cases k with
      | zero => simp at h1; simp [quiet, h1] at hq
      | succ k =>
        exact givesR_none (Option.map_eq_none_iff.1 hn) k (by simpa using h) (by simpa using h1) (by simpa using h2) (fun j hj => by simpa using h3 (j + 1) (by omega))
    · rename_i hq
      cases k with
      | zero => rw [if_pos ⟨by simpa using h1, by simpa using h2⟩] at hn; cases hn
      | succ k =>
        have := h3 0 (by omega)
        simp at this
        exact hq this
theorem gives_some {l : List Ins} {lock : Int} {k : Nat} (h : gives l lock = some k) : ∃ hk : k < l.length, l[k].op = 8 ∧ l[k].n = lock ∧ ∀ j (_ : k < j) (h2 : j < l.length), quiet l[j] = true := by
  unfold gives at h
  obtain ⟨m, h1, rfl⟩ := Option.map_eq_some_iff.1 h
  obtain ⟨h2, h3, h4, h5⟩ := givesR_some h1
  rw [List.length_reverse] at h2
  rw [List.getElem_reverse] at h3 h4
  refine ⟨by omega, h3, h4, fun j hj hl => ?_⟩
  have := h5 (l.length - 1 - j) (by omega)
  rw [List.getElem_reverse] at this
  simpa [show l.length - 1 - (l.length - 1 - j) = j by omega] using this
theorem gives_none {l : List Ins} {lock : Int} (h : gives l lock = none) (k : Nat) (hk : k < l.length) (h1 : l[k].op = 8) (h2 : l[k].n = lock) (h3 : ∀ j (_ : k < j) (h2 : j < l.length), quiet l[j] = true) : False := by
  unfold gives at h
  refine givesR_none (Option.map_eq_none_iff.1 h) (l.length - 1 - k) (by rw [List.length_reverse]; omega) ?_ ?_ fun j hj => ?_
  · rw [List.getElem_reverse]; simpa [show l.length - 1 - (l.length - 1 - k) = k by omega] using h1
  · rw [List.getElem_reverse]; simpa [show l.length - 1 - (l.length - 1 - k) = k by omega] using h2
  · rw [List.getElem_reverse]; exact h3 _ (by omega) (by omega)
theorem NoPair.step {acc : List Ins} (h : NoPair acc) (i : Ins) : NoPair (step acc i) := by
  unfold Mer.step
  have app : (i.op = 7 → gives acc i.n = none) → NoPair (acc ++ [i]) := fun hg a k ⟨hak, hk, h1, h2, h3, h4⟩ => by
    rw [List.length_append] at hk
    simp at hk
    have ea : ∀ j (hj : j < acc.length), (acc ++ [i])[j]'(by simp; omega) = acc[j] := fun j hj => List.getElem_append_left hj
    by_cases hlast : k = acc.length
    · subst hlast
      have hi : (acc ++ [i])[acc.length]'(by simp) = i := by simp
      rw [hi] at h2 h3
      rw [ea a (by omega)] at h1 h3
      refine gives_none (hg h2) a (by omega) h1 h3 fun j hj hl => ?_
      have := h4 j hj hl
      rwa [ea j hl] at this
    · rw [ea a (by omega)] at h1 h3
      rw [ea k (by omega)] at h2 h3
      refine h a k ⟨hak, by omega, h1, h2, h3, fun j hj hjk => ?_⟩
      have := h4 j hj hjk
      rwa [ea j (by omega)] at this
  split
  · rename_i hop
    split
    · rename_i at_ hg
      obtain ⟨ha, g1, g2, g3⟩ := gives_some hg
      intro a k ⟨hak, hk, h1, h2, h3, h4⟩
      have hlen := List.length_eraseIdx_of_lt ha
      have el : ∀ j (hj : j < (acc.eraseIdx at_).length), j < at_ → (acc.eraseIdx at_)[j] = acc[j]'(by omega) := fun j hj hja => by rw [List.getElem_eraseIdx, dif_pos hja]
      have er : ∀ j (hj : j < (acc.eraseIdx at_).length), ¬ j < at_ → (acc.eraseIdx at_)[j] = acc[j + 1]'(by omega) := fun j hj hja => by rw [List.getElem_eraseIdx, dif_neg hja]
      by_cases hka : k < at_
      · rw [el k hk hka] at h2 h3
        rw [el a (by omega) (by omega)] at h1 h3
        refine h a k ⟨hak, by omega, h1, h2, h3, fun j hj hjk => ?_⟩
        have := h4 j hj hjk
        rwa [el j (by omega) (by omega)] at this
      · rw [er k hk hka] at h2
        have := g3 (k + 1) (by omega) (by omega)
        simp [quiet, h2] at this
    · rename_i hg
      exact app fun _ => hg
  · rename_i hop
    exact app fun h => absurd h hop
theorem noPair_nil : NoPair [] := fun i k ⟨_, hk, _⟩ => by simp at hk
theorem foldl_noPair : ∀ (l acc : List Ins), NoPair acc → NoPair (l.foldl step acc)
  | [], _, h => h
  | i :: l, acc, h => foldl_noPair l _ (h.step i)
theorem noPair_code (l : List Ins) : NoPair (code l) := foldl_noPair l [] noPair_nil
theorem step_same {acc l : List Ins} {i : Ins} (h : NoPair (acc ++ i :: l)) : step acc i = acc ++ [i] := by
  unfold Mer.step
  split
  · rename_i hop
    split
    · rename_i at_ hg
      obtain ⟨ha, g1, g2, g3⟩ := gives_some hg
      have ea : ∀ j (hj : j < acc.length), (acc ++ i :: l)[j]'(by simp; omega) = acc[j] := fun j hj => List.getElem_append_left hj
      have hi : (acc ++ i :: l)[acc.length]'(by simp) = i := by simp
      refine absurd ⟨ha, by simp, ?_, ?_, ?_, fun j hj hjk => ?_⟩ (h at_ acc.length)
      · rw [ea _ ha]; exact g1
      · rw [hi]; exact hop
      · rw [ea _ ha, hi]; exact g2
      · rw [ea j hjk]; exact g3 j hj hjk
    · rfl
  · rfl
theorem foldl_same : ∀ (l acc : List Ins), NoPair (acc ++ l) → l.foldl step acc = acc ++ l
  | [], acc, _ => by simp
  | i :: l, acc, h => by
    rw [List.foldl_cons, step_same h, foldl_same l (acc ++ [i]) (by simpa using h)]; simp
theorem code_same {l : List Ins} (h : NoPair l) : code l = l := by
  have := foldl_same l [] (by simpa using h)
  rw [List.nil_append] at this
  exact this
theorem code_code (l : List Ins) : code (code l) = code l := code_same (noPair_code l)
theorem block_block (b : Block) : block (block b) = block b := by unfold block; simp only [code_code]
def lockOp (i : Ins) : Bool := i.op == 7 || i.op == 8
theorem step_sub {acc l : List Ins} (h : acc.Sublist l) (i : Ins) : (step acc i).Sublist (l ++ [i]) := by
  unfold Mer.step
  have ha : (acc ++ [i]).Sublist (l ++ [i]) := h.append (List.Sublist.refl _)
  split
  · split
    · exact ((List.eraseIdx_sublist _ _).trans h).trans (List.sublist_append_left _ _)
    · exact ha
  · exact ha
theorem foldl_sub : ∀ (l acc m : List Ins), acc.Sublist m → (l.foldl step acc).Sublist (m ++ l)
  | [], _, _, h => by simpa using h
  | i :: l, acc, m, h => by
    have := foldl_sub l _ _ (step_sub h i)
    simpa using this
theorem code_sub (l : List Ins) : (code l).Sublist l := by
  have := foldl_sub l [] [] (List.Sublist.refl _)
  rw [List.nil_append] at this
  exact this
theorem countP_eraseIdx (p : Ins → Bool) : ∀ (l : List Ins) (k : Nat) (h : k < l.length), (l.eraseIdx k).countP p + (if p l[k] then 1 else 0) = l.countP p
  | [], _, h => by simp at h
  | x :: xs, 0, _ => by simp [List.countP_cons]
  | x :: xs, k + 1, h => by
    have := countP_eraseIdx p xs k (by simpa using h)
    simp only [List.eraseIdx_cons_succ, List.countP_cons, List.getElem_cons_succ]
    omega
structure Cnt (l m : List Ins) : Prop where
  other : ∀ p : Ins → Bool, (∀ i, p i = true → lockOp i = false) → m.countP p = l.countP p
  lock : ∀ n : Int, l.countP (fun i => i.op == 7 && i.n == n) + m.countP (fun i => i.op == 8 && i.n == n) = m.countP (fun i => i.op == 7 && i.n == n) + l.countP (fun i => i.op == 8 && i.n == n)
  all : l.countP (fun i => i.op == 7) + m.countP (fun i => i.op == 8) = m.countP (fun i => i.op == 7) + l.countP (fun i => i.op == 8)
theorem Cnt.step {l acc : List Ins} (h : Cnt l acc) (i : Ins) : Cnt (l ++ [i]) (step acc i) := by
  have ha : Cnt (l ++ [i]) (acc ++ [i]) := by
    refine ⟨fun p hp => ?_, fun n => ?_, ?_⟩
    · rw [List.countP_append, List.countP_append, h.other p hp]
    · rw [List.countP_append, List.countP_append, List.countP_append, List.countP_append]
      have := h.lock n; omega
    · rw [List.countP_append, List.countP_append, List.countP_append, List.countP_append]
      have := h.all; omega
  unfold Mer.step
  split
  · rename_i hop
    split
    · rename_i at_ hg
      obtain ⟨hk, g1, g2, _⟩ := gives_some hg
      refine ⟨fun p hp => ?_, fun n => ?_, ?_⟩
      · have h1 := countP_eraseIdx p acc at_ hk
        have h2 : p acc[at_] = false := by
          cases e : p acc[at_] with
          | false => rfl
          | true => have := hp _ e; simp [lockOp, g1] at this
        have h3 : p i = false := by
          cases e : p i with
          | false => rfl
          | true => have := hp _ e; simp [lockOp, hop] at this
        rw [h2] at h1
        rw [List.countP_append, ← h.other p hp, List.countP_cons, h3]
        simp at h1 ⊢
        exact h1
      · have h1 := countP_eraseIdx (fun i => i.op == 7 && i.n == n) acc at_ hk
        have h2 := countP_eraseIdx (fun i => i.op == 8 && i.n == n) acc at_ hk
        have h3 := h.lock n
        rw [List.countP_append, List.countP_append, List.countP_cons, List.countP_cons]
        simp only [g1, g2, hop, List.countP_nil, show ((8 : Int) == 7) = false from rfl, show ((7 : Int) == 8) = false from rfl, beq_self_eq_true, Bool.false_and, Bool.true_and, Bool.false_eq_true, if_false, Nat.add_zero, Nat.zero_add] at h1 h2 ⊢
        omega
      · have h1 := countP_eraseIdx (fun i => i.op == 7) acc at_ hk
        have h2 := countP_eraseIdx (fun i => i.op == 8) acc at_ hk
        have h3 := h.all
        rw [List.countP_append, List.countP_append, List.countP_cons, List.countP_cons]
        simp only [g1, hop, List.countP_nil, show ((8 : Int) == 7) = false from rfl, show ((7 : Int) == 8) = false from rfl, beq_self_eq_true, Bool.false_eq_true, if_false, if_true, Nat.add_zero, Nat.zero_add] at h1 h2 ⊢
        omega
    · exact ha
  · exact ha
theorem foldl_cnt : ∀ (l acc m : List Ins), Cnt m acc → Cnt (m ++ l) (l.foldl step acc)
  | [], _, _, h => by simpa using h
  | i :: l, acc, m, h => by
    have := foldl_cnt l _ _ (h.step i)
    simpa using this
theorem code_cnt (l : List Ins) : Cnt l (code l) := by
  have := foldl_cnt l [] [] ⟨fun _ _ => rfl, fun _ => rfl, rfl⟩
  rw [List.nil_append] at this
  exact this
def Left (m l : List Ins) : Prop := m.Sublist l ∧ m.countP (fun i => !lockOp i) = l.countP (fun i => !lockOp i)
theorem left_code (l : List Ins) : Left (code l) l := ⟨code_sub l, (code_cnt l).other _ fun i h => by simpa using h⟩
theorem Left.same {x : Ins} {m l : List Ins} (h : Left (x :: m) (x :: l)) : Left m l := by
  refine ⟨List.cons_sublist_cons.1 h.1, ?_⟩
  have := h.2
  rw [List.countP_cons, List.countP_cons] at this
  omega
theorem Left.other {x : Ins} {m l : List Ins} (h : Left m (x :: l)) (hx : ∀ y m', m = y :: m' → x ≠ y) : lockOp x = true ∧ Left m l := by
  have hs : m.Sublist l := by
    cases m with
    | nil => exact List.nil_sublist _
    | cons y m' =>
      cases h.1 with
      | cons _ h => exact h
      | cons_cons _ _ => exact absurd rfl (hx _ _ rfl)
  have hc := hs.countP_le (p := fun i => !lockOp i)
  have h2 := h.2
  rw [List.countP_cons] at h2
  cases e : lockOp x with
  | true => rw [e] at h2; exact ⟨rfl, hs, by simpa using h2⟩
  | false => rw [e] at h2; simp at h2; omega
theorem Left.nil {m : List Ins} (h : Left m []) : m = [] := List.sublist_nil.1 h.1
end Go.Mer

/-
  The seat's functions, prepared.
-/
namespace Go.Proofs.YtfhmdhndmlinkaaDoor.U
open Go Go.Ev
noncomputable def V : Ev.Env := envOf Tryd.prog 2
abbrev T_ : TypeId := 0
abbrev T_func : TypeId := 1
abbrev T_int64 : TypeId := 2
theorem E_int64 : V.E 2 = some ⟨.int .i64, 1, 8, (.int .i64 0)⟩ := by kernel_rfl
abbrev T_int : TypeId := 3
theorem E_int : V.E 3 = some ⟨.int .i64, 1, 8, (.int .i64 0)⟩ := by kernel_rfl
abbrev T_bool : TypeId := 4
theorem E_bool : V.E 4 = some ⟨.bool, 1, 1, (.bool false)⟩ := by kernel_rfl
abbrev T_uint8 : TypeId := 5
theorem E_uint8 : V.E 5 = some ⟨.int .u8, 1, 1, (.int .u8 0)⟩ := by kernel_rfl
abbrev T_abi_BoundsErrorCode : TypeId := 6
abbrev T_struct7 : TypeId := 7
abbrev T_runtime_boundsError : TypeId := 8
abbrev T_string : TypeId := 9
theorem E_string : V.E 9 = some ⟨.string, 1, 16, (.string ⟨⟨[]⟩⟩)⟩ := by kernel_rfl
abbrev T_runtime_errorString : TypeId := 10
abbrev T_runtime_plainError : TypeId := 11
abbrev T_uintptr : TypeId := 12
theorem E_uintptr : V.E 12 = some ⟨.int .u64, 1, 8, (.int .u64 0)⟩ := by kernel_rfl
abbrev T_struct13 : TypeId := 13
abbrev T_runtime_errorAddressString : TypeId := 14
abbrev T_p_runtime_TypeAssertionError : TypeId := 15
abbrev T_p_runtime_PanicNilError : TypeId := 16
abbrev T_p_abi_Type : TypeId := 17
abbrev T_struct18 : TypeId := 18
abbrev T_maps_unhashableTypeError : TypeId := 19
abbrev T_interface : TypeId := 20
abbrev T_int32 : TypeId := 21
theorem E_int32 : V.E 21 = some ⟨.int .i32, 1, 4, (.int .i32 0)⟩ := by kernel_rfl
abbrev T_s_api_Block : TypeId := 22
theorem E_s_api_Block : V.E 22 = some ⟨.slice 34, 1, 24, (.slice none 0 0)⟩ := by kernel_rfl
abbrev T_struct23 : TypeId := 23
abbrev T_api_Graph : TypeId := 24
noncomputable def te_api_Graph : TI := match V.E 24 with
  | some t => t
  | none => ⟨.bool, 0, 0, .nilFunc⟩
theorem E_api_Graph : V.E 24 = some te_api_Graph := by kernel_rfl
theorem te_api_Graph_size : te_api_Graph.size = 5 := by kernel_rfl
theorem te_api_Graph_bytes : te_api_Graph.bytes = 64 := by kernel_rfl
theorem te_api_Graph_agg : Desc.agg te_api_Graph.desc = true := by kernel_rfl
theorem te_api_Graph_zero : te_api_Graph.zv = (.agg #[(.string ⟨⟨[]⟩⟩), (.bool false), (.int .i64 0), (.int .i64 0), (.slice none 0 0)]) := by kernel_rfl
theorem O_api_Graph_Name {b o : Nat} : aField V.E 24 0 (.pointer (some ⟨b, o, none⟩)) = some (.pointer (some ⟨b, o + 0, none⟩)) := by kernel_rfl
theorem O_api_Graph_Thread {b o : Nat} : aField V.E 24 1 (.pointer (some ⟨b, o, none⟩)) = some (.pointer (some ⟨b, o + 1, none⟩)) := by kernel_rfl
theorem O_api_Graph_Params {b o : Nat} : aField V.E 24 2 (.pointer (some ⟨b, o, none⟩)) = some (.pointer (some ⟨b, o + 2, none⟩)) := by kernel_rfl
theorem O_api_Graph_Regs {b o : Nat} : aField V.E 24 3 (.pointer (some ⟨b, o, none⟩)) = some (.pointer (some ⟨b, o + 3, none⟩)) := by kernel_rfl
theorem O_api_Graph_Blocks {b o : Nat} : aField V.E 24 4 (.pointer (some ⟨b, o, none⟩)) = some (.pointer (some ⟨b, o + 4, none⟩)) := by kernel_rfl
abbrev T_func_api_Graph_bool : TypeId := 25
abbrev T_func_bool : TypeId := 26
abbrev T_api_Errno : TypeId := 27
theorem E_api_Errno : V.E 27 = some ⟨.int .i64, 1, 8, (.int .i64 0)⟩ := by kernel_rfl
abbrev T_api_Graph_api_Errno : TypeId := 28
abbrev T_func_api_Graph_api_Graph_api_Errno : TypeId := 29
abbrev T_s_api_Phi : TypeId := 30
theorem E_s_api_Phi : V.E 30 = some ⟨.slice 50, 1, 24, (.slice none 0 0)⟩ := by kernel_rfl
abbrev T_s_api_Ins : TypeId := 31
theorem E_s_api_Ins : V.E 31 = some ⟨.slice 39, 1, 24, (.slice none 0 0)⟩ := by kernel_rfl
abbrev T_s_int : TypeId := 32
theorem E_s_int : V.E 32 = some ⟨.slice 3, 1, 24, (.slice none 0 0)⟩ := by kernel_rfl
abbrev T_struct33 : TypeId := 33
abbrev T_api_Block : TypeId := 34
noncomputable def te_api_Block : TI := match V.E 34 with
  | some t => t
  | none => ⟨.bool, 0, 0, .nilFunc⟩
theorem E_api_Block : V.E 34 = some te_api_Block := by kernel_rfl
theorem te_api_Block_size : te_api_Block.size = 4 := by kernel_rfl
theorem te_api_Block_bytes : te_api_Block.bytes = 96 := by kernel_rfl
theorem te_api_Block_agg : Desc.agg te_api_Block.desc = true := by kernel_rfl
theorem te_api_Block_zero : te_api_Block.zv = (.agg #[(.slice none 0 0), (.slice none 0 0), (.slice none 0 0), (.slice none 0 0)]) := by kernel_rfl
theorem O_api_Block_Phis {b o : Nat} : aField V.E 34 0 (.pointer (some ⟨b, o, none⟩)) = some (.pointer (some ⟨b, o + 0, none⟩)) := by kernel_rfl
theorem O_api_Block_Code {b o : Nat} : aField V.E 34 1 (.pointer (some ⟨b, o, none⟩)) = some (.pointer (some ⟨b, o + 1, none⟩)) := by kernel_rfl
theorem O_api_Block_From {b o : Nat} : aField V.E 34 2 (.pointer (some ⟨b, o, none⟩)) = some (.pointer (some ⟨b, o + 2, none⟩)) := by kernel_rfl
theorem O_api_Block_To {b o : Nat} : aField V.E 34 3 (.pointer (some ⟨b, o, none⟩)) = some (.pointer (some ⟨b, o + 3, none⟩)) := by kernel_rfl
abbrev T_int_int : TypeId := 35
abbrev T_func_s_api_Ins_int_int : TypeId := 36
abbrev T_func_s_api_Ins_s_api_Ins_bool : TypeId := 37
abbrev T_struct38 : TypeId := 38
abbrev T_api_Ins : TypeId := 39
noncomputable def te_api_Ins : TI := match V.E 39 with
  | some t => t
  | none => ⟨.bool, 0, 0, .nilFunc⟩
theorem E_api_Ins : V.E 39 = some te_api_Ins := by kernel_rfl
theorem te_api_Ins_size : te_api_Ins.size = 6 := by kernel_rfl
theorem te_api_Ins_bytes : te_api_Ins.bytes = 64 := by kernel_rfl
theorem te_api_Ins_agg : Desc.agg te_api_Ins.desc = true := by kernel_rfl
theorem te_api_Ins_zero : te_api_Ins.zv = (.agg #[(.int .u8 0), (.int .i64 0), (.int .i64 0), (.int .i64 0), (.int .i64 0), (.slice none 0 0)]) := by kernel_rfl
theorem O_api_Ins_Op {b o : Nat} : aField V.E 39 0 (.pointer (some ⟨b, o, none⟩)) = some (.pointer (some ⟨b, o + 0, none⟩)) := by kernel_rfl
theorem O_api_Ins_R {b o : Nat} : aField V.E 39 1 (.pointer (some ⟨b, o, none⟩)) = some (.pointer (some ⟨b, o + 1, none⟩)) := by kernel_rfl
theorem O_api_Ins_A {b o : Nat} : aField V.E 39 2 (.pointer (some ⟨b, o, none⟩)) = some (.pointer (some ⟨b, o + 2, none⟩)) := by kernel_rfl
theorem O_api_Ins_B {b o : Nat} : aField V.E 39 3 (.pointer (some ⟨b, o, none⟩)) = some (.pointer (some ⟨b, o + 3, none⟩)) := by kernel_rfl
theorem O_api_Ins_N {b o : Nat} : aField V.E 39 4 (.pointer (some ⟨b, o, none⟩)) = some (.pointer (some ⟨b, o + 4, none⟩)) := by kernel_rfl
theorem O_api_Ins_Args {b o : Nat} : aField V.E 39 5 (.pointer (some ⟨b, o, none⟩)) = some (.pointer (some ⟨b, o + 5, none⟩)) := by kernel_rfl
abbrev T_func_s_api_Ins_uint8_int64_int : TypeId := 40
abbrev T_func_api_Graph_api_Graph_bool : TypeId := 41
abbrev T_func_api_Graph_api_Graph_int : TypeId := 42
abbrev T_func_s_int_s_int_bool : TypeId := 43
abbrev T_256_int : TypeId := 44
theorem E_256_int : V.E 44 = some ⟨.array 256 3, 256, 2048, (.agg #[(.int .i64 0), (.int .i64 0), (.int .i64 0), (.int .i64 0), (.int .i64 0), (.int .i64 0), (.int .i64 0), (.int .i64 0), (.int .i64 0), (.int .i64 0), (.int .i64 0), (.int .i64 0), (.int .i64 0), (.int .i64 0), (.int .i64 0), (.int .i64 0), (.int .i64 0), (.int .i64 0), (.int .i64 0), (.int .i64 0), (.int .i64 0), (.int .i64 0), (.int .i64 0), (.int .i64 0), (.int .i64 0), (.int .i64 0), (.int .i64 0), (.int .i64 0), (.int .i64 0), (.int .i64 0), (.int .i64 0), (.int .i64 0), (.int .i64 0), (.int .i64 0), (.int .i64 0), (.int .i64 0), (.int .i64 0), (.int .i64 0), (.int .i64 0), (.int .i64 0), (.int .i64 0), (.int .i64 0), (.int .i64 0), (.int .i64 0), (.int .i64 0), (.int .i64 0), (.int .i64 0), (.int .i64 0), (.int .i64 0), (.int .i64 0), (.int .i64 0), (.int .i64 0), (.int .i64 0), (.int .i64 0), (.int .i64 0), (.int .i64 0), (.int .i64 0), (.int .i64 0), (.int .i64 0), (.int .i64 0), (.int .i64 0), (.int .i64 0), (.int .i64 0), (.int .i64 0), (.int .i64 0), (.int .i64 0), (.int .i64 0), (.int .i64 0), (.int .i64 0), (.int .i64 0), (.int .i64 0), (.int .i64 0), (.int .i64 0), (.int .i64 0), (.int .i64 0), (.int .i64 0), (.int .i64 0), (.int .i64 0), (.int .i64 0), (.int .i64 0), (.int .i64 0), (.int .i64 0), (.int .i64 0), (.int .i64 0), (.int .i64 0), (.int .i64 0), (.int .i64 0), (.int .i64 0), (.int .i64 0), (.int .i64 0), (.int .i64 0), (.int .i64 0), (.int .i64 0), (.int .i64 0), (.int .i64 0), (.int .i64 0), (.int .i64 0), (.int .i64 0), (.int .i64 0), (.int .i64 0), (.int .i64 0), (.int .i64 0), (.int .i64 0), (.int .i64 0), (.int .i64 0), (.int .i64 0), (.int .i64 0), (.int .i64 0), (.int .i64 0), (.int .i64 0), (.int .i64 0), (.int .i64 0), (.int .i64 0), (.int .i64 0), (.int .i64 0), (.int .i64 0), (.int .i64 0), (.int .i64 0), (.int .i64 0), (.int .i64 0), (.int .i64 0), (.int .i64 0), (.int .i64 0), (.int .i64 0), (.int .i64 0), (.int .i64 0), (.int .i64 0), (.int .i64 0), (.int .i64 0), (.int .i64 0), (.int .i64 0), (.int .i64 0), (.int .i64 0), (.int .i64 0), (.int .i64 0), (.int .i64 0), (.int .i64 0), (.int .i64 0), (.int .i64 0), (.int .i64 0), (.int .i64 0), (.int .i64 0), (.int .i64 0), (.int .i64 0), (.int .i64 0), (.int .i64 0), (.int .i64 0), (.int .i64 0), (.int .i64 0), (.int .i64 0), (.int .i64 0), (.int .i64 0), (.int .i64 0), (.int .i64 0), (.int .i64 0), (.int .i64 0), (.int .i64 0), (.int .i64 0), (.int .i64 0), (.int .i64 0), (.int .i64 0), (.int .i64 0), (.int .i64 0), (.int .i64 0), (.int .i64 0), (.int .i64 0), (.int .i64 0), (.int .i64 0), (.int .i64 0), (.int .i64 0), (.int .i64 0), (.int .i64 0), (.int .i64 0), (.int .i64 0), (.int .i64 0), (.int .i64 0), (.int .i64 0), (.int .i64 0), (.int .i64 0), (.int .i64 0), (.int .i64 0), (.int .i64 0), (.int .i64 0), (.int .i64 0), (.int .i64 0), (.int .i64 0), (.int .i64 0), (.int .i64 0), (.int .i64 0), (.int .i64 0), (.int .i64 0), (.int .i64 0), (.int .i64 0), (.int .i64 0), (.int .i64 0), (.int .i64 0), (.int .i64 0), (.int .i64 0), (.int .i64 0), (.int .i64 0), (.int .i64 0), (.int .i64 0), (.int .i64 0), (.int .i64 0), (.int .i64 0), (.int .i64 0), (.int .i64 0), (.int .i64 0), (.int .i64 0), (.int .i64 0), (.int .i64 0), (.int .i64 0), (.int .i64 0), (.int .i64 0), (.int .i64 0), (.int .i64 0), (.int .i64 0), (.int .i64 0), (.int .i64 0), (.int .i64 0), (.int .i64 0), (.int .i64 0), (.int .i64 0), (.int .i64 0), (.int .i64 0), (.int .i64 0), (.int .i64 0), (.int .i64 0), (.int .i64 0), (.int .i64 0), (.int .i64 0), (.int .i64 0), (.int .i64 0), (.int .i64 0), (.int .i64 0), (.int .i64 0), (.int .i64 0), (.int .i64 0), (.int .i64 0), (.int .i64 0), (.int .i64 0), (.int .i64 0), (.int .i64 0), (.int .i64 0), (.int .i64 0), (.int .i64 0), (.int .i64 0), (.int .i64 0), (.int .i64 0), (.int .i64 0), (.int .i64 0), (.int .i64 0), (.int .i64 0), (.int .i64 0), (.int .i64 0), (.int .i64 0)])⟩ := by kernel_rfl
abbrev T_s_sound_Spot : TypeId := 45
theorem E_s_sound_Spot : V.E 45 = some ⟨.slice 52, 1, 24, (.slice none 0 0)⟩ := by kernel_rfl
abbrev T_s_sound_Spot_api_Errno : TypeId := 46
abbrev T_func_api_Graph_s_sound_Spot_api_Errno : TypeId := 47
abbrev T_s_bool : TypeId := 48
theorem E_s_bool : V.E 48 = some ⟨.slice 4, 1, 24, (.slice none 0 0)⟩ := by kernel_rfl
abbrev T_struct49 : TypeId := 49
abbrev T_api_Phi : TypeId := 50
noncomputable def te_api_Phi : TI := match V.E 50 with
  | some t => t
  | none => ⟨.bool, 0, 0, .nilFunc⟩
theorem E_api_Phi : V.E 50 = some te_api_Phi := by kernel_rfl
theorem te_api_Phi_size : te_api_Phi.size = 2 := by kernel_rfl
theorem te_api_Phi_bytes : te_api_Phi.bytes = 32 := by kernel_rfl
theorem te_api_Phi_agg : Desc.agg te_api_Phi.desc = true := by kernel_rfl
theorem te_api_Phi_zero : te_api_Phi.zv = (.agg #[(.int .i64 0), (.slice none 0 0)]) := by kernel_rfl
theorem O_api_Phi_R {b o : Nat} : aField V.E 50 0 (.pointer (some ⟨b, o, none⟩)) = some (.pointer (some ⟨b, o + 0, none⟩)) := by kernel_rfl
theorem O_api_Phi_Args {b o : Nat} : aField V.E 50 1 (.pointer (some ⟨b, o, none⟩)) = some (.pointer (some ⟨b, o + 1, none⟩)) := by kernel_rfl
abbrev T_struct51 : TypeId := 51
abbrev T_sound_Spot : TypeId := 52
noncomputable def te_sound_Spot : TI := match V.E 52 with
  | some t => t
  | none => ⟨.bool, 0, 0, .nilFunc⟩
theorem E_sound_Spot : V.E 52 = some te_sound_Spot := by kernel_rfl
theorem te_sound_Spot_size : te_sound_Spot.size = 2 := by kernel_rfl
theorem te_sound_Spot_bytes : te_sound_Spot.bytes = 16 := by kernel_rfl
theorem te_sound_Spot_agg : Desc.agg te_sound_Spot.desc = true := by kernel_rfl
theorem te_sound_Spot_zero : te_sound_Spot.zv = (.agg #[(.int .i64 0), (.int .i64 0)]) := by kernel_rfl
theorem O_sound_Spot_Block {b o : Nat} : aField V.E 52 0 (.pointer (some ⟨b, o, none⟩)) = some (.pointer (some ⟨b, o + 0, none⟩)) := by kernel_rfl
theorem O_sound_Spot_At {b o : Nat} : aField V.E 52 1 (.pointer (some ⟨b, o, none⟩)) = some (.pointer (some ⟨b, o + 1, none⟩)) := by kernel_rfl
abbrev T_func_api_Ins_s_int : TypeId := 53
abbrev T_int_bool : TypeId := 54
abbrev T_func_api_Ins_int_bool : TypeId := 55
abbrev T_uint : TypeId := 56
theorem E_uint : V.E 56 = some ⟨.int .u64, 1, 8, (.int .u64 0)⟩ := by kernel_rfl
abbrev T_func_api_Graph_s_int_bool : TypeId := 57
abbrev T_func_api_Graph_int_bool : TypeId := 58
abbrev T_func_int_api_Ins_api_Graph : TypeId := 59
abbrev T_func_api_Block_api_Block : TypeId := 60
abbrev T_func_api_Ins_bool : TypeId := 61
abbrev T_func_api_Graph_int : TypeId := 62
abbrev T_s_api_Ins_api_Errno : TypeId := 63
abbrev T_func_s_int_s_int_int_s_api_Ins_api_Errno : TypeId := 64
abbrev T_s_phis_move : TypeId := 65
theorem E_s_phis_move : V.E 65 = some ⟨.slice 67, 1, 24, (.slice none 0 0)⟩ := by kernel_rfl
abbrev T_struct66 : TypeId := 66
abbrev T_phis_move : TypeId := 67
noncomputable def te_phis_move : TI := match V.E 67 with
  | some t => t
  | none => ⟨.bool, 0, 0, .nilFunc⟩
theorem E_phis_move : V.E 67 = some te_phis_move := by kernel_rfl
theorem te_phis_move_size : te_phis_move.size = 2 := by kernel_rfl
theorem te_phis_move_bytes : te_phis_move.bytes = 16 := by kernel_rfl
theorem te_phis_move_agg : Desc.agg te_phis_move.desc = true := by kernel_rfl
theorem te_phis_move_zero : te_phis_move.zv = (.agg #[(.int .i64 0), (.int .i64 0)]) := by kernel_rfl
theorem O_phis_move_to {b o : Nat} : aField V.E 67 0 (.pointer (some ⟨b, o, none⟩)) = some (.pointer (some ⟨b, o + 0, none⟩)) := by kernel_rfl
theorem O_phis_move_from {b o : Nat} : aField V.E 67 1 (.pointer (some ⟨b, o, none⟩)) = some (.pointer (some ⟨b, o + 1, none⟩)) := by kernel_rfl
abbrev T_func_s_phis_move_int_s_api_Ins : TypeId := 68
abbrev T_func_s_api_Ins_func_api_Ins_bool_bool : TypeId := 69
abbrev T_func_p_api_Block_s_api_Ins : TypeId := 70
abbrev T_p_api_Block : TypeId := 71
theorem E_p_api_Block : V.E 71 = some ⟨.pointer 34, 1, 8, (.pointer none)⟩ := by kernel_rfl
abbrev T_func_p_api_Graph_int_int_s_api_Ins : TypeId := 72
abbrev T_p_api_Graph : TypeId := 73
theorem E_p_api_Graph : V.E 73 = some ⟨.pointer 24, 1, 8, (.pointer none)⟩ := by kernel_rfl
abbrev T_func_int_int_api_Ins_api_Graph : TypeId := 74
abbrev T_func_int_api_Ins : TypeId := 75
abbrev T_func_api_Graph_api_Errno : TypeId := 76
abbrev T_func_int_int_int_api_Phi_api_Graph : TypeId := 77
abbrev T_p_dom_Tree : TypeId := 78
theorem E_p_dom_Tree : V.E 78 = some ⟨.pointer 141, 1, 8, (.pointer none)⟩ := by kernel_rfl
abbrev T_p_dom_Tree_bool : TypeId := 79
abbrev T_func_api_Graph_p_dom_Tree_bool : TypeId := 80
abbrev T_func_s_sound_Spot_int_s_sound_Spot : TypeId := 81
abbrev T_func_func_int_sound_Spot_bool : TypeId := 82
abbrev T_iter_Seq2_int_sound_Spot : TypeId := 83
abbrev T_func_api_Graph_iter_Seq2_int_sound_Spot : TypeId := 84
abbrev T_func_iter_Seq_int_s_int : TypeId := 85
abbrev T_func_func_int_bool : TypeId := 86
abbrev T_iter_Seq_int : TypeId := 87
abbrev T_func_api_Ins_iter_Seq_int : TypeId := 88
abbrev T_struct89 : TypeId := 89
abbrev T_code_op : TypeId := 90
noncomputable def te_code_op : TI := match V.E 90 with
  | some t => t
  | none => ⟨.bool, 0, 0, .nilFunc⟩
theorem E_code_op : V.E 90 = some te_code_op := by kernel_rfl
theorem te_code_op_size : te_code_op.size = 5 := by kernel_rfl
theorem te_code_op_bytes : te_code_op.bytes = 16 := by kernel_rfl
theorem te_code_op_agg : Desc.agg te_code_op.desc = true := by kernel_rfl
theorem te_code_op_zero : te_code_op.zv = (.agg #[(.bool false), (.bool false), (.bool false), (.bool false), (.int .i64 0)]) := by kernel_rfl
theorem O_code_op_r {b o : Nat} : aField V.E 90 0 (.pointer (some ⟨b, o, none⟩)) = some (.pointer (some ⟨b, o + 0, none⟩)) := by kernel_rfl
theorem O_code_op_a {b o : Nat} : aField V.E 90 1 (.pointer (some ⟨b, o, none⟩)) = some (.pointer (some ⟨b, o + 1, none⟩)) := by kernel_rfl
theorem O_code_op_b {b o : Nat} : aField V.E 90 2 (.pointer (some ⟨b, o, none⟩)) = some (.pointer (some ⟨b, o + 2, none⟩)) := by kernel_rfl
theorem O_code_op_bare {b o : Nat} : aField V.E 90 3 (.pointer (some ⟨b, o, none⟩)) = some (.pointer (some ⟨b, o + 3, none⟩)) := by kernel_rfl
theorem O_code_op_n {b o : Nat} : aField V.E 90 4 (.pointer (some ⟨b, o, none⟩)) = some (.pointer (some ⟨b, o + 4, none⟩)) := by kernel_rfl
abbrev T_code_op_bool : TypeId := 91
abbrev T_func_api_Ins_code_op_bool : TypeId := 92
abbrev T_func_s_api_Block_func_api_Block_bool_bool : TypeId := 93
abbrev T_func_api_Block_int_bool : TypeId := 94
abbrev T_func_api_Block_bool : TypeId := 95
abbrev T_func_s_api_Block_bool : TypeId := 96
abbrev T_func_s_api_Block_int_bool : TypeId := 97
abbrev T_s_s_int : TypeId := 98
theorem E_s_s_int : V.E 98 = some ⟨.slice 32, 1, 24, (.slice none 0 0)⟩ := by kernel_rfl
abbrev T_p_dom_Tree_api_Errno : TypeId := 99
abbrev T_func_s_s_int_p_dom_Tree_api_Errno : TypeId := 100
abbrev T_s_loads_known : TypeId := 101
theorem E_s_loads_known : V.E 101 = some ⟨.slice 104, 1, 24, (.slice none 0 0)⟩ := by kernel_rfl
abbrev T_func_s_int : TypeId := 102
abbrev T_map_loads_cell_int : TypeId := 103
theorem E_map_loads_cell_int : V.E 103 = some ⟨.map 107 3, 1, 8, (.map none)⟩ := by kernel_rfl
abbrev T_loads_known : TypeId := 104
theorem E_loads_known : V.E 104 = some ⟨.map 107 3, 1, 8, (.map none)⟩ := by kernel_rfl
abbrev T_func_loads_known_loads_known : TypeId := 105
abbrev T_struct106 : TypeId := 106
abbrev T_loads_cell : TypeId := 107
noncomputable def te_loads_cell : TI := match V.E 107 with
  | some t => t
  | none => ⟨.bool, 0, 0, .nilFunc⟩
theorem E_loads_cell : V.E 107 = some te_loads_cell := by kernel_rfl
theorem te_loads_cell_size : te_loads_cell.size = 2 := by kernel_rfl
theorem te_loads_cell_bytes : te_loads_cell.bytes = 16 := by kernel_rfl
theorem te_loads_cell_agg : Desc.agg te_loads_cell.desc = true := by kernel_rfl
theorem te_loads_cell_zero : te_loads_cell.zv = (.agg #[(.int .i64 0), (.int .i64 0)]) := by kernel_rfl
theorem O_loads_cell_mem {b o : Nat} : aField V.E 107 0 (.pointer (some ⟨b, o, none⟩)) = some (.pointer (some ⟨b, o + 0, none⟩)) := by kernel_rfl
theorem O_loads_cell_place {b o : Nat} : aField V.E 107 1 (.pointer (some ⟨b, o, none⟩)) = some (.pointer (some ⟨b, o + 1, none⟩)) := by kernel_rfl
abbrev T_func_api_Ins_api_Ins : TypeId := 108
abbrev T_func_s_int_s_int : TypeId := 109
abbrev T_func_s_api_Ins_int64_int : TypeId := 110
abbrev T_map_int_int : TypeId := 111
theorem E_map_int_int : V.E 111 = some ⟨.map 3 3, 1, 8, (.map none)⟩ := by kernel_rfl
abbrev T_func_s_api_Ins_s_api_Ins : TypeId := 112
abbrev T_func_s_phis_move_func_phis_move_bool_s_phis_move : TypeId := 113
abbrev T_func_phis_move_bool : TypeId := 114
abbrev T_func_phis_move : TypeId := 115
abbrev T_func_s_phis_move_func_phis_move_bool_int : TypeId := 116
abbrev T_func_s_phis_move_int_int_s_phis_move : TypeId := 117
abbrev T_func_s_api_Ins_func_api_Ins_bool_int : TypeId := 118
abbrev T_func_s_api_Ins_int_api_Ins_s_api_Ins : TypeId := 119
abbrev T_p_s_int : TypeId := 120
theorem E_p_s_int : V.E 120 = some ⟨.pointer 32, 1, 8, (.pointer none)⟩ := by kernel_rfl
abbrev T_func_s_int_func_int_bool_s_int : TypeId := 121
abbrev T_func_int_bool : TypeId := 122
abbrev T_func_int_int_bool : TypeId := 123
abbrev T_func_int_int_int_bool : TypeId := 124
abbrev T_func_s_int_func_int_bool_bool : TypeId := 125
abbrev T_uint_uint : TypeId := 126
abbrev T_func_uint_uint_uint_uint : TypeId := 127
abbrev T_func_int_sound_Spot_bool : TypeId := 128
abbrev T_func_s_int_iter_Seq_int_s_int : TypeId := 129
abbrev T_func_s_int_iter_Seq_int : TypeId := 130
abbrev T_14_code_op : TypeId := 131
theorem E_14_code_op : V.E 131 = some ⟨.array 14 90, 70, 224, (.agg #[(.bool false), (.bool false), (.bool false), (.bool false), (.int .i64 0), (.bool false), (.bool false), (.bool false), (.bool false), (.int .i64 0), (.bool false), (.bool false), (.bool false), (.bool false), (.int .i64 0), (.bool false), (.bool false), (.bool false), (.bool false), (.int .i64 0), (.bool false), (.bool false), (.bool false), (.bool false), (.int .i64 0), (.bool false), (.bool false), (.bool false), (.bool false), (.int .i64 0), (.bool false), (.bool false), (.bool false), (.bool false), (.int .i64 0), (.bool false), (.bool false), (.bool false), (.bool false), (.int .i64 0), (.bool false), (.bool false), (.bool false), (.bool false), (.int .i64 0), (.bool false), (.bool false), (.bool false), (.bool false), (.int .i64 0), (.bool false), (.bool false), (.bool false), (.bool false), (.int .i64 0), (.bool false), (.bool false), (.bool false), (.bool false), (.int .i64 0), (.bool false), (.bool false), (.bool false), (.bool false), (.int .i64 0), (.bool false), (.bool false), (.bool false), (.bool false), (.int .i64 0)])⟩ := by kernel_rfl
abbrev T_func_s_api_Block_func_api_Block_bool_int : TypeId := 132
abbrev T_func_api_Ins_int_bool_1 : TypeId := 133
abbrev T_func_uint8_bool : TypeId := 134
abbrev T_func_s_api_Phi_func_api_Phi_bool_bool : TypeId := 135
abbrev T_func_api_Phi_bool : TypeId := 136
abbrev T_func_s_api_Block : TypeId := 137
abbrev T_func_s_s_int_bool : TypeId := 138
abbrev T_func_s_int_int_s_int : TypeId := 139
abbrev T_struct140 : TypeId := 140
abbrev T_dom_Tree : TypeId := 141
noncomputable def te_dom_Tree : TI := match V.E 141 with
  | some t => t
  | none => ⟨.bool, 0, 0, .nilFunc⟩
theorem E_dom_Tree : V.E 141 = some te_dom_Tree := by kernel_rfl
theorem te_dom_Tree_size : te_dom_Tree.size = 2 := by kernel_rfl
theorem te_dom_Tree_bytes : te_dom_Tree.bytes = 48 := by kernel_rfl
theorem te_dom_Tree_agg : Desc.agg te_dom_Tree.desc = true := by kernel_rfl
theorem te_dom_Tree_zero : te_dom_Tree.zv = (.agg #[(.slice none 0 0), (.slice none 0 0)]) := by kernel_rfl
theorem O_dom_Tree_next {b o : Nat} : aField V.E 141 0 (.pointer (some ⟨b, o, none⟩)) = some (.pointer (some ⟨b, o + 0, none⟩)) := by kernel_rfl
theorem O_dom_Tree_place {b o : Nat} : aField V.E 141 1 (.pointer (some ⟨b, o, none⟩)) = some (.pointer (some ⟨b, o + 1, none⟩)) := by kernel_rfl
abbrev T_func_s_s_int_s_int : TypeId := 142
abbrev T_func_s_s_int_s_s_int : TypeId := 143
abbrev T_func_int_int_int : TypeId := 144
abbrev T_func_int : TypeId := 145
abbrev T_func_int64 : TypeId := 146
abbrev T_func_func_int_api_Ins_bool : TypeId := 147
abbrev T_iter_Seq2_int_api_Ins : TypeId := 148
abbrev T_func_s_api_Ins_iter_Seq2_int_api_Ins : TypeId := 149
abbrev T_14_bool : TypeId := 150
theorem E_14_bool : V.E 150 = some ⟨.array 14 4, 14, 14, (.agg #[(.bool false), (.bool false), (.bool false), (.bool false), (.bool false), (.bool false), (.bool false), (.bool false), (.bool false), (.bool false), (.bool false), (.bool false), (.bool false), (.bool false)])⟩ := by kernel_rfl
abbrev T_func_s_api_Ins_int : TypeId := 151
abbrev T_func_s_int_func_int_bool_int : TypeId := 152
abbrev T_func_int_iter_Seq_int : TypeId := 153
abbrev T_uint32 : TypeId := 154
theorem E_uint32 : V.E 154 = some ⟨.int .u32, 1, 4, (.int .u32 0)⟩ := by kernel_rfl
abbrev T_uint32_uint32 : TypeId := 155
abbrev T_func_uint32_uint32_uint32_uint32 : TypeId := 156
abbrev T_uint64 : TypeId := 157
theorem E_uint64 : V.E 157 = some ⟨.int .u64, 1, 8, (.int .u64 0)⟩ := by kernel_rfl
abbrev T_uint64_uint64 : TypeId := 158
abbrev T_func_uint64_uint64_uint64_uint64 : TypeId := 159
abbrev T_s_api_Mem : TypeId := 160
theorem E_s_api_Mem : V.E 160 = some ⟨.slice 198, 1, 24, (.slice none 0 0)⟩ := by kernel_rfl
abbrev T_s_string : TypeId := 161
theorem E_s_string : V.E 161 = some ⟨.slice 9, 1, 24, (.slice none 0 0)⟩ := by kernel_rfl
abbrev T_struct162 : TypeId := 162
abbrev T_api_Fun : TypeId := 163
noncomputable def te_api_Fun : TI := match V.E 163 with
  | some t => t
  | none => ⟨.bool, 0, 0, .nilFunc⟩
theorem E_api_Fun : V.E 163 = some te_api_Fun := by kernel_rfl
theorem te_api_Fun_size : te_api_Fun.size = 5 := by kernel_rfl
theorem te_api_Fun_bytes : te_api_Fun.bytes = 64 := by kernel_rfl
theorem te_api_Fun_agg : Desc.agg te_api_Fun.desc = true := by kernel_rfl
theorem te_api_Fun_zero : te_api_Fun.zv = (.agg #[(.string ⟨⟨[]⟩⟩), (.bool false), (.int .i64 0), (.int .i64 0), (.slice none 0 0)]) := by kernel_rfl
theorem O_api_Fun_Name {b o : Nat} : aField V.E 163 0 (.pointer (some ⟨b, o, none⟩)) = some (.pointer (some ⟨b, o + 0, none⟩)) := by kernel_rfl
theorem O_api_Fun_Thread {b o : Nat} : aField V.E 163 1 (.pointer (some ⟨b, o, none⟩)) = some (.pointer (some ⟨b, o + 1, none⟩)) := by kernel_rfl
theorem O_api_Fun_Params {b o : Nat} : aField V.E 163 2 (.pointer (some ⟨b, o, none⟩)) = some (.pointer (some ⟨b, o + 2, none⟩)) := by kernel_rfl
theorem O_api_Fun_Regs {b o : Nat} : aField V.E 163 3 (.pointer (some ⟨b, o, none⟩)) = some (.pointer (some ⟨b, o + 3, none⟩)) := by kernel_rfl
theorem O_api_Fun_Code {b o : Nat} : aField V.E 163 4 (.pointer (some ⟨b, o, none⟩)) = some (.pointer (some ⟨b, o + 4, none⟩)) := by kernel_rfl
abbrev T_s_api_Fun : TypeId := 164
theorem E_s_api_Fun : V.E 164 = some ⟨.slice 163, 1, 24, (.slice none 0 0)⟩ := by kernel_rfl
abbrev T_struct165 : TypeId := 165
abbrev T_api_Prog : TypeId := 166
noncomputable def te_api_Prog : TI := match V.E 166 with
  | some t => t
  | none => ⟨.bool, 0, 0, .nilFunc⟩
theorem E_api_Prog : V.E 166 = some te_api_Prog := by kernel_rfl
theorem te_api_Prog_size : te_api_Prog.size = 3 := by kernel_rfl
theorem te_api_Prog_bytes : te_api_Prog.bytes = 72 := by kernel_rfl
theorem te_api_Prog_agg : Desc.agg te_api_Prog.desc = true := by kernel_rfl
theorem te_api_Prog_zero : te_api_Prog.zv = (.agg #[(.slice none 0 0), (.slice none 0 0), (.slice none 0 0)]) := by kernel_rfl
theorem O_api_Prog_Mems {b o : Nat} : aField V.E 166 0 (.pointer (some ⟨b, o, none⟩)) = some (.pointer (some ⟨b, o + 0, none⟩)) := by kernel_rfl
theorem O_api_Prog_Locks {b o : Nat} : aField V.E 166 1 (.pointer (some ⟨b, o, none⟩)) = some (.pointer (some ⟨b, o + 1, none⟩)) := by kernel_rfl
theorem O_api_Prog_Funs {b o : Nat} : aField V.E 166 2 (.pointer (some ⟨b, o, none⟩)) = some (.pointer (some ⟨b, o + 2, none⟩)) := by kernel_rfl
abbrev T_func_api_Prog_int_api_Ins_bool : TypeId := 167
abbrev T_func_s_api_Phi_func_api_Phi_bool_int : TypeId := 168
abbrev T_func_s_s_int_func_s_int_bool_bool : TypeId := 169
abbrev T_func_s_int_bool : TypeId := 170
abbrev T_func_s_int_1 : TypeId := 171
abbrev T_func_loads_known_func_loads_cell_int_bool : TypeId := 172
abbrev T_func_loads_cell_int_bool : TypeId := 173
abbrev T_func_int_api_Ins_bool : TypeId := 174
abbrev T_func_api_Prog_api_Fun_api_Ins_bool : TypeId := 175
abbrev T_func_s_s_int_func_s_int_bool_int : TypeId := 176
abbrev T_func_s_api_Ins : TypeId := 177
abbrev T_func_api_Ins_api_Ins_bool : TypeId := 178
abbrev T_func_code_op_api_Ins_api_Ins : TypeId := 179
abbrev T_func_api_Prog_api_Fun_code_op_api_Ins_bool : TypeId := 180
abbrev T_func_string : TypeId := 181
abbrev T_struct182 : TypeId := 182
abbrev T_runtime_TypeAssertionError : TypeId := 183
abbrev T_0_p_runtime_PanicNilError : TypeId := 184
abbrev T_struct185 : TypeId := 185
abbrev T_runtime_PanicNilError : TypeId := 186
abbrev T_func_int_1 : TypeId := 187
abbrev T_abi_TFlag : TypeId := 188
abbrev T_abi_Kind : TypeId := 189
abbrev T_func_unsafe_Pointer_unsafe_Pointer_bool : TypeId := 190
abbrev T_p_uint8 : TypeId := 191
theorem E_p_uint8 : V.E 191 = some ⟨.pointer 5, 1, 8, (.pointer none)⟩ := by kernel_rfl
abbrev T_abi_NameOff : TypeId := 192
abbrev T_abi_TypeOff : TypeId := 193
abbrev T_struct194 : TypeId := 194
abbrev T_abi_Type : TypeId := 195
abbrev T_func_int_int : TypeId := 196
abbrev T_struct197 : TypeId := 197
abbrev T_api_Mem : TypeId := 198
abbrev T_unsafe_Pointer : TypeId := 199
/- bobbin/code.Reads -/
abbrev F_code_Reads : FuncId := 27
def P_code_Reads : PC :=
.seq (
.reg [.run (.box 39 (.tmp (far + 0))) none,
  .run (.assign (.const (.slice none 0 0))) none] [(2, 0), (1, 1)]) (
.seq (
.reg [.run (.load 39 (.tmp (far + 1))) none,
  .run (.call ⟨.value (.func 56), #[(.tmp 0)], #[39]⟩) none,
  .run (.call ⟨.value (.func 55), #[(.tmp 0)], #[87]⟩) none] [(2, 0)]) (
.ret))
theorem fn_code_Reads : V.F 27 = some Tryd.f27 := by kernel_rfl
theorem is_code_Reads : (V.F 27).isSome = true := by rw [fn_code_Reads]; rfl
noncomputable def c_code_Reads : Code := match Tryd.f27.body with
  | some c => c
  | none => .skip
theorem b_code_Reads : Tryd.f27.body = some c_code_Reads := rfl
theorem pc_code_Reads : pcOf V Tryd.f27.ntmps (some (liveOf Tryd.f27 c_code_Reads)) c_code_Reads = some P_code_Reads := by kernel_rfl
theorem Lc.code_Reads {O : Orc} {vs : List Value} {H : AH} {R : Value → AH → Prop} (ho : O 27 vs H = none) (hlen : vs.length ≤ Tryd.f27.ntmps) (hlive : (List.range vs.length).all (isLive (some (liveOf Tryd.f27 c_code_Reads))) = true)
    (h : WP V O (some (liveOf Tryd.f27 c_code_Reads)) Tryd.f27.ntmps P_code_Reads (initL vs 0) H fun e l H' => (e = .normal ∨ e = .ret) ∧ ∃ rs, resL V l H' Tryd.f27.results.toList = some rs ∧ R (resOf rs) H') : ∃ v H', Lc V O 27 vs H v H' ∧ R v H' :=
  Lc.fnP ho fn_code_Reads b_code_Reads pc_code_Reads hlen hlive h
/- bobbin/code.Writes -/
abbrev F_code_Writes : FuncId := 28
def P_code_Writes : PC :=
.seq (
.reg [.run (.box 39 (.tmp (far + 0))) none,
  .run (.assign (.const (.int .i64 0))) none,
  .run (.assign (.const (.bool false))) none] [(3, 0), (2, 1), (1, 2)]) (
.seq (
.seq (
.reg [.run (.load 39 (.tmp (far + 1))) none,
  .run (.call ⟨.value (.func 57), #[(.tmp 0)], #[39]⟩) none,
  .run (.extract (.tmp 0) 0) none,
  .run (.extract (.tmp 1) 1) none,
  .run (.alloc 90) none,
  .run (.store 90 (.tmp 0) (.tmp 2)) none] [(5, 2), (4, 1)]) (
.seq (
.reg [.get 5,
  .run (.fieldAddr 90 (.tmp (far + 4)) 0) (some ((.tmp 0), true)),
  .run (.load 4 (.tmp 0)) (some ((.tmp 1), true)),
  .run (.pick (.tmp 2) (.tmp 0) (.const (.bool false))) none] [(15, 0)]) (
.cond (.tmp 15) (
  .seq (
  .reg [.run (.fieldAddr 39 (.tmp (far + 1)) 1) none,
    .run (.load 3 (.tmp 0)) none,
    .run (.assign (.const (.bool true))) none] [(3, 0), (2, 1)]) (
  .ret)) (
  .skip)))) (
.seq (
.reg [.run (.assign (.const (.int .i64 0))) none,
  .run (.assign (.const (.bool false))) none] [(3, 0), (2, 1)]) (
.ret)))
theorem fn_code_Writes : V.F 28 = some Tryd.f28 := by kernel_rfl
theorem is_code_Writes : (V.F 28).isSome = true := by rw [fn_code_Writes]; rfl
noncomputable def c_code_Writes : Code := match Tryd.f28.body with
  | some c => c
  | none => .skip
theorem b_code_Writes : Tryd.f28.body = some c_code_Writes := rfl
theorem pc_code_Writes : pcOf V Tryd.f28.ntmps (some (liveOf Tryd.f28 c_code_Writes)) c_code_Writes = some P_code_Writes := by kernel_rfl
theorem Lc.code_Writes {O : Orc} {vs : List Value} {H : AH} {R : Value → AH → Prop} (ho : O 28 vs H = none) (hlen : vs.length ≤ Tryd.f28.ntmps) (hlive : (List.range vs.length).all (isLive (some (liveOf Tryd.f28 c_code_Writes))) = true)
    (h : WP V O (some (liveOf Tryd.f28 c_code_Writes)) Tryd.f28.ntmps P_code_Writes (initL vs 0) H fun e l H' => (e = .normal ∨ e = .ret) ∧ ∃ rs, resL V l H' Tryd.f28.results.toList = some rs ∧ R (resOf rs) H') : ∃ v H', Lc V O 28 vs H v H' ∧ R v H' :=
  Lc.fnP ho fn_code_Writes b_code_Writes pc_code_Writes hlen hlive h
/- bobbin/flow.May -/
abbrev F_flow_May : FuncId := 30
def P_flow_May : PC :=
.seq (
.reg [.run (.box 24 (.tmp (far + 0))) none,
  .run (.assign (.const (.bool false))) none] [(2, 0), (1, 1)]) (
.seq (
.reg [.run (.fieldAddr 24 (.tmp (far + 1)) 4) none,
  .run (.load 22 (.tmp 0)) none,
  .run (.call ⟨.builtin .len, #[(.tmp 0)], #[22]⟩) none] [(3, 0)]) (
.seq (
.seq (
.reg [.run (.fieldAddr 24 (.tmp (far + 1)) 2) none,
  .run (.load 3 (.tmp 0)) none,
  .run (.binOp .lss 3 (.tmp 0) (.const (.int .i64 0)) 3) none,
  .run (.fieldAddr 24 (.tmp (far + 1)) 2) (some ((.tmp 0), false)),
  .run (.load 3 (.tmp 0)) (some ((.tmp 1), false)),
  .run (.binOp .gtr 3 (.tmp 0) (.const (.int .i64 8)) 3) (some ((.tmp 2), false)),
  .run (.pick (.tmp 3) (.const (.bool true)) (.tmp 0)) none,
  .run (.fieldAddr 24 (.tmp (far + 1)) 1) (some ((.tmp 0), false)),
  .run (.load 4 (.tmp 0)) (some ((.tmp 1), false)),
  .run (.move (.tmp 0)) (some ((.tmp 2), false)),
  .run (.fieldAddr 24 (.tmp (far + 1)) 2) (some ((.tmp 0), true)),
  .run (.load 3 (.tmp 0)) (some ((.tmp 1), true)),
  .run (.binOp .gtr 3 (.tmp 0) (.const (.int .i64 0)) 3) (some ((.tmp 2), true)),
  .run (.pick (.tmp 3) (.tmp 0) (.const (.bool false))) (some ((.tmp 6), false)),
  .run (.pick (.tmp 7) (.const (.bool true)) (.tmp 0)) none,
  .run (.fieldAddr 24 (.tmp (far + 1)) 3) (some ((.tmp 0), false)),
  .run (.load 3 (.tmp 0)) (some ((.tmp 1), false)),
  .run (.fieldAddr 24 (.tmp (far + 1)) 2) (some ((.tmp 2), false)),
  .run (.load 3 (.tmp 0)) (some ((.tmp 3), false)),
  .run (.binOp .lss 3 (.tmp 2) (.tmp 0) 3) (some ((.tmp 4), false)),
  .run (.pick (.tmp 5) (.const (.bool true)) (.tmp 0)) none,
  .run (.fieldAddr 24 (.tmp (far + 1)) 3) (some ((.tmp 0), false)),
  .run (.load 3 (.tmp 0)) (some ((.tmp 1), false)),
  .run (.binOp .gtr 3 (.tmp 0) (.const (.int .i64 65536)) 3) (some ((.tmp 2), false)),
  .run (.pick (.tmp 3) (.const (.bool true)) (.tmp 0)) none,
  .run (.move (.tmp (far + 3))) (some ((.tmp 0), false)),
  .run (.binOp .lss 3 (.tmp 0) (.const (.int .i64 1)) 3) (some ((.tmp 1), false)),
  .run (.pick (.tmp 2) (.const (.bool true)) (.tmp 0)) none,
  .run (.move (.tmp (far + 3))) (some ((.tmp 0), false)),
  .run (.binOp .gtr 3 (.tmp 0) (.const (.int .i64 32768)) 3) (some ((.tmp 1), false)),
  .run (.pick (.tmp 2) (.const (.bool true)) (.tmp 0)) none,
  .run (.fieldAddr 24 (.tmp (far + 1)) 4) (some ((.tmp 0), false)),
  .run (.load 22 (.tmp 0)) (some ((.tmp 1), false)),
  .run (.indexAddr 22 (.tmp 0) (.const (.int .i64 0))) (some ((.tmp 2), false)),
  .run (.fieldAddr 34 (.tmp 0) 0) (some ((.tmp 3), false)),
  .run (.load 30 (.tmp 0)) (some ((.tmp 4), false)),
  .run (.call ⟨.builtin .len, #[(.tmp 0)], #[30]⟩) (some ((.tmp 5), false)),
  .run (.binOp .gtr 3 (.tmp 0) (.const (.int .i64 0)) 3) (some ((.tmp 6), false)),
  .run (.pick (.tmp 7) (.const (.bool true)) (.tmp 0)) none] [(53, 0)]) (
.cond (.tmp 53) (
  .seq (
  .reg [.run (.assign (.const (.bool false))) none] [(2, 0)]) (
  .ret)) (
  .skip))) (
.seq (
.seq (
.reg [.run (.fieldAddr 24 (.tmp (far + 1)) 4) none,
  .run (.load 22 (.tmp 0)) none,
  .run (.makeFunc (.func 59) #[] #[(.tmp (far + 1))]) none,
  .run (.call ⟨.value (.func 58), #[(.tmp 1), (.tmp 0)], #[22, 95]⟩) none,
  .run (.fieldAddr 24 (.tmp (far + 1)) 4) (some ((.tmp 0), false)),
  .run (.load 22 (.tmp 0)) (some ((.tmp 1), false)),
  .run (.call ⟨.value (.func 61), #[(.tmp 0)], #[22]⟩) (some ((.tmp 2), false)),
  .run (.unOp .not 4 (.tmp 0)) (some ((.tmp 3), false)),
  .run (.pick (.tmp 4) (.const (.bool true)) (.tmp 0)) none] [(63, 0)]) (
.cond (.tmp 63) (
  .seq (
  .reg [.run (.assign (.const (.bool false))) none] [(2, 0)]) (
  .ret)) (
  .skip))) (
.seq (
.seq (
.reg [.run (.fieldAddr 24 (.tmp (far + 1)) 4) none,
  .run (.load 22 (.tmp 0)) none,
  .run (.call ⟨.builtin .len, #[(.tmp 0)], #[22]⟩) none,
  .run (.move (.const (.int .i64 0))) none] [(67, 0), (66, 1)]) (
.block 0 (
 .loop (
  .seq (
  .reg [.run (.binOp .lss 3 (.tmp (far + 67)) (.tmp (far + 66)) 3) none] [(68, 0)]) (
  .seq (
  .cond (.tmp 68) (
    .skip) (
    .exit 0)) (
  .seq (
  .block 1 (
   .seq (
   .reg [.get 67] [(4, 0)]) (
   .seq (
   .reg [.run (.fieldAddr 24 (.tmp (far + 1)) 4) none,
     .run (.load 22 (.tmp 0)) none,
     .get 4,
     .run (.call ⟨.value (.func 62), #[(.tmp 1), (.tmp 0)], #[22, 3]⟩) none] [(73, 0)]) (
   .cond (.tmp 73) (
     .seq (
     .reg [.run (.assign (.const (.bool false))) none] [(2, 0)]) (
     .ret)) (
     .skip))))) (
  .reg [.run (.binOp .add 3 (.tmp (far + 67)) (.const (.int .i64 1)) 3) none] [(67, 0)]))))))) (
.seq (
.reg [.run (.assign (.const (.bool true))) none] [(2, 0)]) (
.ret))))))
theorem fn_flow_May : V.F 30 = some Tryd.f30 := by kernel_rfl
theorem is_flow_May : (V.F 30).isSome = true := by rw [fn_flow_May]; rfl
noncomputable def c_flow_May : Code := match Tryd.f30.body with
  | some c => c
  | none => .skip
theorem b_flow_May : Tryd.f30.body = some c_flow_May := rfl
theorem pc_flow_May : pcOf V Tryd.f30.ntmps (some (liveOf Tryd.f30 c_flow_May)) c_flow_May = some P_flow_May := by kernel_rfl
theorem Lc.flow_May {O : Orc} {vs : List Value} {H : AH} {R : Value → AH → Prop} (ho : O 30 vs H = none) (hlen : vs.length ≤ Tryd.f30.ntmps) (hlive : (List.range vs.length).all (isLive (some (liveOf Tryd.f30 c_flow_May))) = true)
    (h : WP V O (some (liveOf Tryd.f30 c_flow_May)) Tryd.f30.ntmps P_flow_May (initL vs 0) H fun e l H' => (e = .normal ∨ e = .ret) ∧ ∃ rs, resL V l H' Tryd.f30.results.toList = some rs ∧ R (resOf rs) H') : ∃ v H', Lc V O 30 vs H v H' ∧ R v H' :=
  Lc.fnP ho fn_flow_May b_flow_May pc_flow_May hlen hlive h
/- bobbin/code.reads -/
abbrev F_code_reads : FuncId := 56
def P_code_reads : PC :=
.seq (
.reg [.run (.box 39 (.tmp (far + 0))) none,
  .run (.assign (.const .nilFunc)) none] [(2, 0), (1, 1)]) (
.seq (
.reg [.run (.load 39 (.tmp (far + 1))) none,
  .run (.call ⟨.value (.func 57), #[(.tmp 0)], #[39]⟩) none,
  .run (.extract (.tmp 0) 0) none,
  .run (.extract (.tmp 1) 1) none,
  .run (.alloc 90) none,
  .run (.store 90 (.tmp 0) (.tmp 2)) none] [(3, 1)]) (
.seq (
.reg [.run (.buildSlice 32 0 #[]) none] [(5, 0)]) (
.seq (
.seq (
.reg [.run (.fieldAddr 90 (.tmp (far + 3)) 1) none,
  .run (.load 4 (.tmp 0)) none,
  .run (.fieldAddr 90 (.tmp (far + 3)) 3) (some ((.tmp 0), true)),
  .run (.load 4 (.tmp 0)) (some ((.tmp 1), true)),
  .run (.move (.tmp 0)) (some ((.tmp 2), true)),
  .run (.fieldAddr 39 (.tmp (far + 1)) 2) (some ((.tmp 0), true)),
  .run (.load 3 (.tmp 0)) (some ((.tmp 1), true)),
  .run (.binOp .eql 3 (.tmp 0) (.const (.int .i64 (-1))) 3) (some ((.tmp 2), true)),
  .run (.pick (.tmp 3) (.tmp 0) (.const (.bool false))) (some ((.tmp 6), true)),
  .run (.unOp .not 4 (.tmp 0)) (some ((.tmp 7), true)),
  .run (.pick (.tmp 8) (.tmp 0) (.const (.bool false))) none] [(23, 0)]) (
.cond (.tmp 23) (
  .reg [.get 5,
    .run (.fieldAddr 39 (.tmp (far + 1)) 2) none,
    .run (.load 3 (.tmp 0)) none,
    .run (.buildSlice 32 1 #[(0, (.tmp 0))]) none,
    .run (.call ⟨.builtin .append, #[(.tmp 3), (.tmp 0)], #[32, 32]⟩) none] [(5, 0)]) (
  .skip))) (
.seq (
.seq (
.reg [.run (.fieldAddr 90 (.tmp (far + 3)) 2) none,
  .run (.load 4 (.tmp 0)) none] [(30, 0)]) (
.cond (.tmp 30) (
  .reg [.get 5,
    .run (.fieldAddr 39 (.tmp (far + 1)) 3) none,
    .run (.load 3 (.tmp 0)) none,
    .run (.buildSlice 32 1 #[(0, (.tmp 0))]) none,
    .run (.call ⟨.builtin .append, #[(.tmp 3), (.tmp 0)], #[32, 32]⟩) none] [(5, 0)]) (
  .skip))) (
.seq (
.seq (
.reg [.run (.fieldAddr 90 (.tmp (far + 3)) 4) none,
  .run (.load 3 (.tmp 0)) none,
  .run (.binOp .eql 3 (.tmp 0) (.const (.int .i64 6)) 3) none] [(38, 0)]) (
.cond (.tmp 38) (
  .reg [.get 5,
    .run (.fieldAddr 39 (.tmp (far + 1)) 5) none,
    .run (.load 32 (.tmp 0)) none,
    .run (.call ⟨.builtin .append, #[(.tmp 2), (.tmp 0)], #[32, 32]⟩) none] [(5, 0)]) (
  .skip))) (
.seq (
.reg [.get 5,
  .run (.call ⟨.value (.func 89), #[(.tmp 0)], #[32]⟩) none] [(2, 0)]) (
.ret)))))))
theorem fn_code_reads : V.F 56 = some Tryd.f56 := by kernel_rfl
theorem is_code_reads : (V.F 56).isSome = true := by rw [fn_code_reads]; rfl
noncomputable def c_code_reads : Code := match Tryd.f56.body with
  | some c => c
  | none => .skip
theorem b_code_reads : Tryd.f56.body = some c_code_reads := rfl
theorem pc_code_reads : pcOf V Tryd.f56.ntmps (some (liveOf Tryd.f56 c_code_reads)) c_code_reads = some P_code_reads := by kernel_rfl
theorem Lc.code_reads {O : Orc} {vs : List Value} {H : AH} {R : Value → AH → Prop} (ho : O 56 vs H = none) (hlen : vs.length ≤ Tryd.f56.ntmps) (hlive : (List.range vs.length).all (isLive (some (liveOf Tryd.f56 c_code_reads))) = true)
    (h : WP V O (some (liveOf Tryd.f56 c_code_reads)) Tryd.f56.ntmps P_code_reads (initL vs 0) H fun e l H' => (e = .normal ∨ e = .ret) ∧ ∃ rs, resL V l H' Tryd.f56.results.toList = some rs ∧ R (resOf rs) H') : ∃ v H', Lc V O 56 vs H v H' ∧ R v H' :=
  Lc.fnP ho fn_code_reads b_code_reads pc_code_reads hlen hlive h
/- bobbin/code.of -/
abbrev F_code_of : FuncId := 57
def P_code_of : PC :=
.seq (
.reg [.run (.box 39 (.tmp (far + 0))) none,
  .run (.alloc 90) none,
  .run (.assign (.const (.bool false))) none] [(3, 0), (2, 1), (1, 2)]) (
.seq (
.seq (
.reg [.run (.fieldAddr 39 (.tmp (far + 1)) 0) none,
  .run (.load 5 (.tmp 0)) none,
  .run (.binOp .lss 5 (.tmp 0) (.const (.int .u8 1)) 5) none,
  .run (.fieldAddr 39 (.tmp (far + 1)) 0) (some ((.tmp 0), false)),
  .run (.load 5 (.tmp 0)) (some ((.tmp 1), false)),
  .run (.convert 5 3 (.tmp 0)) (some ((.tmp 2), false)),
  .run (.binOp .geq 3 (.tmp 0) (.const (.int .i64 14)) 3) (some ((.tmp 3), false)),
  .run (.pick (.tmp 4) (.const (.bool true)) (.tmp 0)) none] [(12, 0)]) (
.cond (.tmp 12) (
  .seq (
  .reg [.run (.build 90 #[]) none,
    .run (.store 90 (.tmp (far + 2)) (.tmp 0)) none,
    .run (.assign (.const (.bool false))) none] [(3, 0)]) (
  .ret)) (
  .skip))) (
.seq (
.reg [.run (.fieldAddr 39 (.tmp (far + 1)) 0) none,
  .run (.load 5 (.tmp 0)) none,
  .run (.indexAddr 131 (.global 0) (.tmp 0)) none,
  .run (.load 90 (.tmp 0)) none,
  .run (.store 90 (.tmp (far + 2)) (.tmp 0)) none,
  .run (.assign (.const (.bool true))) none] [(3, 0)]) (
.ret)))
theorem fn_code_of : V.F 57 = some Tryd.f57 := by kernel_rfl
theorem is_code_of : (V.F 57).isSome = true := by rw [fn_code_of]; rfl
noncomputable def c_code_of : Code := match Tryd.f57.body with
  | some c => c
  | none => .skip
theorem b_code_of : Tryd.f57.body = some c_code_of := rfl
theorem pc_code_of : pcOf V Tryd.f57.ntmps (some (liveOf Tryd.f57 c_code_of)) c_code_of = some P_code_of := by kernel_rfl
theorem Lc.code_of {O : Orc} {vs : List Value} {H : AH} {R : Value → AH → Prop} (ho : O 57 vs H = none) (hlen : vs.length ≤ Tryd.f57.ntmps) (hlive : (List.range vs.length).all (isLive (some (liveOf Tryd.f57 c_code_of))) = true)
    (h : WP V O (some (liveOf Tryd.f57 c_code_of)) Tryd.f57.ntmps P_code_of (initL vs 0) H fun e l H' => (e = .normal ∨ e = .ret) ∧ ∃ rs, resL V l H' Tryd.f57.results.toList = some rs ∧ R (resOf rs) H') : ∃ v H', Lc V O 57 vs H v H' ∧ R v H' :=
  Lc.fnP ho fn_code_of b_code_of pc_code_of hlen hlive h
/- slices.ContainsFunc[[]bobbin/api.Block,bobbin/api.Block] -/
abbrev F_slices_ContainsFunc_s_api_Block_api_Block : FuncId := 58
def P_slices_ContainsFunc_s_api_Block_api_Block : PC :=
.seq (
.reg [.run (.assign (.const (.bool false))) none] [(4, 0)]) (
.seq (
.reg [.get 0,
  .get 1,
  .run (.call ⟨.value (.func 90), #[(.tmp 1), (.tmp 0)], #[22, 95]⟩) none,
  .run (.binOp .geq 3 (.tmp 0) (.const (.int .i64 0)) 3) none] [(4, 0)]) (
.ret))
theorem fn_slices_ContainsFunc_s_api_Block_api_Block : V.F 58 = some Tryd.f58 := by kernel_rfl
theorem is_slices_ContainsFunc_s_api_Block_api_Block : (V.F 58).isSome = true := by rw [fn_slices_ContainsFunc_s_api_Block_api_Block]; rfl
noncomputable def c_slices_ContainsFunc_s_api_Block_api_Block : Code := match Tryd.f58.body with
  | some c => c
  | none => .skip
theorem b_slices_ContainsFunc_s_api_Block_api_Block : Tryd.f58.body = some c_slices_ContainsFunc_s_api_Block_api_Block := rfl
theorem pc_slices_ContainsFunc_s_api_Block_api_Block : pcOf V Tryd.f58.ntmps (some (liveOf Tryd.f58 c_slices_ContainsFunc_s_api_Block_api_Block)) c_slices_ContainsFunc_s_api_Block_api_Block = some P_slices_ContainsFunc_s_api_Block_api_Block := by kernel_rfl
theorem Lc.slices_ContainsFunc_s_api_Block_api_Block {O : Orc} {vs : List Value} {H : AH} {R : Value → AH → Prop} (ho : O 58 vs H = none) (hlen : vs.length ≤ Tryd.f58.ntmps) (hlive : (List.range vs.length).all (isLive (some (liveOf Tryd.f58 c_slices_ContainsFunc_s_api_Block_api_Block))) = true)
    (h : WP V O (some (liveOf Tryd.f58 c_slices_ContainsFunc_s_api_Block_api_Block)) Tryd.f58.ntmps P_slices_ContainsFunc_s_api_Block_api_Block (initL vs 0) H fun e l H' => (e = .normal ∨ e = .ret) ∧ ∃ rs, resL V l H' Tryd.f58.results.toList = some rs ∧ R (resOf rs) H') : ∃ v H', Lc V O 58 vs H v H' ∧ R v H' :=
  Lc.fnP ho fn_slices_ContainsFunc_s_api_Block_api_Block b_slices_ContainsFunc_s_api_Block_api_Block pc_slices_ContainsFunc_s_api_Block_api_Block hlen hlive h
/- bobbin/flow.May$1 -/
abbrev F_flow_May_q1 : FuncId := 59
def P_flow_May_q1 : PC :=
.seq (
.reg [.run (.box 34 (.tmp (far + 0))) none,
  .run (.assign (.const (.bool false))) none] [(3, 0), (2, 1)]) (
.seq (
.reg [.run (.load 34 (.tmp (far + 2))) none,
  .run (.fieldAddr 24 (.tmp (far + 1)) 3) none,
  .run (.load 3 (.tmp 0)) none,
  .run (.call ⟨.value (.func 60), #[(.tmp 2), (.tmp 0)], #[34, 3]⟩) none,
  .run (.unOp .not 4 (.tmp 0)) none] [(3, 0)]) (
.ret))
theorem fn_flow_May_q1 : V.F 59 = some Tryd.f59 := by kernel_rfl
theorem is_flow_May_q1 : (V.F 59).isSome = true := by rw [fn_flow_May_q1]; rfl
noncomputable def c_flow_May_q1 : Code := match Tryd.f59.body with
  | some c => c
  | none => .skip
theorem b_flow_May_q1 : Tryd.f59.body = some c_flow_May_q1 := rfl
theorem pc_flow_May_q1 : pcOf V Tryd.f59.ntmps (some (liveOf Tryd.f59 c_flow_May_q1)) c_flow_May_q1 = some P_flow_May_q1 := by kernel_rfl
theorem Lc.flow_May_q1 {O : Orc} {vs : List Value} {H : AH} {R : Value → AH → Prop} (ho : O 59 vs H = none) (hlen : vs.length ≤ Tryd.f59.ntmps) (hlive : (List.range vs.length).all (isLive (some (liveOf Tryd.f59 c_flow_May_q1))) = true)
    (h : WP V O (some (liveOf Tryd.f59 c_flow_May_q1)) Tryd.f59.ntmps P_flow_May_q1 (initL vs 0) H fun e l H' => (e = .normal ∨ e = .ret) ∧ ∃ rs, resL V l H' Tryd.f59.results.toList = some rs ∧ R (resOf rs) H') : ∃ v H', Lc V O 59 vs H v H' ∧ R v H' :=
  Lc.fnP ho fn_flow_May_q1 b_flow_May_q1 pc_flow_May_q1 hlen hlive h
/- bobbin/flow.block -/
abbrev F_flow_block : FuncId := 60
def P_flow_block : PC :=
.seq (
.reg [.run (.box 34 (.tmp (far + 0))) none,
  .run (.box 3 (.tmp (far + 1))) none,
  .run (.assign (.const (.bool false))) none] [(4, 0), (3, 1), (2, 2)]) (
.seq (
.reg [.run (.assign (.const (.int .i64 1))) none] [(5, 0)]) (
.seq (
.seq (
.reg [.run (.fieldAddr 34 (.tmp (far + 2)) 1) none,
  .run (.load 31 (.tmp 0)) none,
  .run (.call ⟨.builtin .len, #[(.tmp 0)], #[31]⟩) none,
  .run (.move (.const (.int .i64 0))) none] [(12, 0), (11, 1), (10, 2)]) (
.block 0 (
 .loop (
  .seq (
  .reg [.run (.binOp .lss 3 (.tmp (far + 12)) (.tmp (far + 11)) 3) none] [(13, 0)]) (
  .seq (
  .cond (.tmp 13) (
    .skip) (
    .exit 0)) (
  .seq (
  .block 1 (
   .seq (
   .reg [.get 12,
     .run (.indexAddr 31 (.tmp (far + 10)) (.tmp (far + 12))) none,
     .run (.load 39 (.tmp 0)) none,
     .run (.alloc 39) none,
     .run (.store 39 (.tmp 0) (.tmp 1)) none] [(6, 4), (7, 1)]) (
   .seq (
   .seq (
   .reg [.run (.load 39 (.tmp (far + 7))) none,
     .run (.load 3 (.tmp (far + 3))) none,
     .run (.call ⟨.value (.func 91), #[(.tmp 1), (.tmp 0)], #[39, 3]⟩) none,
     .run (.unOp .not 4 (.tmp 0)) none,
     .run (.fieldAddr 39 (.tmp (far + 7)) 0) (some ((.tmp 0), false)),
     .run (.load 5 (.tmp 0)) (some ((.tmp 1), false)),
     .run (.call ⟨.value (.func 92), #[(.tmp 0)], #[5]⟩) (some ((.tmp 2), false)),
     .run (.move (.tmp 0)) (some ((.tmp 3), false)),
     .run (.move (.tmp (far + 6))) (some ((.tmp 0), true)),
     .run (.binOp .add 3 (.tmp 0) (.const (.int .i64 1)) 3) (some ((.tmp 1), true)),
     .run (.fieldAddr 34 (.tmp (far + 2)) 1) (some ((.tmp 2), true)),
     .run (.load 31 (.tmp 0)) (some ((.tmp 3), true)),
     .run (.call ⟨.builtin .len, #[(.tmp 0)], #[31]⟩) (some ((.tmp 4), true)),
     .run (.binOp .lss 3 (.tmp 3) (.tmp 0) 3) (some ((.tmp 5), true)),
     .run (.pick (.tmp 6) (.tmp 0) (.const (.bool false))) (some ((.tmp 10), false)),
     .run (.pick (.tmp 11) (.const (.bool true)) (.tmp 0)) none] [(33, 0)]) (
   .cond (.tmp 33) (
     .seq (
     .reg [.run (.assign (.const (.bool false))) none] [(4, 0)]) (
     .ret)) (
     .skip))) (
   .seq (
   .reg [.run (.fieldAddr 39 (.tmp (far + 7)) 0) none,
     .run (.load 5 (.tmp 0)) none] [(35, 0)]) (
   .block 2 (
    .seq (
    .reg [.run (.binOp .eql 5 (.tmp (far + 35)) (.const (.int .u8 12)) 5) none] [(36, 0)]) (
    .cond (.tmp 36) (
      .reg [.run (.assign (.const (.int .i64 2))) none] [(5, 0)]) (
      .seq (
      .reg [.run (.binOp .eql 5 (.tmp (far + 35)) (.const (.int .u8 13)) 5) none] [(38, 0)]) (
      .cond (.tmp 38) (
        .reg [.run (.assign (.const (.int .i64 0))) none] [(5, 0)]) (
        .skip)))))))))) (
  .reg [.run (.binOp .add 3 (.tmp (far + 12)) (.const (.int .i64 1)) 3) none] [(12, 0)]))))))) (
.seq (
.reg [.run (.makeFunc (.func 93) #[] #[(.tmp (far + 3))]) none,
  .run (.alloc 122) none,
  .run (.store 122 (.tmp 0) (.tmp 1)) none] [(8, 1)]) (
.seq (
.reg [.run (.fieldAddr 34 (.tmp (far + 2)) 3) none,
  .run (.load 32 (.tmp 0)) none,
  .run (.call ⟨.builtin .len, #[(.tmp 0)], #[32]⟩) none,
  .get 5,
  .run (.binOp .eql 3 (.tmp 1) (.tmp 0) 3) none,
  .run (.fieldAddr 34 (.tmp (far + 2)) 0) (some ((.tmp 0), true)),
  .run (.load 30 (.tmp 0)) (some ((.tmp 1), true)),
  .run (.makeFunc (.func 95) #[] #[(.tmp (far + 8)), (.tmp (far + 2))]) (some ((.tmp 2), true)),
  .run (.call ⟨.value (.func 94), #[(.tmp 1), (.tmp 0)], #[30, 136]⟩) (some ((.tmp 3), true)),
  .run (.unOp .not 4 (.tmp 0)) (some ((.tmp 4), true)),
  .run (.pick (.tmp 5) (.tmp 0) (.const (.bool false))) none] [(4, 0)]) (
.ret)))))
theorem fn_flow_block : V.F 60 = some Tryd.f60 := by kernel_rfl
theorem is_flow_block : (V.F 60).isSome = true := by rw [fn_flow_block]; rfl
noncomputable def c_flow_block : Code := match Tryd.f60.body with
  | some c => c
  | none => .skip
theorem b_flow_block : Tryd.f60.body = some c_flow_block := rfl
theorem pc_flow_block : pcOf V Tryd.f60.ntmps (some (liveOf Tryd.f60 c_flow_block)) c_flow_block = some P_flow_block := by kernel_rfl
theorem Lc.flow_block {O : Orc} {vs : List Value} {H : AH} {R : Value → AH → Prop} (ho : O 60 vs H = none) (hlen : vs.length ≤ Tryd.f60.ntmps) (hlive : (List.range vs.length).all (isLive (some (liveOf Tryd.f60 c_flow_block))) = true)
    (h : WP V O (some (liveOf Tryd.f60 c_flow_block)) Tryd.f60.ntmps P_flow_block (initL vs 0) H fun e l H' => (e = .normal ∨ e = .ret) ∧ ∃ rs, resL V l H' Tryd.f60.results.toList = some rs ∧ R (resOf rs) H') : ∃ v H', Lc V O 60 vs H v H' ∧ R v H' :=
  Lc.fnP ho fn_flow_block b_flow_block pc_flow_block hlen hlive h
/- bobbin/flow.froms -/
abbrev F_flow_froms : FuncId := 61
def P_flow_froms : PC :=
.seq (
.reg [.run (.assign (.const (.bool false))) none] [(2, 0)]) (
.seq (
.reg [.get 0,
  .run (.call ⟨.builtin .len, #[(.tmp 0)], #[22]⟩) none,
  .run (.makeSlice 22 (.tmp 0) (.tmp 0)) none] [(3, 0)]) (
.seq (
.seq (
.reg [.get 0,
  .run (.call ⟨.builtin .len, #[(.tmp 0)], #[22]⟩) none,
  .run (.move (.const (.int .i64 0))) none] [(15, 0), (14, 1), (13, 2)]) (
.block 0 (
 .loop (
  .seq (
  .reg [.run (.binOp .lss 3 (.tmp (far + 15)) (.tmp (far + 14)) 3) none] [(16, 0)]) (
  .seq (
  .cond (.tmp 16) (
    .skip) (
    .exit 0)) (
  .seq (
  .block 1 (
   .seq (
   .reg [.get 15,
     .run (.indexAddr 22 (.tmp (far + 13)) (.tmp (far + 15))) none,
     .run (.load 34 (.tmp 0)) none,
     .run (.alloc 34) none,
     .run (.store 34 (.tmp 0) (.tmp 1)) none] [(4, 4), (5, 1)]) (
   .seq (
   .seq (
   .reg [.run (.fieldAddr 34 (.tmp (far + 5)) 3) none,
     .run (.load 32 (.tmp 0)) none,
     .run (.call ⟨.builtin .len, #[(.tmp 0)], #[32]⟩) none,
     .run (.move (.const (.int .i64 0))) none] [(23, 0), (22, 1), (21, 2)]) (
   .block 2 (
    .loop (
     .seq (
     .reg [.run (.binOp .lss 3 (.tmp (far + 23)) (.tmp (far + 22)) 3) none] [(24, 0)]) (
     .seq (
     .cond (.tmp 24) (
       .skip) (
       .exit 2)) (
     .seq (
     .block 3 (
      .seq (
      .reg [.run (.indexAddr 32 (.tmp (far + 21)) (.tmp (far + 23))) none,
        .run (.load 3 (.tmp 0)) none] [(7, 0)]) (
      .seq (
      .reg [.get 7,
        .run (.binOp .lss 3 (.tmp 0) (.const (.int .i64 0)) 3) none,
        .run (.move (.tmp (far + 7))) (some ((.tmp 0), false)),
        .run (.move (.tmp (far + 0))) (some ((.tmp 1), false)),
        .run (.call ⟨.builtin .len, #[(.tmp 0)], #[22]⟩) (some ((.tmp 2), false)),
        .run (.binOp .geq 3 (.tmp 2) (.tmp 0) 3) (some ((.tmp 3), false)),
        .run (.pick (.tmp 4) (.const (.bool true)) (.tmp 0)) none] [(34, 0)]) (
      .cond (.tmp 34) (
        .seq (
        .reg [.run (.assign (.const (.bool false))) none] [(2, 0)]) (
        .ret)) (
        .skip))))) (
     .reg [.run (.binOp .add 3 (.tmp (far + 23)) (.const (.int .i64 1)) 3) none] [(23, 0)]))))))) (
   .reg [.get 3,
     .get 4,
     .run (.fieldAddr 34 (.tmp (far + 5)) 3) none,
     .run (.load 32 (.tmp 0)) none,
     .run (.indexAddr 22 (.tmp 3) (.tmp 2)) none,
     .run (.fieldAddr 34 (.tmp 0) 3) none,
     .run (.store 32 (.tmp 0) (.tmp 2)) none] [])))) (
  .reg [.run (.binOp .add 3 (.tmp (far + 15)) (.const (.int .i64 1)) 3) none] [(15, 0)]))))))) (
.seq (
.reg [.get 3,
  .run (.call ⟨.value (.func 96), #[(.tmp 0)], #[22]⟩) none] []) (
.seq (
.seq (
.reg [.get 0,
  .run (.call ⟨.builtin .len, #[(.tmp 0)], #[22]⟩) none,
  .run (.move (.const (.int .i64 0))) none] [(47, 0), (46, 1), (45, 2)]) (
.block 4 (
 .loop (
  .seq (
  .reg [.run (.binOp .lss 3 (.tmp (far + 47)) (.tmp (far + 46)) 3) none] [(48, 0)]) (
  .seq (
  .cond (.tmp 48) (
    .skip) (
    .exit 4)) (
  .seq (
  .block 5 (
   .seq (
   .reg [.get 47,
     .run (.indexAddr 22 (.tmp (far + 45)) (.tmp (far + 47))) none,
     .run (.load 34 (.tmp 0)) none,
     .run (.alloc 34) none,
     .run (.store 34 (.tmp 0) (.tmp 1)) none] [(8, 4), (9, 1)]) (
   .seq (
   .reg [.run (.fieldAddr 34 (.tmp (far + 9)) 2) none,
     .run (.load 32 (.tmp 0)) none,
     .get 3,
     .get 8,
     .run (.indexAddr 22 (.tmp 1) (.tmp 0)) none,
     .run (.fieldAddr 34 (.tmp 0) 2) none,
     .run (.load 32 (.tmp 0)) none,
     .run (.call ⟨.value (.func 97), #[(.tmp 5), (.tmp 0)], #[32, 32]⟩) none,
     .run (.unOp .not 4 (.tmp 0)) none] [(60, 0)]) (
   .cond (.tmp 60) (
     .seq (
     .reg [.run (.assign (.const (.bool false))) none] [(2, 0)]) (
     .ret)) (
     .skip))))) (
  .reg [.run (.binOp .add 3 (.tmp (far + 47)) (.const (.int .i64 1)) 3) none] [(47, 0)]))))))) (
.seq (
.reg [.get 0,
  .run (.indexAddr 22 (.tmp 0) (.const (.int .i64 0))) none,
  .run (.fieldAddr 34 (.tmp 0) 2) none,
  .run (.load 32 (.tmp 0)) none,
  .run (.call ⟨.builtin .len, #[(.tmp 0)], #[32]⟩) none,
  .run (.binOp .eql 3 (.tmp 0) (.const (.int .i64 0)) 3) none] [(2, 0)]) (
.ret))))))
theorem fn_flow_froms : V.F 61 = some Tryd.f61 := by kernel_rfl
theorem is_flow_froms : (V.F 61).isSome = true := by rw [fn_flow_froms]; rfl
noncomputable def c_flow_froms : Code := match Tryd.f61.body with
  | some c => c
  | none => .skip
theorem b_flow_froms : Tryd.f61.body = some c_flow_froms := rfl
theorem pc_flow_froms : pcOf V Tryd.f61.ntmps (some (liveOf Tryd.f61 c_flow_froms)) c_flow_froms = some P_flow_froms := by kernel_rfl
theorem Lc.flow_froms {O : Orc} {vs : List Value} {H : AH} {R : Value → AH → Prop} (ho : O 61 vs H = none) (hlen : vs.length ≤ Tryd.f61.ntmps) (hlive : (List.range vs.length).all (isLive (some (liveOf Tryd.f61 c_flow_froms))) = true)
    (h : WP V O (some (liveOf Tryd.f61 c_flow_froms)) Tryd.f61.ntmps P_flow_froms (initL vs 0) H fun e l H' => (e = .normal ∨ e = .ret) ∧ ∃ rs, resL V l H' Tryd.f61.results.toList = some rs ∧ R (resOf rs) H') : ∃ v H', Lc V O 61 vs H v H' ∧ R v H' :=
  Lc.fnP ho fn_flow_froms b_flow_froms pc_flow_froms hlen hlive h
/- bobbin/flow.circle -/
abbrev F_flow_circle : FuncId := 62
def P_flow_circle : PC :=
.seq (
.reg [.run (.assign (.const (.bool false))) none] [(4, 0)]) (
.seq (
.reg [.get 1] [(5, 0)]) (
.seq (
.seq (
.reg [.get 0,
  .run (.call ⟨.builtin .len, #[(.tmp 0)], #[22]⟩) none,
  .run (.move (.const (.int .i64 0))) none] [(9, 0), (8, 1)]) (
.block 0 (
 .loop (
  .seq (
  .reg [.run (.binOp .lss 3 (.tmp (far + 9)) (.tmp (far + 8)) 3) none] [(10, 0)]) (
  .seq (
  .cond (.tmp 10) (
    .skip) (
    .exit 0)) (
  .seq (
  .block 1 (
   .seq (
   .seq (
   .reg [.get 0,
     .get 5,
     .run (.indexAddr 22 (.tmp 1) (.tmp 0)) none,
     .run (.fieldAddr 34 (.tmp 0) 1) none,
     .run (.load 31 (.tmp 0)) none,
     .run (.call ⟨.builtin .len, #[(.tmp 0)], #[31]⟩) none,
     .run (.binOp .gtr 3 (.tmp 0) (.const (.int .i64 0)) 3) none] [(17, 0)]) (
   .cond (.tmp 17) (
     .seq (
     .reg [.run (.assign (.const (.bool false))) none] [(4, 0)]) (
     .ret)) (
     .skip))) (
   .seq (
   .reg [.get 0,
     .get 5,
     .run (.indexAddr 22 (.tmp 1) (.tmp 0)) none,
     .run (.fieldAddr 34 (.tmp 0) 3) none,
     .run (.load 32 (.tmp 0)) none,
     .run (.indexAddr 32 (.tmp 0) (.const (.int .i64 0))) none,
     .run (.load 3 (.tmp 0)) none] [(5, 0)]) (
   .seq (
   .reg [.get 5,
     .get 1,
     .run (.binOp .eql 3 (.tmp 1) (.tmp 0) 3) none] [(27, 0)]) (
   .cond (.tmp 27) (
     .seq (
     .reg [.run (.assign (.const (.bool true))) none] [(4, 0)]) (
     .ret)) (
     .skip)))))) (
  .reg [.run (.binOp .add 3 (.tmp (far + 9)) (.const (.int .i64 1)) 3) none] [(9, 0)]))))))) (
.seq (
.reg [.run (.assign (.const (.bool false))) none] [(4, 0)]) (
.ret))))
theorem fn_flow_circle : V.F 62 = some Tryd.f62 := by kernel_rfl
theorem is_flow_circle : (V.F 62).isSome = true := by rw [fn_flow_circle]; rfl
noncomputable def c_flow_circle : Code := match Tryd.f62.body with
  | some c => c
  | none => .skip
theorem b_flow_circle : Tryd.f62.body = some c_flow_circle := rfl
theorem pc_flow_circle : pcOf V Tryd.f62.ntmps (some (liveOf Tryd.f62 c_flow_circle)) c_flow_circle = some P_flow_circle := by kernel_rfl
theorem Lc.flow_circle {O : Orc} {vs : List Value} {H : AH} {R : Value → AH → Prop} (ho : O 62 vs H = none) (hlen : vs.length ≤ Tryd.f62.ntmps) (hlive : (List.range vs.length).all (isLive (some (liveOf Tryd.f62 c_flow_circle))) = true)
    (h : WP V O (some (liveOf Tryd.f62 c_flow_circle)) Tryd.f62.ntmps P_flow_circle (initL vs 0) H fun e l H' => (e = .normal ∨ e = .ret) ∧ ∃ rs, resL V l H' Tryd.f62.results.toList = some rs ∧ R (resOf rs) H') : ∃ v H', Lc V O 62 vs H v H' ∧ R v H' :=
  Lc.fnP ho fn_flow_circle b_flow_circle pc_flow_circle hlen hlive h
/- slices.Clone[[]int,int] -/
abbrev F_slices_Clone_s_int_int : FuncId := 69
def P_slices_Clone_s_int_int : PC :=
.seq (
.reg [.run (.assign (.const (.slice none 0 0))) none] [(2, 0)]) (
.seq (
.seq (
.reg [.get 0,
  .run (.binOp .eql 32 (.tmp 0) (.const (.slice none 0 0)) 32) none] [(4, 0)]) (
.cond (.tmp 4) (
  .seq (
  .reg [.run (.assign (.const (.slice none 0 0))) none] [(2, 0)]) (
  .ret)) (
  .skip))) (
.seq (
.reg [.run (.buildSlice 32 0 #[]) none,
  .get 0,
  .run (.call ⟨.builtin .append, #[(.tmp 1), (.tmp 0)], #[32, 32]⟩) none] [(2, 0)]) (
.ret)))
theorem fn_slices_Clone_s_int_int : V.F 69 = some Tryd.f69 := by kernel_rfl
theorem is_slices_Clone_s_int_int : (V.F 69).isSome = true := by rw [fn_slices_Clone_s_int_int]; rfl
noncomputable def c_slices_Clone_s_int_int : Code := match Tryd.f69.body with
  | some c => c
  | none => .skip
theorem b_slices_Clone_s_int_int : Tryd.f69.body = some c_slices_Clone_s_int_int := rfl
theorem pc_slices_Clone_s_int_int : pcOf V Tryd.f69.ntmps (some (liveOf Tryd.f69 c_slices_Clone_s_int_int)) c_slices_Clone_s_int_int = some P_slices_Clone_s_int_int := by kernel_rfl
theorem Lc.slices_Clone_s_int_int {O : Orc} {vs : List Value} {H : AH} {R : Value → AH → Prop} (ho : O 69 vs H = none) (hlen : vs.length ≤ Tryd.f69.ntmps) (hlive : (List.range vs.length).all (isLive (some (liveOf Tryd.f69 c_slices_Clone_s_int_int))) = true)
    (h : WP V O (some (liveOf Tryd.f69 c_slices_Clone_s_int_int)) Tryd.f69.ntmps P_slices_Clone_s_int_int (initL vs 0) H fun e l H' => (e = .normal ∨ e = .ret) ∧ ∃ rs, resL V l H' Tryd.f69.results.toList = some rs ∧ R (resOf rs) H') : ∃ v H', Lc V O 69 vs H v H' ∧ R v H' :=
  Lc.fnP ho fn_slices_Clone_s_int_int b_slices_Clone_s_int_int pc_slices_Clone_s_int_int hlen hlive h
/- slices.Clone[[]bobbin/api.Ins,bobbin/api.Ins] -/
abbrev F_slices_Clone_s_api_Ins_api_Ins : FuncId := 71
def P_slices_Clone_s_api_Ins_api_Ins : PC :=
.seq (
.reg [.run (.assign (.const (.slice none 0 0))) none] [(2, 0)]) (
.seq (
.seq (
.reg [.get 0,
  .run (.binOp .eql 31 (.tmp 0) (.const (.slice none 0 0)) 31) none] [(4, 0)]) (
.cond (.tmp 4) (
  .seq (
  .reg [.run (.assign (.const (.slice none 0 0))) none] [(2, 0)]) (
  .ret)) (
  .skip))) (
.seq (
.reg [.run (.buildSlice 31 0 #[]) none,
  .get 0,
  .run (.call ⟨.builtin .append, #[(.tmp 1), (.tmp 0)], #[31, 31]⟩) none] [(2, 0)]) (
.ret)))
theorem fn_slices_Clone_s_api_Ins_api_Ins : V.F 71 = some Tryd.f71 := by kernel_rfl
theorem is_slices_Clone_s_api_Ins_api_Ins : (V.F 71).isSome = true := by rw [fn_slices_Clone_s_api_Ins_api_Ins]; rfl
noncomputable def c_slices_Clone_s_api_Ins_api_Ins : Code := match Tryd.f71.body with
  | some c => c
  | none => .skip
theorem b_slices_Clone_s_api_Ins_api_Ins : Tryd.f71.body = some c_slices_Clone_s_api_Ins_api_Ins := rfl
theorem pc_slices_Clone_s_api_Ins_api_Ins : pcOf V Tryd.f71.ntmps (some (liveOf Tryd.f71 c_slices_Clone_s_api_Ins_api_Ins)) c_slices_Clone_s_api_Ins_api_Ins = some P_slices_Clone_s_api_Ins_api_Ins := by kernel_rfl
theorem Lc.slices_Clone_s_api_Ins_api_Ins {O : Orc} {vs : List Value} {H : AH} {R : Value → AH → Prop} (ho : O 71 vs H = none) (hlen : vs.length ≤ Tryd.f71.ntmps) (hlive : (List.range vs.length).all (isLive (some (liveOf Tryd.f71 c_slices_Clone_s_api_Ins_api_Ins))) = true)
    (h : WP V O (some (liveOf Tryd.f71 c_slices_Clone_s_api_Ins_api_Ins)) Tryd.f71.ntmps P_slices_Clone_s_api_Ins_api_Ins (initL vs 0) H fun e l H' => (e = .normal ∨ e = .ret) ∧ ∃ rs, resL V l H' Tryd.f71.results.toList = some rs ∧ R (resOf rs) H') : ∃ v H', Lc V O 71 vs H v H' ∧ R v H' :=
  Lc.fnP ho fn_slices_Clone_s_api_Ins_api_Ins b_slices_Clone_s_api_Ins_api_Ins pc_slices_Clone_s_api_Ins_api_Ins hlen hlive h
/- slices.ContainsFunc[[]int,int] -/
abbrev F_slices_ContainsFunc_s_int_int : FuncId := 84
def P_slices_ContainsFunc_s_int_int : PC :=
.seq (
.reg [.run (.assign (.const (.bool false))) none] [(4, 0)]) (
.seq (
.reg [.get 0,
  .get 1,
  .run (.call ⟨.value (.func 108), #[(.tmp 1), (.tmp 0)], #[32, 122]⟩) none,
  .run (.binOp .geq 3 (.tmp 0) (.const (.int .i64 0)) 3) none] [(4, 0)]) (
.ret))
theorem fn_slices_ContainsFunc_s_int_int : V.F 84 = some Tryd.f84 := by kernel_rfl
theorem is_slices_ContainsFunc_s_int_int : (V.F 84).isSome = true := by rw [fn_slices_ContainsFunc_s_int_int]; rfl
noncomputable def c_slices_ContainsFunc_s_int_int : Code := match Tryd.f84.body with
  | some c => c
  | none => .skip
theorem b_slices_ContainsFunc_s_int_int : Tryd.f84.body = some c_slices_ContainsFunc_s_int_int := rfl
theorem pc_slices_ContainsFunc_s_int_int : pcOf V Tryd.f84.ntmps (some (liveOf Tryd.f84 c_slices_ContainsFunc_s_int_int)) c_slices_ContainsFunc_s_int_int = some P_slices_ContainsFunc_s_int_int := by kernel_rfl
theorem Lc.slices_ContainsFunc_s_int_int {O : Orc} {vs : List Value} {H : AH} {R : Value → AH → Prop} (ho : O 84 vs H = none) (hlen : vs.length ≤ Tryd.f84.ntmps) (hlive : (List.range vs.length).all (isLive (some (liveOf Tryd.f84 c_slices_ContainsFunc_s_int_int))) = true)
    (h : WP V O (some (liveOf Tryd.f84 c_slices_ContainsFunc_s_int_int)) Tryd.f84.ntmps P_slices_ContainsFunc_s_int_int (initL vs 0) H fun e l H' => (e = .normal ∨ e = .ret) ∧ ∃ rs, resL V l H' Tryd.f84.results.toList = some rs ∧ R (resOf rs) H') : ∃ v H', Lc V O 84 vs H v H' ∧ R v H' :=
  Lc.fnP ho fn_slices_ContainsFunc_s_int_int b_slices_ContainsFunc_s_int_int pc_slices_ContainsFunc_s_int_int hlen hlive h
/- slices.Values[[]int,int] -/
abbrev F_slices_Values_s_int_int : FuncId := 89
def P_slices_Values_s_int_int : PC :=
.seq (
.reg [.run (.box 32 (.tmp (far + 0))) none,
  .run (.assign (.const .nilFunc)) none] [(2, 0), (1, 1)]) (
.seq (
.reg [.run (.makeFunc (.func 113) #[] #[(.tmp (far + 1))]) none] [(2, 0)]) (
.ret))
theorem fn_slices_Values_s_int_int : V.F 89 = some Tryd.f89 := by kernel_rfl
theorem is_slices_Values_s_int_int : (V.F 89).isSome = true := by rw [fn_slices_Values_s_int_int]; rfl
noncomputable def c_slices_Values_s_int_int : Code := match Tryd.f89.body with
  | some c => c
  | none => .skip
theorem b_slices_Values_s_int_int : Tryd.f89.body = some c_slices_Values_s_int_int := rfl
theorem pc_slices_Values_s_int_int : pcOf V Tryd.f89.ntmps (some (liveOf Tryd.f89 c_slices_Values_s_int_int)) c_slices_Values_s_int_int = some P_slices_Values_s_int_int := by kernel_rfl
theorem Lc.slices_Values_s_int_int {O : Orc} {vs : List Value} {H : AH} {R : Value → AH → Prop} (ho : O 89 vs H = none) (hlen : vs.length ≤ Tryd.f89.ntmps) (hlive : (List.range vs.length).all (isLive (some (liveOf Tryd.f89 c_slices_Values_s_int_int))) = true)
    (h : WP V O (some (liveOf Tryd.f89 c_slices_Values_s_int_int)) Tryd.f89.ntmps P_slices_Values_s_int_int (initL vs 0) H fun e l H' => (e = .normal ∨ e = .ret) ∧ ∃ rs, resL V l H' Tryd.f89.results.toList = some rs ∧ R (resOf rs) H') : ∃ v H', Lc V O 89 vs H v H' ∧ R v H' :=
  Lc.fnP ho fn_slices_Values_s_int_int b_slices_Values_s_int_int pc_slices_Values_s_int_int hlen hlive h
/- slices.IndexFunc[[]bobbin/api.Block,bobbin/api.Block] -/
abbrev F_slices_IndexFunc_s_api_Block_api_Block : FuncId := 90
def P_slices_IndexFunc_s_api_Block_api_Block : PC :=
.seq (
.reg [.run (.assign (.const (.int .i64 0))) none] [(4, 0)]) (
.seq (
.seq (
.reg [.get 0,
  .run (.call ⟨.builtin .len, #[(.tmp 0)], #[22]⟩) none,
  .run (.move (.const (.int .i64 0))) none] [(8, 0), (7, 1)]) (
.block 0 (
 .loop (
  .seq (
  .reg [.run (.binOp .lss 3 (.tmp (far + 8)) (.tmp (far + 7)) 3) none] [(9, 0)]) (
  .seq (
  .cond (.tmp 9) (
    .skip) (
    .exit 0)) (
  .seq (
  .block 1 (
   .seq (
   .reg [.get 8] [(5, 0)]) (
   .seq (
   .reg [.get 1,
     .get 0,
     .get 5,
     .run (.indexAddr 22 (.tmp 1) (.tmp 0)) none,
     .run (.load 34 (.tmp 0)) none,
     .run (.call ⟨.value (.tmp 4), #[(.tmp 0)], #[34]⟩) none] [(16, 0)]) (
   .cond (.tmp 16) (
     .seq (
     .reg [.get 5] [(4, 0)]) (
     .ret)) (
     .skip))))) (
  .reg [.run (.binOp .add 3 (.tmp (far + 8)) (.const (.int .i64 1)) 3) none] [(8, 0)]))))))) (
.seq (
.reg [.run (.assign (.const (.int .i64 (-1)))) none] [(4, 0)]) (
.ret)))
theorem fn_slices_IndexFunc_s_api_Block_api_Block : V.F 90 = some Tryd.f90 := by kernel_rfl
theorem is_slices_IndexFunc_s_api_Block_api_Block : (V.F 90).isSome = true := by rw [fn_slices_IndexFunc_s_api_Block_api_Block]; rfl
noncomputable def c_slices_IndexFunc_s_api_Block_api_Block : Code := match Tryd.f90.body with
  | some c => c
  | none => .skip
theorem b_slices_IndexFunc_s_api_Block_api_Block : Tryd.f90.body = some c_slices_IndexFunc_s_api_Block_api_Block := rfl
theorem pc_slices_IndexFunc_s_api_Block_api_Block : pcOf V Tryd.f90.ntmps (some (liveOf Tryd.f90 c_slices_IndexFunc_s_api_Block_api_Block)) c_slices_IndexFunc_s_api_Block_api_Block = some P_slices_IndexFunc_s_api_Block_api_Block := by kernel_rfl
theorem Lc.slices_IndexFunc_s_api_Block_api_Block {O : Orc} {vs : List Value} {H : AH} {R : Value → AH → Prop} (ho : O 90 vs H = none) (hlen : vs.length ≤ Tryd.f90.ntmps) (hlive : (List.range vs.length).all (isLive (some (liveOf Tryd.f90 c_slices_IndexFunc_s_api_Block_api_Block))) = true)
    (h : WP V O (some (liveOf Tryd.f90 c_slices_IndexFunc_s_api_Block_api_Block)) Tryd.f90.ntmps P_slices_IndexFunc_s_api_Block_api_Block (initL vs 0) H fun e l H' => (e = .normal ∨ e = .ret) ∧ ∃ rs, resL V l H' Tryd.f90.results.toList = some rs ∧ R (resOf rs) H') : ∃ v H', Lc V O 90 vs H v H' ∧ R v H' :=
  Lc.fnP ho fn_slices_IndexFunc_s_api_Block_api_Block b_slices_IndexFunc_s_api_Block_api_Block pc_slices_IndexFunc_s_api_Block_api_Block hlen hlive h
/- bobbin/flow.mayIns -/
abbrev F_flow_mayIns : FuncId := 91
def P_flow_mayIns : PC :=
.seq (
.reg [.run (.box 39 (.tmp (far + 0))) none,
  .run (.assign (.const (.bool false))) none] [(4, 0), (2, 1)]) (
.seq (
.seq (
.reg [.run (.fieldAddr 39 (.tmp (far + 2)) 4) none,
  .run (.load 2 (.tmp 0)) none,
  .run (.binOp .lss 2 (.tmp 0) (.const (.int .i64 0)) 2) none,
  .run (.fieldAddr 39 (.tmp (far + 2)) 0) (some ((.tmp 0), true)),
  .run (.load 5 (.tmp 0)) (some ((.tmp 1), true)),
  .run (.binOp .neq 5 (.tmp 0) (.const (.int .u8 1)) 5) (some ((.tmp 2), true)),
  .run (.pick (.tmp 3) (.tmp 0) (.const (.bool false))) none,
  .run (.fieldAddr 39 (.tmp (far + 2)) 5) (some ((.tmp 0), false)),
  .run (.load 32 (.tmp 0)) (some ((.tmp 1), false)),
  .run (.call ⟨.builtin .len, #[(.tmp 0)], #[32]⟩) (some ((.tmp 2), false)),
  .run (.binOp .gtr 3 (.tmp 0) (.const (.int .i64 8)) 3) (some ((.tmp 3), false)),
  .run (.pick (.tmp 4) (.const (.bool true)) (.tmp 0)) none] [(20, 0)]) (
.cond (.tmp 20) (
  .seq (
  .reg [.run (.assign (.const (.bool false))) none] [(4, 0)]) (
  .ret)) (
  .skip))) (
.seq (
.seq (
.reg [.run (.fieldAddr 39 (.tmp (far + 2)) 0) none,
  .run (.load 5 (.tmp 0)) none] [(22, 0)]) (
.block 0 (
 .seq (
 .seq (
 .reg [.run (.binOp .eql 5 (.tmp (far + 22)) (.const (.int .u8 5)) 5) none] [(23, 0)]) (
 .cond (.tmp 23) (
   .skip) (
   .seq (
   .reg [.run (.binOp .eql 5 (.tmp (far + 22)) (.const (.int .u8 6)) 5) none] [(23, 0)]) (
   .cond (.tmp 23) (
     .skip) (
     .seq (
     .reg [.run (.binOp .eql 5 (.tmp (far + 22)) (.const (.int .u8 7)) 5) none] [(23, 0)]) (
     .cond (.tmp 23) (
       .skip) (
       .reg [.run (.binOp .eql 5 (.tmp (far + 22)) (.const (.int .u8 8)) 5) none] [(23, 0)]))))))) (
 .cond (.tmp 23) (
   .reg [.run (.fieldAddr 39 (.tmp (far + 2)) 4) none,
     .run (.store 2 (.tmp 0) (.const (.int .i64 0))) none] []) (
   .seq (
   .reg [.run (.binOp .eql 5 (.tmp (far + 22)) (.const (.int .u8 10)) 5) none] [(29, 0)]) (
   .cond (.tmp 29) (
     .reg [.run (.fieldAddr 39 (.tmp (far + 2)) 4) none,
       .run (.store 2 (.tmp 0) (.const (.int .i64 1))) none] []) (
     .skip))))))) (
.seq (
.reg [.run (.build 39 #[]) none,
  .run (.buildSlice 31 1 #[(0, (.tmp 0))]) none] [(5, 0)]) (
.seq (
.reg [.run (.makeSlice 160 (.const (.int .i64 1)) (.const (.int .i64 1))) none,
  .run (.makeSlice 161 (.const (.int .i64 1)) (.const (.int .i64 1))) none,
  .get 1,
  .get 5,
  .run (.build 163 #[(3, (.tmp 1)), (4, (.tmp 0))]) none,
  .run (.fieldAddr 39 (.tmp (far + 2)) 5) none,
  .run (.load 32 (.tmp 0)) none,
  .run (.call ⟨.builtin .len, #[(.tmp 0)], #[32]⟩) none,
  .get 5,
  .run (.build 163 #[(2, (.tmp 1)), (4, (.tmp 0))]) none,
  .run (.buildSlice 164 2 #[(0, (.tmp 5)), (1, (.tmp 0))]) none,
  .run (.build 166 #[(0, (.tmp 10)), (1, (.tmp 9)), (2, (.tmp 0))]) none,
  .run (.alloc 166) none,
  .run (.store 166 (.tmp 0) (.tmp 1)) none] [(6, 1)]) (
.seq (
.reg [.run (.load 166 (.tmp (far + 6))) none,
  .run (.load 39 (.tmp (far + 2))) none,
  .run (.call ⟨.value (.func 114), #[(.tmp 1), (.const (.int .i64 0)), (.tmp 0)], #[166, 3, 39]⟩) none] [(4, 0)]) (
.ret))))))
theorem fn_flow_mayIns : V.F 91 = some Tryd.f91 := by kernel_rfl
theorem is_flow_mayIns : (V.F 91).isSome = true := by rw [fn_flow_mayIns]; rfl
noncomputable def c_flow_mayIns : Code := match Tryd.f91.body with
  | some c => c
  | none => .skip
theorem b_flow_mayIns : Tryd.f91.body = some c_flow_mayIns := rfl
theorem pc_flow_mayIns : pcOf V Tryd.f91.ntmps (some (liveOf Tryd.f91 c_flow_mayIns)) c_flow_mayIns = some P_flow_mayIns := by kernel_rfl
theorem Lc.flow_mayIns {O : Orc} {vs : List Value} {H : AH} {R : Value → AH → Prop} (ho : O 91 vs H = none) (hlen : vs.length ≤ Tryd.f91.ntmps) (hlive : (List.range vs.length).all (isLive (some (liveOf Tryd.f91 c_flow_mayIns))) = true)
    (h : WP V O (some (liveOf Tryd.f91 c_flow_mayIns)) Tryd.f91.ntmps P_flow_mayIns (initL vs 0) H fun e l H' => (e = .normal ∨ e = .ret) ∧ ∃ rs, resL V l H' Tryd.f91.results.toList = some rs ∧ R (resOf rs) H') : ∃ v H', Lc V O 91 vs H v H' ∧ R v H' :=
  Lc.fnP ho fn_flow_mayIns b_flow_mayIns pc_flow_mayIns hlen hlive h
/- bobbin/flow.ends -/
abbrev F_flow_ends : FuncId := 92
def P_flow_ends : PC :=
.seq (
.reg [.run (.assign (.const (.bool false))) none] [(2, 0)]) (
.seq (
.reg [.get 0,
  .run (.binOp .eql 5 (.tmp 0) (.const (.int .u8 11)) 5) none,
  .run (.move (.tmp (far + 0))) (some ((.tmp 0), false)),
  .run (.binOp .eql 5 (.tmp 0) (.const (.int .u8 12)) 5) (some ((.tmp 1), false)),
  .run (.pick (.tmp 2) (.const (.bool true)) (.tmp 0)) none,
  .run (.move (.tmp (far + 0))) (some ((.tmp 0), false)),
  .run (.binOp .eql 5 (.tmp 0) (.const (.int .u8 13)) 5) (some ((.tmp 1), false)),
  .run (.pick (.tmp 2) (.const (.bool true)) (.tmp 0)) none] [(2, 0)]) (
.ret))
theorem fn_flow_ends : V.F 92 = some Tryd.f92 := by kernel_rfl
theorem is_flow_ends : (V.F 92).isSome = true := by rw [fn_flow_ends]; rfl
noncomputable def c_flow_ends : Code := match Tryd.f92.body with
  | some c => c
  | none => .skip
theorem b_flow_ends : Tryd.f92.body = some c_flow_ends := rfl
theorem pc_flow_ends : pcOf V Tryd.f92.ntmps (some (liveOf Tryd.f92 c_flow_ends)) c_flow_ends = some P_flow_ends := by kernel_rfl
theorem Lc.flow_ends {O : Orc} {vs : List Value} {H : AH} {R : Value → AH → Prop} (ho : O 92 vs H = none) (hlen : vs.length ≤ Tryd.f92.ntmps) (hlive : (List.range vs.length).all (isLive (some (liveOf Tryd.f92 c_flow_ends))) = true)
    (h : WP V O (some (liveOf Tryd.f92 c_flow_ends)) Tryd.f92.ntmps P_flow_ends (initL vs 0) H fun e l H' => (e = .normal ∨ e = .ret) ∧ ∃ rs, resL V l H' Tryd.f92.results.toList = some rs ∧ R (resOf rs) H') : ∃ v H', Lc V O 92 vs H v H' ∧ R v H' :=
  Lc.fnP ho fn_flow_ends b_flow_ends pc_flow_ends hlen hlive h
/- bobbin/flow.block$1 -/
abbrev F_flow_block_q1 : FuncId := 93
def P_flow_block_q1 : PC :=
.seq (
.reg [.run (.assign (.const (.bool false))) none] [(3, 0)]) (
.seq (
.reg [.get 0,
  .run (.binOp .lss 3 (.tmp 0) (.const (.int .i64 0)) 3) none,
  .run (.move (.tmp (far + 0))) (some ((.tmp 0), false)),
  .run (.load 3 (.tmp (far + 1))) (some ((.tmp 1), false)),
  .run (.binOp .geq 3 (.tmp 1) (.tmp 0) 3) (some ((.tmp 2), false)),
  .run (.pick (.tmp 3) (.const (.bool true)) (.tmp 0)) none] [(3, 0)]) (
.ret))
theorem fn_flow_block_q1 : V.F 93 = some Tryd.f93 := by kernel_rfl
theorem is_flow_block_q1 : (V.F 93).isSome = true := by rw [fn_flow_block_q1]; rfl
noncomputable def c_flow_block_q1 : Code := match Tryd.f93.body with
  | some c => c
  | none => .skip
theorem b_flow_block_q1 : Tryd.f93.body = some c_flow_block_q1 := rfl
theorem pc_flow_block_q1 : pcOf V Tryd.f93.ntmps (some (liveOf Tryd.f93 c_flow_block_q1)) c_flow_block_q1 = some P_flow_block_q1 := by kernel_rfl
theorem Lc.flow_block_q1 {O : Orc} {vs : List Value} {H : AH} {R : Value → AH → Prop} (ho : O 93 vs H = none) (hlen : vs.length ≤ Tryd.f93.ntmps) (hlive : (List.range vs.length).all (isLive (some (liveOf Tryd.f93 c_flow_block_q1))) = true)
    (h : WP V O (some (liveOf Tryd.f93 c_flow_block_q1)) Tryd.f93.ntmps P_flow_block_q1 (initL vs 0) H fun e l H' => (e = .normal ∨ e = .ret) ∧ ∃ rs, resL V l H' Tryd.f93.results.toList = some rs ∧ R (resOf rs) H') : ∃ v H', Lc V O 93 vs H v H' ∧ R v H' :=
  Lc.fnP ho fn_flow_block_q1 b_flow_block_q1 pc_flow_block_q1 hlen hlive h
/- slices.ContainsFunc[[]bobbin/api.Phi,bobbin/api.Phi] -/
abbrev F_slices_ContainsFunc_s_api_Phi_api_Phi : FuncId := 94
def P_slices_ContainsFunc_s_api_Phi_api_Phi : PC :=
.seq (
.reg [.run (.assign (.const (.bool false))) none] [(4, 0)]) (
.seq (
.reg [.get 0,
  .get 1,
  .run (.call ⟨.value (.func 115), #[(.tmp 1), (.tmp 0)], #[30, 136]⟩) none,
  .run (.binOp .geq 3 (.tmp 0) (.const (.int .i64 0)) 3) none] [(4, 0)]) (
.ret))
theorem fn_slices_ContainsFunc_s_api_Phi_api_Phi : V.F 94 = some Tryd.f94 := by kernel_rfl
theorem is_slices_ContainsFunc_s_api_Phi_api_Phi : (V.F 94).isSome = true := by rw [fn_slices_ContainsFunc_s_api_Phi_api_Phi]; rfl
noncomputable def c_slices_ContainsFunc_s_api_Phi_api_Phi : Code := match Tryd.f94.body with
  | some c => c
  | none => .skip
theorem b_slices_ContainsFunc_s_api_Phi_api_Phi : Tryd.f94.body = some c_slices_ContainsFunc_s_api_Phi_api_Phi := rfl
theorem pc_slices_ContainsFunc_s_api_Phi_api_Phi : pcOf V Tryd.f94.ntmps (some (liveOf Tryd.f94 c_slices_ContainsFunc_s_api_Phi_api_Phi)) c_slices_ContainsFunc_s_api_Phi_api_Phi = some P_slices_ContainsFunc_s_api_Phi_api_Phi := by kernel_rfl
theorem Lc.slices_ContainsFunc_s_api_Phi_api_Phi {O : Orc} {vs : List Value} {H : AH} {R : Value → AH → Prop} (ho : O 94 vs H = none) (hlen : vs.length ≤ Tryd.f94.ntmps) (hlive : (List.range vs.length).all (isLive (some (liveOf Tryd.f94 c_slices_ContainsFunc_s_api_Phi_api_Phi))) = true)
    (h : WP V O (some (liveOf Tryd.f94 c_slices_ContainsFunc_s_api_Phi_api_Phi)) Tryd.f94.ntmps P_slices_ContainsFunc_s_api_Phi_api_Phi (initL vs 0) H fun e l H' => (e = .normal ∨ e = .ret) ∧ ∃ rs, resL V l H' Tryd.f94.results.toList = some rs ∧ R (resOf rs) H') : ∃ v H', Lc V O 94 vs H v H' ∧ R v H' :=
  Lc.fnP ho fn_slices_ContainsFunc_s_api_Phi_api_Phi b_slices_ContainsFunc_s_api_Phi_api_Phi pc_slices_ContainsFunc_s_api_Phi_api_Phi hlen hlive h
/- bobbin/flow.block$2 -/
abbrev F_flow_block_q2 : FuncId := 95
def P_flow_block_q2 : PC :=
.seq (
.reg [.run (.box 50 (.tmp (far + 0))) none,
  .run (.assign (.const (.bool false))) none] [(4, 0), (3, 1)]) (
.seq (
.reg [.run (.load 122 (.tmp (far + 1))) none,
  .run (.fieldAddr 50 (.tmp (far + 3)) 0) none,
  .run (.load 3 (.tmp 0)) none,
  .run (.call ⟨.value (.tmp 2), #[(.tmp 0)], #[3]⟩) none,
  .run (.fieldAddr 50 (.tmp (far + 3)) 1) (some ((.tmp 0), false)),
  .run (.load 32 (.tmp 0)) (some ((.tmp 1), false)),
  .run (.call ⟨.builtin .len, #[(.tmp 0)], #[32]⟩) (some ((.tmp 2), false)),
  .run (.fieldAddr 34 (.tmp (far + 2)) 2) (some ((.tmp 3), false)),
  .run (.load 32 (.tmp 0)) (some ((.tmp 4), false)),
  .run (.call ⟨.builtin .len, #[(.tmp 0)], #[32]⟩) (some ((.tmp 5), false)),
  .run (.binOp .neq 3 (.tmp 3) (.tmp 0) 3) (some ((.tmp 6), false)),
  .run (.pick (.tmp 7) (.const (.bool true)) (.tmp 0)) none,
  .run (.fieldAddr 50 (.tmp (far + 3)) 1) (some ((.tmp 0), false)),
  .run (.load 32 (.tmp 0)) (some ((.tmp 1), false)),
  .run (.load 122 (.tmp (far + 1))) (some ((.tmp 2), false)),
  .run (.call ⟨.value (.func 84), #[(.tmp 1), (.tmp 0)], #[32, 122]⟩) (some ((.tmp 3), false)),
  .run (.pick (.tmp 4) (.const (.bool true)) (.tmp 0)) none] [(4, 0)]) (
.ret))
theorem fn_flow_block_q2 : V.F 95 = some Tryd.f95 := by kernel_rfl
theorem is_flow_block_q2 : (V.F 95).isSome = true := by rw [fn_flow_block_q2]; rfl
noncomputable def c_flow_block_q2 : Code := match Tryd.f95.body with
  | some c => c
  | none => .skip
theorem b_flow_block_q2 : Tryd.f95.body = some c_flow_block_q2 := rfl
theorem pc_flow_block_q2 : pcOf V Tryd.f95.ntmps (some (liveOf Tryd.f95 c_flow_block_q2)) c_flow_block_q2 = some P_flow_block_q2 := by kernel_rfl
theorem Lc.flow_block_q2 {O : Orc} {vs : List Value} {H : AH} {R : Value → AH → Prop} (ho : O 95 vs H = none) (hlen : vs.length ≤ Tryd.f95.ntmps) (hlive : (List.range vs.length).all (isLive (some (liveOf Tryd.f95 c_flow_block_q2))) = true)
    (h : WP V O (some (liveOf Tryd.f95 c_flow_block_q2)) Tryd.f95.ntmps P_flow_block_q2 (initL vs 0) H fun e l H' => (e = .normal ∨ e = .ret) ∧ ∃ rs, resL V l H' Tryd.f95.results.toList = some rs ∧ R (resOf rs) H') : ∃ v H', Lc V O 95 vs H v H' ∧ R v H' :=
  Lc.fnP ho fn_flow_block_q2 b_flow_block_q2 pc_flow_block_q2 hlen hlive h
/- bobbin/flow.from -/
abbrev F_flow_from : FuncId := 96
def P_flow_from : PC :=
.seq (
.reg [.get 0,
  .run (.call ⟨.builtin .len, #[(.tmp 0)], #[22]⟩) none,
  .run (.move (.const (.int .i64 0))) none] [(8, 0), (7, 1)]) (
.block 0 (
 .loop (
  .seq (
  .reg [.run (.binOp .lss 3 (.tmp (far + 8)) (.tmp (far + 7)) 3) none] [(9, 0)]) (
  .seq (
  .cond (.tmp 9) (
    .skip) (
    .exit 0)) (
  .seq (
  .block 1 (
   .seq (
   .reg [.get 8] [(2, 0)]) (
   .seq (
   .reg [.get 0,
     .get 2,
     .run (.indexAddr 22 (.tmp 1) (.tmp 0)) none,
     .run (.fieldAddr 34 (.tmp 0) 3) none,
     .run (.load 32 (.tmp 0)) none,
     .run (.call ⟨.builtin .len, #[(.tmp 0)], #[32]⟩) none,
     .run (.move (.const (.int .i64 0))) none] [(17, 0), (16, 1), (15, 2)]) (
   .block 2 (
    .loop (
     .seq (
     .reg [.run (.binOp .lss 3 (.tmp (far + 17)) (.tmp (far + 16)) 3) none] [(18, 0)]) (
     .seq (
     .cond (.tmp 18) (
       .skip) (
       .exit 2)) (
     .seq (
     .block 3 (
      .seq (
      .reg [.run (.indexAddr 32 (.tmp (far + 15)) (.tmp (far + 17))) none,
        .run (.load 3 (.tmp 0)) none] [(4, 0)]) (
      .seq (
      .reg [.get 0,
        .get 4,
        .run (.indexAddr 22 (.tmp 1) (.tmp 0)) none,
        .run (.fieldAddr 34 (.tmp 0) 2) none,
        .run (.load 32 (.tmp 0)) none,
        .run (.call ⟨.builtin .len, #[(.tmp 0)], #[32]⟩) none] [(5, 0)]) (
      .seq (
      .reg [.get 5,
        .run (.binOp .eql 3 (.tmp 0) (.const (.int .i64 0)) 3) none,
        .run (.move (.tmp (far + 0))) (some ((.tmp 0), false)),
        .run (.move (.tmp (far + 4))) (some ((.tmp 1), false)),
        .run (.indexAddr 22 (.tmp 1) (.tmp 0)) (some ((.tmp 2), false)),
        .run (.fieldAddr 34 (.tmp 0) 2) (some ((.tmp 3), false)),
        .run (.load 32 (.tmp 0)) (some ((.tmp 4), false)),
        .run (.move (.tmp (far + 5))) (some ((.tmp 5), false)),
        .run (.binOp .sub 3 (.tmp 0) (.const (.int .i64 1)) 3) (some ((.tmp 6), false)),
        .run (.indexAddr 32 (.tmp 2) (.tmp 0)) (some ((.tmp 7), false)),
        .run (.load 3 (.tmp 0)) (some ((.tmp 8), false)),
        .run (.move (.tmp (far + 2))) (some ((.tmp 9), false)),
        .run (.binOp .neq 3 (.tmp 1) (.tmp 0) 3) (some ((.tmp 10), false)),
        .run (.pick (.tmp 11) (.const (.bool true)) (.tmp 0)) none] [(41, 0)]) (
      .cond (.tmp 41) (
        .reg [.get 0,
          .get 4,
          .get 0,
          .get 4,
          .run (.indexAddr 22 (.tmp 1) (.tmp 0)) none,
          .run (.fieldAddr 34 (.tmp 0) 2) none,
          .run (.load 32 (.tmp 0)) none,
          .get 2,
          .run (.buildSlice 32 1 #[(0, (.tmp 0))]) none,
          .run (.call ⟨.builtin .append, #[(.tmp 2), (.tmp 0)], #[32, 32]⟩) none,
          .run (.indexAddr 22 (.tmp 9) (.tmp 8)) none,
          .run (.fieldAddr 34 (.tmp 0) 2) none,
          .run (.store 32 (.tmp 0) (.tmp 2)) none] []) (
        .skip)))))) (
     .reg [.run (.binOp .add 3 (.tmp (far + 17)) (.const (.int .i64 1)) 3) none] [(17, 0)]))))))))) (
  .reg [.run (.binOp .add 3 (.tmp (far + 8)) (.const (.int .i64 1)) 3) none] [(8, 0)]))))))
theorem fn_flow_from : V.F 96 = some Tryd.f96 := by kernel_rfl
theorem is_flow_from : (V.F 96).isSome = true := by rw [fn_flow_from]; rfl
noncomputable def c_flow_from : Code := match Tryd.f96.body with
  | some c => c
  | none => .skip
theorem b_flow_from : Tryd.f96.body = some c_flow_from := rfl
theorem pc_flow_from : pcOf V Tryd.f96.ntmps (some (liveOf Tryd.f96 c_flow_from)) c_flow_from = some P_flow_from := by kernel_rfl
theorem Lc.flow_from {O : Orc} {vs : List Value} {H : AH} {R : Value → AH → Prop} (ho : O 96 vs H = none) (hlen : vs.length ≤ Tryd.f96.ntmps) (hlive : (List.range vs.length).all (isLive (some (liveOf Tryd.f96 c_flow_from))) = true)
    (h : WP V O (some (liveOf Tryd.f96 c_flow_from)) Tryd.f96.ntmps P_flow_from (initL vs 0) H fun e l H' => (e = .normal ∨ e = .ret) ∧ ∃ rs, resL V l H' Tryd.f96.results.toList = some rs ∧ R (resOf rs) H') : ∃ v H', Lc V O 96 vs H v H' ∧ R v H' :=
  Lc.fnP ho fn_flow_from b_flow_from pc_flow_from hlen hlive h
/- slices.Equal[[]int,int] -/
abbrev F_slices_Equal_s_int_int : FuncId := 97
def P_slices_Equal_s_int_int : PC :=
.seq (
.reg [.run (.assign (.const (.bool false))) none] [(4, 0)]) (
.seq (
.seq (
.reg [.get 0,
  .run (.call ⟨.builtin .len, #[(.tmp 0)], #[32]⟩) none,
  .get 1,
  .run (.call ⟨.builtin .len, #[(.tmp 0)], #[32]⟩) none,
  .run (.binOp .neq 3 (.tmp 2) (.tmp 0) 3) none] [(10, 0)]) (
.cond (.tmp 10) (
  .seq (
  .reg [.run (.assign (.const (.bool false))) none] [(4, 0)]) (
  .ret)) (
  .skip))) (
.seq (
.seq (
.reg [.get 0,
  .run (.call ⟨.builtin .len, #[(.tmp 0)], #[32]⟩) none,
  .run (.move (.const (.int .i64 0))) none] [(13, 0), (12, 1)]) (
.block 0 (
 .loop (
  .seq (
  .reg [.run (.binOp .lss 3 (.tmp (far + 13)) (.tmp (far + 12)) 3) none] [(14, 0)]) (
  .seq (
  .cond (.tmp 14) (
    .skip) (
    .exit 0)) (
  .seq (
  .block 1 (
   .seq (
   .reg [.get 13] [(5, 0)]) (
   .seq (
   .reg [.get 0,
     .get 5,
     .run (.indexAddr 32 (.tmp 1) (.tmp 0)) none,
     .run (.load 3 (.tmp 0)) none,
     .get 1,
     .get 5,
     .run (.indexAddr 32 (.tmp 1) (.tmp 0)) none,
     .run (.load 3 (.tmp 0)) none,
     .run (.binOp .neq 3 (.tmp 4) (.tmp 0) 3) none] [(24, 0)]) (
   .cond (.tmp 24) (
     .seq (
     .reg [.run (.assign (.const (.bool false))) none] [(4, 0)]) (
     .ret)) (
     .skip))))) (
  .reg [.run (.binOp .add 3 (.tmp (far + 13)) (.const (.int .i64 1)) 3) none] [(13, 0)]))))))) (
.seq (
.reg [.run (.assign (.const (.bool true))) none] [(4, 0)]) (
.ret))))
theorem fn_slices_Equal_s_int_int : V.F 97 = some Tryd.f97 := by kernel_rfl
theorem is_slices_Equal_s_int_int : (V.F 97).isSome = true := by rw [fn_slices_Equal_s_int_int]; rfl
noncomputable def c_slices_Equal_s_int_int : Code := match Tryd.f97.body with
  | some c => c
  | none => .skip
theorem b_slices_Equal_s_int_int : Tryd.f97.body = some c_slices_Equal_s_int_int := rfl
theorem pc_slices_Equal_s_int_int : pcOf V Tryd.f97.ntmps (some (liveOf Tryd.f97 c_slices_Equal_s_int_int)) c_slices_Equal_s_int_int = some P_slices_Equal_s_int_int := by kernel_rfl
theorem Lc.slices_Equal_s_int_int {O : Orc} {vs : List Value} {H : AH} {R : Value → AH → Prop} (ho : O 97 vs H = none) (hlen : vs.length ≤ Tryd.f97.ntmps) (hlive : (List.range vs.length).all (isLive (some (liveOf Tryd.f97 c_slices_Equal_s_int_int))) = true)
    (h : WP V O (some (liveOf Tryd.f97 c_slices_Equal_s_int_int)) Tryd.f97.ntmps P_slices_Equal_s_int_int (initL vs 0) H fun e l H' => (e = .normal ∨ e = .ret) ∧ ∃ rs, resL V l H' Tryd.f97.results.toList = some rs ∧ R (resOf rs) H') : ∃ v H', Lc V O 97 vs H v H' ∧ R v H' :=
  Lc.fnP ho fn_slices_Equal_s_int_int b_slices_Equal_s_int_int pc_slices_Equal_s_int_int hlen hlive h
/- slices.IndexFunc[[]int,int] -/
abbrev F_slices_IndexFunc_s_int_int : FuncId := 108
def P_slices_IndexFunc_s_int_int : PC :=
.seq (
.reg [.run (.assign (.const (.int .i64 0))) none] [(4, 0)]) (
.seq (
.seq (
.reg [.get 0,
  .run (.call ⟨.builtin .len, #[(.tmp 0)], #[32]⟩) none,
  .run (.move (.const (.int .i64 0))) none] [(8, 0), (7, 1)]) (
.block 0 (
 .loop (
  .seq (
  .reg [.run (.binOp .lss 3 (.tmp (far + 8)) (.tmp (far + 7)) 3) none] [(9, 0)]) (
  .seq (
  .cond (.tmp 9) (
    .skip) (
    .exit 0)) (
  .seq (
  .block 1 (
   .seq (
   .reg [.get 8] [(5, 0)]) (
   .seq (
   .reg [.get 1,
     .get 0,
     .get 5,
     .run (.indexAddr 32 (.tmp 1) (.tmp 0)) none,
     .run (.load 3 (.tmp 0)) none,
     .run (.call ⟨.value (.tmp 4), #[(.tmp 0)], #[3]⟩) none] [(16, 0)]) (
   .cond (.tmp 16) (
     .seq (
     .reg [.get 5] [(4, 0)]) (
     .ret)) (
     .skip))))) (
  .reg [.run (.binOp .add 3 (.tmp (far + 8)) (.const (.int .i64 1)) 3) none] [(8, 0)]))))))) (
.seq (
.reg [.run (.assign (.const (.int .i64 (-1)))) none] [(4, 0)]) (
.ret)))
theorem fn_slices_IndexFunc_s_int_int : V.F 108 = some Tryd.f108 := by kernel_rfl
theorem is_slices_IndexFunc_s_int_int : (V.F 108).isSome = true := by rw [fn_slices_IndexFunc_s_int_int]; rfl
noncomputable def c_slices_IndexFunc_s_int_int : Code := match Tryd.f108.body with
  | some c => c
  | none => .skip
theorem b_slices_IndexFunc_s_int_int : Tryd.f108.body = some c_slices_IndexFunc_s_int_int := rfl
theorem pc_slices_IndexFunc_s_int_int : pcOf V Tryd.f108.ntmps (some (liveOf Tryd.f108 c_slices_IndexFunc_s_int_int)) c_slices_IndexFunc_s_int_int = some P_slices_IndexFunc_s_int_int := by kernel_rfl
theorem Lc.slices_IndexFunc_s_int_int {O : Orc} {vs : List Value} {H : AH} {R : Value → AH → Prop} (ho : O 108 vs H = none) (hlen : vs.length ≤ Tryd.f108.ntmps) (hlive : (List.range vs.length).all (isLive (some (liveOf Tryd.f108 c_slices_IndexFunc_s_int_int))) = true)
    (h : WP V O (some (liveOf Tryd.f108 c_slices_IndexFunc_s_int_int)) Tryd.f108.ntmps P_slices_IndexFunc_s_int_int (initL vs 0) H fun e l H' => (e = .normal ∨ e = .ret) ∧ ∃ rs, resL V l H' Tryd.f108.results.toList = some rs ∧ R (resOf rs) H') : ∃ v H', Lc V O 108 vs H v H' ∧ R v H' :=
  Lc.fnP ho fn_slices_IndexFunc_s_int_int b_slices_IndexFunc_s_int_int pc_slices_IndexFunc_s_int_int hlen hlive h
/- slices.Values[[]int,int]$1 -/
abbrev F_slices_Values_s_int_int__q1 : FuncId := 113
def P_slices_Values_s_int_int__q1 : PC :=
.seq (
.reg [.run (.load 32 (.tmp (far + 1))) none,
  .run (.call ⟨.builtin .len, #[(.tmp 0)], #[32]⟩) none,
  .run (.move (.const (.int .i64 0))) none] [(7, 0), (6, 1), (5, 2)]) (
.block 0 (
 .loop (
  .seq (
  .reg [.run (.binOp .lss 3 (.tmp (far + 7)) (.tmp (far + 6)) 3) none] [(8, 0)]) (
  .seq (
  .cond (.tmp 8) (
    .skip) (
    .exit 0)) (
  .seq (
  .block 1 (
   .seq (
   .reg [.run (.indexAddr 32 (.tmp (far + 5)) (.tmp (far + 7))) none,
     .run (.load 3 (.tmp 0)) none] [(4, 0)]) (
   .seq (
   .reg [.get 0,
     .get 4,
     .run (.call ⟨.value (.tmp 1), #[(.tmp 0)], #[3]⟩) none,
     .run (.unOp .not 4 (.tmp 0)) none] [(14, 0)]) (
   .cond (.tmp 14) (
     .ret) (
     .skip))))) (
  .reg [.run (.binOp .add 3 (.tmp (far + 7)) (.const (.int .i64 1)) 3) none] [(7, 0)]))))))
theorem fn_slices_Values_s_int_int__q1 : V.F 113 = some Tryd.f113 := by kernel_rfl
theorem is_slices_Values_s_int_int__q1 : (V.F 113).isSome = true := by rw [fn_slices_Values_s_int_int__q1]; rfl
noncomputable def c_slices_Values_s_int_int__q1 : Code := match Tryd.f113.body with
  | some c => c
  | none => .skip
theorem b_slices_Values_s_int_int__q1 : Tryd.f113.body = some c_slices_Values_s_int_int__q1 := rfl
theorem pc_slices_Values_s_int_int__q1 : pcOf V Tryd.f113.ntmps (some (liveOf Tryd.f113 c_slices_Values_s_int_int__q1)) c_slices_Values_s_int_int__q1 = some P_slices_Values_s_int_int__q1 := by kernel_rfl
theorem Lc.slices_Values_s_int_int__q1 {O : Orc} {vs : List Value} {H : AH} {R : Value → AH → Prop} (ho : O 113 vs H = none) (hlen : vs.length ≤ Tryd.f113.ntmps) (hlive : (List.range vs.length).all (isLive (some (liveOf Tryd.f113 c_slices_Values_s_int_int__q1))) = true)
    (h : WP V O (some (liveOf Tryd.f113 c_slices_Values_s_int_int__q1)) Tryd.f113.ntmps P_slices_Values_s_int_int__q1 (initL vs 0) H fun e l H' => (e = .normal ∨ e = .ret) ∧ ∃ rs, resL V l H' Tryd.f113.results.toList = some rs ∧ R (resOf rs) H') : ∃ v H', Lc V O 113 vs H v H' ∧ R v H' :=
  Lc.fnP ho fn_slices_Values_s_int_int__q1 b_slices_Values_s_int_int__q1 pc_slices_Values_s_int_int__q1 hlen hlive h
/- bobbin/code.MayIns -/
abbrev F_code_MayIns : FuncId := 114
def P_code_MayIns : PC :=
.seq (
.reg [.run (.box 166 (.tmp (far + 0))) none,
  .run (.box 39 (.tmp (far + 2))) none,
  .run (.assign (.const (.bool false))) none] [(6, 0), (5, 1), (3, 2)]) (
.seq (
.reg [.get 1,
  .run (.binOp .geq 3 (.tmp 0) (.const (.int .i64 0)) 3) none,
  .run (.move (.tmp (far + 1))) (some ((.tmp 0), true)),
  .run (.fieldAddr 166 (.tmp (far + 3)) 2) (some ((.tmp 1), true)),
  .run (.load 164 (.tmp 0)) (some ((.tmp 2), true)),
  .run (.call ⟨.builtin .len, #[(.tmp 0)], #[164]⟩) (some ((.tmp 3), true)),
  .run (.binOp .lss 3 (.tmp 3) (.tmp 0) 3) (some ((.tmp 4), true)),
  .run (.pick (.tmp 5) (.tmp 0) (.const (.bool false))) none,
  .run (.load 166 (.tmp (far + 3))) (some ((.tmp 0), true)),
  .run (.fieldAddr 166 (.tmp (far + 3)) 2) (some ((.tmp 1), true)),
  .run (.load 164 (.tmp 0)) (some ((.tmp 2), true)),
  .run (.move (.tmp (far + 1))) (some ((.tmp 3), true)),
  .run (.indexAddr 164 (.tmp 1) (.tmp 0)) (some ((.tmp 4), true)),
  .run (.load 163 (.tmp 0)) (some ((.tmp 5), true)),
  .run (.load 39 (.tmp (far + 5))) (some ((.tmp 6), true)),
  .run (.call ⟨.value (.func 126), #[(.tmp 6), (.tmp 1), (.tmp 0)], #[166, 163, 39]⟩) (some ((.tmp 7), true)),
  .run (.pick (.tmp 8) (.tmp 0) (.const (.bool false))) none] [(6, 0)]) (
.ret))
theorem fn_code_MayIns : V.F 114 = some Tryd.f114 := by kernel_rfl
theorem is_code_MayIns : (V.F 114).isSome = true := by rw [fn_code_MayIns]; rfl
noncomputable def c_code_MayIns : Code := match Tryd.f114.body with
  | some c => c
  | none => .skip
theorem b_code_MayIns : Tryd.f114.body = some c_code_MayIns := rfl
theorem pc_code_MayIns : pcOf V Tryd.f114.ntmps (some (liveOf Tryd.f114 c_code_MayIns)) c_code_MayIns = some P_code_MayIns := by kernel_rfl
theorem Lc.code_MayIns {O : Orc} {vs : List Value} {H : AH} {R : Value → AH → Prop} (ho : O 114 vs H = none) (hlen : vs.length ≤ Tryd.f114.ntmps) (hlive : (List.range vs.length).all (isLive (some (liveOf Tryd.f114 c_code_MayIns))) = true)
    (h : WP V O (some (liveOf Tryd.f114 c_code_MayIns)) Tryd.f114.ntmps P_code_MayIns (initL vs 0) H fun e l H' => (e = .normal ∨ e = .ret) ∧ ∃ rs, resL V l H' Tryd.f114.results.toList = some rs ∧ R (resOf rs) H') : ∃ v H', Lc V O 114 vs H v H' ∧ R v H' :=
  Lc.fnP ho fn_code_MayIns b_code_MayIns pc_code_MayIns hlen hlive h
/- slices.IndexFunc[[]bobbin/api.Phi,bobbin/api.Phi] -/
abbrev F_slices_IndexFunc_s_api_Phi_api_Phi : FuncId := 115
def P_slices_IndexFunc_s_api_Phi_api_Phi : PC :=
.seq (
.reg [.run (.assign (.const (.int .i64 0))) none] [(4, 0)]) (
.seq (
.seq (
.reg [.get 0,
  .run (.call ⟨.builtin .len, #[(.tmp 0)], #[30]⟩) none,
  .run (.move (.const (.int .i64 0))) none] [(8, 0), (7, 1)]) (
.block 0 (
 .loop (
  .seq (
  .reg [.run (.binOp .lss 3 (.tmp (far + 8)) (.tmp (far + 7)) 3) none] [(9, 0)]) (
  .seq (
  .cond (.tmp 9) (
    .skip) (
    .exit 0)) (
  .seq (
  .block 1 (
   .seq (
   .reg [.get 8] [(5, 0)]) (
   .seq (
   .reg [.get 1,
     .get 0,
     .get 5,
     .run (.indexAddr 30 (.tmp 1) (.tmp 0)) none,
     .run (.load 50 (.tmp 0)) none,
     .run (.call ⟨.value (.tmp 4), #[(.tmp 0)], #[50]⟩) none] [(16, 0)]) (
   .cond (.tmp 16) (
     .seq (
     .reg [.get 5] [(4, 0)]) (
     .ret)) (
     .skip))))) (
  .reg [.run (.binOp .add 3 (.tmp (far + 8)) (.const (.int .i64 1)) 3) none] [(8, 0)]))))))) (
.seq (
.reg [.run (.assign (.const (.int .i64 (-1)))) none] [(4, 0)]) (
.ret)))
theorem fn_slices_IndexFunc_s_api_Phi_api_Phi : V.F 115 = some Tryd.f115 := by kernel_rfl
theorem is_slices_IndexFunc_s_api_Phi_api_Phi : (V.F 115).isSome = true := by rw [fn_slices_IndexFunc_s_api_Phi_api_Phi]; rfl
noncomputable def c_slices_IndexFunc_s_api_Phi_api_Phi : Code := match Tryd.f115.body with
  | some c => c
  | none => .skip
theorem b_slices_IndexFunc_s_api_Phi_api_Phi : Tryd.f115.body = some c_slices_IndexFunc_s_api_Phi_api_Phi := rfl
theorem pc_slices_IndexFunc_s_api_Phi_api_Phi : pcOf V Tryd.f115.ntmps (some (liveOf Tryd.f115 c_slices_IndexFunc_s_api_Phi_api_Phi)) c_slices_IndexFunc_s_api_Phi_api_Phi = some P_slices_IndexFunc_s_api_Phi_api_Phi := by kernel_rfl
theorem Lc.slices_IndexFunc_s_api_Phi_api_Phi {O : Orc} {vs : List Value} {H : AH} {R : Value → AH → Prop} (ho : O 115 vs H = none) (hlen : vs.length ≤ Tryd.f115.ntmps) (hlive : (List.range vs.length).all (isLive (some (liveOf Tryd.f115 c_slices_IndexFunc_s_api_Phi_api_Phi))) = true)
    (h : WP V O (some (liveOf Tryd.f115 c_slices_IndexFunc_s_api_Phi_api_Phi)) Tryd.f115.ntmps P_slices_IndexFunc_s_api_Phi_api_Phi (initL vs 0) H fun e l H' => (e = .normal ∨ e = .ret) ∧ ∃ rs, resL V l H' Tryd.f115.results.toList = some rs ∧ R (resOf rs) H') : ∃ v H', Lc V O 115 vs H v H' ∧ R v H' :=
  Lc.fnP ho fn_slices_IndexFunc_s_api_Phi_api_Phi b_slices_IndexFunc_s_api_Phi_api_Phi pc_slices_IndexFunc_s_api_Phi_api_Phi hlen hlive h
/- bobbin/code.mayIns -/
abbrev F_code_mayIns : FuncId := 126
def P_code_mayIns : PC :=
.seq (
.reg [.run (.box 166 (.tmp (far + 0))) none,
  .run (.box 163 (.tmp (far + 1))) none,
  .run (.box 39 (.tmp (far + 2))) none,
  .run (.alloc 4) none] [(6, 0), (5, 1), (4, 2), (3, 3)]) (
.seq (
.reg [.run (.load 39 (.tmp (far + 5))) none,
  .run (.call ⟨.value (.func 57), #[(.tmp 0)], #[39]⟩) none,
  .run (.extract (.tmp 0) 0) none,
  .run (.extract (.tmp 1) 1) none,
  .run (.alloc 90) none,
  .run (.store 90 (.tmp 0) (.tmp 2)) none] [(8, 2), (7, 1)]) (
.seq (
.seq (
.reg [.get 8,
  .run (.unOp .not 4 (.tmp 0)) none,
  .run (.load 90 (.tmp (far + 7))) (some ((.tmp 0), false)),
  .run (.load 39 (.tmp (far + 5))) (some ((.tmp 1), false)),
  .run (.call ⟨.value (.func 130), #[(.tmp 1), (.tmp 0)], #[90, 39]⟩) (some ((.tmp 2), false)),
  .run (.build 39 #[]) (some ((.tmp 3), false)),
  .run (.call ⟨.value (.func 129), #[(.tmp 1), (.tmp 0)], #[39, 39]⟩) (some ((.tmp 4), false)),
  .run (.unOp .not 4 (.tmp 0)) (some ((.tmp 5), false)),
  .run (.pick (.tmp 6) (.const (.bool true)) (.tmp 0)) none,
  .run (.load 166 (.tmp (far + 3))) (some ((.tmp 0), false)),
  .run (.load 163 (.tmp (far + 4))) (some ((.tmp 1), false)),
  .run (.load 90 (.tmp (far + 7))) (some ((.tmp 2), false)),
  .run (.load 39 (.tmp (far + 5))) (some ((.tmp 3), false)),
  .run (.call ⟨.value (.func 131), #[(.tmp 3), (.tmp 2), (.tmp 1), (.tmp 0)], #[166, 163, 90, 39]⟩) (some ((.tmp 4), false)),
  .run (.unOp .not 4 (.tmp 0)) (some ((.tmp 5), false)),
  .run (.pick (.tmp 6) (.const (.bool true)) (.tmp 0)) none] [(34, 0)]) (
.cond (.tmp 34) (
  .seq (
  .reg [.run (.store 4 (.tmp (far + 6)) (.const (.bool false))) none] []) (
  .ret)) (
  .skip))) (
.seq (
.seq (
.reg [.run (.load 39 (.tmp (far + 5))) none,
  .run (.call ⟨.value (.func 56), #[(.tmp 0)], #[39]⟩) none] [(36, 0)]) (
.block 0 (
 .rfunc (.tmp 36) #[37] (
  .reg [.run (.assign (.tmp (far + 37))) none] [(9, 0)]) (
  .block 1 (
   .seq (
   .reg [.get 9,
     .run (.binOp .lss 3 (.tmp 0) (.const (.int .i64 0)) 3) none,
     .run (.move (.tmp (far + 9))) (some ((.tmp 0), false)),
     .run (.fieldAddr 163 (.tmp (far + 4)) 3) (some ((.tmp 1), false)),
     .run (.load 3 (.tmp 0)) (some ((.tmp 2), false)),
     .run (.binOp .geq 3 (.tmp 2) (.tmp 0) 3) (some ((.tmp 3), false)),
     .run (.pick (.tmp 4) (.const (.bool true)) (.tmp 0)) none] [(45, 0), (44, 1), (43, 2), (42, 3), (41, 4), (40, 5), (39, 5), (38, 6)]) (
   .cond (.tmp 45) (
     .seq (
     .reg [.run (.store 4 (.tmp (far + 6)) (.const (.bool false))) none] []) (
     .ret)) (
     .skip))))))) (
.seq (
.reg [.run (.load 39 (.tmp (far + 5))) none,
  .run (.call ⟨.value (.func 28), #[(.tmp 0)], #[39]⟩) none,
  .run (.extract (.tmp 0) 0) none,
  .run (.extract (.tmp 1) 1) none] [(11, 0), (10, 1)]) (
.seq (
.reg [.get 11,
  .run (.unOp .not 4 (.tmp 0)) none,
  .run (.move (.tmp (far + 10))) (some ((.tmp 0), false)),
  .run (.binOp .geq 3 (.tmp 0) (.const (.int .i64 0)) 3) (some ((.tmp 1), false)),
  .run (.move (.tmp 0)) (some ((.tmp 2), false)),
  .run (.move (.tmp (far + 10))) (some ((.tmp 0), true)),
  .run (.fieldAddr 163 (.tmp (far + 4)) 3) (some ((.tmp 1), true)),
  .run (.load 3 (.tmp 0)) (some ((.tmp 2), true)),
  .run (.binOp .lss 3 (.tmp 2) (.tmp 0) 3) (some ((.tmp 3), true)),
  .run (.pick (.tmp 4) (.tmp 0) (.const (.bool false))) (some ((.tmp 7), false)),
  .run (.pick (.tmp 8) (.const (.bool true)) (.tmp 0)) none,
  .run (.store 4 (.tmp (far + 6)) (.tmp 0)) none] []) (
.ret))))))
theorem fn_code_mayIns : V.F 126 = some Tryd.f126 := by kernel_rfl
theorem is_code_mayIns : (V.F 126).isSome = true := by rw [fn_code_mayIns]; rfl
noncomputable def c_code_mayIns : Code := match Tryd.f126.body with
  | some c => c
  | none => .skip
theorem b_code_mayIns : Tryd.f126.body = some c_code_mayIns := rfl
theorem pc_code_mayIns : pcOf V Tryd.f126.ntmps (some (liveOf Tryd.f126 c_code_mayIns)) c_code_mayIns = some P_code_mayIns := by kernel_rfl
theorem Lc.code_mayIns {O : Orc} {vs : List Value} {H : AH} {R : Value → AH → Prop} (ho : O 126 vs H = none) (hlen : vs.length ≤ Tryd.f126.ntmps) (hlive : (List.range vs.length).all (isLive (some (liveOf Tryd.f126 c_code_mayIns))) = true)
    (h : WP V O (some (liveOf Tryd.f126 c_code_mayIns)) Tryd.f126.ntmps P_code_mayIns (initL vs 0) H fun e l H' => (e = .normal ∨ e = .ret) ∧ ∃ rs, resL V l H' Tryd.f126.results.toList = some rs ∧ R (resOf rs) H') : ∃ v H', Lc V O 126 vs H v H' ∧ R v H' :=
  Lc.fnP ho fn_code_mayIns b_code_mayIns pc_code_mayIns hlen hlive h
/- bobbin/code.SameIns -/
abbrev F_code_SameIns : FuncId := 129
def P_code_SameIns : PC :=
.seq (
.reg [.run (.box 39 (.tmp (far + 0))) none,
  .run (.box 39 (.tmp (far + 1))) none,
  .run (.assign (.const (.bool false))) none] [(4, 0), (3, 1), (2, 2)]) (
.seq (
.reg [.run (.fieldAddr 39 (.tmp (far + 2)) 0) none,
  .run (.load 5 (.tmp 0)) none,
  .run (.fieldAddr 39 (.tmp (far + 3)) 0) none,
  .run (.load 5 (.tmp 0)) none,
  .run (.binOp .eql 5 (.tmp 2) (.tmp 0) 5) none,
  .run (.fieldAddr 39 (.tmp (far + 2)) 1) (some ((.tmp 0), true)),
  .run (.load 3 (.tmp 0)) (some ((.tmp 1), true)),
  .run (.fieldAddr 39 (.tmp (far + 3)) 1) (some ((.tmp 2), true)),
  .run (.load 3 (.tmp 0)) (some ((.tmp 3), true)),
  .run (.binOp .eql 3 (.tmp 2) (.tmp 0) 3) (some ((.tmp 4), true)),
  .run (.pick (.tmp 5) (.tmp 0) (.const (.bool false))) none,
  .run (.fieldAddr 39 (.tmp (far + 2)) 2) (some ((.tmp 0), true)),
  .run (.load 3 (.tmp 0)) (some ((.tmp 1), true)),
  .run (.fieldAddr 39 (.tmp (far + 3)) 2) (some ((.tmp 2), true)),
  .run (.load 3 (.tmp 0)) (some ((.tmp 3), true)),
  .run (.binOp .eql 3 (.tmp 2) (.tmp 0) 3) (some ((.tmp 4), true)),
  .run (.pick (.tmp 5) (.tmp 0) (.const (.bool false))) none,
  .run (.fieldAddr 39 (.tmp (far + 2)) 3) (some ((.tmp 0), true)),
  .run (.load 3 (.tmp 0)) (some ((.tmp 1), true)),
  .run (.fieldAddr 39 (.tmp (far + 3)) 3) (some ((.tmp 2), true)),
  .run (.load 3 (.tmp 0)) (some ((.tmp 3), true)),
  .run (.binOp .eql 3 (.tmp 2) (.tmp 0) 3) (some ((.tmp 4), true)),
  .run (.pick (.tmp 5) (.tmp 0) (.const (.bool false))) none,
  .run (.fieldAddr 39 (.tmp (far + 2)) 4) (some ((.tmp 0), true)),
  .run (.load 2 (.tmp 0)) (some ((.tmp 1), true)),
  .run (.fieldAddr 39 (.tmp (far + 3)) 4) (some ((.tmp 2), true)),
  .run (.load 2 (.tmp 0)) (some ((.tmp 3), true)),
  .run (.binOp .eql 2 (.tmp 2) (.tmp 0) 2) (some ((.tmp 4), true)),
  .run (.pick (.tmp 5) (.tmp 0) (.const (.bool false))) none,
  .run (.fieldAddr 39 (.tmp (far + 2)) 5) (some ((.tmp 0), true)),
  .run (.load 32 (.tmp 0)) (some ((.tmp 1), true)),
  .run (.fieldAddr 39 (.tmp (far + 3)) 5) (some ((.tmp 2), true)),
  .run (.load 32 (.tmp 0)) (some ((.tmp 3), true)),
  .run (.call ⟨.value (.func 97), #[(.tmp 2), (.tmp 0)], #[32, 32]⟩) (some ((.tmp 4), true)),
  .run (.pick (.tmp 5) (.tmp 0) (.const (.bool false))) none] [(4, 0)]) (
.ret))
theorem fn_code_SameIns : V.F 129 = some Tryd.f129 := by kernel_rfl
theorem is_code_SameIns : (V.F 129).isSome = true := by rw [fn_code_SameIns]; rfl
noncomputable def c_code_SameIns : Code := match Tryd.f129.body with
  | some c => c
  | none => .skip
theorem b_code_SameIns : Tryd.f129.body = some c_code_SameIns := rfl
theorem pc_code_SameIns : pcOf V Tryd.f129.ntmps (some (liveOf Tryd.f129 c_code_SameIns)) c_code_SameIns = some P_code_SameIns := by kernel_rfl
theorem Lc.code_SameIns {O : Orc} {vs : List Value} {H : AH} {R : Value → AH → Prop} (ho : O 129 vs H = none) (hlen : vs.length ≤ Tryd.f129.ntmps) (hlive : (List.range vs.length).all (isLive (some (liveOf Tryd.f129 c_code_SameIns))) = true)
    (h : WP V O (some (liveOf Tryd.f129 c_code_SameIns)) Tryd.f129.ntmps P_code_SameIns (initL vs 0) H fun e l H' => (e = .normal ∨ e = .ret) ∧ ∃ rs, resL V l H' Tryd.f129.results.toList = some rs ∧ R (resOf rs) H') : ∃ v H', Lc V O 129 vs H v H' ∧ R v H' :=
  Lc.fnP ho fn_code_SameIns b_code_SameIns pc_code_SameIns hlen hlive h
/- bobbin/code.bare -/
abbrev F_code_bare : FuncId := 130
def P_code_bare : PC :=
.seq (
.reg [.run (.box 90 (.tmp (far + 0))) none,
  .run (.box 39 (.tmp (far + 1))) none,
  .run (.alloc 39) none] [(4, 0), (3, 1), (2, 2)]) (
.seq (
.reg [.run (.fieldAddr 39 (.tmp (far + 3)) 0) none,
  .run (.store 5 (.tmp 0) (.const (.int .u8 0))) none] []) (
.seq (
.seq (
.reg [.run (.fieldAddr 90 (.tmp (far + 2)) 0) none,
  .run (.load 4 (.tmp 0)) none] [(7, 0)]) (
.cond (.tmp 7) (
  .reg [.run (.fieldAddr 39 (.tmp (far + 3)) 1) none,
    .run (.store 3 (.tmp 0) (.const (.int .i64 0))) none] []) (
  .skip))) (
.seq (
.seq (
.reg [.run (.fieldAddr 90 (.tmp (far + 2)) 1) none,
  .run (.load 4 (.tmp 0)) none] [(10, 0)]) (
.cond (.tmp 10) (
  .reg [.run (.fieldAddr 39 (.tmp (far + 3)) 2) none,
    .run (.store 3 (.tmp 0) (.const (.int .i64 0))) none] []) (
  .skip))) (
.seq (
.seq (
.reg [.run (.fieldAddr 90 (.tmp (far + 2)) 2) none,
  .run (.load 4 (.tmp 0)) none] [(13, 0)]) (
.cond (.tmp 13) (
  .reg [.run (.fieldAddr 39 (.tmp (far + 3)) 3) none,
    .run (.store 3 (.tmp 0) (.const (.int .i64 0))) none] []) (
  .skip))) (
.seq (
.seq (
.reg [.run (.fieldAddr 90 (.tmp (far + 2)) 4) none,
  .run (.load 3 (.tmp 0)) none,
  .run (.binOp .neq 3 (.tmp 0) (.const (.int .i64 0)) 3) none] [(17, 0)]) (
.cond (.tmp 17) (
  .reg [.run (.fieldAddr 39 (.tmp (far + 3)) 4) none,
    .run (.store 2 (.tmp 0) (.const (.int .i64 0))) none] []) (
  .skip))) (
.seq (
.seq (
.reg [.run (.fieldAddr 90 (.tmp (far + 2)) 4) none,
  .run (.load 3 (.tmp 0)) none,
  .run (.binOp .eql 3 (.tmp 0) (.const (.int .i64 6)) 3) none] [(21, 0)]) (
.cond (.tmp 21) (
  .reg [.run (.fieldAddr 39 (.tmp (far + 3)) 5) none,
    .run (.store 32 (.tmp 0) (.const (.slice none 0 0))) none] []) (
  .skip))) (
.seq (
.reg [.run (.load 39 (.tmp (far + 3))) none,
  .run (.store 39 (.tmp (far + 4)) (.tmp 0)) none] []) (
.ret))))))))
theorem fn_code_bare : V.F 130 = some Tryd.f130 := by kernel_rfl
theorem is_code_bare : (V.F 130).isSome = true := by rw [fn_code_bare]; rfl
noncomputable def c_code_bare : Code := match Tryd.f130.body with
  | some c => c
  | none => .skip
theorem b_code_bare : Tryd.f130.body = some c_code_bare := rfl
theorem pc_code_bare : pcOf V Tryd.f130.ntmps (some (liveOf Tryd.f130 c_code_bare)) c_code_bare = some P_code_bare := by kernel_rfl
theorem Lc.code_bare {O : Orc} {vs : List Value} {H : AH} {R : Value → AH → Prop} (ho : O 130 vs H = none) (hlen : vs.length ≤ Tryd.f130.ntmps) (hlive : (List.range vs.length).all (isLive (some (liveOf Tryd.f130 c_code_bare))) = true)
    (h : WP V O (some (liveOf Tryd.f130 c_code_bare)) Tryd.f130.ntmps P_code_bare (initL vs 0) H fun e l H' => (e = .normal ∨ e = .ret) ∧ ∃ rs, resL V l H' Tryd.f130.results.toList = some rs ∧ R (resOf rs) H') : ∃ v H', Lc V O 130 vs H v H' ∧ R v H' :=
  Lc.fnP ho fn_code_bare b_code_bare pc_code_bare hlen hlive h
/- bobbin/code.number -/
abbrev F_code_number : FuncId := 131
def P_code_number : PC :=
.seq (
.reg [.run (.box 166 (.tmp (far + 0))) none,
  .run (.box 163 (.tmp (far + 1))) none,
  .run (.box 90 (.tmp (far + 2))) none,
  .run (.box 39 (.tmp (far + 3))) none,
  .run (.assign (.const (.bool false))) none] [(8, 0), (7, 1), (6, 2), (5, 3), (4, 4)]) (
.seq (
.reg [.run (.fieldAddr 39 (.tmp (far + 7)) 4) none,
  .run (.load 2 (.tmp 0)) none] [(9, 0)]) (
.seq (
.seq (
.reg [.run (.fieldAddr 90 (.tmp (far + 6)) 4) none,
  .run (.load 3 (.tmp 0)) none] [(13, 0)]) (
.block 0 (
 .seq (
 .reg [.run (.binOp .eql 3 (.tmp (far + 13)) (.const (.int .i64 2)) 3) none] [(14, 0)]) (
 .cond (.tmp 14) (
   .seq (
   .reg [.get 9,
     .run (.binOp .eql 2 (.tmp 0) (.const (.int .i64 5)) 2) none,
     .run (.move (.tmp (far + 9))) (some ((.tmp 0), false)),
     .run (.binOp .eql 2 (.tmp 0) (.const (.int .i64 6)) 2) (some ((.tmp 1), false)),
     .run (.pick (.tmp 2) (.const (.bool true)) (.tmp 0)) none] [(8, 0)]) (
   .ret)) (
   .seq (
   .reg [.run (.binOp .eql 3 (.tmp (far + 13)) (.const (.int .i64 3)) 3) none] [(22, 0)]) (
   .cond (.tmp 22) (
     .seq (
     .reg [.get 9,
       .run (.binOp .geq 2 (.tmp 0) (.const (.int .i64 7)) 2) none,
       .run (.move (.tmp (far + 9))) (some ((.tmp 0), true)),
       .run (.binOp .leq 2 (.tmp 0) (.const (.int .i64 17)) 2) (some ((.tmp 1), true)),
       .run (.pick (.tmp 2) (.tmp 0) (.const (.bool false))) none] [(8, 0)]) (
     .ret)) (
     .seq (
     .reg [.run (.binOp .eql 3 (.tmp (far + 13)) (.const (.int .i64 4)) 3) none] [(30, 0)]) (
     .cond (.tmp 30) (
       .seq (
       .reg [.get 9,
         .run (.binOp .geq 2 (.tmp 0) (.const (.int .i64 0)) 2) none,
         .run (.move (.tmp (far + 9))) (some ((.tmp 0), true)),
         .run (.fieldAddr 166 (.tmp (far + 4)) 0) (some ((.tmp 1), true)),
         .run (.load 160 (.tmp 0)) (some ((.tmp 2), true)),
         .run (.call ⟨.builtin .len, #[(.tmp 0)], #[160]⟩) (some ((.tmp 3), true)),
         .run (.binOp .lss 2 (.tmp 3) (.tmp 0) 2) (some ((.tmp 4), true)),
         .run (.pick (.tmp 5) (.tmp 0) (.const (.bool false))) none] [(8, 0)]) (
       .ret)) (
       .seq (
       .reg [.run (.binOp .eql 3 (.tmp (far + 13)) (.const (.int .i64 5)) 3) none] [(41, 0)]) (
       .cond (.tmp 41) (
         .seq (
         .reg [.get 9,
           .run (.binOp .geq 2 (.tmp 0) (.const (.int .i64 0)) 2) none,
           .run (.move (.tmp (far + 9))) (some ((.tmp 0), true)),
           .run (.fieldAddr 166 (.tmp (far + 4)) 1) (some ((.tmp 1), true)),
           .run (.load 161 (.tmp 0)) (some ((.tmp 2), true)),
           .run (.call ⟨.builtin .len, #[(.tmp 0)], #[161]⟩) (some ((.tmp 3), true)),
           .run (.binOp .lss 2 (.tmp 3) (.tmp 0) 2) (some ((.tmp 4), true)),
           .run (.pick (.tmp 5) (.tmp 0) (.const (.bool false))) none] [(8, 0)]) (
         .ret)) (
         .seq (
         .reg [.run (.binOp .eql 3 (.tmp (far + 13)) (.const (.int .i64 7)) 3) none] [(52, 0)]) (
         .cond (.tmp 52) (
           .seq (
           .reg [.get 9,
             .run (.binOp .geq 2 (.tmp 0) (.const (.int .i64 0)) 2) none,
             .run (.move (.tmp (far + 9))) (some ((.tmp 0), true)),
             .run (.fieldAddr 163 (.tmp (far + 5)) 4) (some ((.tmp 1), true)),
             .run (.load 31 (.tmp 0)) (some ((.tmp 2), true)),
             .run (.call ⟨.builtin .len, #[(.tmp 0)], #[31]⟩) (some ((.tmp 3), true)),
             .run (.binOp .lss 2 (.tmp 3) (.tmp 0) 2) (some ((.tmp 4), true)),
             .run (.pick (.tmp 5) (.tmp 0) (.const (.bool false))) none] [(8, 0)]) (
           .ret)) (
           .seq (
           .reg [.run (.binOp .eql 3 (.tmp (far + 13)) (.const (.int .i64 6)) 3) none] [(63, 0)]) (
           .cond (.tmp 63) (
             .seq (
             .reg [.get 9,
               .run (.binOp .geq 2 (.tmp 0) (.const (.int .i64 0)) 2) none,
               .run (.move (.tmp (far + 9))) (some ((.tmp 0), true)),
               .run (.fieldAddr 166 (.tmp (far + 4)) 2) (some ((.tmp 1), true)),
               .run (.load 164 (.tmp 0)) (some ((.tmp 2), true)),
               .run (.call ⟨.builtin .len, #[(.tmp 0)], #[164]⟩) (some ((.tmp 3), true)),
               .run (.binOp .lss 2 (.tmp 3) (.tmp 0) 2) (some ((.tmp 4), true)),
               .run (.pick (.tmp 5) (.tmp 0) (.const (.bool false))) none,
               .run (.fieldAddr 166 (.tmp (far + 4)) 2) (some ((.tmp 0), true)),
               .run (.load 164 (.tmp 0)) (some ((.tmp 1), true)),
               .run (.move (.tmp (far + 9))) (some ((.tmp 2), true)),
               .run (.indexAddr 164 (.tmp 1) (.tmp 0)) (some ((.tmp 3), true)),
               .run (.fieldAddr 163 (.tmp 0) 1) (some ((.tmp 4), true)),
               .run (.load 4 (.tmp 0)) (some ((.tmp 5), true)),
               .run (.unOp .not 4 (.tmp 0)) (some ((.tmp 6), true)),
               .run (.pick (.tmp 7) (.tmp 0) (.const (.bool false))) none,
               .run (.fieldAddr 39 (.tmp (far + 7)) 5) (some ((.tmp 0), true)),
               .run (.load 32 (.tmp 0)) (some ((.tmp 1), true)),
               .run (.call ⟨.builtin .len, #[(.tmp 0)], #[32]⟩) (some ((.tmp 2), true)),
               .run (.fieldAddr 166 (.tmp (far + 4)) 2) (some ((.tmp 3), true)),
               .run (.load 164 (.tmp 0)) (some ((.tmp 4), true)),
               .run (.move (.tmp (far + 9))) (some ((.tmp 5), true)),
               .run (.indexAddr 164 (.tmp 1) (.tmp 0)) (some ((.tmp 6), true)),
               .run (.fieldAddr 163 (.tmp 0) 2) (some ((.tmp 7), true)),
               .run (.load 3 (.tmp 0)) (some ((.tmp 8), true)),
               .run (.binOp .eql 3 (.tmp 6) (.tmp 0) 3) (some ((.tmp 9), true)),
               .run (.pick (.tmp 10) (.tmp 0) (.const (.bool false))) none] [(8, 0)]) (
             .ret)) (
             .skip))))))))))))))) (
.seq (
.reg [.run (.assign (.const (.bool true))) none] [(8, 0)]) (
.ret))))
theorem fn_code_number : V.F 131 = some Tryd.f131 := by kernel_rfl
theorem is_code_number : (V.F 131).isSome = true := by rw [fn_code_number]; rfl
noncomputable def c_code_number : Code := match Tryd.f131.body with
  | some c => c
  | none => .skip
theorem b_code_number : Tryd.f131.body = some c_code_number := rfl
theorem pc_code_number : pcOf V Tryd.f131.ntmps (some (liveOf Tryd.f131 c_code_number)) c_code_number = some P_code_number := by kernel_rfl
theorem Lc.code_number {O : Orc} {vs : List Value} {H : AH} {R : Value → AH → Prop} (ho : O 131 vs H = none) (hlen : vs.length ≤ Tryd.f131.ntmps) (hlive : (List.range vs.length).all (isLive (some (liveOf Tryd.f131 c_code_number))) = true)
    (h : WP V O (some (liveOf Tryd.f131 c_code_number)) Tryd.f131.ntmps P_code_number (initL vs 0) H fun e l H' => (e = .normal ∨ e = .ret) ∧ ∃ rs, resL V l H' Tryd.f131.results.toList = some rs ∧ R (resOf rs) H') : ∃ v H', Lc V O 131 vs H v H' ∧ R v H' :=
  Lc.fnP ho fn_code_number b_code_number pc_code_number hlen hlive h
end Go.Proofs.YtfhmdhndmlinkaaDoor.U

/-
  Contracts of code: what operations name.
-/
namespace Go.Proofs.YtfhmdhndmlinkaaDoor.U
open Go Go.Ev
attribute [local irreducible] WL WP WH W
attribute [local irreducible] V
variable {O : Orc} {H : AH}
def NoO (O : Orc) : Prop := ∀ f vs H, f ≠ 11 → f ≠ 20 → f ≠ 23 → f ≠ 32 → O f vs H = none
def opC (o : Flo.OpD) : List Value := [.bool o.r, .bool o.a, .bool o.b, .bool o.bare, .int .i64 o.n]
def opV (o : Flo.OpD) : Value := .agg (opC o).toArray
def opsC : List Value := Flo.opL.flatMap opC
def GH (H : AH) : Prop := 0 < H.next ∧ H.obj 0 = .row 131 opsC .ro 0 0
theorem GH.fr {H H' : AH} (h : GH H) (k : Fr H H') : GH H' := ⟨Nat.lt_of_lt_of_le h.1 k.1, (k.2.1 0 h.1).trans h.2⟩
theorem opsC_at (n : Nat) (h : n < 14) : (opsC.drop (n * 5)).take 5 = opC (Flo.opD n) := by
  have : n = 0 ∨ n = 1 ∨ n = 2 ∨ n = 3 ∨ n = 4 ∨ n = 5 ∨ n = 6 ∨ n = 7 ∨ n = 8 ∨ n = 9 ∨ n = 10 ∨ n = 11 ∨ n = 12 ∨ n = 13 := by omega
  rcases this with rfl | rfl | rfl | rfl | rfl | rfl | rfl | rfl | rfl | rfl | rfl | rfl | rfl | rfl <;> rfl
theorem opsC_len : opsC.length = 70 := rfl
def insV (i : Ins) (va : Value) : Value := .agg (i.cells va).toArray
theorem zero90 : te_code_op.zv.cells.toList = [.bool false, .bool false, .bool false, .bool false, .int .i64 0] := by kernel_rfl
theorem build90 : aBuild V.E 90 [] = some (.agg #[.bool false, .bool false, .bool false, .bool false, .int .i64 0]) := by kernel_rfl
theorem und5 : V.P.underlying 5 = some (.int .u8) := by kernel_rfl
theorem und3 : V.P.underlying 3 = some (.int .i64) := by kernel_rfl
theorem opD_out {op : Int} (h : Flo.isOp op = false) (h0 : 0 ≤ op) : Flo.opD op = ⟨false, false, false, false, 0⟩ := by
  unfold Flo.isOp at h
  simp only [Bool.not_eq_false', Bool.or_eq_true, decide_eq_true_eq] at h
  rcases h with h | h
  · have : op = 0 := by omega
    subst this; rfl
  · unfold Flo.opD
    rw [List.getD_eq_getElem?_getD, List.getElem?_eq_none (by simp [Flo.opL]; omega)]; rfl
theorem of_c (hO : NoO O) (hg : GH H) {i : Ins} {va : Value} (hop : 0 ≤ i.op ∧ i.op < 256) :
    ∃ v H', Lc V O F_code_of [insV i va] H v H' ∧ (v = .tuple #[opV (Flo.opD i.op), .bool (Flo.isOp i.op)] ∧ Fr H H') := by
  refine Lc.code_of (R := fun v H' => v = .tuple #[opV (Flo.opD i.op), .bool (Flo.isOp i.op)] ∧ Fr H H') (hO _ _ _ (by decide) (by decide) (by decide) (by decide)) (Nat.le_of_ble_eq_true rfl) (by kernel_rfl) ?_
  unfold P_code_of
  refine zSeq ?_
  refine zReg ?_
  refine zBox rfl (fun _ => rfl) fun H1 f1 b1 n1 => ?_
  refine zAlc E_code_op zero90 fun H2 f2 b2 n2 => ?_
  replace b1 := b1.fr f2
  have f12 := f1.trans f2
  have none_ : Flo.isOp i.op = false → opV (Flo.opD i.op) = .agg #[.bool false, .bool false, .bool false, .bool false, .int .i64 0] := fun h => by rw [opD_out h hop.1]; rfl
  have ho : H2.obj 0 = .row 131 opsC .ro 0 0 := (hg.fr f12).2
  have hlt : 0 < H2.next := (hg.fr f12).1
  cases c1 : decide (i.op < 1)
  · cases c2 : decide (i.op ≥ 14)
    · have hn : i.op.toNat < 14 := by have := of_decide_eq_false c1; have := of_decide_eq_false c2; omega
      have hi : Flo.isOp i.op = true := by unfold Flo.isOp; rw [c1, c2]; rfl
      have e0 : i.op = (i.op.toNat : Int) := by omega
      have ha1 : aIndex V.E 131 (.pointer (some ⟨0, 0, none⟩)) (.int .u8 i.op) = some (.pointer (some ⟨0, 0 + i.op.toNat * 5, none⟩)) := by
        simp only [aIndex, E_14_code_op, E_code_op, te_code_op_size]
        rw [if_pos ⟨by omega, by omega⟩]
      have hr : Rd H2 0 (0 + i.op.toNat * 5) 5 (opC (Flo.opD i.op)) := by
        have h70 : Rd H2 0 0 70 opsC := Rd.ro hlt ho
        have := h70.sub (i.op.toNat * 5) 5 (by omega)
        rw [opsC_at _ hn, ← e0] at this
        exact this
      have hl1 := hr.loadN (V := V) E_code_op te_code_op_agg te_code_op_size
      (repeat first | refine zSeq ?_ | refine zReg ?_ | refine zNil rfl ?_ | refine zOn rfl (by assumption) ?_ | refine zAsg rfl ?_ | refine zLss rfl rfl ?_ | refine zFld (f := 0) rfl O_api_Ins_Op ?_ | refine zLd (ty := 5) rfl (Bx.ld (by assumption) (by rfl) E_uint8 rfl) ?_)
      refine WL.op (op_conv und5 und3 rfl (m := i.op) (wrap_i64 (by omega) (by omega))) ?_
      (repeat first | refine zSeq ?_ | refine zReg ?_ | refine zSkp ?_ | refine zNil rfl ?_ | refine zOn rfl (by assumption) ?_ | refine zPF rfl (by assumption) rfl ?_ | refine zGeq rfl rfl ?_ | refine zF rfl (by assumption) ?_ | refine zFld (f := 0) rfl O_api_Ins_Op ?_ | refine zLd (ty := 5) rfl (Bx.ld (by assumption) (by rfl) E_uint8 rfl) ?_)
      refine zIdx (by unfold V; rfl) rfl ha1 ?_
      refine zLd rfl hl1 ?_
      refine zStB b2 rfl rfl E_code_op (by rw [te_code_op_size]; rfl) (by simp [Value.cells, opC, Value.oneCell']) (by simp [Value.cells, opC]) (by simp [Value.cells, opC]) fun H3 f3 b3 n3 => ?_
      (repeat first | refine zNil rfl ?_ | refine zAsg rfl ?_)
      refine WP.ret ⟨.inr rfl, _, resL_cell rfl (b3.ldN E_code_op te_code_op_agg (by rw [te_code_op_size]; rfl)) rfl, ?_, f12.young f3 (by simp; omega) (by simp)⟩
      rw [hi]; rfl
    · have hi : Flo.isOp i.op = false := by unfold Flo.isOp; rw [c1, c2]; rfl
      (repeat first | refine zSeq ?_ | refine zReg ?_ | refine zNil rfl ?_ | refine zOn rfl (by assumption) ?_ | refine zAsg rfl ?_ | refine zLss rfl rfl ?_ | refine zFld (f := 0) rfl O_api_Ins_Op ?_ | refine zLd (ty := 5) rfl (Bx.ld (by assumption) (by rfl) E_uint8 rfl) ?_)
      refine WL.op (op_conv und5 und3 rfl (m := i.op) (wrap_i64 (by omega) (by omega))) ?_
      (repeat first | refine zSeq ?_ | refine zReg ?_ | refine zNil rfl ?_ | refine zOn rfl (by assumption) ?_ | refine zPF rfl (by assumption) rfl ?_ | refine zGeq rfl rfl ?_ | refine zT rfl (by assumption) ?_)
      refine WL.op (op_build rfl build90) ?_
      refine zStB b2 rfl rfl E_code_op (by rw [te_code_op_size]; rfl) rfl (by simp [Value.cells]) (by simp [Value.cells]) fun H3 f3 b3 n3 => ?_
      (repeat first | refine zNil rfl ?_ | refine zAsg rfl ?_)
      refine WP.ret ⟨.inr rfl, _, resL_cell rfl (b3.ldN E_code_op te_code_op_agg (by rw [te_code_op_size]; rfl)) rfl, ?_, f12.young f3 (by simp; omega) (by simp)⟩
      rw [hi, none_ hi]; rfl
  · have hi : Flo.isOp i.op = false := by unfold Flo.isOp; rw [c1]; rfl
    (repeat first | refine zSeq ?_ | refine zReg ?_ | refine zNil rfl ?_ | refine zOff rfl (by assumption) ?_ | refine zAsg rfl ?_ | refine zPT rfl (by assumption) rfl ?_ | refine zLss rfl rfl ?_ | refine zT rfl rfl ?_ | refine zFld (f := 0) rfl O_api_Ins_Op ?_ | refine zLd (ty := 5) rfl (Bx.ld (by assumption) (by rfl) E_uint8 rfl) ?_)
    refine WL.op (op_build rfl build90) ?_
    refine zStB b2 rfl rfl E_code_op (by rw [te_code_op_size]; rfl) rfl (by simp [Value.cells]) (by simp [Value.cells]) fun H3 f3 b3 n3 => ?_
    (repeat first | refine zNil rfl ?_ | refine zAsg rfl ?_)
    refine WP.ret ⟨.inr rfl, _, resL_cell rfl (b3.ldN E_code_op te_code_op_agg (by rw [te_code_op_size]; rfl)) rfl, ?_, f12.young f3 (by simp; omega) (by simp)⟩
    rw [hi, none_ hi]; rfl
end Go.Proofs.YtfhmdhndmlinkaaDoor.U

/-
  Contracts of code: the same instructions; an instruction without what its operation names.
-/
namespace Go.Proofs.YtfhmdhndmlinkaaDoor.U
open Go Go.Ev
attribute [local irreducible] WL WP WH W
attribute [local irreducible] V
variable {O : Orc} {H : AH}
theorem equal_c (hO : NoO O) {A B : Av} {a b : List Int} {va vb : Value} (h1 : IntsR A H va a) (h2 : IntsR B H vb b) (hL : a.length ≤ 1000000) :
    Lc V O F_slices_Equal_s_int_int [va, vb] H (.bool (a == b)) H := by
  refine Lc.of_eq (Lc.slices_Equal_s_int_int (R := fun u H' => u = .bool (a == b) ∧ H' = H) (hO _ _ _ (by decide) (by decide) (by decide) (by decide)) (Nat.le_of_ble_eq_true rfl) (by kernel_rfl) ?_)
  unfold P_slices_Equal_s_int_int
  cases c0 : ((a.length : Int) != b.length)
  case true =>
    (repeat first | refine zSeq ?_ | refine zReg ?_ | refine zNil rfl ?_ | refine zGet rfl ?_ | refine zAsg rfl ?_ | refine zNeq rfl rfl ?_ | refine zT rfl (by assumption) ?_ | refine zLen rfl (h1.len E_s_int) ?_ | refine zLen rfl (h2.len E_s_int) ?_)
    refine WP.ret ⟨.inr rfl, _, rfl, ?_, rfl⟩
    have : (a == b) = false := by rw [beq_eq_false_iff_ne]; rintro rfl; simp at c0
    rw [this]; rfl
  have hlen : a.length = b.length := by have := bne_eq_false_iff_eq.1 c0; omega
  (repeat first | refine zSeq ?_ | refine zReg ?_ | refine zBlk ?_ | refine zSkp ?_ | refine zNil rfl ?_ | refine zGet rfl ?_ | refine zMov rfl ?_ | refine zAsg rfl ?_ | refine zNeq rfl rfl ?_ | refine zF rfl (by assumption) ?_ | refine zLen rfl (h1.len E_s_int) ?_ | refine zLen rfl (h2.len E_s_int) ?_)
  refine WP.loopH (σ := Nat) (fun i => [(0, va), (1, vb), (12, .int .i64 a.length), (13, .int .i64 i)]) (fun i H' => H' = H ∧ i ≤ a.length ∧ a.take i = b.take i) (fun i => a.length - i) 0 ⟨rfl, Nat.zero_le _, rfl⟩ ⟨rfl, rfl, rfl, rfl, trivial⟩ ?_
  rintro i Hy ⟨hy, hi, he⟩
  replace hy := hy.symm
  subst hy
  rcases Nat.lt_or_ge i a.length with h | h
  · have g1 : decide ((i : Int) < a.length) = true := decide_eq_true (by omega)
    obtain ⟨b1, o1, ha1, hl1⟩ := h1.at E_s_int E_int (kd := .i64) h
    obtain ⟨b2, o2, ha2, hl2⟩ := h2.at E_s_int E_int (kd := .i64) (i := i) (by omega)
    cases c1 : a[i] != b[i]'(by omega)
    · (repeat first | refine zSeq ?_ | refine zReg ?_ | refine zBlk ?_ | refine zSkp ?_ | refine zNil rfl ?_ | refine zGet rfl ?_ | refine zLss rfl rfl ?_ | refine zNeq rfl rfl ?_ | refine zAdd rfl rfl (by omega) ?_ | refine zT rfl (by assumption) ?_ | refine zF rfl (by assumption) ?_ | refine zIdx rfl rfl ha1 ?_ | refine zIdx rfl rfl ha2 ?_ | refine zLd rfl hl1 ?_ | refine zLd rfl hl2 ?_)
      refine ⟨i + 1, ⟨rfl, h, ?_⟩, by omega, rfl, rfl, rfl, rfl, trivial⟩
      rw [List.take_add_one, List.take_add_one, he, List.getElem?_eq_getElem h, List.getElem?_eq_getElem (by omega), bne_eq_false_iff_eq.1 c1]
    · (repeat first | refine zSeq ?_ | refine zReg ?_ | refine zBlk ?_ | refine zSkp ?_ | refine zNil rfl ?_ | refine zGet rfl ?_ | refine zAsg rfl ?_ | refine zLss rfl rfl ?_ | refine zNeq rfl rfl ?_ | refine zT rfl (by assumption) ?_ | refine zIdx rfl rfl ha1 ?_ | refine zIdx rfl rfl ha2 ?_ | refine zLd rfl hl1 ?_ | refine zLd rfl hl2 ?_)
      refine WP.ret ⟨.inr rfl, _, rfl, ?_, rfl⟩
      have : (a == b) = false := by
        rw [beq_eq_false_iff_ne]; rintro rfl; simp at c1
      rw [this]; rfl
  · have g1 : decide ((i : Int) < a.length) = false := decide_eq_false (by omega)
    (repeat first | refine zSeq ?_ | refine zReg ?_ | refine zExt ?_ | refine zNil rfl ?_ | refine zAsg rfl ?_ | refine zLss rfl rfl ?_ | refine zF rfl (by assumption) ?_)
    refine WP.ret ⟨.inr rfl, _, rfl, ?_, rfl⟩
    rw [List.take_of_length_le (by omega), List.take_of_length_le (by omega)] at he
    rw [he, beq_self_eq_true]; rfl
def sameB (i j : Ins) : Bool := i.op == j.op && (i.r == j.r && (i.a == j.a && (i.b == j.b && (i.n == j.n && i.args == j.args))))
theorem sameB_iff {i j : Ins} : sameB i j = true ↔ i = j := by
  unfold sameB
  cases i; cases j
  simp
theorem codeSame_c (hO : NoO O) {A B : Av} {i j : Ins} {va vb : Value} (h1 : IntsR A H va i.args) (h2 : IntsR B H vb j.args) (hL : i.args.length ≤ 1000000) :
    ∃ v H', Lc V O F_code_SameIns [insV i va, insV j vb] H v H' ∧ (v = .bool (sameB i j) ∧ Fr H H') := by
  refine Lc.code_SameIns (R := fun v H' => v = .bool (sameB i j) ∧ Fr H H') (hO _ _ _ (by decide) (by decide) (by decide) (by decide)) (Nat.le_of_ble_eq_true rfl) (by kernel_rfl) ?_
  unfold P_code_SameIns
  refine zSeq ?_
  refine zReg ?_
  refine zBox rfl (fun _ => rfl) fun H1 f1 b1 n1 => ?_
  refine zBox rfl (fun _ => rfl) fun H2 f2 b2 n2 => ?_
  replace b1 := b1.fr f2
  have f12 := f1.trans f2
  cases c1 : i.op == j.op
  · (repeat first | refine zSeq ?_ | refine zReg ?_ | refine zNil rfl ?_ | refine zOff rfl rfl ?_ | refine zOff rfl (by assumption) ?_ | refine zAsg rfl ?_ | refine zPF rfl rfl rfl ?_ | refine zPF rfl (by assumption) rfl ?_ | refine zEql rfl rfl ?_ | refine zFld (f := 0) rfl O_api_Ins_Op ?_ | refine zLd (ty := 5) rfl (Bx.ld (by assumption) (by rfl) E_uint8 rfl) ?_)
    exact WP.ret ⟨.inr rfl, _, rfl, by unfold sameB; rw [c1]; rfl, f12⟩
  cases c2 : i.r == j.r
  · (repeat first | refine zSeq ?_ | refine zReg ?_ | refine zNil rfl ?_ | refine zOff rfl rfl ?_ | refine zOn rfl (by assumption) ?_ | refine zOff rfl (by assumption) ?_ | refine zAsg rfl ?_ | refine zPF rfl rfl rfl ?_ | refine zPT rfl (by assumption) rfl ?_ | refine zPF rfl (by assumption) rfl ?_ | refine zEql rfl rfl ?_ | refine zFld (f := 0) rfl O_api_Ins_Op ?_ | refine zFld (f := 1) rfl O_api_Ins_R ?_ | refine zLd (ty := 3) rfl (Bx.ld (by assumption) (by rfl) E_int rfl) ?_ | refine zLd (ty := 5) rfl (Bx.ld (by assumption) (by rfl) E_uint8 rfl) ?_)
    exact WP.ret ⟨.inr rfl, _, rfl, by unfold sameB; rw [c1, c2]; rfl, f12⟩
  cases c3 : i.a == j.a
  · (repeat first | refine zSeq ?_ | refine zReg ?_ | refine zNil rfl ?_ | refine zOff rfl rfl ?_ | refine zOn rfl (by assumption) ?_ | refine zOff rfl (by assumption) ?_ | refine zAsg rfl ?_ | refine zPF rfl rfl rfl ?_ | refine zPT rfl (by assumption) rfl ?_ | refine zPF rfl (by assumption) rfl ?_ | refine zEql rfl rfl ?_ | refine zFld (f := 0) rfl O_api_Ins_Op ?_ | refine zFld (f := 1) rfl O_api_Ins_R ?_ | refine zFld (f := 2) rfl O_api_Ins_A ?_ | refine zLd (ty := 3) rfl (Bx.ld (by assumption) (by rfl) E_int rfl) ?_ | refine zLd (ty := 5) rfl (Bx.ld (by assumption) (by rfl) E_uint8 rfl) ?_)
    exact WP.ret ⟨.inr rfl, _, rfl, by unfold sameB; rw [c1, c2, c3]; rfl, f12⟩
  cases c4 : i.b == j.b
  · (repeat first | refine zSeq ?_ | refine zReg ?_ | refine zNil rfl ?_ | refine zOff rfl rfl ?_ | refine zOn rfl (by assumption) ?_ | refine zOff rfl (by assumption) ?_ | refine zAsg rfl ?_ | refine zPF rfl rfl rfl ?_ | refine zPT rfl (by assumption) rfl ?_ | refine zPF rfl (by assumption) rfl ?_ | refine zEql rfl rfl ?_ | refine zFld (f := 0) rfl O_api_Ins_Op ?_ | refine zFld (f := 1) rfl O_api_Ins_R ?_ | refine zFld (f := 2) rfl O_api_Ins_A ?_ | refine zFld (f := 3) rfl O_api_Ins_B ?_ | refine zLd (ty := 3) rfl (Bx.ld (by assumption) (by rfl) E_int rfl) ?_ | refine zLd (ty := 5) rfl (Bx.ld (by assumption) (by rfl) E_uint8 rfl) ?_)
    exact WP.ret ⟨.inr rfl, _, rfl, by unfold sameB; rw [c1, c2, c3, c4]; rfl, f12⟩
  cases c5 : i.n == j.n
  · (repeat first | refine zSeq ?_ | refine zReg ?_ | refine zNil rfl ?_ | refine zOn rfl (by assumption) ?_ | refine zOff rfl (by assumption) ?_ | refine zAsg rfl ?_ | refine zPT rfl (by assumption) rfl ?_ | refine zPF rfl (by assumption) rfl ?_ | refine zEql rfl rfl ?_ | refine zFld (f := 0) rfl O_api_Ins_Op ?_ | refine zFld (f := 1) rfl O_api_Ins_R ?_ | refine zFld (f := 2) rfl O_api_Ins_A ?_ | refine zFld (f := 3) rfl O_api_Ins_B ?_ | refine zFld (f := 4) rfl O_api_Ins_N ?_ | refine zLd (ty := 3) rfl (Bx.ld (by assumption) (by rfl) E_int rfl) ?_ | refine zLd (ty := 2) rfl (Bx.ld (by assumption) (by rfl) E_int64 rfl) ?_ | refine zLd (ty := 5) rfl (Bx.ld (by assumption) (by rfl) E_uint8 rfl) ?_)
    exact WP.ret ⟨.inr rfl, _, rfl, by unfold sameB; rw [c1, c2, c3, c4, c5]; rfl, f12⟩
  (repeat first | refine zSeq ?_ | refine zReg ?_ | refine zNil rfl ?_ | refine zOn rfl (by assumption) ?_ | refine zAsg rfl ?_ | refine zPT rfl (by assumption) rfl ?_ | refine zEql rfl rfl ?_ | refine zFld (f := 0) rfl O_api_Ins_Op ?_ | refine zFld (f := 1) rfl O_api_Ins_R ?_ | refine zFld (f := 2) rfl O_api_Ins_A ?_ | refine zFld (f := 3) rfl O_api_Ins_B ?_ | refine zFld (f := 4) rfl O_api_Ins_N ?_ | refine zFld (f := 5) rfl O_api_Ins_Args ?_ | refine zLd (ty := 3) rfl (Bx.ld (by assumption) (by rfl) E_int rfl) ?_ | refine zLd (ty := 2) rfl (Bx.ld (by assumption) (by rfl) E_int64 rfl) ?_ | refine zLd (ty := 5) rfl (Bx.ld (by assumption) (by rfl) E_uint8 rfl) ?_ | refine zLd (ty := 32) rfl (Bx.ld (by assumption) (by rfl) E_s_int rfl) ?_)
  refine WL.call rfl rfl is_slices_Equal_s_int_int (equal_c hO (h1.fr f12) (h2.fr f12) hL) ?_
  (repeat first | refine zNil rfl ?_ | refine zPT rfl (by assumption) rfl ?_)
  exact WP.ret ⟨.inr rfl, _, rfl, by unfold sameB; rw [c1, c2, c3, c4, c5]; rfl, f12⟩
end Go.Proofs.YtfhmdhndmlinkaaDoor.U

/-
  Contracts of code: an instruction without what its operation names; what its number is of.
-/
namespace Go.Proofs.YtfhmdhndmlinkaaDoor.U
open Go Go.Ev
attribute [local irreducible] WL WP WH W
attribute [local irreducible] V
variable {O : Orc} {H : AH}
theorem zero39 : te_api_Ins.zv.cells.toList = [.int .u8 0, .int .i64 0, .int .i64 0, .int .i64 0, .int .i64 0, .slice none 0 0] := by kernel_rfl
def bareI (o : Flo.OpD) (i : Ins) : Ins := ⟨0, if o.r then 0 else i.r, if o.a then 0 else i.a, if o.b then 0 else i.b, if (o.n != 0) = true then 0 else i.n, if (o.n == 6) = true then [] else i.args⟩
def BareI (H0 : AH) (x y z : Nat) (o : Flo.OpD) (cs : List Value) (Hc : AH) : Prop :=
  FrX [y] [] H0 Hc ∧ Bx Hc x 90 (opC o) ∧ Bx Hc y 39 cs ∧ Bx Hc z 39 [.int .u8 0, .int .i64 0, .int .i64 0, .int .i64 0, .int .i64 0, .slice none 0 0]
theorem BareI.put {H0 Hc H1 : AH} {x y z : Nat} {o : Flo.OpD} {cs ds : List Value} (h : BareI H0 x y z o cs Hc) (hx : x < y) (hz : y < z) (k : FrX [y] [] Hc H1) (hb : Bx H1 y 39 ds) : BareI H0 x y z o ds H1 :=
  ⟨h.1.trans k (fun b hb _ => hb) (fun b hb _ => hb), h.2.1.frX k (by simp; omega), hb, h.2.2.2.frX k (by simp; omega)⟩
set_option maxHeartbeats 1000000 in
theorem bare_c (hO : NoO O) {o : Flo.OpD} {i : Ins} {va : Value} (hva : Value.oneCell' va = true) :
    ∃ v H', Lc V O F_code_bare [opV o, insV i va] H v H' ∧ (v = insV (bareI o i) (if (o.n == 6) = true then .slice none 0 0 else va) ∧ Fr H H') := by
  refine Lc.code_bare (R := fun v H' => v = insV (bareI o i) (if (o.n == 6) = true then .slice none 0 0 else va) ∧ Fr H H') (hO _ _ _ (by decide) (by decide) (by decide) (by decide)) (Nat.le_of_ble_eq_true rfl) (by kernel_rfl) ?_
  unfold P_code_bare
  refine zSeq ?_
  refine zReg ?_
  refine zBox rfl (fun _ => rfl) fun H1 f1 b1 n1 => ?_
  refine zBox rfl (fun _ => rfl) fun H2 f2 b2 n2 => ?_
  refine zAlc E_api_Ins zero39 fun H3 f3 b3 n3 => ?_
  replace b1 := (b1.fr f2).fr f3
  replace b2 := b2.fr f3
  have f13 := (f1.trans f2).trans f3
  have hx : H.next < H1.next := by omega
  have hz : H1.next < H2.next := by omega
  refine zNil rfl ?_
  refine zSeq ?_
  refine zReg ?_
  refine zFld (f := 0) rfl O_api_Ins_Op ?_
  refine zStB b2 rfl rfl E_uint8 rfl rfl (by simp [Value.cells]) (by simp [Value.cells, insV, Ins.cells]) fun H4 f4 b4 n4 => ?_
  have q : BareI H3 H.next H1.next H2.next o (Ins.cells { i with op := 0 } va) H4 := ⟨f4, b1.frX f4 (by simp; omega), b4, b3.frX f4 (by simp; omega)⟩
  clear b1 b2 b3 b4 f4 n4
  refine zNil rfl ?_
  refine WP.seqS (σ := Unit) (fun _ => [(2, .pointer (some ⟨H.next, 0, none⟩)), (3, .pointer (some ⟨H1.next, 0, none⟩)), (4, .pointer (some ⟨H2.next, 0, none⟩))]) (fun _ Hc => BareI H3 H.next H1.next H2.next o (Ins.cells { i with op := 0, r := if o.r then 0 else i.r } va) Hc) ?_ ?_
  · have b1 := q.2.1
    have b2 := q.2.2.1
    cases c : o.r
    · (repeat first | refine zSeq ?_ | refine zReg ?_ | refine zSkp ?_ | refine zNil rfl ?_ | refine zF rfl (by assumption) ?_ | refine zFld (f := 0) rfl O_code_op_r ?_ | refine zLd (ty := 4) rfl (Bx.ld (by assumption) (by rfl) E_bool rfl) ?_)
      exact ⟨(), q, rfl, rfl, rfl, trivial⟩
    · (repeat first | refine zSeq ?_ | refine zReg ?_ | refine zNil rfl ?_ | refine zT rfl (by assumption) ?_ | refine zFld (f := 1) rfl O_api_Ins_R ?_ | refine zFld (f := 0) rfl O_code_op_r ?_ | refine zLd (ty := 4) rfl (Bx.ld (by assumption) (by rfl) E_bool rfl) ?_)
      refine zStB b2 rfl rfl E_int rfl rfl (by simp [Value.cells]) (by simp [Value.cells, Ins.cells]) fun H5 f5 b5 n5 => ?_
      (repeat first | refine zNil rfl ?_)
      exact ⟨(), q.put hx hz f5 b5, rfl, rfl, rfl, trivial⟩
  rintro _ H5 q
  refine WP.seqS (σ := Unit) (fun _ => [(2, .pointer (some ⟨H.next, 0, none⟩)), (3, .pointer (some ⟨H1.next, 0, none⟩)), (4, .pointer (some ⟨H2.next, 0, none⟩))]) (fun _ Hc => BareI H3 H.next H1.next H2.next o (Ins.cells { i with op := 0, r := if o.r then 0 else i.r, a := if o.a then 0 else i.a } va) Hc) ?_ ?_
  · have b1 := q.2.1
    have b2 := q.2.2.1
    cases c : o.a
    · (repeat first | refine zSeq ?_ | refine zReg ?_ | refine zSkp ?_ | refine zNil rfl ?_ | refine zF rfl (by assumption) ?_ | refine zFld (f := 1) rfl O_code_op_a ?_ | refine zLd (ty := 4) rfl (Bx.ld (by assumption) (by rfl) E_bool rfl) ?_)
      exact ⟨(), q, rfl, rfl, rfl, trivial⟩
    · (repeat first | refine zSeq ?_ | refine zReg ?_ | refine zNil rfl ?_ | refine zT rfl (by assumption) ?_ | refine zFld (f := 2) rfl O_api_Ins_A ?_ | refine zFld (f := 1) rfl O_code_op_a ?_ | refine zLd (ty := 4) rfl (Bx.ld (by assumption) (by rfl) E_bool rfl) ?_)
      refine zStB b2 rfl rfl E_int rfl rfl (by simp [Value.cells]) (by simp [Value.cells, Ins.cells]) fun H5 f5 b5 n5 => ?_
      (repeat first | refine zNil rfl ?_)
      exact ⟨(), q.put hx hz f5 b5, rfl, rfl, rfl, trivial⟩
  rintro _ H6 q
  refine WP.seqS (σ := Unit) (fun _ => [(2, .pointer (some ⟨H.next, 0, none⟩)), (3, .pointer (some ⟨H1.next, 0, none⟩)), (4, .pointer (some ⟨H2.next, 0, none⟩))]) (fun _ Hc => BareI H3 H.next H1.next H2.next o (Ins.cells { i with op := 0, r := if o.r then 0 else i.r, a := if o.a then 0 else i.a, b := if o.b then 0 else i.b } va) Hc) ?_ ?_
  · have b1 := q.2.1
    have b2 := q.2.2.1
    cases c : o.b
    · (repeat first | refine zSeq ?_ | refine zReg ?_ | refine zSkp ?_ | refine zNil rfl ?_ | refine zF rfl (by assumption) ?_ | refine zFld (f := 2) rfl O_code_op_b ?_ | refine zLd (ty := 4) rfl (Bx.ld (by assumption) (by rfl) E_bool rfl) ?_)
      exact ⟨(), q, rfl, rfl, rfl, trivial⟩
    · (repeat first | refine zSeq ?_ | refine zReg ?_ | refine zNil rfl ?_ | refine zT rfl (by assumption) ?_ | refine zFld (f := 3) rfl O_api_Ins_B ?_ | refine zFld (f := 2) rfl O_code_op_b ?_ | refine zLd (ty := 4) rfl (Bx.ld (by assumption) (by rfl) E_bool rfl) ?_)
      refine zStB b2 rfl rfl E_int rfl rfl (by simp [Value.cells]) (by simp [Value.cells, Ins.cells]) fun H5 f5 b5 n5 => ?_
      (repeat first | refine zNil rfl ?_)
      exact ⟨(), q.put hx hz f5 b5, rfl, rfl, rfl, trivial⟩
  rintro _ H7 q
  refine WP.seqS (σ := Unit) (fun _ => [(2, .pointer (some ⟨H.next, 0, none⟩)), (3, .pointer (some ⟨H1.next, 0, none⟩)), (4, .pointer (some ⟨H2.next, 0, none⟩))]) (fun _ Hc => BareI H3 H.next H1.next H2.next o (Ins.cells { i with op := 0, r := if o.r then 0 else i.r, a := if o.a then 0 else i.a, b := if o.b then 0 else i.b, n := if (o.n != 0) = true then 0 else i.n } va) Hc) ?_ ?_
  · have b1 := q.2.1
    have b2 := q.2.2.1
    cases c : o.n != 0
    · (repeat first | refine zSeq ?_ | refine zReg ?_ | refine zSkp ?_ | refine zNil rfl ?_ | refine zNeq rfl rfl ?_ | refine zF rfl (by assumption) ?_ | refine zFld (f := 4) rfl O_code_op_n ?_ | refine zLd (ty := 3) rfl (Bx.ld (by assumption) (by rfl) E_int rfl) ?_)
      exact ⟨(), q, rfl, rfl, rfl, trivial⟩
    · (repeat first | refine zSeq ?_ | refine zReg ?_ | refine zNil rfl ?_ | refine zNeq rfl rfl ?_ | refine zT rfl (by assumption) ?_ | refine zFld (f := 4) rfl O_api_Ins_N ?_ | refine zFld (f := 4) rfl O_code_op_n ?_ | refine zLd (ty := 3) rfl (Bx.ld (by assumption) (by rfl) E_int rfl) ?_)
      refine zStB b2 rfl rfl E_int64 rfl rfl (by simp [Value.cells]) (by simp [Value.cells, Ins.cells]) fun H5 f5 b5 n5 => ?_
      (repeat first | refine zNil rfl ?_)
      exact ⟨(), q.put hx hz f5 b5, rfl, rfl, rfl, trivial⟩
  rintro _ H8 q
  refine WP.seqS (σ := Unit) (fun _ => [(2, .pointer (some ⟨H.next, 0, none⟩)), (3, .pointer (some ⟨H1.next, 0, none⟩)), (4, .pointer (some ⟨H2.next, 0, none⟩))]) (fun _ Hc => BareI H3 H.next H1.next H2.next o ((bareI o i).cells (if (o.n == 6) = true then .slice none 0 0 else va)) Hc) ?_ ?_
  · have b1 := q.2.1
    have b2 := q.2.2.1
    cases c : o.n == 6
    · (repeat first | refine zSeq ?_ | refine zReg ?_ | refine zSkp ?_ | refine zNil rfl ?_ | refine zEql rfl rfl ?_ | refine zF rfl (by assumption) ?_ | refine zFld (f := 4) rfl O_code_op_n ?_ | refine zLd (ty := 3) rfl (Bx.ld (by assumption) (by rfl) E_int rfl) ?_)
      exact ⟨(), by unfold bareI; rw [c]; exact q, rfl, rfl, rfl, trivial⟩
    · (repeat first | refine zSeq ?_ | refine zReg ?_ | refine zNil rfl ?_ | refine zEql rfl rfl ?_ | refine zT rfl (by assumption) ?_ | refine zFld (f := 5) rfl O_api_Ins_Args ?_ | refine zFld (f := 4) rfl O_code_op_n ?_ | refine zLd (ty := 3) rfl (Bx.ld (by assumption) (by rfl) E_int rfl) ?_)
      refine zStB b2 rfl rfl E_s_int rfl rfl (by simp [Value.cells]) (by simp [Value.cells, Ins.cells]) fun H5 f5 b5 n5 => ?_
      (repeat first | refine zNil rfl ?_)
      exact ⟨(), by have := q.put hx hz f5 b5; unfold bareI; rw [c]; exact this, rfl, rfl, rfl, trivial⟩
  rintro _ H9 q
  have b2 := q.2.2.1
  have b3 := q.2.2.2
  (repeat first | refine zSeq ?_ | refine zReg ?_)
  refine zLd rfl (b2.ldN E_api_Ins te_api_Ins_agg (by rw [te_api_Ins_size]; rfl)) ?_
  refine zStB b3 rfl rfl E_api_Ins (by rw [te_api_Ins_size]; rfl) ?_ (by simp [Value.cells, Ins.cells]) (by simp [Value.cells, Ins.cells]) fun H10 f10 b10 n10 => ?_
  · cases c : o.n == 6 <;> simp [Value.cells, Ins.cells, Value.oneCell'] <;> exact hva
  (repeat first | refine zNil rfl ?_)
  exact WP.ret ⟨.inr rfl, _, resL_cell rfl (b10.ldN E_api_Ins te_api_Ins_agg (by rw [te_api_Ins_size]; rfl)) rfl, rfl, (f13.young q.1 (by simp; omega) (by simp)).young f10 (by simp; omega) (by simp)⟩
def numG (p : Prog) (f : Fun) (k : Int) (i : Ins) : Bool :=
  if (k == 2) = true then i.n == 5 || i.n == 6
  else if (k == 3) = true then decide (i.n ≥ 7) && decide (i.n ≤ 17)
  else if (k == 4) = true then decide (i.n ≥ 0) && decide (i.n < p.mems.length)
  else if (k == 5) = true then decide (i.n ≥ 0) && decide (i.n < p.locks.length)
  else if (k == 7) = true then decide (i.n ≥ 0) && decide (i.n < f.code.length)
  else if (k == 6) = true then decide (i.n ≥ 0) && (decide (i.n < p.funs.length) && match p.funs[i.n.toNat]? with
    | some g => !g.thread && (i.args.length : Int) == g.params
    | none => false)
  else true
set_option maxHeartbeats 1000000 in
theorem number_c (hO : NoO O) {A B C : Av} {p : Prog} {f : Fun} {o : Flo.OpD} {i : Ins} {va vc vm vl vf : Value} (hm : Els 3 MemR A H vm p.mems) (hl : Els 1 StrR A H vl p.locks) (hf : Els 5 FunR A H vf p.funs) (hc : Els 6 InsR B H vc f.code) (hv : IntsR C H va i.args) :
    ∃ v H', Lc V O F_code_number [.agg #[vm, vl, vf], .agg (f.cells vc).toArray, opV o, insV i va] H v H' ∧ (v = .bool (numG p f o.n i) ∧ Fr H H') := by
  refine Lc.code_number (R := fun v H' => v = .bool (numG p f o.n i) ∧ Fr H H') (hO _ _ _ (by decide) (by decide) (by decide) (by decide)) (Nat.le_of_ble_eq_true rfl) (by kernel_rfl) ?_
  unfold P_code_number
  refine zSeq ?_
  refine zReg ?_
  refine zBox rfl (fun _ => rfl) fun H1 f1 b1 n1 => ?_
  refine zBox rfl (fun _ => rfl) fun H2 f2 b2 n2 => ?_
  refine zBox rfl (fun _ => rfl) fun H3 f3 b3 n3 => ?_
  refine zBox rfl (fun _ => rfl) fun H4 f4 b4 n4 => ?_
  replace b1 := ((b1.fr f2).fr f3).fr f4
  replace b2 := (b2.fr f3).fr f4
  replace b3 := b3.fr f4
  have f14 := ((f1.trans f2).trans f3).trans f4
  replace hf := hf.fr FunR.m f14
  clear f1 f2 f3 f4
  cases k2 : o.n == 2
  case true =>
    cases c1 : i.n == 5
    · (repeat first | refine zSeq ?_ | refine zReg ?_ | refine zBlk ?_ | refine zNil rfl ?_ | refine zGet rfl ?_ | refine zOn rfl (by assumption) ?_ | refine zMov rfl ?_ | refine zAsg rfl ?_ | refine zPF rfl (by assumption) rfl ?_ | refine zEql rfl rfl ?_ | refine zT rfl (by assumption) ?_ | refine zFld (f := 4) rfl O_api_Ins_N ?_ | refine zFld (f := 4) rfl O_code_op_n ?_ | refine zLd (ty := 3) rfl (Bx.ld (by assumption) (by rfl) E_int rfl) ?_ | refine zLd (ty := 2) rfl (Bx.ld (by assumption) (by rfl) E_int64 rfl) ?_)
      exact WP.ret ⟨.inr rfl, _, rfl, by unfold numG; rw [if_pos k2, c1]; rfl, f14⟩
    · (repeat first | refine zSeq ?_ | refine zReg ?_ | refine zBlk ?_ | refine zNil rfl ?_ | refine zGet rfl ?_ | refine zOff rfl (by assumption) ?_ | refine zAsg rfl ?_ | refine zPT rfl (by assumption) rfl ?_ | refine zEql rfl rfl ?_ | refine zT rfl (by assumption) ?_ | refine zFld (f := 4) rfl O_api_Ins_N ?_ | refine zFld (f := 4) rfl O_code_op_n ?_ | refine zLd (ty := 3) rfl (Bx.ld (by assumption) (by rfl) E_int rfl) ?_ | refine zLd (ty := 2) rfl (Bx.ld (by assumption) (by rfl) E_int64 rfl) ?_)
      exact WP.ret ⟨.inr rfl, _, rfl, by unfold numG; rw [if_pos k2, c1]; rfl, f14⟩
  cases k3 : o.n == 3
  case true =>
    cases c1 : decide (i.n ≥ 7)
    · (repeat first | refine zSeq ?_ | refine zReg ?_ | refine zBlk ?_ | refine zNil rfl ?_ | refine zGet rfl ?_ | refine zOff rfl (by assumption) ?_ | refine zAsg rfl ?_ | refine zPF rfl (by assumption) rfl ?_ | refine zGeq rfl rfl ?_ | refine zEql rfl rfl ?_ | refine zT rfl (by assumption) ?_ | refine zF rfl (by assumption) ?_ | refine zFld (f := 4) rfl O_api_Ins_N ?_ | refine zFld (f := 4) rfl O_code_op_n ?_ | refine zLd (ty := 3) rfl (Bx.ld (by assumption) (by rfl) E_int rfl) ?_ | refine zLd (ty := 2) rfl (Bx.ld (by assumption) (by rfl) E_int64 rfl) ?_)
      exact WP.ret ⟨.inr rfl, _, rfl, by unfold numG; rw [if_neg (by rw [k2]; decide), if_pos k3, c1]; rfl, f14⟩
    · (repeat first | refine zSeq ?_ | refine zReg ?_ | refine zBlk ?_ | refine zNil rfl ?_ | refine zGet rfl ?_ | refine zOn rfl (by assumption) ?_ | refine zMov rfl ?_ | refine zAsg rfl ?_ | refine zPT rfl (by assumption) rfl ?_ | refine zLeq rfl rfl ?_ | refine zGeq rfl rfl ?_ | refine zEql rfl rfl ?_ | refine zT rfl (by assumption) ?_ | refine zF rfl (by assumption) ?_ | refine zFld (f := 4) rfl O_api_Ins_N ?_ | refine zFld (f := 4) rfl O_code_op_n ?_ | refine zLd (ty := 3) rfl (Bx.ld (by assumption) (by rfl) E_int rfl) ?_ | refine zLd (ty := 2) rfl (Bx.ld (by assumption) (by rfl) E_int64 rfl) ?_)
      exact WP.ret ⟨.inr rfl, _, rfl, by unfold numG; rw [if_neg (by rw [k2]; decide), if_pos k3, c1]; rfl, f14⟩
  cases k4 : o.n == 4
  case true =>
    cases c1 : decide (i.n ≥ 0)
    · (repeat first | refine zSeq ?_ | refine zReg ?_ | refine zBlk ?_ | refine zNil rfl ?_ | refine zGet rfl ?_ | refine zOff rfl (by assumption) ?_ | refine zAsg rfl ?_ | refine zPF rfl (by assumption) rfl ?_ | refine zGeq rfl rfl ?_ | refine zEql rfl rfl ?_ | refine zT rfl (by assumption) ?_ | refine zF rfl (by assumption) ?_ | refine zFld (f := 4) rfl O_api_Ins_N ?_ | refine zFld (f := 4) rfl O_code_op_n ?_ | refine zLd (ty := 3) rfl (Bx.ld (by assumption) (by rfl) E_int rfl) ?_ | refine zLd (ty := 2) rfl (Bx.ld (by assumption) (by rfl) E_int64 rfl) ?_)
      exact WP.ret ⟨.inr rfl, _, rfl, by unfold numG; rw [if_neg (by rw [k2]; decide), if_neg (by rw [k3]; decide), if_pos k4, c1]; rfl, f14⟩
    · (repeat first | refine zSeq ?_ | refine zReg ?_ | refine zBlk ?_ | refine zNil rfl ?_ | refine zGet rfl ?_ | refine zOn rfl (by assumption) ?_ | refine zMov rfl ?_ | refine zAsg rfl ?_ | refine zPT rfl (by assumption) rfl ?_ | refine zLss rfl rfl ?_ | refine zGeq rfl rfl ?_ | refine zEql rfl rfl ?_ | refine zT rfl (by assumption) ?_ | refine zF rfl (by assumption) ?_ | refine zFld (f := 4) rfl O_api_Ins_N ?_ | refine zFld (f := 4) rfl O_code_op_n ?_ | refine zFld (f := 0) rfl O_api_Prog_Mems ?_ | refine zLd (ty := 3) rfl (Bx.ld (by assumption) (by rfl) E_int rfl) ?_ | refine zLd (ty := 2) rfl (Bx.ld (by assumption) (by rfl) E_int64 rfl) ?_ | refine zLd (ty := 160) rfl (Bx.ld (by assumption) (by rfl) E_s_api_Mem rfl) ?_ | refine zLen rfl (hm.len E_s_api_Mem) ?_)
      exact WP.ret ⟨.inr rfl, _, rfl, by unfold numG; rw [if_neg (by rw [k2]; decide), if_neg (by rw [k3]; decide), if_pos k4, c1]; rfl, f14⟩
  cases k5 : o.n == 5
  case true =>
    cases c1 : decide (i.n ≥ 0)
    · (repeat first | refine zSeq ?_ | refine zReg ?_ | refine zBlk ?_ | refine zNil rfl ?_ | refine zGet rfl ?_ | refine zOff rfl (by assumption) ?_ | refine zAsg rfl ?_ | refine zPF rfl (by assumption) rfl ?_ | refine zGeq rfl rfl ?_ | refine zEql rfl rfl ?_ | refine zT rfl (by assumption) ?_ | refine zF rfl (by assumption) ?_ | refine zFld (f := 4) rfl O_api_Ins_N ?_ | refine zFld (f := 4) rfl O_code_op_n ?_ | refine zLd (ty := 3) rfl (Bx.ld (by assumption) (by rfl) E_int rfl) ?_ | refine zLd (ty := 2) rfl (Bx.ld (by assumption) (by rfl) E_int64 rfl) ?_)
      exact WP.ret ⟨.inr rfl, _, rfl, by unfold numG; rw [if_neg (by rw [k2]; decide), if_neg (by rw [k3]; decide), if_neg (by rw [k4]; decide), if_pos k5, c1]; rfl, f14⟩
    · (repeat first | refine zSeq ?_ | refine zReg ?_ | refine zBlk ?_ | refine zNil rfl ?_ | refine zGet rfl ?_ | refine zOn rfl (by assumption) ?_ | refine zMov rfl ?_ | refine zAsg rfl ?_ | refine zPT rfl (by assumption) rfl ?_ | refine zLss rfl rfl ?_ | refine zGeq rfl rfl ?_ | refine zEql rfl rfl ?_ | refine zT rfl (by assumption) ?_ | refine zF rfl (by assumption) ?_ | refine zFld (f := 4) rfl O_api_Ins_N ?_ | refine zFld (f := 4) rfl O_code_op_n ?_ | refine zFld (f := 1) rfl O_api_Prog_Locks ?_ | refine zLd (ty := 3) rfl (Bx.ld (by assumption) (by rfl) E_int rfl) ?_ | refine zLd (ty := 2) rfl (Bx.ld (by assumption) (by rfl) E_int64 rfl) ?_ | refine zLd (ty := 161) rfl (Bx.ld (by assumption) (by rfl) E_s_string rfl) ?_ | refine zLen rfl (hl.len E_s_string) ?_)
      exact WP.ret ⟨.inr rfl, _, rfl, by unfold numG; rw [if_neg (by rw [k2]; decide), if_neg (by rw [k3]; decide), if_neg (by rw [k4]; decide), if_pos k5, c1]; rfl, f14⟩
  cases k7 : o.n == 7
  case true =>
    cases c1 : decide (i.n ≥ 0)
    · (repeat first | refine zSeq ?_ | refine zReg ?_ | refine zBlk ?_ | refine zNil rfl ?_ | refine zGet rfl ?_ | refine zOff rfl (by assumption) ?_ | refine zAsg rfl ?_ | refine zPF rfl (by assumption) rfl ?_ | refine zGeq rfl rfl ?_ | refine zEql rfl rfl ?_ | refine zT rfl (by assumption) ?_ | refine zF rfl (by assumption) ?_ | refine zFld (f := 4) rfl O_api_Ins_N ?_ | refine zFld (f := 4) rfl O_code_op_n ?_ | refine zLd (ty := 3) rfl (Bx.ld (by assumption) (by rfl) E_int rfl) ?_ | refine zLd (ty := 2) rfl (Bx.ld (by assumption) (by rfl) E_int64 rfl) ?_)
      exact WP.ret ⟨.inr rfl, _, rfl, by unfold numG; rw [if_neg (by rw [k2]; decide), if_neg (by rw [k3]; decide), if_neg (by rw [k4]; decide), if_neg (by rw [k5]; decide), if_pos k7, c1]; rfl, f14⟩
    · (repeat first | refine zSeq ?_ | refine zReg ?_ | refine zBlk ?_ | refine zNil rfl ?_ | refine zGet rfl ?_ | refine zOn rfl (by assumption) ?_ | refine zMov rfl ?_ | refine zAsg rfl ?_ | refine zPT rfl (by assumption) rfl ?_ | refine zLss rfl rfl ?_ | refine zGeq rfl rfl ?_ | refine zEql rfl rfl ?_ | refine zT rfl (by assumption) ?_ | refine zF rfl (by assumption) ?_ | refine zFld (f := 4) rfl O_api_Ins_N ?_ | refine zFld (f := 4) rfl O_code_op_n ?_ | refine zFld (f := 4) rfl O_api_Fun_Code ?_ | refine zLd (ty := 3) rfl (Bx.ld (by assumption) (by rfl) E_int rfl) ?_ | refine zLd (ty := 2) rfl (Bx.ld (by assumption) (by rfl) E_int64 rfl) ?_ | refine zLd (ty := 31) rfl (Bx.ld (by assumption) (by rfl) E_s_api_Ins rfl) ?_ | refine zLen rfl (hc.len E_s_api_Ins) ?_)
      exact WP.ret ⟨.inr rfl, _, rfl, by unfold numG; rw [if_neg (by rw [k2]; decide), if_neg (by rw [k3]; decide), if_neg (by rw [k4]; decide), if_neg (by rw [k5]; decide), if_pos k7, c1]; rfl, f14⟩
  have e0 : numG p f o.n i = if (o.n == 6) = true then decide (i.n ≥ 0) && (decide (i.n < p.funs.length) && match p.funs[i.n.toNat]? with
    | some g => !g.thread && (i.args.length : Int) == g.params
    | none => false) else true := by
    unfold numG
    rw [if_neg (by rw [k2]; decide), if_neg (by rw [k3]; decide), if_neg (by rw [k4]; decide), if_neg (by rw [k5]; decide), if_neg (by rw [k7]; decide)]
  rw [e0]
  clear e0
  cases k6 : o.n == 6
  case false =>
    (repeat first | refine zSeq ?_ | refine zReg ?_ | refine zBlk ?_ | refine zSkp ?_ | refine zNil rfl ?_ | refine zAsg rfl ?_ | refine zEql rfl rfl ?_ | refine zF rfl (by assumption) ?_ | refine zFld (f := 4) rfl O_api_Ins_N ?_ | refine zFld (f := 4) rfl O_code_op_n ?_ | refine zLd (ty := 3) rfl (Bx.ld (by assumption) (by rfl) E_int rfl) ?_ | refine zLd (ty := 2) rfl (Bx.ld (by assumption) (by rfl) E_int64 rfl) ?_)
    exact WP.ret ⟨.inr rfl, _, rfl, by rw [if_neg (by decide)]; rfl, f14⟩
  rw [if_pos rfl]
  cases c1 : decide (i.n ≥ 0)
  · (repeat first | refine zSeq ?_ | refine zReg ?_ | refine zBlk ?_ | refine zNil rfl ?_ | refine zGet rfl ?_ | refine zOff rfl rfl ?_ | refine zOff rfl (by assumption) ?_ | refine zAsg rfl ?_ | refine zPF rfl rfl rfl ?_ | refine zPF rfl (by assumption) rfl ?_ | refine zGeq rfl rfl ?_ | refine zEql rfl rfl ?_ | refine zT rfl (by assumption) ?_ | refine zF rfl (by assumption) ?_ | refine zFld (f := 4) rfl O_api_Ins_N ?_ | refine zFld (f := 4) rfl O_code_op_n ?_ | refine zLd (ty := 3) rfl (Bx.ld (by assumption) (by rfl) E_int rfl) ?_ | refine zLd (ty := 2) rfl (Bx.ld (by assumption) (by rfl) E_int64 rfl) ?_)
    exact WP.ret ⟨.inr rfl, _, rfl, rfl, f14⟩
  cases c2 : decide (i.n < p.funs.length)
  · (repeat first | refine zSeq ?_ | refine zReg ?_ | refine zBlk ?_ | refine zNil rfl ?_ | refine zGet rfl ?_ | refine zOff rfl rfl ?_ | refine zOn rfl (by assumption) ?_ | refine zOff rfl (by assumption) ?_ | refine zMov rfl ?_ | refine zAsg rfl ?_ | refine zPF rfl rfl rfl ?_ | refine zPT rfl (by assumption) rfl ?_ | refine zPF rfl (by assumption) rfl ?_ | refine zLss rfl rfl ?_ | refine zGeq rfl rfl ?_ | refine zEql rfl rfl ?_ | refine zT rfl (by assumption) ?_ | refine zF rfl (by assumption) ?_ | refine zFld (f := 4) rfl O_api_Ins_N ?_ | refine zFld (f := 4) rfl O_code_op_n ?_ | refine zFld (f := 2) rfl O_api_Prog_Funs ?_ | refine zLd (ty := 3) rfl (Bx.ld (by assumption) (by rfl) E_int rfl) ?_ | refine zLd (ty := 2) rfl (Bx.ld (by assumption) (by rfl) E_int64 rfl) ?_ | refine zLd (ty := 164) rfl (Bx.ld (by assumption) (by rfl) E_s_api_Fun rfl) ?_ | refine zLen rfl (hf.len E_s_api_Fun) ?_)
    exact WP.ret ⟨.inr rfl, _, rfl, rfl, f14⟩
  have h0 := of_decide_eq_true c1
  have h1 := of_decide_eq_true c2
  have hlt : i.n.toNat < p.funs.length := by omega
  obtain ⟨b, off, cs, ha1, hr, vc', rfl, _⟩ := hf.at E_s_api_Fun E_api_Fun te_api_Fun_size (kd := .i64) hlt
  rw [show ((i.n.toNat : Nat) : Int) = i.n by omega] at ha1
  have hl1 := (hr.at1 (i := 1) rfl).load1 (V := V) E_bool rfl
  have hl2 := (hr.at1 (i := 2) rfl).load1 (V := V) E_int rfl
  rw [List.getElem?_eq_getElem hlt]
  simp only
  cases c3 : (p.funs[i.n.toNat]).thread
  · rw [c3] at hl1
    (repeat first | refine zSeq ?_ | refine zReg ?_ | refine zBlk ?_ | refine zNil rfl ?_ | refine zGet rfl ?_ | refine zOn rfl rfl ?_ | refine zOn rfl (by assumption) ?_ | refine zMov rfl ?_ | refine zAsg rfl ?_ | refine zPT rfl rfl rfl ?_ | refine zPT rfl (by assumption) rfl ?_ | refine zLss rfl rfl ?_ | refine zGeq rfl rfl ?_ | refine zEql rfl rfl ?_ | refine zNot rfl ?_ | refine zT rfl (by assumption) ?_ | refine zF rfl (by assumption) ?_ | refine zFld (f := 4) rfl O_api_Ins_N ?_ | refine zFld (f := 5) rfl O_api_Ins_Args ?_ | refine zFld (f := 4) rfl O_code_op_n ?_ | refine zFld (f := 2) rfl O_api_Prog_Funs ?_ | refine zFld (f := 1) rfl O_api_Fun_Thread ?_ | refine zFld (f := 2) rfl O_api_Fun_Params ?_ | refine zLd (ty := 3) rfl (Bx.ld (by assumption) (by rfl) E_int rfl) ?_ | refine zLd (ty := 2) rfl (Bx.ld (by assumption) (by rfl) E_int64 rfl) ?_ | refine zLd (ty := 32) rfl (Bx.ld (by assumption) (by rfl) E_s_int rfl) ?_ | refine zLd (ty := 164) rfl (Bx.ld (by assumption) (by rfl) E_s_api_Fun rfl) ?_ | refine zLen rfl (hf.len E_s_api_Fun) ?_ | refine zLen rfl (hv.len E_s_int) ?_ | refine zIdx rfl rfl ha1 ?_ | refine zLd rfl hl1 ?_ | refine zLd rfl hl2 ?_)
    exact WP.ret ⟨.inr rfl, _, rfl, rfl, f14⟩
  · rw [c3] at hl1
    (repeat first | refine zSeq ?_ | refine zReg ?_ | refine zBlk ?_ | refine zNil rfl ?_ | refine zGet rfl ?_ | refine zOff rfl rfl ?_ | refine zOn rfl (by assumption) ?_ | refine zMov rfl ?_ | refine zAsg rfl ?_ | refine zPF rfl rfl rfl ?_ | refine zPT rfl (by assumption) rfl ?_ | refine zLss rfl rfl ?_ | refine zGeq rfl rfl ?_ | refine zEql rfl rfl ?_ | refine zNot rfl ?_ | refine zT rfl (by assumption) ?_ | refine zF rfl (by assumption) ?_ | refine zFld (f := 4) rfl O_api_Ins_N ?_ | refine zFld (f := 4) rfl O_code_op_n ?_ | refine zFld (f := 2) rfl O_api_Prog_Funs ?_ | refine zFld (f := 1) rfl O_api_Fun_Thread ?_ | refine zLd (ty := 3) rfl (Bx.ld (by assumption) (by rfl) E_int rfl) ?_ | refine zLd (ty := 2) rfl (Bx.ld (by assumption) (by rfl) E_int64 rfl) ?_ | refine zLd (ty := 164) rfl (Bx.ld (by assumption) (by rfl) E_s_api_Fun rfl) ?_ | refine zLen rfl (hf.len E_s_api_Fun) ?_ | refine zIdx rfl rfl ha1 ?_ | refine zLd rfl hl1 ?_)
    exact WP.ret ⟨.inr rfl, _, rfl, rfl, f14⟩
end Go.Proofs.YtfhmdhndmlinkaaDoor.U

