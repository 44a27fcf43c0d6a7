/-
  Contracts of code: what is read, what is written.
-/
import Derived.Test.YtfhmdhndmlinkaaDoorLaw1
import Derived.Test.YtfhmdhndmlinkaaDoorEv6
set_option linter.all false
namespace Go.Proofs.YtfhmdhndmlinkaaDoor.U
open Go Go.Ev
attribute [local irreducible] WL WP WH W
attribute [local irreducible] V
variable {O : Orc} {H : AH}
theorem values_it (hO : NoO O) {A : Av} {b c : Nat} {v : Value} {l : List Int} (hL : l.length ≤ 1000000) (hbx : Bx H c 32 [v]) (I : Nat → AH → Prop) (J : AH → Prop) (h0 : I 0 H) (hr : ∀ k Hc, I k Hc → IntsR A Hc v l)
    (step : ∀ k (h : k < l.length) Hc, I k Hc → ∃ u H', Yd V O b [.int .i64 l[k]] Hc (.bool u) H' ∧ (u = true → I (k + 1) H') ∧ (u = false → J H')) :
    ∃ w H', Lc V O F_slices_Values_s_int_int__q1 [.func (.yield b) #[] #[], .pointer (some ⟨c, 0, none⟩)] H w H' ∧ (I l.length H' ∨ J H') := by
  refine Lc.slices_Values_s_int_int__q1 (R := fun _ H' => I l.length H' ∨ J H') (hO _ _ _ (by decide) (by decide) (by decide) (by decide)) (Nat.le_of_ble_eq_true rfl) (by kernel_rfl) ?_
  unfold P_slices_Values_s_int_int__q1
  have hv := hr 0 H h0
  (repeat first | refine zSeq ?_ | refine zReg ?_ | refine zBlk ?_ | refine zNil rfl ?_ | refine zMov rfl ?_ | refine zLd (ty := 32) rfl (Bx.ld (by assumption) (by rfl) E_s_int rfl) ?_ | refine zLen rfl (hv.len E_s_int) ?_)
  refine WP.loopH (σ := Nat) (fun k => [(0, .func (.yield b) #[] #[]), (5, v), (6, .int .i64 l.length), (7, .int .i64 k)]) (fun k Hc => I k Hc ∧ k ≤ l.length) (fun k => l.length - k) 0 ⟨h0, Nat.zero_le _⟩ ⟨rfl, rfl, rfl, rfl, trivial⟩ ?_
  rintro k Hc ⟨hI, hk⟩
  rcases Nat.lt_or_ge k l.length with h | h
  · have g1 : decide ((k : Int) < l.length) = true := decide_eq_true (by omega)
    obtain ⟨b1, o1, ha1, hl1⟩ := (hr k Hc hI).at E_s_int E_int (kd := .i64) h
    obtain ⟨u, H', hy, h1, h2⟩ := step k h Hc hI
    (repeat first | refine zSeq ?_ | refine zReg ?_ | refine zBlk ?_ | refine zSkp ?_ | refine zNil rfl ?_ | refine zGet rfl ?_ | refine zLss rfl rfl ?_ | refine zT rfl (by assumption) ?_ | refine zIdx rfl rfl ha1 ?_ | refine zLd rfl hl1 ?_)
    refine WL.yield rfl rfl hy ?_
    cases u
    · (repeat first | refine zNil rfl ?_ | refine zNot rfl ?_ | refine zT rfl rfl ?_)
      exact WP.ret ⟨.inr rfl, _, rfl, .inr (h2 rfl)⟩
    · (repeat first | refine zReg ?_ | refine zSkp ?_ | refine zNil rfl ?_ | refine zAdd rfl rfl (by omega) ?_ | refine zNot rfl ?_ | refine zF rfl rfl ?_)
      exact ⟨k + 1, ⟨h1 rfl, h⟩, by omega, rfl, rfl, rfl, rfl, trivial⟩
  · have g1 : decide ((k : Int) < l.length) = false := decide_eq_false (by omega)
    obtain rfl : k = l.length := by omega
    (repeat first | refine zSeq ?_ | refine zReg ?_ | refine zExt ?_ | refine zNil rfl ?_ | refine zLss rfl rfl ?_ | refine zF rfl (by assumption) ?_)
    exact ⟨.inl rfl, _, rfl, .inl hI⟩
theorem values_c (hO : NoO O) (v : Value) : ∃ w H', Lc V O F_slices_Values_s_int_int [v] H w H' ∧ (w = .func (.func 113) #[] #[.pointer (some ⟨H.next, 0, none⟩)] ∧ Fr H H' ∧ Bx H' H.next 32 v.cells.toList) := by
  refine Lc.slices_Values_s_int_int (R := fun w H' => w = .func (.func 113) #[] #[.pointer (some ⟨H.next, 0, none⟩)] ∧ Fr H H' ∧ Bx H' H.next 32 v.cells.toList) (hO _ _ _ (by decide) (by decide) (by decide) (by decide)) (Nat.le_of_ble_eq_true rfl) (by kernel_rfl) ?_
  unfold P_slices_Values_s_int_int
  refine zSeq ?_
  refine zReg ?_
  refine zBox rfl (fun _ => rfl) fun H1 f1 b1 n1 => ?_
  (repeat first | refine zSeq ?_ | refine zReg ?_ | refine zNil rfl ?_ | refine zAsg rfl ?_)
  refine WL.op rfl ?_
  (repeat first | refine zNil rfl ?_)
  exact WP.ret ⟨.inr rfl, _, rfl, rfl, f1, b1⟩
theorem writes_c (hO : NoO O) (hg : GH H) {i : Ins} {va : Value} (hop : 0 ≤ i.op ∧ i.op < 256) :
    ∃ v H', Lc V O F_code_Writes [insV i va] H v H' ∧ (v = .tuple #[.int .i64 (if (Flo.isOp i.op && (Flo.opD i.op).r) = true then i.r else 0), .bool (Flo.isOp i.op && (Flo.opD i.op).r)] ∧ Fr H H') := by
  refine Lc.code_Writes (R := fun v H' => v = .tuple #[.int .i64 (if (Flo.isOp i.op && (Flo.opD i.op).r) = true then i.r else 0), .bool (Flo.isOp i.op && (Flo.opD i.op).r)] ∧ Fr H H') (hO _ _ _ (by decide) (by decide) (by decide) (by decide)) (Nat.le_of_ble_eq_true rfl) (by kernel_rfl) ?_
  unfold P_code_Writes
  refine zSeq ?_
  refine zReg ?_
  refine zBox rfl (fun _ => rfl) fun H1 f1 b1 n1 => ?_
  (repeat first | refine zSeq ?_ | refine zReg ?_ | refine zNil rfl ?_ | refine zAsg rfl ?_)
  refine zLd rfl (b1.ldN E_api_Ins te_api_Ins_agg (by rw [te_api_Ins_size]; rfl)) ?_
  obtain ⟨_, H2, hc, rfl, f2⟩ := of_c (va := va) hO (hg.fr f1) hop
  refine WL.call rfl rfl is_code_of hc ?_
  (repeat first | refine zXtr rfl ?_)
  refine zAlc E_code_op zero90 fun H3 f3 b3 n3 => ?_
  refine zStB b3 rfl rfl E_code_op (by rw [te_code_op_size]; rfl) rfl (by simp [Value.cells, opV, opC]) (by simp [Value.cells, opV, opC]) fun H4 f4 b4 n4 => ?_
  have b4' : Bx H4 H2.next 90 (opC (Flo.opD i.op)) := b4
  have hn2 := f2.1
  replace b1 := ((b1.fr f2).fr f3).frX f4 (by simp; omega)
  have f14 : Fr H H4 := ((f1.trans f2).trans f3).young f4 (by simp; have := f1.1; omega) (by simp)
  clear b3 b4 f3 f4
  cases c1 : Flo.isOp i.op
  · (repeat first | refine zSeq ?_ | refine zReg ?_ | refine zSkp ?_ | refine zNil rfl ?_ | refine zGet rfl ?_ | refine zOff rfl rfl ?_ | refine zAsg rfl ?_ | refine zPF rfl rfl rfl ?_ | refine zF rfl rfl ?_)
    exact WP.ret ⟨.inr rfl, _, rfl, rfl, f14⟩
  · cases c2 : (Flo.opD i.op).r
    · (repeat first | refine zSeq ?_ | refine zReg ?_ | refine zSkp ?_ | refine zNil rfl ?_ | refine zGet rfl ?_ | refine zOn rfl rfl ?_ | refine zAsg rfl ?_ | refine zPT rfl rfl rfl ?_ | refine zF rfl (by assumption) ?_ | refine zFld (f := 0) rfl O_code_op_r ?_ | refine zLd (ty := 4) rfl (Bx.ld (by assumption) (by rfl) E_bool rfl) ?_)
      exact WP.ret ⟨.inr rfl, _, rfl, rfl, f14⟩
    · (repeat first | refine zSeq ?_ | refine zReg ?_ | refine zNil rfl ?_ | refine zGet rfl ?_ | refine zOn rfl rfl ?_ | refine zAsg rfl ?_ | refine zPT rfl rfl rfl ?_ | refine zT rfl (by assumption) ?_ | refine zFld (f := 1) rfl O_api_Ins_R ?_ | refine zFld (f := 0) rfl O_code_op_r ?_ | refine zLd (ty := 3) rfl (Bx.ld (by assumption) (by rfl) E_int rfl) ?_ | refine zLd (ty := 4) rfl (Bx.ld (by assumption) (by rfl) E_bool rfl) ?_)
      exact WP.ret ⟨.inr rfl, _, rfl, rfl, f14⟩
def readsG (o : Flo.OpD) (i : Ins) : List Int :=
  (if (o.a && !(o.bare && i.a == -1)) = true then [i.a] else []) ++ (if o.b = true then [i.b] else []) ++ if (o.n == 6) = true then i.args else []
theorem readsG_len (o : Flo.OpD) (i : Ins) : (readsG o i).length ≤ i.args.length + 2 := by
  unfold readsG
  rw [List.length_append, List.length_append]
  have h1 : (if (o.a && !(o.bare && i.a == -1)) = true then [i.a] else []).length ≤ 1 := by split <;> simp
  have h2 : (if o.b = true then [i.b] else []).length ≤ 1 := by split <;> simp
  have h3 : (if (o.n == 6) = true then i.args else []).length ≤ i.args.length := by split <;> simp
  omega
set_option maxHeartbeats 1000000 in
theorem reads_c (hO : NoO O) (hg : GH H) {A : Av} {i : Ins} {va : Value} (hva : IntsR A H va i.args) (hL : i.args.length ≤ 100000) (hop : 0 ≤ i.op ∧ i.op < 256) :
    ∃ w H', Lc V O F_code_reads [insV i va] H w H' ∧ (∃ b vl, w = .func (.func 113) #[] #[.pointer (some ⟨b, 0, none⟩)] ∧ Bx H' b 32 [vl] ∧ IntsR .no H' vl (readsG (Flo.opD i.op) i) ∧ H.next ≤ b ∧ Fr H H') := by
  refine Lc.code_reads (R := fun w H' => ∃ b vl, w = .func (.func 113) #[] #[.pointer (some ⟨b, 0, none⟩)] ∧ Bx H' b 32 [vl] ∧ IntsR .no H' vl (readsG (Flo.opD i.op) i) ∧ H.next ≤ b ∧ Fr H H') (hO _ _ _ (by decide) (by decide) (by decide) (by decide)) (Nat.le_of_ble_eq_true rfl) (by kernel_rfl) ?_
  unfold P_code_reads
  refine zSeq ?_
  refine zReg ?_
  refine zBox rfl (fun _ => rfl) fun H1 f1 b1 n1 => ?_
  (repeat first | refine zSeq ?_ | refine zReg ?_ | refine zNil rfl ?_ | refine zAsg rfl ?_)
  refine zLd rfl (b1.ldN E_api_Ins te_api_Ins_agg (by rw [te_api_Ins_size]; rfl)) ?_
  obtain ⟨_, H2, hc, rfl, f2⟩ := of_c (va := va) hO (hg.fr f1) hop
  refine WL.call rfl rfl is_code_of hc ?_
  (repeat first | refine zXtr rfl ?_)
  refine zAlc E_code_op zero90 fun H3 f3 b3 n3 => ?_
  refine zStB b3 rfl rfl E_code_op (by rw [te_code_op_size]; rfl) rfl (by simp [Value.cells, opV, opC]) (by simp [Value.cells, opV, opC]) fun H4 f4 b4 n4 => ?_
  have b4' : Bx H4 H2.next 90 (opC (Flo.opD i.op)) := b4
  have hn2 := f2.1
  replace b1 := ((b1.fr f2).fr f3).frX f4 (by simp; omega)
  have f14 : Fr H H4 := ((f1.trans f2).trans f3).young f4 (by simp; have := f1.1; omega) (by simp)
  replace hva := hva.fr f14
  clear b3 b4 f1 f2 f3 f4 hc
  generalize hod : Flo.opD i.op = o at *
  (repeat first | refine zNil rfl ?_)
  refine zSeq ?_
  (repeat first | refine zReg ?_)
  refine WL.op (op_buildSlice rfl E_s_int E_int (by decide) rfl) ?_
  have f5 := Fr.alloc H4 (.row 3 [] .exact 0 0)
  have w5 : OwI 3 (H4.alloc (.row 3 [] .exact 0 0)) H4.next (.slice (some ⟨H4.next, 0, none⟩) 0 0) [] (some (H4.next, H4.next)) := .new (Nat.le_refl _)
  (repeat first | refine zNil rfl ?_)
  refine WP.seqS (σ := Value × Option (Nat × Nat)) (fun x => [(1, .pointer (some ⟨H.next, 0, none⟩)), (3, .pointer (some ⟨H2.next, 0, none⟩)), (5, x.1)]) (fun x Hc => Fr H4 Hc ∧ OwI 3 Hc H4.next x.1 (if (o.a && !(o.bare && i.a == -1)) = true then [i.a] else []) x.2) ?_ ?_
  · replace b1 := b1.fr f5
    replace b4' := b4'.fr f5
    have yes : (o.a && !(o.bare && i.a == -1)) = true → ∃ v' H' o', (∀ {g : Ft} {y w : Operand}, g y = some (.slice (some ⟨H4.next, 0, none⟩) 0 0) → g w = some (.slice (some ⟨(H4.alloc (.row 3 [] .exact 0 0)).next, 0, none⟩) 1 1) → aopG V g ((H4.alloc (.row 3 [] .exact 0 0)).alloc (.row 3 [.int .i64 i.a] .exact 0 0)) (.call ⟨.builtin .append, #[y, w], #[32, 32]⟩) = some (v', H')) ∧ Fr H4 H' ∧ OwI 3 H' H4.next v' (if (o.a && !(o.bare && i.a == -1)) = true then [i.a] else []) o' := fun h => by
      obtain ⟨v', H', o', k1, k2, k3, k4⟩ := w5.app1 (V := V) i.a (by simp) f5.1 E_s_int E_s_int E_int (by decide)
      exact ⟨v', H', o', k1, f5.young k3 w5.young.1 w5.young.2.1, by rw [if_pos h]; exact k2⟩
    cases c1 : o.a
    · (repeat first | refine zSeq ?_ | refine zReg ?_ | refine zSkp ?_ | refine zNil rfl ?_ | refine zU rfl ?_ | refine zOff rfl (by assumption) ?_ | refine zPF rfl (by assumption) rfl ?_ | refine zF rfl rfl ?_ | refine zFld (f := 1) rfl O_code_op_a ?_ | refine zLd (ty := 4) rfl (Bx.ld (by assumption) (by rfl) E_bool rfl) ?_)
      exact ⟨(.slice (some ⟨H4.next, 0, none⟩) 0 0, some (H4.next, H4.next)), ⟨f5, w5⟩, rfl, rfl, rfl, trivial⟩
    · cases c2 : o.bare
      · obtain ⟨v', H', o', k1, k2, k3⟩ := yes (by rw [c1, c2]; rfl)
        rw [c1, c2] at k3
        (repeat first | refine zSeq ?_ | refine zReg ?_ | refine zNil rfl ?_ | refine zGet rfl ?_ | refine zOn rfl (by assumption) ?_ | refine zOff rfl (by assumption) ?_ | refine zMov rfl ?_ | refine zPT rfl (by assumption) rfl ?_ | refine zPF rfl (by assumption) rfl ?_ | refine zNot rfl ?_ | refine zT rfl rfl ?_ | refine zFld (f := 2) rfl O_api_Ins_A ?_ | refine zFld (f := 1) rfl O_code_op_a ?_ | refine zFld (f := 3) rfl O_code_op_bare ?_ | refine zLd (ty := 3) rfl (Bx.ld (by assumption) (by rfl) E_int rfl) ?_ | refine zLd (ty := 4) rfl (Bx.ld (by assumption) (by rfl) E_bool rfl) ?_)
        refine WL.op (op_buildSlice rfl E_s_int E_int (by decide) fill_int) ?_
        refine WL.op (k1 rfl rfl) ?_
        (repeat first | refine zNil rfl ?_)
        exact ⟨(v', o'), ⟨k2, k3⟩, rfl, rfl, rfl, trivial⟩
      · cases c3 : i.a == -1
        · obtain ⟨v', H', o', k1, k2, k3⟩ := yes (by rw [c1, c2, c3]; rfl)
          rw [c1, c2, c3] at k3
          have c4 : (!(i.a == -1)) = true := by rw [c3]; rfl
          (repeat first | refine zSeq ?_ | refine zReg ?_ | refine zNil rfl ?_ | refine zGet rfl ?_ | refine zOn rfl (by assumption) ?_ | refine zMov rfl ?_ | refine zPT rfl (by assumption) rfl ?_ | refine zEql rfl rfl ?_ | refine zNot rfl ?_ | refine zT rfl (by assumption) ?_ | refine zFld (f := 2) rfl O_api_Ins_A ?_ | refine zFld (f := 1) rfl O_code_op_a ?_ | refine zFld (f := 3) rfl O_code_op_bare ?_ | refine zLd (ty := 3) rfl (Bx.ld (by assumption) (by rfl) E_int rfl) ?_ | refine zLd (ty := 4) rfl (Bx.ld (by assumption) (by rfl) E_bool rfl) ?_)
          refine WL.op (op_buildSlice rfl E_s_int E_int (by decide) fill_int) ?_
          refine WL.op (k1 rfl rfl) ?_
          (repeat first | refine zNil rfl ?_)
          exact ⟨(v', o'), ⟨k2, k3⟩, rfl, rfl, rfl, trivial⟩
        · have c4 : (!(i.a == -1)) = false := by rw [c3]; rfl
          (repeat first | refine zSeq ?_ | refine zReg ?_ | refine zSkp ?_ | refine zNil rfl ?_ | refine zOn rfl (by assumption) ?_ | refine zMov rfl ?_ | refine zPT rfl (by assumption) rfl ?_ | refine zEql rfl rfl ?_ | refine zNot rfl ?_ | refine zF rfl (by assumption) ?_ | refine zFld (f := 2) rfl O_api_Ins_A ?_ | refine zFld (f := 1) rfl O_code_op_a ?_ | refine zFld (f := 3) rfl O_code_op_bare ?_ | refine zLd (ty := 3) rfl (Bx.ld (by assumption) (by rfl) E_int rfl) ?_ | refine zLd (ty := 4) rfl (Bx.ld (by assumption) (by rfl) E_bool rfl) ?_)
          exact ⟨(.slice (some ⟨H4.next, 0, none⟩) 0 0, some (H4.next, H4.next)), ⟨f5, w5⟩, rfl, rfl, rfl, trivial⟩
  rintro ⟨v1, o1⟩ H6 ⟨f6, w6⟩
  simp only at f6 w6 ⊢
  clear w5 f5
  generalize hl1 : (if (o.a && !(o.bare && i.a == -1)) = true then [i.a] else []) = l1 at *
  have hl1' : l1.length ≤ 1 := by rw [← hl1]; split <;> simp
  refine WP.seqS (σ := Value × Option (Nat × Nat)) (fun x => [(1, .pointer (some ⟨H.next, 0, none⟩)), (3, .pointer (some ⟨H2.next, 0, none⟩)), (5, x.1)]) (fun x Hc => Fr H4 Hc ∧ OwI 3 Hc H4.next x.1 (l1 ++ if o.b = true then [i.b] else []) x.2) ?_ ?_
  · replace b1 := b1.fr f6
    replace b4' := b4'.fr f6
    cases c1 : o.b
    · (repeat first | refine zSeq ?_ | refine zReg ?_ | refine zSkp ?_ | refine zNil rfl ?_ | refine zF rfl (by assumption) ?_ | refine zFld (f := 2) rfl O_code_op_b ?_ | refine zLd (ty := 4) rfl (Bx.ld (by assumption) (by rfl) E_bool rfl) ?_)
      exact ⟨(v1, o1), ⟨f6, by simpa using w6⟩, rfl, rfl, rfl, trivial⟩
    · obtain ⟨v', H', o', k1, k2, k3, k4⟩ := w6.app1 (V := V) i.b (by omega) f6.1 E_s_int E_s_int E_int (by decide)
      (repeat first | refine zSeq ?_ | refine zReg ?_ | refine zNil rfl ?_ | refine zGet rfl ?_ | refine zT rfl (by assumption) ?_ | refine zFld (f := 3) rfl O_api_Ins_B ?_ | refine zFld (f := 2) rfl O_code_op_b ?_ | refine zLd (ty := 3) rfl (Bx.ld (by assumption) (by rfl) E_int rfl) ?_ | refine zLd (ty := 4) rfl (Bx.ld (by assumption) (by rfl) E_bool rfl) ?_)
      refine WL.op (op_buildSlice rfl E_s_int E_int (by decide) fill_int) ?_
      refine WL.op (k1 rfl rfl) ?_
      (repeat first | refine zNil rfl ?_)
      exact ⟨(v', o'), ⟨f6.young k3 w6.young.1 w6.young.2.1, k2⟩, rfl, rfl, rfl, trivial⟩
  rintro ⟨v2, o2⟩ H7 ⟨f7, w7⟩
  simp only at f7 w7 ⊢
  clear w6 f6
  have hl2 : (l1 ++ if o.b = true then [i.b] else []).length ≤ 2 := by rw [List.length_append]; split <;> simp <;> omega
  refine WP.seqS (σ := Value × Option (Nat × Nat)) (fun x => [(5, x.1)]) (fun x Hc => Fr H4 Hc ∧ OwI 3 Hc H4.next x.1 (readsG o i) x.2) ?_ ?_
  · replace b1 := b1.fr f7
    replace b4' := b4'.fr f7
    cases c1 : o.n == 6
    · (repeat first | refine zSeq ?_ | refine zReg ?_ | refine zSkp ?_ | refine zNil rfl ?_ | refine zEql rfl rfl ?_ | refine zF rfl (by assumption) ?_ | refine zFld (f := 4) rfl O_code_op_n ?_ | refine zLd (ty := 3) rfl (Bx.ld (by assumption) (by rfl) E_int rfl) ?_)
      refine ⟨(v2, o2), ⟨f7, ?_⟩, rfl, trivial⟩
      unfold readsG
      rw [c1, hl1]; simpa using w7
    · obtain ⟨v', H', o', k1, k2, k3, k4⟩ := w7.app (V := V) ((hva.fr f7).sl (by omega)) (by omega) f7.1 E_s_int E_s_int E_int (by decide)
      (repeat first | refine zSeq ?_ | refine zReg ?_ | refine zNil rfl ?_ | refine zGet rfl ?_ | refine zEql rfl rfl ?_ | refine zT rfl (by assumption) ?_ | refine zFld (f := 5) rfl O_api_Ins_Args ?_ | refine zFld (f := 4) rfl O_code_op_n ?_ | refine zLd (ty := 3) rfl (Bx.ld (by assumption) (by rfl) E_int rfl) ?_ | refine zLd (ty := 32) rfl (Bx.ld (by assumption) (by rfl) E_s_int rfl) ?_)
      refine WL.op (k1 rfl rfl) ?_
      (repeat first | refine zNil rfl ?_)
      refine ⟨(v', o'), ⟨f7.young k3 w7.young.1 w7.young.2.1, ?_⟩, rfl, trivial⟩
      unfold readsG
      rw [c1, hl1]; exact k2
  rintro ⟨v3, o3⟩ H8 ⟨f8, w8⟩
  simp only at f8 w8 ⊢
  obtain ⟨_, H9, hc, rfl, f9, b9⟩ := values_c (H := H8) hO v3
  (repeat first | refine zSeq ?_ | refine zReg ?_ | refine zGet rfl ?_)
  refine WL.call rfl rfl is_slices_Values_s_int_int hc ?_
  (repeat first | refine zNil rfl ?_)
  have hv3 : IntsR .no H8 v3 (readsG o i) := w8.rYoung .no
  have e3 : v3.cells.toList = [v3] := by obtain ⟨_, ⟨rfl, _⟩ | ⟨b, off, cap, rfl, _⟩⟩ := hv3 <;> rfl
  rw [e3] at b9
  exact WP.ret ⟨.inr rfl, _, rfl, _, v3, rfl, b9, hv3.fr f9, Nat.le_trans (f14.trans f8).1 (Nat.le_refl _), (f14.trans f8).trans f9⟩
end Go.Proofs.YtfhmdhndmlinkaaDoor.U

/-
  Contracts of code: which instructions may be.
-/
namespace Go.Proofs.YtfhmdhndmlinkaaDoor.U
open Go Go.Ev
attribute [local irreducible] WL WP WH W
attribute [local irreducible] V
variable {O : Orc} {H : AH}
def zeroI : Ins := ⟨0, 0, 0, 0, 0, []⟩
def okR (regs r : Int) : Bool := !(decide (r < 0) || decide (r ≥ regs))
def mayG (p : Prog) (f : Fun) (i : Ins) : Bool :=
  Flo.isOp i.op && (sameB (bareI (Flo.opD i.op) i) zeroI && (numG p f (Flo.opD i.op).n i && ((readsG (Flo.opD i.op) i).all (okR f.regs) && (!(Flo.opD i.op).r || (decide (i.r ≥ 0) && decide (i.r < f.regs))))))
theorem build39 : aBuild V.E 39 [] = some (.agg #[.int .u8 0, .int .i64 0, .int .i64 0, .int .i64 0, .int .i64 0, .slice none 0 0]) := by kernel_rfl
theorem bare_args {A : Av} {o : Flo.OpD} {i : Ins} {va : Value} (h : IntsR A H va i.args) : IntsR A H (if (o.n == 6) = true then .slice none 0 0 else va) (bareI o i).args := by
  unfold bareI
  cases c : o.n == 6
  · simpa using h
  · exact Sr.nil
theorem mayRound {n : Nat} {T : PTree Value} {cx cy : Code} {b b4 b6 : Nat} {r : Int} {f : Fun} {vc : Value} {Hc : AH} (hn : n = Tryd.f126.ntmps) (ho : Hc.obj b = .loop .ready none n T #[37] cx cy) (hT : Has T [(4, .pointer (some ⟨b4, 0, none⟩)), (6, .pointer (some ⟨b6, 0, none⟩))])
    (h4 : Bx Hc b4 163 (f.cells vc)) (h6 : Bx Hc b6 4 [.bool false]) (hb4 : b4 ≠ b) (hb6 : b6 ≠ b) (hb : b < Hc.next)
    (hx : pcOf V n none cx = some (.reg [.run (.assign (.tmp (far + 37))) none] [(9, 0)])) (hy : pcOf V n none cy = some (.block 1 (
   .seq (
   .reg [.get 9,
     .run (.binOp .lss 3 (.tmp 0) (.const (.int .i64 0)) 3) none,
     .run (.move (.tmp (far + 9))) (some ((.tmp 0), false)),
     .run (.fieldAddr 163 (.tmp (far + 4)) 3) (some ((.tmp 1), false)),
     .run (.load 3 (.tmp 0)) (some ((.tmp 2), false)),
     .run (.binOp .geq 3 (.tmp 2) (.tmp 0) 3) (some ((.tmp 3), false)),
     .run (.pick (.tmp 4) (.const (.bool true)) (.tmp 0)) none] [(45, 0), (44, 1), (43, 2), (42, 3), (41, 4), (40, 5), (39, 5), (38, 6)]) (
   .cond (.tmp 45) (
     .seq (
     .reg [.run (.store 4 (.tmp (far + 6)) (.const (.bool false))) none] []) (
     .ret)) (
     .skip))))) (nx : noRF cx = true) (ny : noRF cy = true) :
    ∃ u H', Yd V O b [.int .i64 r] Hc (.bool u) H' ∧ (u = true → okR f.regs r = true ∧ FrX [b] [] Hc H' ∧ H'.obj b = .loop .ready none n T #[37] cx cy) ∧ (u = false → okR f.regs r = false ∧ FrX [b, b6] [] Hc H' ∧ Bx H' b6 4 [.bool false] ∧ H'.obj b = .loop .done (some .ret) n T #[37] cx cy) := by
  subst hn
  have key : ∃ v H', Yd V O b [.int .i64 r] Hc v H' ∧ ∃ u, v = .bool u ∧ (u = true → okR f.regs r = true ∧ FrX [b] [] Hc H' ∧ H'.obj b = .loop .ready none Tryd.f126.ntmps T #[37] cx cy) ∧ (u = false → okR f.regs r = false ∧ FrX [b, b6] [] Hc H' ∧ Bx H' b6 4 [.bool false] ∧ H'.obj b = .loop .done (some .ret) Tryd.f126.ntmps T #[37] cx cy) := by
    refine Yd.round (l1 := [(37, .int .i64 r), (4, .pointer (some ⟨b4, 0, none⟩)), (6, .pointer (some ⟨b6, 0, none⟩))]) ho hT ?_ hx hy nx ny ?_
    · show (if 37 < Tryd.f126.ntmps then _ else _) = _
      rw [if_pos (by decide +kernel)]; rfl
    refine zReg ?_
    refine zAsg rfl ?_
    refine WL.nil ⟨_, rfl, rfl, _, _, _, _, _, _, ho, ?_⟩
    have b4' := h4.frX (FrX.put (o := .loop .busy none Tryd.f126.ntmps T #[37] cx cy)) (b := b4) (bs := [b]) (by simpa using hb4)
    have b6' := h6.frX (FrX.put (o := .loop .busy none Tryd.f126.ntmps T #[37] cx cy)) (b := b6) (bs := [b]) (by simpa using hb6)
    generalize hHb : Hc.put b (.loop .busy none Tryd.f126.ntmps T #[37] cx cy) = Hb at *
    have fb : FrX [b] [] Hc Hb := by rw [← hHb]; exact .put
    have hob : Hb.obj b = .loop .busy none Tryd.f126.ntmps T #[37] cx cy := by rw [← hHb]; simp
    cases c1 : decide (r < 0)
    · cases c2 : decide (r ≥ f.regs)
      · (repeat first | refine zSeq ?_ | refine zReg ?_ | refine zBlk ?_ | refine zSkp ?_ | refine zNil rfl ?_ | refine zGet rfl ?_ | refine zOn rfl (by assumption) ?_ | refine zMov rfl ?_ | refine zPF rfl (by assumption) rfl ?_ | refine zLss rfl rfl ?_ | refine zGeq rfl rfl ?_ | refine zF rfl (by assumption) ?_ | refine zLd (ty := 3) rfl (Bx.ld (by assumption) (by rfl) E_int rfl) ?_ | refine zFld (f := 3) rfl O_api_Fun_Regs ?_)
        refine ⟨_, _, _, _, _, _, _, hob, true, rfl, fun _ => ⟨by unfold okR; rw [c1, c2]; rfl, fb.trans .put (by simp) (by simp), by simp [Ex.out, Ex.jump]⟩, fun h => (by cases h)⟩
      · (repeat first | refine zSeq ?_ | refine zReg ?_ | refine zBlk ?_ | refine zNil rfl ?_ | refine zGet rfl ?_ | refine zOn rfl (by assumption) ?_ | refine zMov rfl ?_ | refine zPF rfl (by assumption) rfl ?_ | refine zLss rfl rfl ?_ | refine zGeq rfl rfl ?_ | refine zT rfl (by assumption) ?_ | refine zLd (ty := 3) rfl (Bx.ld (by assumption) (by rfl) E_int rfl) ?_ | refine zFld (f := 3) rfl O_api_Fun_Regs ?_)
        refine zStB b6' rfl rfl E_bool rfl rfl (by simp [Value.cells]) (by simp [Value.cells]) fun H5 f5 b5 n5 => ?_
        have ob5 : H5.obj b = .loop .busy none Tryd.f126.ntmps T #[37] cx cy := (f5.2.1 b (Nat.lt_of_lt_of_le hb fb.1) (by simpa using Ne.symm hb6)).trans hob
        have f6 : FrX [b, b6] [] Hc H5 := (fb.sub (by simp) (by simp)).trans f5 (by simp) (by simp)
        have b5' : Bx H5 b6 4 [.bool false] := b5
        (repeat first | refine zNil rfl ?_)
        refine WP.ret ⟨_, _, _, _, _, _, _, ob5, false, rfl, fun h => (by cases h), fun _ => ⟨by unfold okR; rw [c1, c2]; rfl, f6.trans .put (by simp) (by simp), b5'.frX .put (by simpa using hb6), by simp [Ex.out, Ex.jump]⟩⟩
    · (repeat first | refine zSeq ?_ | refine zReg ?_ | refine zBlk ?_ | refine zNil rfl ?_ | refine zGet rfl ?_ | refine zOff rfl (by assumption) ?_ | refine zPT rfl (by assumption) rfl ?_ | refine zLss rfl rfl ?_ | refine zT rfl rfl ?_)
      refine zStB b6' rfl rfl E_bool rfl rfl (by simp [Value.cells]) (by simp [Value.cells]) fun H5 f5 b5 n5 => ?_
      have ob5 : H5.obj b = .loop .busy none Tryd.f126.ntmps T #[37] cx cy := (f5.2.1 b (Nat.lt_of_lt_of_le hb fb.1) (by simpa using Ne.symm hb6)).trans hob
      have f6 : FrX [b, b6] [] Hc H5 := (fb.sub (by simp) (by simp)).trans f5 (by simp) (by simp)
      have b5' : Bx H5 b6 4 [.bool false] := b5
      (repeat first | refine zNil rfl ?_)
      refine WP.ret ⟨_, _, _, _, _, _, _, ob5, false, rfl, fun h => (by cases h), fun _ => ⟨by unfold okR; rw [c1]; rfl, f6.trans .put (by simp) (by simp), b5'.frX .put (by simpa using hb6), by simp [Ex.out, Ex.jump]⟩⟩
  obtain ⟨v, H', h, u, rfl, h1, h2⟩ := key
  exact ⟨u, H', h, h1, h2⟩
end Go.Proofs.YtfhmdhndmlinkaaDoor.U

/-
  Contracts of code: mayIns, the walk.
-/
namespace Go.Proofs.YtfhmdhndmlinkaaDoor.U
open Go Go.Ev
attribute [local irreducible] WL WP WH W
attribute [local irreducible] V
variable {O : Orc} {H : AH}
set_option maxHeartbeats 4000000 in
theorem codeMayIns_c (hO : NoO O) (hg : GH H) {A B C : Av} {p : Prog} {f : Fun} {i : Ins} {va vc vm vl vf : Value} (hm : Els 3 MemR A H vm p.mems) (hl : Els 1 StrR A H vl p.locks) (hf : Els 5 FunR A H vf p.funs) (hc : Els 6 InsR B H vc f.code) (hv : IntsR C H va i.args) (hL : i.args.length ≤ 100000) (hop : 0 ≤ i.op ∧ i.op < 256) :
    ∃ v H', Lc V O F_code_mayIns [.agg #[vm, vl, vf], .agg (f.cells vc).toArray, insV i va] H v H' ∧ (v = .bool (mayG p f i) ∧ Fr H H') := by
  refine Lc.code_mayIns (R := fun v H' => v = .bool (mayG p f i) ∧ Fr H H') (hO _ _ _ (by decide) (by decide) (by decide) (by decide)) (Nat.le_of_ble_eq_true rfl) (by kernel_rfl) ?_
  unfold P_code_mayIns
  refine zSeq ?_
  refine zReg ?_
  refine zBox rfl (fun _ => rfl) fun H1 f1 b1 n1 => ?_
  refine zBox rfl (fun _ => rfl) fun H2 f2 b2 n2 => ?_
  refine zBox rfl (fun _ => rfl) fun H3 f3 b3 n3 => ?_
  refine zAlc E_bool rfl fun H4 f4 b4 n4 => ?_
  replace b1 := ((b1.fr f2).fr f3).fr f4
  replace b2 := (b2.fr f3).fr f4
  replace b3 := b3.fr f4
  have f14 := ((f1.trans f2).trans f3).trans f4
  replace hm := hm.fr MemR.m f14
  replace hl := hl.fr StrR.m f14
  replace hf := hf.fr FunR.m f14
  replace hc := hc.fr InsR.m f14
  replace hv := hv.fr f14
  replace hg := hg.fr f14
  clear f1 f2 f3 f4
  refine zNil rfl ?_
  refine zSeq ?_
  refine zReg ?_
  refine zLd rfl (b3.ldN E_api_Ins te_api_Ins_agg (by rw [te_api_Ins_size]; rfl)) ?_
  obtain ⟨_, H5, hcall, rfl, f5⟩ := of_c (va := va) hO hg hop
  refine WL.call rfl rfl is_code_of hcall ?_
  (repeat first | refine zXtr rfl ?_)
  refine zAlc E_code_op zero90 fun H6 f6 b6 n6 => ?_
  refine zStB b6 rfl rfl E_code_op (by rw [te_code_op_size]; rfl) rfl (by simp [Value.cells, opV, opC]) (by simp [Value.cells, opV, opC]) fun H7 f7 b7 n7 => ?_
  have b7' : Bx H7 H5.next 90 (opC (Flo.opD i.op)) := b7
  have hn5 := f5.1
  have f47 : Fr H4 H7 := (f5.trans f6).young f7 (by simp; omega) (by simp)
  replace b1 := b1.fr f47
  replace b2 := b2.fr f47
  replace b3 := b3.fr f47
  replace b4 := b4.fr f47
  replace hm := hm.fr MemR.m f47
  replace hl := hl.fr StrR.m f47
  replace hf := hf.fr FunR.m f47
  replace hc := hc.fr InsR.m f47
  replace hv := hv.fr f47
  replace hg := hg.fr f47
  have f17 := f14.trans f47
  have hn7 := f47.1
  clear b6 b7 f5 f6 f7 f14 hcall
  have b4' : Bx H7 H3.next 4 [.bool false] := b4
  (repeat first | refine zNil rfl ?_)
  generalize hod : Flo.opD i.op = o at *
  cases c1 : Flo.isOp i.op
  · (repeat first | refine zSeq ?_ | refine zReg ?_ | refine zNil rfl ?_ | refine zGet rfl ?_ | refine zOff rfl rfl ?_ | refine zPT rfl rfl rfl ?_ | refine zNot rfl ?_ | refine zT rfl rfl ?_)
    refine zStB b4' rfl rfl E_bool rfl rfl (by simp [Value.cells]) (by simp [Value.cells]) fun H8 f8 b8 n8 => ?_
    (repeat first | refine zNil rfl ?_)
    exact WP.ret ⟨.inr rfl, _, resL_cell rfl (b8.ld rfl E_bool rfl) rfl, by unfold mayG; rw [c1]; rfl, f17.young f8 (by simp; omega) (by simp)⟩
  obtain ⟨_, H8, hc8, rfl, f8⟩ := bare_c (H := H7) (o := o) (i := i) (va := va) hO hv.oneCell
  obtain ⟨_, H9, hc9, rfl, f9⟩ := codeSame_c (H := H8) (i := bareI o i) (j := zeroI) hO (bare_args (hv.fr f8)) (Sr.nil (A := .no)) (by unfold bareI; show (if _ then [] else i.args).length ≤ _; split <;> first | (simp; done) | omega)
  have f79 := f8.trans f9
  (repeat first | refine zSeq ?_ | refine zReg ?_ | refine zGet rfl ?_ | refine zOn rfl rfl ?_ | refine zNot rfl ?_)
  refine zLd rfl (b7'.ldN E_code_op te_code_op_agg (by rw [te_code_op_size]; rfl)) ?_
  refine zOn rfl rfl ?_
  refine zLd rfl (b3.ldN E_api_Ins te_api_Ins_agg (by rw [te_api_Ins_size]; rfl)) ?_
  refine zOn rfl rfl ?_
  refine WL.call rfl rfl is_code_bare hc8 ?_
  refine zOn rfl rfl ?_
  refine WL.op (op_build rfl build39) ?_
  refine zOn rfl rfl ?_
  refine WL.call rfl rfl is_code_SameIns hc9 ?_
  cases c2 : sameB (bareI o i) zeroI
  · have b4' := b4'.fr f79
    (repeat first | refine zSeq ?_ | refine zReg ?_ | refine zNil rfl ?_ | refine zOn rfl rfl ?_ | refine zOff rfl rfl ?_ | refine zPT rfl rfl rfl ?_ | refine zPF rfl rfl rfl ?_ | refine zNot rfl ?_ | refine zT rfl rfl ?_)
    refine zStB b4' rfl rfl E_bool rfl rfl (by simp [Value.cells]) (by simp [Value.cells]) fun H10 f10 b10 n10 => ?_
    (repeat first | refine zNil rfl ?_)
    exact WP.ret ⟨.inr rfl, _, resL_cell rfl (b10.ld rfl E_bool rfl) rfl, by unfold mayG; rw [hod, c1, c2]; rfl, (f17.trans f79).young f10 (by simp; omega) (by simp)⟩
  replace b1 := b1.fr f79
  replace b2 := b2.fr f79
  replace b3 := b3.fr f79
  replace b4' := b4'.fr f79
  replace b7' := b7'.fr f79
  replace hm := hm.fr MemR.m f79
  replace hl := hl.fr StrR.m f79
  replace hf := hf.fr FunR.m f79
  replace hc := hc.fr InsR.m f79
  replace hv := hv.fr f79
  replace hg := hg.fr f79
  have f19 := f17.trans f79
  obtain ⟨_, H10, hc10, rfl, f10⟩ := number_c (H := H9) (o := o) hO hm hl hf hc hv
  (repeat first | refine zOn rfl rfl ?_ | refine zPF rfl rfl rfl ?_ | refine zNot rfl ?_)
  refine zLd rfl (b1.ldN E_api_Prog te_api_Prog_agg (by rw [te_api_Prog_size]; rfl)) ?_
  refine zOn rfl rfl ?_
  refine zLd rfl (b2.ldN E_api_Fun te_api_Fun_agg (by rw [te_api_Fun_size]; rfl)) ?_
  refine zOn rfl rfl ?_
  refine zLd rfl (b7'.ldN E_code_op te_code_op_agg (by rw [te_code_op_size]; rfl)) ?_
  refine zOn rfl rfl ?_
  refine zLd rfl (b3.ldN E_api_Ins te_api_Ins_agg (by rw [te_api_Ins_size]; rfl)) ?_
  refine zOn rfl rfl ?_
  refine WL.call rfl rfl is_code_number hc10 ?_
  replace b1 := b1.fr f10
  replace b2 := b2.fr f10
  replace b3 := b3.fr f10
  replace b4' := b4'.fr f10
  replace hv := hv.fr f10
  replace hg := hg.fr f10
  have f110 := f19.trans f10
  have hn9 := f79.1
  have hn10 := f10.1
  clear hm hl hf hc b7' f17 f19 f79 f8 f9 f10 hc8 hc9 hc10
  cases c3 : numG p f o.n i
  · (repeat first | refine zSeq ?_ | refine zReg ?_ | refine zNil rfl ?_ | refine zOn rfl rfl ?_ | refine zPF rfl rfl rfl ?_ | refine zNot rfl ?_ | refine zT rfl rfl ?_)
    refine zStB b4' rfl rfl E_bool rfl rfl (by simp [Value.cells]) (by simp [Value.cells]) fun H11 f11 b11 n11 => ?_
    (repeat first | refine zNil rfl ?_)
    exact WP.ret ⟨.inr rfl, _, resL_cell rfl (b11.ld rfl E_bool rfl) rfl, by unfold mayG; rw [hod, c1, c2, c3]; rfl, f110.young f11 (by simp; omega) (by simp)⟩
  obtain ⟨_, H11, hc11, ⟨c, vr, rfl, hbx, hvr, hcn, f11⟩⟩ := reads_c (H := H10) (va := va) hO hg hv hL hop
  rw [hod] at hvr
  (repeat first | refine zSeq ?_ | refine zReg ?_ | refine zSkp ?_ | refine zNil rfl ?_ | refine zOn rfl rfl ?_ | refine zPF rfl rfl rfl ?_ | refine zNot rfl ?_ | refine zF rfl rfl ?_)
  refine zLd rfl (b3.ldN E_api_Ins te_api_Ins_agg (by rw [te_api_Ins_size]; rfl)) ?_
  refine WL.call rfl rfl is_code_reads hc11 ?_
  replace b1 := b1.fr f11
  replace b2 := b2.fr f11
  replace b3 := b3.fr f11
  replace b4' := b4'.fr f11
  replace hg := hg.fr f11
  have f111 := f110.trans f11
  have hn11 := f11.1
  clear hc11 f110 f11
  (repeat first | refine zNil rfl ?_)
  refine WP.block (WP.rfunc rfl is_slices_Values_s_int_int__q1 fun T cx cy hT hx hy nx ny => ?_)
  have hLr : (readsG o i).length ≤ 1000000 := by have := readsG_len o i; omega
  have fa := Fr.alloc H11 (.loop .ready none Tryd.f126.ntmps T #[37] cx cy)
  have hnb : H11.next < (H11.alloc (.loop .ready none Tryd.f126.ntmps T #[37] cx cy)).next := by simp
  have hob : (H11.alloc (.loop .ready none Tryd.f126.ntmps T #[37] cx cy)).obj H11.next = .loop .ready none Tryd.f126.ntmps T #[37] cx cy := by simp
  have hcb : c < H11.next := hbx.1
  have hvr0 : IntsR (.box H11.next) (H11.alloc (.loop .ready none Tryd.f126.ntmps T #[37] cx cy)) vr (readsG o i) := (hvr.gr (B := .box H11.next) ⟨fun x hx => .inr (by simp [Av.box] at hx; omega), fun x hx => (by simp [Av.box] at hx)⟩).fr fa
  have hbx0 := hbx.fr fa
  have b2a := b2.fr fa
  have b4a := b4'.fr fa
  have h3b : H3.next ≠ H11.next := by omega
  have h1b : H1.next ≠ H11.next := by omega
  have hT' : Has T [(4, .pointer (some ⟨H1.next, 0, none⟩)), (6, .pointer (some ⟨H3.next, 0, none⟩))] := fun t v h => hT t v (by
    simp only [Ev.look] at h ⊢
    split at h
    · rename_i e; subst e; simpa using h
    · split at h
      · rename_i e; subst e; simpa using h
      · cases h)
  generalize H11.alloc (.loop .ready none Tryd.f126.ntmps T #[37] cx cy) = H0 at *
  obtain ⟨w, H12, hit, hend⟩ := values_it (H := H0) (A := .box H11.next) (b := H11.next) (c := c) (v := vr) (l := readsG o i) hO hLr hbx0
    (fun k Hc => Hc.obj H11.next = .loop .ready none Tryd.f126.ntmps T #[37] cx cy ∧ FrX [H11.next] [] H0 Hc ∧ ∀ j (h : j < (readsG o i).length), j < k → okR f.regs (readsG o i)[j] = true)
    (fun Hc => Hc.obj H11.next = .loop .done (some .ret) Tryd.f126.ntmps T #[37] cx cy ∧ FrX [H11.next, H3.next] [] H0 Hc ∧ Bx Hc H3.next 4 [.bool false] ∧ (readsG o i).all (okR f.regs) = false)
    ⟨hob, .refl _ _ _, fun j _ h => absurd h (by omega)⟩ (fun k Hc h => hvr0.frX h.2.1) (fun k hk Hc ⟨q1, q2, q3⟩ => by
      obtain ⟨u, H', y1, y2, y3⟩ := mayRound (r := (readsG o i)[k]) rfl q1 hT' (b2a.frX q2 (by simpa using h1b)) (b4a.frX q2 (by simpa using h3b)) h1b h3b (Nat.lt_of_lt_of_le hnb q2.1) hx hy nx ny
      refine ⟨u, H', y1, fun hu => ?_, fun hu => ?_⟩
      · obtain ⟨z1, z2, z3⟩ := y2 hu
        refine ⟨z3, q2.trans z2 (fun b hb _ => hb) (fun b hb _ => hb), fun j hj hjk => ?_⟩
        by_cases e : j = k
        · subst e; exact z1
        · exact q3 j hj (by omega)
      · obtain ⟨z1, z2, z3, z4⟩ := y3 hu
        refine ⟨z4, (q2.sub (by simp) (by simp)).trans z2 (fun b hb _ => hb) (fun b hb _ => hb), z3, ?_⟩
        rw [List.all_eq_false]
        exact ⟨_, List.getElem_mem hk, by rw [z1]; simp⟩)
  rcases hend with ⟨q1, q2, q3⟩ | ⟨q1, q2, q3, q4⟩
  · refine ⟨w, H12, _, _, _, _, _, _, _, .normal, hit, q1, by simp, rfl, ?_⟩
    have c4 : (readsG o i).all (okR f.regs) = true := by
      rw [List.all_eq_true]
      intro x hx
      obtain ⟨j, hj, rfl⟩ := List.mem_iff_getElem.1 hx
      exact q3 j hj hj
    have fz : Fr H11 (H12.put H11.next .dead) := fa.young (q2.trans .put (fun b hb _ => hb) (fun b hb _ => hb)) (by simp) (by simp)
    generalize H12.put H11.next .dead = Hz at *
    replace b2 := b2.fr fz
    replace b3 := b3.fr fz
    replace b4' := b4'.fr fz
    replace hg := hg.fr fz
    clear hit q1 q2 q3 hT' hT hx hy nx ny hob hnb b2a b4a hbx0 hvr0 hbx hvr
    (repeat first | refine zSeq ?_ | refine zReg ?_)
    refine zLd rfl (b3.ldN E_api_Ins te_api_Ins_agg (by rw [te_api_Ins_size]; rfl)) ?_
    obtain ⟨_, H13, hc13, rfl, f13⟩ := writes_c (H := Hz) (i := i) (va := va) hO hg hop
    rw [hod, c1] at hc13
    refine WL.call rfl rfl is_code_Writes hc13 ?_
    replace b2 := b2.fr f13
    replace b4' := b4'.fr f13
    have f1z := (f111.trans fz).trans f13
    have hmay : mayG p f i = (!o.r || (decide (i.r ≥ 0) && decide (i.r < f.regs))) := by unfold mayG; rw [hod, c1, c2, c3, c4]; rfl
    rw [hmay]
    clear hmay
    cases c5 : o.r
    · (repeat first | refine zSeq ?_ | refine zReg ?_ | refine zNil rfl ?_ | refine zGet rfl ?_ | refine zOff rfl rfl ?_ | refine zU rfl ?_ | refine zXtr rfl ?_ | refine zPT rfl rfl rfl ?_ | refine zNot rfl ?_)
      refine zStB b4' rfl rfl E_bool rfl rfl (by simp [Value.cells]) (by simp [Value.cells]) fun H14 f14 b14 n14 => ?_
      (repeat first | refine zNil rfl ?_)
      exact WP.ret ⟨.inr rfl, _, resL_cell rfl (b14.ld rfl E_bool rfl) rfl, rfl, f1z.young f14 (by simp; omega) (by simp)⟩
    · cases c6 : decide (i.r ≥ 0)
      · (repeat first | refine zSeq ?_ | refine zReg ?_ | refine zNil rfl ?_ | refine zGet rfl ?_ | refine zOn rfl rfl ?_ | refine zOff rfl (by assumption) ?_ | refine zMov rfl ?_ | refine zXtr rfl ?_ | refine zPF rfl rfl rfl ?_ | refine zPF rfl (by assumption) rfl ?_ | refine zGeq rfl rfl ?_ | refine zNot rfl ?_)
        refine zStB b4' rfl rfl E_bool rfl rfl (by simp [Value.cells]) (by simp [Value.cells]) fun H14 f14 b14 n14 => ?_
        (repeat first | refine zNil rfl ?_)
        exact WP.ret ⟨.inr rfl, _, resL_cell rfl (b14.ld rfl E_bool rfl) rfl, rfl, f1z.young f14 (by simp; omega) (by simp)⟩
      · (repeat first | refine zSeq ?_ | refine zReg ?_ | refine zNil rfl ?_ | refine zGet rfl ?_ | refine zOn rfl rfl ?_ | refine zOn rfl (by assumption) ?_ | refine zMov rfl ?_ | refine zXtr rfl ?_ | refine zPF rfl rfl rfl ?_ | refine zPT rfl (by assumption) rfl ?_ | refine zLss rfl rfl ?_ | refine zGeq rfl rfl ?_ | refine zNot rfl ?_ | refine zLd (ty := 3) rfl (Bx.ld (by assumption) (by rfl) E_int rfl) ?_ | refine zFld (f := 3) rfl O_api_Fun_Regs ?_)
        refine zStB b4' rfl rfl E_bool rfl rfl (by simp [Value.cells]) (by simp [Value.cells]) fun H14 f14 b14 n14 => ?_
        (repeat first | refine zNil rfl ?_)
        exact WP.ret ⟨.inr rfl, _, resL_cell rfl (b14.ld rfl E_bool rfl) rfl, rfl, f1z.young f14 (by simp; omega) (by simp)⟩
  · refine ⟨w, H12, _, _, _, _, _, _, _, .ret, hit, q1, by simp, rfl, ?_⟩
    have b4z : Bx (H12.put H11.next .dead) H3.next 4 [.bool false] := q3.frX .put (by simpa using h3b)
    refine ⟨.inr rfl, _, resL_cell rfl (b4z.ld rfl E_bool rfl) rfl, ?_, ?_⟩
    · unfold mayG; rw [hod, c1, c2, c3, q4]; rfl
    · have fx : FrX [H11.next, H3.next] [] H11 (H12.put H11.next .dead) := ((fa.x _ _).trans q2 (fun b hb _ => hb) (fun b hb _ => hb)).trans .put (fun b hb _ => by simp at hb; simp [hb]) (by simp)
      exact f111.young fx (by simp; omega) (by simp)
end Go.Proofs.YtfhmdhndmlinkaaDoor.U

/-
  Contracts of slices: IndexFunc, ContainsFunc; of flow: an instruction in a graph.
-/
namespace Go.Proofs.YtfhmdhndmlinkaaDoor.U
open Go Go.Ev
attribute [local irreducible] WL WP WH W
attribute [local irreducible] V
variable {O : Orc} {H : AH}
theorem indexFunc_block_c (hO : NoO O) {A : Av} {v : Value} {l : List Block} (hv : Els 4 BlockR A H v l) (hL : l.length ≤ 1000000) {f : FuncId} {cap : Array Value} {p : Block → Bool} (hf : (V.F f).isSome = true) (hp : ∀ x ∈ l, ∀ cs H1, Fr H H1 → BlockR A H1 cs x → ∃ H2, Lc V O f ([.agg cs.toArray] ++ cap.toList) H1 (.bool (p x)) H2 ∧ Fr H1 H2) :
    ∃ H', Lc V O F_slices_IndexFunc_s_api_Block_api_Block [v, .func (.func f) #[] cap] H (.int .i64 (idxI p l)) H' ∧ Fr H H' := by
  have key : ∃ u H', Lc V O F_slices_IndexFunc_s_api_Block_api_Block [v, .func (.func f) #[] cap] H u H' ∧ (u = .int .i64 (idxI p l) ∧ Fr H H') := by
    refine Lc.slices_IndexFunc_s_api_Block_api_Block (R := fun u H' => u = .int .i64 (idxI p l) ∧ Fr H H') (hO _ _ _ (by decide) (by decide) (by decide) (by decide)) (Nat.le_of_ble_eq_true rfl) (by kernel_rfl) ?_
    unfold P_slices_IndexFunc_s_api_Block_api_Block
    (repeat first | refine zSeq ?_ | refine zReg ?_ | refine zBlk ?_ | refine zNil rfl ?_ | refine zGet rfl ?_ | refine zMov rfl ?_ | refine zAsg rfl ?_ | refine zLen rfl (hv.len E_s_api_Block) ?_)
    refine WP.loopH (σ := Nat) (fun i => [(0, v), (1, .func (.func f) #[] cap), (7, .int .i64 l.length), (8, .int .i64 i)]) (fun i H' => Fr H H' ∧ i ≤ l.length ∧ ∀ j (h : j < l.length), j < i → p l[j] = false) (fun i => l.length - i) 0 ⟨.refl _, by simp, fun j _ h => absurd h (by omega)⟩ ⟨rfl, rfl, rfl, rfl, trivial⟩ ?_
    rintro i H1 ⟨hfr, hi, hn⟩
    rcases Nat.lt_or_ge i l.length with h | h
    · have hd : decide ((i : Int) < l.length) = true := decide_eq_true (by omega)
      obtain ⟨b, off, cs, ha1, hrd, hR⟩ := (hv.fr BlockR.m hfr).at E_s_api_Block E_api_Block te_api_Block_size (kd := .i64) h
      have hl1 := hrd.loadN (V := V) E_api_Block te_api_Block_agg te_api_Block_size
      obtain ⟨H2, hc, hf2⟩ := hp l[i] (List.getElem_mem _) cs H1 hfr hR
      (repeat first | refine zSeq ?_ | refine zReg ?_ | refine zBlk ?_ | refine zSkp ?_ | refine zNil rfl ?_ | refine zGet rfl ?_ | refine zLss rfl rfl ?_ | refine zT rfl (by assumption) ?_ | refine zIdx rfl rfl ha1 ?_ | refine zLd rfl hl1 ?_)
      refine WL.call rfl rfl hf hc ?_
      cases he : p l[i]
      · (repeat first | refine zReg ?_ | refine zSkp ?_ | refine zNil rfl ?_ | refine zAdd rfl rfl (by omega) ?_ | refine zF rfl rfl ?_)
        refine ⟨i + 1, ⟨hfr.trans hf2, by omega, fun j hj hji => ?_⟩, by omega, rfl, rfl, rfl, rfl, trivial⟩
        by_cases e : j = i
        · subst e; exact he
        · exact hn j hj (by omega)
      · (repeat first | refine zSeq ?_ | refine zReg ?_ | refine zNil rfl ?_ | refine zGet rfl ?_ | refine zT rfl rfl ?_)
        refine WP.ret ⟨.inr rfl, _, rfl, ?_, hfr.trans hf2⟩
        rw [idxI_some h he fun j hj => hn j (by omega) hj]; rfl
    · have hd : decide ((i : Int) < l.length) = false := decide_eq_false (by omega)
      (repeat first | refine zSeq ?_ | refine zReg ?_ | refine zExt ?_ | refine zNil rfl ?_ | refine zAsg rfl ?_ | refine zLss rfl rfl ?_ | refine zF rfl (by assumption) ?_)
      refine WP.ret ⟨.inr rfl, _, rfl, ?_, hfr⟩
      rw [idxI_none fun j hj => hn j hj (by omega)]; rfl
  obtain ⟨u, H', h, rfl, hk⟩ := key
  exact ⟨H', h, hk⟩
theorem containsFunc_block_c (hO : NoO O) {A : Av} {v : Value} {l : List Block} (hv : Els 4 BlockR A H v l) (hL : l.length ≤ 1000000) {f : FuncId} {cap : Array Value} {p : Block → Bool} (hf : (V.F f).isSome = true) (hp : ∀ x ∈ l, ∀ cs H1, Fr H H1 → BlockR A H1 cs x → ∃ H2, Lc V O f ([.agg cs.toArray] ++ cap.toList) H1 (.bool (p x)) H2 ∧ Fr H1 H2) :
    ∃ H', Lc V O F_slices_ContainsFunc_s_api_Block_api_Block [v, .func (.func f) #[] cap] H (.bool (l.any p)) H' ∧ Fr H H' := by
  have key : ∃ u H', Lc V O F_slices_ContainsFunc_s_api_Block_api_Block [v, .func (.func f) #[] cap] H u H' ∧ (u = .bool (l.any p) ∧ Fr H H') := by
    refine Lc.slices_ContainsFunc_s_api_Block_api_Block (R := fun u H' => u = .bool (l.any p) ∧ Fr H H') (hO _ _ _ (by decide) (by decide) (by decide) (by decide)) (Nat.le_of_ble_eq_true rfl) (by kernel_rfl) ?_
    unfold P_slices_ContainsFunc_s_api_Block_api_Block
    obtain ⟨H1, hc, f1⟩ := indexFunc_block_c (p := p) hO hv hL hf hp
    (repeat first | refine zSeq ?_ | refine zReg ?_ | refine zNil rfl ?_ | refine zGet rfl ?_ | refine zAsg rfl ?_)
    refine WL.call rfl rfl is_slices_IndexFunc_s_api_Block_api_Block hc ?_
    (repeat first | refine zNil rfl ?_ | refine zGeq rfl rfl ?_)
    refine WP.ret ⟨.inr rfl, _, rfl, ?_, f1⟩
    rw [← idxI_any]; rfl
  obtain ⟨u, H', h, rfl, hk⟩ := key
  exact ⟨H', h, hk⟩
theorem indexFunc_phi_c (hO : NoO O) {A : Av} {v : Value} {l : List Ev.Phi} (hv : Els 2 PhiR A H v l) (hL : l.length ≤ 1000000) {f : FuncId} {cap : Array Value} {p : Ev.Phi → Bool} (hf : (V.F f).isSome = true) (hp : ∀ x ∈ l, ∀ cs H1, Fr H H1 → PhiR A H1 cs x → ∃ H2, Lc V O f ([.agg cs.toArray] ++ cap.toList) H1 (.bool (p x)) H2 ∧ Fr H1 H2) :
    ∃ H', Lc V O F_slices_IndexFunc_s_api_Phi_api_Phi [v, .func (.func f) #[] cap] H (.int .i64 (idxI p l)) H' ∧ Fr H H' := by
  have key : ∃ u H', Lc V O F_slices_IndexFunc_s_api_Phi_api_Phi [v, .func (.func f) #[] cap] H u H' ∧ (u = .int .i64 (idxI p l) ∧ Fr H H') := by
    refine Lc.slices_IndexFunc_s_api_Phi_api_Phi (R := fun u H' => u = .int .i64 (idxI p l) ∧ Fr H H') (hO _ _ _ (by decide) (by decide) (by decide) (by decide)) (Nat.le_of_ble_eq_true rfl) (by kernel_rfl) ?_
    unfold P_slices_IndexFunc_s_api_Phi_api_Phi
    (repeat first | refine zSeq ?_ | refine zReg ?_ | refine zBlk ?_ | refine zNil rfl ?_ | refine zGet rfl ?_ | refine zMov rfl ?_ | refine zAsg rfl ?_ | refine zLen rfl (hv.len E_s_api_Phi) ?_)
    refine WP.loopH (σ := Nat) (fun i => [(0, v), (1, .func (.func f) #[] cap), (7, .int .i64 l.length), (8, .int .i64 i)]) (fun i H' => Fr H H' ∧ i ≤ l.length ∧ ∀ j (h : j < l.length), j < i → p l[j] = false) (fun i => l.length - i) 0 ⟨.refl _, by simp, fun j _ h => absurd h (by omega)⟩ ⟨rfl, rfl, rfl, rfl, trivial⟩ ?_
    rintro i H1 ⟨hfr, hi, hn⟩
    rcases Nat.lt_or_ge i l.length with h | h
    · have hd : decide ((i : Int) < l.length) = true := decide_eq_true (by omega)
      obtain ⟨b, off, cs, ha1, hrd, hR⟩ := (hv.fr PhiR.m hfr).at E_s_api_Phi E_api_Phi te_api_Phi_size (kd := .i64) h
      have hl1 := hrd.loadN (V := V) E_api_Phi te_api_Phi_agg te_api_Phi_size
      obtain ⟨H2, hc, hf2⟩ := hp l[i] (List.getElem_mem _) cs H1 hfr hR
      (repeat first | refine zSeq ?_ | refine zReg ?_ | refine zBlk ?_ | refine zSkp ?_ | refine zNil rfl ?_ | refine zGet rfl ?_ | refine zLss rfl rfl ?_ | refine zT rfl (by assumption) ?_ | refine zIdx rfl rfl ha1 ?_ | refine zLd rfl hl1 ?_)
      refine WL.call rfl rfl hf hc ?_
      cases he : p l[i]
      · (repeat first | refine zReg ?_ | refine zSkp ?_ | refine zNil rfl ?_ | refine zAdd rfl rfl (by omega) ?_ | refine zF rfl rfl ?_)
        refine ⟨i + 1, ⟨hfr.trans hf2, by omega, fun j hj hji => ?_⟩, by omega, rfl, rfl, rfl, rfl, trivial⟩
        by_cases e : j = i
        · subst e; exact he
        · exact hn j hj (by omega)
      · (repeat first | refine zSeq ?_ | refine zReg ?_ | refine zNil rfl ?_ | refine zGet rfl ?_ | refine zT rfl rfl ?_)
        refine WP.ret ⟨.inr rfl, _, rfl, ?_, hfr.trans hf2⟩
        rw [idxI_some h he fun j hj => hn j (by omega) hj]; rfl
    · have hd : decide ((i : Int) < l.length) = false := decide_eq_false (by omega)
      (repeat first | refine zSeq ?_ | refine zReg ?_ | refine zExt ?_ | refine zNil rfl ?_ | refine zAsg rfl ?_ | refine zLss rfl rfl ?_ | refine zF rfl (by assumption) ?_)
      refine WP.ret ⟨.inr rfl, _, rfl, ?_, hfr⟩
      rw [idxI_none fun j hj => hn j hj (by omega)]; rfl
  obtain ⟨u, H', h, rfl, hk⟩ := key
  exact ⟨H', h, hk⟩
theorem containsFunc_phi_c (hO : NoO O) {A : Av} {v : Value} {l : List Ev.Phi} (hv : Els 2 PhiR A H v l) (hL : l.length ≤ 1000000) {f : FuncId} {cap : Array Value} {p : Ev.Phi → Bool} (hf : (V.F f).isSome = true) (hp : ∀ x ∈ l, ∀ cs H1, Fr H H1 → PhiR A H1 cs x → ∃ H2, Lc V O f ([.agg cs.toArray] ++ cap.toList) H1 (.bool (p x)) H2 ∧ Fr H1 H2) :
    ∃ H', Lc V O F_slices_ContainsFunc_s_api_Phi_api_Phi [v, .func (.func f) #[] cap] H (.bool (l.any p)) H' ∧ Fr H H' := by
  have key : ∃ u H', Lc V O F_slices_ContainsFunc_s_api_Phi_api_Phi [v, .func (.func f) #[] cap] H u H' ∧ (u = .bool (l.any p) ∧ Fr H H') := by
    refine Lc.slices_ContainsFunc_s_api_Phi_api_Phi (R := fun u H' => u = .bool (l.any p) ∧ Fr H H') (hO _ _ _ (by decide) (by decide) (by decide) (by decide)) (Nat.le_of_ble_eq_true rfl) (by kernel_rfl) ?_
    unfold P_slices_ContainsFunc_s_api_Phi_api_Phi
    obtain ⟨H1, hc, f1⟩ := indexFunc_phi_c (p := p) hO hv hL hf hp
    (repeat first | refine zSeq ?_ | refine zReg ?_ | refine zNil rfl ?_ | refine zGet rfl ?_ | refine zAsg rfl ?_)
    refine WL.call rfl rfl is_slices_IndexFunc_s_api_Phi_api_Phi hc ?_
    (repeat first | refine zNil rfl ?_ | refine zGeq rfl rfl ?_)
    refine WP.ret ⟨.inr rfl, _, rfl, ?_, f1⟩
    rw [← idxI_any]; rfl
  obtain ⟨u, H', h, rfl, hk⟩ := key
  exact ⟨H', h, hk⟩
theorem indexFunc_int_c (hO : NoO O) {A : Av} {v : Value} {l : List Int} (hv : IntsR A H v l) (hL : l.length ≤ 1000000) {f : FuncId} {cap : Array Value} {p : Int → Bool} (hf : (V.F f).isSome = true) (hp : ∀ x ∈ l, ∀ H1, Fr H H1 → ∃ H2, Lc V O f ([.int .i64 x] ++ cap.toList) H1 (.bool (p x)) H2 ∧ Fr H1 H2) :
    ∃ H', Lc V O F_slices_IndexFunc_s_int_int [v, .func (.func f) #[] cap] H (.int .i64 (idxI p l)) H' ∧ Fr H H' := by
  have key : ∃ u H', Lc V O F_slices_IndexFunc_s_int_int [v, .func (.func f) #[] cap] H u H' ∧ (u = .int .i64 (idxI p l) ∧ Fr H H') := by
    refine Lc.slices_IndexFunc_s_int_int (R := fun u H' => u = .int .i64 (idxI p l) ∧ Fr H H') (hO _ _ _ (by decide) (by decide) (by decide) (by decide)) (Nat.le_of_ble_eq_true rfl) (by kernel_rfl) ?_
    unfold P_slices_IndexFunc_s_int_int
    (repeat first | refine zSeq ?_ | refine zReg ?_ | refine zBlk ?_ | refine zNil rfl ?_ | refine zGet rfl ?_ | refine zMov rfl ?_ | refine zAsg rfl ?_ | refine zLen rfl (hv.len E_s_int) ?_)
    refine WP.loopH (σ := Nat) (fun i => [(0, v), (1, .func (.func f) #[] cap), (7, .int .i64 l.length), (8, .int .i64 i)]) (fun i H' => Fr H H' ∧ i ≤ l.length ∧ ∀ j (h : j < l.length), j < i → p l[j] = false) (fun i => l.length - i) 0 ⟨.refl _, by simp, fun j _ h => absurd h (by omega)⟩ ⟨rfl, rfl, rfl, rfl, trivial⟩ ?_
    rintro i H1 ⟨hfr, hi, hn⟩
    rcases Nat.lt_or_ge i l.length with h | h
    · have hd : decide ((i : Int) < l.length) = true := decide_eq_true (by omega)
      obtain ⟨b, off, ha1, hl1⟩ := IntsR.at (hv.fr hfr) E_s_int E_int (kd := .i64) h
      obtain ⟨H2, hc, hf2⟩ := hp l[i] (List.getElem_mem _) H1 hfr
      (repeat first | refine zSeq ?_ | refine zReg ?_ | refine zBlk ?_ | refine zSkp ?_ | refine zNil rfl ?_ | refine zGet rfl ?_ | refine zLss rfl rfl ?_ | refine zT rfl (by assumption) ?_ | refine zIdx rfl rfl ha1 ?_ | refine zLd rfl hl1 ?_)
      refine WL.call rfl rfl hf hc ?_
      cases he : p l[i]
      · (repeat first | refine zReg ?_ | refine zSkp ?_ | refine zNil rfl ?_ | refine zAdd rfl rfl (by omega) ?_ | refine zF rfl rfl ?_)
        refine ⟨i + 1, ⟨hfr.trans hf2, by omega, fun j hj hji => ?_⟩, by omega, rfl, rfl, rfl, rfl, trivial⟩
        by_cases e : j = i
        · subst e; exact he
        · exact hn j hj (by omega)
      · (repeat first | refine zSeq ?_ | refine zReg ?_ | refine zNil rfl ?_ | refine zGet rfl ?_ | refine zT rfl rfl ?_)
        refine WP.ret ⟨.inr rfl, _, rfl, ?_, hfr.trans hf2⟩
        rw [idxI_some h he fun j hj => hn j (by omega) hj]; rfl
    · have hd : decide ((i : Int) < l.length) = false := decide_eq_false (by omega)
      (repeat first | refine zSeq ?_ | refine zReg ?_ | refine zExt ?_ | refine zNil rfl ?_ | refine zAsg rfl ?_ | refine zLss rfl rfl ?_ | refine zF rfl (by assumption) ?_)
      refine WP.ret ⟨.inr rfl, _, rfl, ?_, hfr⟩
      rw [idxI_none fun j hj => hn j hj (by omega)]; rfl
  obtain ⟨u, H', h, rfl, hk⟩ := key
  exact ⟨H', h, hk⟩
theorem containsFunc_int_c (hO : NoO O) {A : Av} {v : Value} {l : List Int} (hv : IntsR A H v l) (hL : l.length ≤ 1000000) {f : FuncId} {cap : Array Value} {p : Int → Bool} (hf : (V.F f).isSome = true) (hp : ∀ x ∈ l, ∀ H1, Fr H H1 → ∃ H2, Lc V O f ([.int .i64 x] ++ cap.toList) H1 (.bool (p x)) H2 ∧ Fr H1 H2) :
    ∃ H', Lc V O F_slices_ContainsFunc_s_int_int [v, .func (.func f) #[] cap] H (.bool (l.any p)) H' ∧ Fr H H' := by
  have key : ∃ u H', Lc V O F_slices_ContainsFunc_s_int_int [v, .func (.func f) #[] cap] H u H' ∧ (u = .bool (l.any p) ∧ Fr H H') := by
    refine Lc.slices_ContainsFunc_s_int_int (R := fun u H' => u = .bool (l.any p) ∧ Fr H H') (hO _ _ _ (by decide) (by decide) (by decide) (by decide)) (Nat.le_of_ble_eq_true rfl) (by kernel_rfl) ?_
    unfold P_slices_ContainsFunc_s_int_int
    obtain ⟨H1, hc, f1⟩ := indexFunc_int_c (p := p) hO hv hL hf hp
    (repeat first | refine zSeq ?_ | refine zReg ?_ | refine zNil rfl ?_ | refine zGet rfl ?_ | refine zAsg rfl ?_)
    refine WL.call rfl rfl is_slices_IndexFunc_s_int_int hc ?_
    (repeat first | refine zNil rfl ?_ | refine zGeq rfl rfl ?_)
    refine WP.ret ⟨.inr rfl, _, rfl, ?_, f1⟩
    rw [← idxI_any]; rfl
  obtain ⟨u, H', h, rfl, hk⟩ := key
  exact ⟨H', h, hk⟩
end Go.Proofs.YtfhmdhndmlinkaaDoor.U

/-
  Contracts of flow: an instruction in a graph.
-/
namespace Go.Proofs.YtfhmdhndmlinkaaDoor.U
open Go Go.Ev
attribute [local irreducible] WL WP WH W
noncomputable def te_api_Mem : TI := match V.E 198 with
  | some t => t
  | none => ⟨.bool, 0, 0, .nilFunc⟩
theorem E_api_Mem : V.E 198 = some te_api_Mem := by kernel_rfl
theorem te_api_Mem_size : te_api_Mem.size = 3 := by kernel_rfl
theorem te_api_Mem_bytes : te_api_Mem.bytes = 32 := by kernel_rfl
theorem te_api_Mem_zero : te_api_Mem.zv = .agg #[.string ⟨⟨[]⟩⟩, .int .i64 0, .int .i64 0] := by kernel_rfl
theorem build163a {r : Int} {a : Option Addr} {n c : Nat} : aBuild V.E 163 [(3, .int .i64 r), (4, .slice a n c)] = some (.agg #[.string ⟨⟨[]⟩⟩, .bool false, .int .i64 0, .int .i64 r, .slice a n c]) := by kernel_rfl
theorem build163b {r : Int} {a : Option Addr} {n c : Nat} : aBuild V.E 163 [(2, .int .i64 r), (4, .slice a n c)] = some (.agg #[.string ⟨⟨[]⟩⟩, .bool false, .int .i64 r, .int .i64 0, .slice a n c]) := by kernel_rfl
theorem build166 {a a' a'' : Option Addr} {n c n' c' n'' c'' : Nat} : aBuild V.E 166 [(0, .slice a n c), (1, .slice a' n' c'), (2, .slice a'' n'' c'')] = some (.agg #[.slice a n c, .slice a' n' c', .slice a'' n'' c'']) := by kernel_rfl
theorem fill164 {a1 a2 a3 a4 a5 b1 b2 b3 b4 b5 : Value} : afill (fun i => some (i * te_api_Fun.size, te_api_Fun.size)) (azeros te_api_Fun.zv.cells.toList 2) [(0, .agg #[a1, a2, a3, a4, a5]), (1, .agg #[b1, b2, b3, b4, b5])] = some [a1, a2, a3, a4, a5, b1, b2, b3, b4, b5] := by kernel_rfl
theorem fill39z : afill (fun i => some (i * te_api_Ins.size, te_api_Ins.size)) (azeros te_api_Ins.zv.cells.toList 1) [(0, .agg #[.int .u8 0, .int .i64 0, .int .i64 0, .int .i64 0, .int .i64 0, .slice none 0 0])] = some [.int .u8 0, .int .i64 0, .int .i64 0, .int .i64 0, .int .i64 0, .slice none 0 0] := by kernel_rfl
theorem mk160 : azeros te_api_Mem.zv.cells.toList 1 = [.string ⟨⟨[]⟩⟩, .int .i64 0, .int .i64 0] := by kernel_rfl
theorem zero166 : te_api_Prog.zv.cells.toList = [.slice none 0 0, .slice none 0 0, .slice none 0 0] := by kernel_rfl
attribute [local irreducible] V
variable {O : Orc} {H : AH}
theorem codeMayIns2_c (hO : NoO O) (hg : GH H) {A C : Av} {p : Prog} {i : Ins} {va vm vl vf : Value} {k : Nat} (hk : k < p.funs.length) (hm : Els 3 MemR A H vm p.mems) (hl : Els 1 StrR A H vl p.locks) (hf : Els 5 FunR A H vf p.funs) (hv : IntsR C H va i.args) (hL : i.args.length ≤ 100000) (hop : 0 ≤ i.op ∧ i.op < 256) :
    ∃ v H', Lc V O F_code_MayIns [.agg #[vm, vl, vf], .int .i64 k, insV i va] H v H' ∧ (v = .bool (mayG p p.funs[k] i) ∧ Fr H H') := by
  refine Lc.code_MayIns (R := fun v H' => v = .bool (mayG p p.funs[k] i) ∧ Fr H H') (hO _ _ _ (by decide) (by decide) (by decide) (by decide)) (Nat.le_of_ble_eq_true rfl) (by kernel_rfl) ?_
  unfold P_code_MayIns
  refine zSeq ?_
  refine zReg ?_
  refine zBox rfl (fun _ => rfl) fun H1 f1 b1 n1 => ?_
  refine zBox rfl (fun _ => rfl) fun H2 f2 b2 n2 => ?_
  replace b1 := b1.fr f2
  have f12 := f1.trans f2
  replace hm := hm.fr MemR.m f12
  replace hl := hl.fr StrR.m f12
  replace hf := hf.fr FunR.m f12
  replace hv := hv.fr f12
  replace hg := hg.fr f12
  have g1 : decide ((k : Int) ≥ 0) = true := decide_eq_true (by omega)
  have g2 : decide ((k : Int) < p.funs.length) = true := decide_eq_true (by omega)
  obtain ⟨b, off, cs, ha1, hrd, vc, rfl, hc⟩ := hf.at E_s_api_Fun E_api_Fun te_api_Fun_size (kd := .i64) hk
  have hl3 := hrd.loadN (V := V) E_api_Fun te_api_Fun_agg te_api_Fun_size
  obtain ⟨_, H3, hc3, rfl, f3⟩ := codeMayIns_c (H := H2) hO hg hm hl hf hc hv hL hop
  (repeat first | refine zSeq ?_ | refine zReg ?_ | refine zNil rfl ?_ | refine zGet rfl ?_ | refine zOn rfl rfl ?_ | refine zOn rfl (by assumption) ?_ | refine zMov rfl ?_ | refine zAsg rfl ?_ | refine zPT rfl rfl rfl ?_ | refine zLss rfl rfl ?_ | refine zGeq rfl rfl ?_ | refine zFld (f := 2) rfl O_api_Prog_Funs ?_ | refine zLd (ty := 164) rfl (Bx.ld (by assumption) (by rfl) E_s_api_Fun rfl) ?_ | refine zLen rfl (hf.len E_s_api_Fun) ?_)
  refine zLd rfl (b1.ldN E_api_Prog te_api_Prog_agg (by rw [te_api_Prog_size]; rfl)) ?_
  (repeat first | refine zOn rfl (by assumption) ?_ | refine zMov rfl ?_ | refine zFld (f := 2) rfl O_api_Prog_Funs ?_ | refine zLd (ty := 164) rfl (Bx.ld (by assumption) (by rfl) E_s_api_Fun rfl) ?_ | refine zIdx rfl rfl ha1 ?_ | refine zLd (ty := 163) rfl hl3 ?_)
  refine zLd rfl (b2.ldN E_api_Ins te_api_Ins_agg (by rw [te_api_Ins_size]; rfl)) ?_
  (repeat first | refine zOn rfl (by assumption) ?_)
  refine WL.call rfl rfl is_code_mayIns hc3 ?_
  (repeat first | refine zNil rfl ?_ | refine zPT rfl (by assumption) rfl ?_)
  exact WP.ret ⟨.inr rfl, _, rfl, rfl, f12.trans f3⟩
theorem ends_c (hO : NoO O) (op : Int) : Lc V O F_flow_ends [.int .u8 op] H (.bool (Flo.ends op)) H := by
  refine Lc.of_eq (Lc.flow_ends (R := fun u H' => u = .bool (Flo.ends op) ∧ H' = H) (hO _ _ _ (by decide) (by decide) (by decide) (by decide)) (Nat.le_of_ble_eq_true rfl) (by kernel_rfl) ?_)
  unfold P_flow_ends
  cases c1 : op == 11
  · cases c2 : op == 12
    · (repeat first | refine zSeq ?_ | refine zReg ?_ | refine zNil rfl ?_ | refine zGet rfl ?_ | refine zOn rfl (by assumption) ?_ | refine zMov rfl ?_ | refine zAsg rfl ?_ | refine zPF rfl (by assumption) rfl ?_ | refine zEql rfl rfl ?_)
      exact WP.ret ⟨.inr rfl, _, rfl, by unfold Flo.ends; rw [c1, c2]; rfl, rfl⟩
    · (repeat first | refine zSeq ?_ | refine zReg ?_ | refine zNil rfl ?_ | refine zGet rfl ?_ | refine zOn rfl (by assumption) ?_ | refine zOff rfl (by assumption) ?_ | refine zMov rfl ?_ | refine zAsg rfl ?_ | refine zPT rfl (by assumption) rfl ?_ | refine zPF rfl (by assumption) rfl ?_ | refine zEql rfl rfl ?_)
      exact WP.ret ⟨.inr rfl, _, rfl, by unfold Flo.ends; rw [c1, c2]; rfl, rfl⟩
  · (repeat first | refine zSeq ?_ | refine zReg ?_ | refine zNil rfl ?_ | refine zGet rfl ?_ | refine zOff rfl rfl ?_ | refine zOff rfl (by assumption) ?_ | refine zAsg rfl ?_ | refine zPT rfl rfl rfl ?_ | refine zPT rfl (by assumption) rfl ?_ | refine zEql rfl rfl ?_)
    exact WP.ret ⟨.inr rfl, _, rfl, by unfold Flo.ends; rw [c1]; rfl, rfl⟩
def noS : ByteArray := ⟨⟨[]⟩⟩
def num (i : Ins) : Int := if (i.op == 5 || i.op == 6 || i.op == 7 || i.op == 8) = true then 0 else if (i.op == 10) = true then 1 else i.n
def numI (i : Ins) : Ins := { i with n := num i }
def p0 (regs : Int) (i : Ins) : Prog := ⟨[⟨noS, 0, 0⟩], [noS], [⟨noS, false, 0, regs, [zeroI]⟩, ⟨noS, false, i.args.length, 0, [zeroI]⟩]⟩
def mi (regs : Int) (i : Ins) : Bool :=
  !((decide (i.n < 0) && i.op != 1) || decide ((i.args.length : Int) > 8)) && mayG (p0 regs i) ⟨noS, false, 0, regs, [zeroI]⟩ (numI i)
theorem mi_op (r : Int) (i : Ins) (h : mi r i = true) : Flo.isOp i.op = true := by
  unfold mi mayG at h
  rw [Bool.and_eq_true, Bool.and_eq_true] at h
  exact h.2.1
set_option maxHeartbeats 2000000 in
theorem flowMayIns_c (hO : NoO O) (hg : GH H) {C : Av} {i : Ins} {va : Value} (regs : Int) (hv : IntsR C H va i.args) (hop : 0 ≤ i.op ∧ i.op < 256) :
    ∃ v H', Lc V O F_flow_mayIns [insV i va, .int .i64 regs] H v H' ∧ (v = .bool (mi regs i) ∧ Fr H H') := by
  refine Lc.flow_mayIns (R := fun v H' => v = .bool (mi regs i) ∧ Fr H H') (hO _ _ _ (by decide) (by decide) (by decide) (by decide)) (Nat.le_of_ble_eq_true rfl) (by kernel_rfl) ?_
  unfold P_flow_mayIns
  refine zSeq ?_
  refine zReg ?_
  refine zBox rfl (fun _ => rfl) fun H1 f1 b1 n1 => ?_
  replace hv := (hv.gr (B := .box H.next) ⟨fun x hx => .inr (by simp [Av.box] at hx; omega), fun x hx => by simp [Av.box] at hx⟩).fr f1
  have hmi : ((decide (i.n < 0) && i.op != 1) || decide ((i.args.length : Int) > 8)) = true → mi regs i = false := fun h => by unfold mi; rw [h]; rfl
  (repeat first | refine zNil rfl ?_ | refine zAsg rfl ?_)
  refine WP.seqS (σ := Unit) (fun _ => [(1, .int .i64 regs), (2, .pointer (some ⟨H.next, 0, none⟩))]) (fun _ Hc => Hc = H1 ∧ ((decide (i.n < 0) && i.op != 1) || decide ((i.args.length : Int) > 8)) = false) ?_ ?_
  · cases c1 : decide (i.n < 0)
    · cases c3 : decide ((i.args.length : Int) > 8)
      · (repeat first | refine zSeq ?_ | refine zReg ?_ | refine zSkp ?_ | refine zNil rfl ?_ | refine zOn rfl rfl ?_ | refine zOff rfl (by assumption) ?_ | refine zPF rfl rfl rfl ?_ | refine zPF rfl (by assumption) rfl ?_ | refine zLss rfl rfl ?_ | refine zGtr rfl rfl ?_ | refine zF rfl (by assumption) ?_ | refine zFld (f := 4) rfl O_api_Ins_N ?_ | refine zFld (f := 5) rfl O_api_Ins_Args ?_ | refine zLd (ty := 2) rfl (Bx.ld (by assumption) (by rfl) E_int64 rfl) ?_ | refine zLd (ty := 32) rfl (Bx.ld (by assumption) (by rfl) E_s_int rfl) ?_ | refine zLen rfl (hv.len E_s_int) ?_)
        exact ⟨(), ⟨rfl, rfl⟩, rfl, rfl, trivial⟩
      · (repeat first | refine zSeq ?_ | refine zReg ?_ | refine zNil rfl ?_ | refine zOn rfl rfl ?_ | refine zOff rfl (by assumption) ?_ | refine zAsg rfl ?_ | refine zPF rfl rfl rfl ?_ | refine zPF rfl (by assumption) rfl ?_ | refine zLss rfl rfl ?_ | refine zGtr rfl rfl ?_ | refine zT rfl (by assumption) ?_ | refine zFld (f := 4) rfl O_api_Ins_N ?_ | refine zFld (f := 5) rfl O_api_Ins_Args ?_ | refine zLd (ty := 2) rfl (Bx.ld (by assumption) (by rfl) E_int64 rfl) ?_ | refine zLd (ty := 32) rfl (Bx.ld (by assumption) (by rfl) E_s_int rfl) ?_ | refine zLen rfl (hv.len E_s_int) ?_)
        exact WP.ret ⟨.inr rfl, _, rfl, by rw [hmi (by rw [c1, c3]; rfl)]; rfl, f1⟩
    · cases c2 : i.op != 1
      · cases c3 : decide ((i.args.length : Int) > 8)
        · (repeat first | refine zSeq ?_ | refine zReg ?_ | refine zSkp ?_ | refine zNil rfl ?_ | refine zOn rfl (by assumption) ?_ | refine zPT rfl (by assumption) rfl ?_ | refine zPF rfl (by assumption) rfl ?_ | refine zLss rfl rfl ?_ | refine zGtr rfl rfl ?_ | refine zNeq rfl rfl ?_ | refine zF rfl (by assumption) ?_ | refine zFld (f := 0) rfl O_api_Ins_Op ?_ | refine zFld (f := 4) rfl O_api_Ins_N ?_ | refine zFld (f := 5) rfl O_api_Ins_Args ?_ | refine zLd (ty := 2) rfl (Bx.ld (by assumption) (by rfl) E_int64 rfl) ?_ | refine zLd (ty := 5) rfl (Bx.ld (by assumption) (by rfl) E_uint8 rfl) ?_ | refine zLd (ty := 32) rfl (Bx.ld (by assumption) (by rfl) E_s_int rfl) ?_ | refine zLen rfl (hv.len E_s_int) ?_)
          exact ⟨(), ⟨rfl, rfl⟩, rfl, rfl, trivial⟩
        · (repeat first | refine zSeq ?_ | refine zReg ?_ | refine zNil rfl ?_ | refine zOn rfl (by assumption) ?_ | refine zAsg rfl ?_ | refine zPT rfl (by assumption) rfl ?_ | refine zPF rfl (by assumption) rfl ?_ | refine zLss rfl rfl ?_ | refine zGtr rfl rfl ?_ | refine zNeq rfl rfl ?_ | refine zT rfl (by assumption) ?_ | refine zFld (f := 0) rfl O_api_Ins_Op ?_ | refine zFld (f := 4) rfl O_api_Ins_N ?_ | refine zFld (f := 5) rfl O_api_Ins_Args ?_ | refine zLd (ty := 2) rfl (Bx.ld (by assumption) (by rfl) E_int64 rfl) ?_ | refine zLd (ty := 5) rfl (Bx.ld (by assumption) (by rfl) E_uint8 rfl) ?_ | refine zLd (ty := 32) rfl (Bx.ld (by assumption) (by rfl) E_s_int rfl) ?_ | refine zLen rfl (hv.len E_s_int) ?_)
          exact WP.ret ⟨.inr rfl, _, rfl, by rw [hmi (by rw [c1, c2, c3]; rfl)]; rfl, f1⟩
      · (repeat first | refine zSeq ?_ | refine zReg ?_ | refine zNil rfl ?_ | refine zOn rfl (by assumption) ?_ | refine zOff rfl (by assumption) ?_ | refine zAsg rfl ?_ | refine zPT rfl (by assumption) rfl ?_ | refine zLss rfl rfl ?_ | refine zNeq rfl rfl ?_ | refine zT rfl rfl ?_ | refine zFld (f := 0) rfl O_api_Ins_Op ?_ | refine zFld (f := 4) rfl O_api_Ins_N ?_ | refine zLd (ty := 2) rfl (Bx.ld (by assumption) (by rfl) E_int64 rfl) ?_ | refine zLd (ty := 5) rfl (Bx.ld (by assumption) (by rfl) E_uint8 rfl) ?_)
        exact WP.ret ⟨.inr rfl, _, rfl, by rw [hmi (by rw [c1, c2]; rfl)]; rfl, f1⟩
  rintro _ Hy ⟨hy, hsm⟩
  replace hy := hy.symm
  subst hy
  have hLa : i.args.length ≤ 8 := by
    have := (Bool.or_eq_false_iff.1 hsm).2
    have := of_decide_eq_false this
    omega
  replace hmi : mi regs i = mayG (p0 regs i) ⟨noS, false, 0, regs, [zeroI]⟩ (numI i) := by unfold mi; rw [hsm]; rfl
  rw [hmi]
  clear hmi hsm
  refine WP.seqS (σ := Unit) (fun _ => [(1, .int .i64 regs), (2, .pointer (some ⟨H.next, 0, none⟩))]) (fun _ Hc => FrX [H.next] [] H1 Hc ∧ Bx Hc H.next 39 ((numI i).cells va)) ?_ ?_
  · have st : ∀ {x : Int}, (∀ H2, FrX [H.next] [] H1 H2 → Bx H2 H.next 39 (splice (insV i va).cells.toList 4 [.int .i64 x]) → num i = x → FrX [H.next] [] H1 H2 ∧ Bx H2 H.next 39 ((numI i).cells va)) := fun {x} H2 f2 b2 e => ⟨f2, by unfold numI; rw [e]; exact b2⟩
    cases c5 : i.op == 5
    case true =>
      have e : num i = 0 := by unfold num; rw [c5]; rfl
      (repeat first | refine zSeq ?_ | refine zReg ?_ | refine zBlk ?_ | refine zSkp ?_ | refine zNil rfl ?_ | refine zEql rfl rfl ?_ | refine zT rfl (by assumption) ?_ | refine zFld (f := 0) rfl O_api_Ins_Op ?_ | refine zFld (f := 4) rfl O_api_Ins_N ?_ | refine zLd (ty := 5) rfl (Bx.ld (by assumption) (by rfl) E_uint8 rfl) ?_)
      refine zStB b1 rfl rfl E_int64 rfl rfl (by simp [Value.cells]) (by simp [Value.cells, insV, Ins.cells]) fun H2 f2 b2 n2 => ?_
      (repeat first | refine zNil rfl ?_)
      exact ⟨(), st H2 f2 b2 e, rfl, rfl, trivial⟩
    cases c6 : i.op == 6
    case true =>
      have e : num i = 0 := by unfold num; rw [c6]; simp
      (repeat first | refine zSeq ?_ | refine zReg ?_ | refine zBlk ?_ | refine zSkp ?_ | refine zNil rfl ?_ | refine zEql rfl rfl ?_ | refine zT rfl (by assumption) ?_ | refine zF rfl (by assumption) ?_ | refine zFld (f := 0) rfl O_api_Ins_Op ?_ | refine zFld (f := 4) rfl O_api_Ins_N ?_ | refine zLd (ty := 5) rfl (Bx.ld (by assumption) (by rfl) E_uint8 rfl) ?_)
      refine zStB b1 rfl rfl E_int64 rfl rfl (by simp [Value.cells]) (by simp [Value.cells, insV, Ins.cells]) fun H2 f2 b2 n2 => ?_
      (repeat first | refine zNil rfl ?_)
      exact ⟨(), st H2 f2 b2 e, rfl, rfl, trivial⟩
    cases c7 : i.op == 7
    case true =>
      have e : num i = 0 := by unfold num; rw [c7]; simp
      (repeat first | refine zSeq ?_ | refine zReg ?_ | refine zBlk ?_ | refine zSkp ?_ | refine zNil rfl ?_ | refine zEql rfl rfl ?_ | refine zT rfl (by assumption) ?_ | refine zF rfl (by assumption) ?_ | refine zFld (f := 0) rfl O_api_Ins_Op ?_ | refine zFld (f := 4) rfl O_api_Ins_N ?_ | refine zLd (ty := 5) rfl (Bx.ld (by assumption) (by rfl) E_uint8 rfl) ?_)
      refine zStB b1 rfl rfl E_int64 rfl rfl (by simp [Value.cells]) (by simp [Value.cells, insV, Ins.cells]) fun H2 f2 b2 n2 => ?_
      (repeat first | refine zNil rfl ?_)
      exact ⟨(), st H2 f2 b2 e, rfl, rfl, trivial⟩
    cases c8 : i.op == 8
    case true =>
      have e : num i = 0 := by unfold num; rw [c8]; simp
      (repeat first | refine zSeq ?_ | refine zReg ?_ | refine zBlk ?_ | refine zNil rfl ?_ | refine zEql rfl rfl ?_ | refine zT rfl (by assumption) ?_ | refine zF rfl (by assumption) ?_ | refine zFld (f := 0) rfl O_api_Ins_Op ?_ | refine zFld (f := 4) rfl O_api_Ins_N ?_ | refine zLd (ty := 5) rfl (Bx.ld (by assumption) (by rfl) E_uint8 rfl) ?_)
      refine zStB b1 rfl rfl E_int64 rfl rfl (by simp [Value.cells]) (by simp [Value.cells, insV, Ins.cells]) fun H2 f2 b2 n2 => ?_
      (repeat first | refine zNil rfl ?_)
      exact ⟨(), st H2 f2 b2 e, rfl, rfl, trivial⟩
    cases c10 : i.op == 10
    case true =>
      have e : num i = 1 := by unfold num; rw [c5, c6, c7, c8, c10]; rfl
      (repeat first | refine zSeq ?_ | refine zReg ?_ | refine zBlk ?_ | refine zNil rfl ?_ | refine zEql rfl rfl ?_ | refine zT rfl (by assumption) ?_ | refine zF rfl (by assumption) ?_ | refine zFld (f := 0) rfl O_api_Ins_Op ?_ | refine zFld (f := 4) rfl O_api_Ins_N ?_ | refine zLd (ty := 5) rfl (Bx.ld (by assumption) (by rfl) E_uint8 rfl) ?_)
      refine zStB b1 rfl rfl E_int64 rfl rfl (by simp [Value.cells]) (by simp [Value.cells, insV, Ins.cells]) fun H2 f2 b2 n2 => ?_
      (repeat first | refine zNil rfl ?_)
      exact ⟨(), st H2 f2 b2 e, rfl, rfl, trivial⟩
    have e : num i = i.n := by unfold num; rw [c5, c6, c7, c8, c10]; rfl
    (repeat first | refine zSeq ?_ | refine zReg ?_ | refine zBlk ?_ | refine zSkp ?_ | refine zNil rfl ?_ | refine zEql rfl rfl ?_ | refine zF rfl (by assumption) ?_ | refine zFld (f := 0) rfl O_api_Ins_Op ?_ | refine zLd (ty := 5) rfl (Bx.ld (by assumption) (by rfl) E_uint8 rfl) ?_)
    exact ⟨(), ⟨.refl _ _ _, by unfold numI; rw [e]; exact b1⟩, rfl, rfl, trivial⟩
  rintro _ H2 ⟨f2, b2⟩
  have f12 : Fr H H2 := f1.young f2 (by simp) (by simp)
  have hn2 := f2.1
  replace hv := hv.frX f2
  replace hg := hg.fr f12
  have hv2 := hv
  have hg2 := hg
  clear b1 f1 f2
  (repeat first | refine zSeq ?_ | refine zReg ?_)
  refine WL.op (op_build rfl build39) ?_
  refine zLit rfl E_s_api_Ins E_api_Ins (by rw [te_api_Ins_size]; decide) fill39z (by decide) fun H3 f3 b3 n3 => ?_
  (repeat first | refine zSeq ?_ | refine zReg ?_ | refine zNil rfl ?_)
  refine zMkS (n := 1) (m := 1) rfl rfl E_s_api_Mem E_api_Mem (by decide) (by rw [te_api_Mem_bytes]; decide) (by decide) mk160 fun H4 f4 b4 n4 => ?_
  refine zMkS (n := 1) (m := 1) rfl rfl E_s_string E_string (by decide) (by decide) (by decide) rfl fun H5 f5 b5 n5 => ?_
  replace b4 := b4.fr f5
  replace b3 := (b3.fr f4).fr f5
  replace b2 := ((b2.fr f3).fr f4).fr f5
  (repeat first | refine zGet rfl ?_)
  refine WL.op (op_build rfl build163a) ?_
  (repeat first | refine zGet rfl ?_ | refine zFld (f := 5) rfl O_api_Ins_Args ?_ | refine zLd (ty := 32) rfl (Bx.ld (by assumption) (by rfl) E_s_int rfl) ?_ | refine zLen rfl (hv.len E_s_int) ?_)
  refine WL.op (op_build rfl build163b) ?_
  refine zLit rfl E_s_api_Fun E_api_Fun (by rw [te_api_Fun_size]; decide) fill164 (by decide) fun H6 f6 b6 n6 => ?_
  refine WL.op (op_build rfl build166) ?_
  refine zAlc E_api_Prog zero166 fun H7 f7 b7 n7 => ?_
  replace b6 := b6.fr f7
  replace b5 := (b5.fr f6).fr f7
  replace b4 := (b4.fr f6).fr f7
  replace b3 := (b3.fr f6).fr f7
  replace b2 := (b2.fr f6).fr f7
  have f27 := ((((f3.trans f4).trans f5).trans f6).trans f7)
  replace hv := hv.fr f27
  replace hg := hg.fr f27
  have hn7 := f27.1
  refine zStB b7 rfl rfl E_api_Prog (by rw [te_api_Prog_size]; rfl) rfl (by simp [Value.cells]) (by simp [Value.cells]) fun H8 f8 b8 n8 => ?_
  have h6 : ∀ b, b < H6.next → b ∉ [H6.next] := fun b h => by simp; omega
  replace b6 := b6.frX f8 (h6 _ (by omega))
  replace b5 := b5.frX f8 (h6 _ (by omega))
  replace b4 := b4.frX f8 (h6 _ (by omega))
  replace b3 := b3.frX f8 (h6 _ (by omega))
  replace b2 := b2.frX f8 (h6 _ (by omega))
  have f28 : Fr H2 H8 := (((f3.trans f4).trans f5).trans f6).young ((f7.x _ _).trans f8 (fun b hb _ => hb) (fun b hb _ => hb)) (by simp; omega) (by simp)
  have hcode : Els 6 InsR .no H8 (.slice (some ⟨H2.next, 0, none⟩) 1 1) [zeroI] := b3.els (by simp) fun j hj => by
    obtain rfl : j = 0 := by simp at hj; omega
    exact ⟨.slice none 0 0, rfl, Sr.nil⟩
  have hm : Els 3 MemR .no H8 (.slice (some ⟨H3.next, 0, none⟩) 1 1) (p0 regs i).mems := b4.els (by simp [p0]) fun j hj => by
    obtain rfl : j = 0 := by simp [p0] at hj; omega
    rfl
  have hl : Els 1 StrR .no H8 (.slice (some ⟨H4.next, 0, none⟩) 1 1) (p0 regs i).locks := b5.els (by simp [p0]; rfl) fun j hj => by
    obtain rfl : j = 0 := by simp [p0] at hj; omega
    rfl
  have hf : Els 5 FunR .no H8 (.slice (some ⟨H5.next, 0, none⟩) 2 2) (p0 regs i).funs := b6.els (by simp [p0]) fun j hj => by
    have : j = 0 ∨ j = 1 := by simp [p0] at hj; omega
    rcases this with rfl | rfl
    · exact ⟨_, rfl, hcode⟩
    · exact ⟨_, rfl, hcode⟩
  obtain ⟨_, H9, hc9, rfl, f9⟩ := codeMayIns2_c (H := H8) (p := p0 regs i) (i := numI i) (k := 0) hO (hg2.fr f28) (by simp [p0]) hm hl hf (hv2.fr f28) (by show i.args.length ≤ 100000; omega) hop
  (repeat first | refine zSeq ?_ | refine zReg ?_ | refine zNil rfl ?_)
  refine zLd rfl (b8.ldN E_api_Prog te_api_Prog_agg (by rw [te_api_Prog_size]; rfl)) ?_
  refine zLd rfl (b2.ldN E_api_Ins te_api_Ins_agg (by rw [te_api_Ins_size]; rfl)) ?_
  refine WL.call rfl rfl is_code_MayIns hc9 ?_
  (repeat first | refine zNil rfl ?_)
  exact WP.ret ⟨.inr rfl, _, rfl, rfl, (f12.trans f28).trans f9⟩
end Go.Proofs.YtfhmdhndmlinkaaDoor.U

/-
  Contracts of flow: a block.
-/
namespace Go.Proofs.YtfhmdhndmlinkaaDoor.U
open Go Go.Ev
attribute [local irreducible] WL WP WH W
noncomputable def te_f122 : TI := match V.E 122 with
  | some t => t
  | none => ⟨.bool, 0, 0, .nilFunc⟩
theorem E_f122 : V.E 122 = some te_f122 := by kernel_rfl
theorem te_f122_size : te_f122.size = 1 := by kernel_rfl
theorem te_f122_agg : Desc.agg te_f122.desc = false := by kernel_rfl
theorem te_f122_zero : te_f122.zv.cells.toList = [.nilFunc] := by kernel_rfl
attribute [local irreducible] V
variable {O : Orc} {H : AH}
theorem blockQ1_c (hO : NoO O) {b : Nat} {regs : Int} (hb : Bx H b 3 [.int .i64 regs]) (r : Int) : Lc V O F_flow_block_q1 [.int .i64 r, .pointer (some ⟨b, 0, none⟩)] H (.bool (!Flo.within regs r)) H := by
  refine Lc.of_eq (Lc.flow_block_q1 (R := fun u H' => u = .bool (!Flo.within regs r) ∧ H' = H) (hO _ _ _ (by decide) (by decide) (by decide) (by decide)) (Nat.le_of_ble_eq_true rfl) (by kernel_rfl) ?_)
  unfold P_flow_block_q1
  cases c1 : decide (r < 0)
  · (repeat first | refine zSeq ?_ | refine zReg ?_ | refine zNil rfl ?_ | refine zGet rfl ?_ | refine zOn rfl (by assumption) ?_ | refine zMov rfl ?_ | refine zAsg rfl ?_ | refine zPF rfl (by assumption) rfl ?_ | refine zLss rfl rfl ?_ | refine zGeq rfl rfl ?_ | refine zLd (ty := 3) rfl (Bx.ld (by assumption) (by rfl) E_int rfl) ?_)
    exact WP.ret ⟨.inr rfl, _, rfl, by unfold Flo.within; rw [c1, Bool.false_or, Bool.not_not]; rfl, rfl⟩
  · (repeat first | refine zSeq ?_ | refine zReg ?_ | refine zNil rfl ?_ | refine zGet rfl ?_ | refine zOff rfl (by assumption) ?_ | refine zAsg rfl ?_ | refine zPT rfl (by assumption) rfl ?_ | refine zLss rfl rfl ?_)
    exact WP.ret ⟨.inr rfl, _, rfl, by unfold Flo.within; rw [c1]; rfl, rfl⟩
theorem any_not {α : Type} (p : α → Bool) (l : List α) : (l.any fun x => !p x) = !l.all p := by
  rw [List.not_all_eq_any_not]
theorem blockQ2_c (hO : NoO O) {A : Av} {b1 b2 b3 : Nat} {regs : Int} {vp vc vf vt : Value} {nf : Nat} (h1 : Bx H b1 122 [.func (.func 93) #[] #[.pointer (some ⟨b2, 0, none⟩)]]) (h2 : Bx H b2 3 [.int .i64 regs]) (h3 : Bx H b3 34 [vp, vc, vf, vt]) (hf2 : ∀ Hz, aLen V.E Hz 32 vf = some (.int .i64 nf)) {p : Ev.Phi} {cs : List Value} (hp : PhiR A H cs p) (hL : p.args.length ≤ 1000000) :
    ∃ u H', Lc V O F_flow_block_q2 [.agg cs.toArray, .pointer (some ⟨b1, 0, none⟩), .pointer (some ⟨b3, 0, none⟩)] H u H' ∧ (u = .bool (!Flo.phiOk regs nf p) ∧ Fr H H') := by
  obtain ⟨va, rfl, hv⟩ := hp
  refine Lc.flow_block_q2 (R := fun u H' => u = .bool (!Flo.phiOk regs nf p) ∧ Fr H H') (hO _ _ _ (by decide) (by decide) (by decide) (by decide)) (Nat.le_of_ble_eq_true rfl) (by kernel_rfl) ?_
  unfold P_flow_block_q2
  refine zSeq ?_
  refine zReg ?_
  refine zBox rfl (fun _ => rfl) fun H1 f1 b0 n1 => ?_
  replace h1 := h1.fr f1
  replace h2 := h2.fr f1
  replace h3 := h3.fr f1
  replace hv := hv.fr f1
  (repeat first | refine zSeq ?_ | refine zReg ?_ | refine zNil rfl ?_ | refine zAsg rfl ?_ | refine zLd (ty := 3) rfl (Bx.ld (by assumption) (by rfl) E_int rfl) ?_ | refine zFld (f := 0) rfl O_api_Phi_R ?_ | refine zLd (ty := 122) rfl (Bx.ld (by assumption) (by rfl) E_f122 te_f122_agg) ?_)
  refine WL.call rfl rfl (by rw [fn_flow_block_q1]; rfl) (blockQ1_c hO h2 p.r) ?_
  cases c1 : Flo.within regs p.r
  · (repeat first | refine zNil rfl ?_ | refine zOff rfl rfl ?_ | refine zPT rfl rfl rfl ?_)
    exact WP.ret ⟨.inr rfl, _, rfl, by unfold Flo.phiOk; rw [c1]; rfl, f1⟩
  cases c2 : (p.args.length : Int) != nf
  case true =>
    (repeat first | refine zOn rfl rfl ?_ | refine zLd (ty := 32) rfl (Bx.ld (by assumption) (by rfl) E_s_int rfl) ?_ | refine zLen rfl (hv.len E_s_int) ?_ | refine zFld (f := 2) rfl O_api_Block_From ?_ | refine zFld (f := 1) rfl O_api_Phi_Args ?_)
    refine zLen rfl (hf2 _) ?_
    (repeat first | refine zNil rfl ?_ | refine zOn rfl rfl ?_ | refine zOff rfl (by assumption) ?_ | refine zPF rfl rfl rfl ?_ | refine zPT rfl (by assumption) rfl ?_ | refine zNeq rfl rfl ?_)
    refine WP.ret ⟨.inr rfl, _, rfl, ?_, f1⟩
    have : ((p.args.length : Int) == nf) = false := by simpa [bne] using c2
    unfold Flo.phiOk; rw [c1, this]; rfl
  obtain ⟨H2, hc2, f2⟩ := containsFunc_int_c (H := H1) (f := 93) (cap := #[.pointer (some ⟨b2, 0, none⟩)]) (p := fun r => !Flo.within regs r) hO hv hL (by rw [fn_flow_block_q1]; rfl) (fun x _ Hx fx => ⟨Hx, blockQ1_c hO (h2.fr fx) x, .refl _⟩)
  (repeat first | refine zOn rfl rfl ?_ | refine zLd (ty := 32) rfl (Bx.ld (by assumption) (by rfl) E_s_int rfl) ?_ | refine zLen rfl (hv.len E_s_int) ?_ | refine zFld (f := 2) rfl O_api_Block_From ?_ | refine zFld (f := 1) rfl O_api_Phi_Args ?_)
  refine zLen rfl (hf2 _) ?_
  (repeat first | refine zOn rfl rfl ?_ | refine zOn rfl (by assumption) ?_ | refine zPF rfl rfl rfl ?_ | refine zNeq rfl rfl ?_ | refine zLd (ty := 32) rfl (Bx.ld (by assumption) (by rfl) E_s_int rfl) ?_ | refine zFld (f := 1) rfl O_api_Phi_Args ?_ | refine zLd (ty := 122) rfl (Bx.ld (by assumption) (by rfl) E_f122 te_f122_agg) ?_)
  refine WL.call rfl rfl is_slices_ContainsFunc_s_int_int hc2 ?_
  (repeat first | refine zNil rfl ?_ | refine zPF rfl (by assumption) rfl ?_)
  refine WP.ret ⟨.inr rfl, _, rfl, ?_, f1.trans f2⟩
  have : ((p.args.length : Int) == nf) = true := by simpa [bne] using c2
  unfold Flo.phiOk; rw [c1, this, any_not]; rfl
set_option maxHeartbeats 2000000 in
theorem block_c (hO : NoO O) (hg : GH H) {A : Av} {b : Block} {cs : List Value} (hb : BlockR A H cs b) (regs : Int) (hop : ∀ i ∈ b.code, 0 ≤ i.op ∧ i.op < 256) (hLc : b.code.length ≤ 1000000) (hLp : b.phis.length ≤ 1000000) (hLa : ∀ p ∈ b.phis, p.args.length ≤ 1000000) :
    ∃ u H', Lc V O F_flow_block [.agg cs.toArray, .int .i64 regs] H u H' ∧ (u = .bool (Flo.blockOk mi regs b) ∧ Fr H H') := by
  obtain ⟨vp, vc, vf, vt, rfl, hp, hc, hf, ht2⟩ := hb
  refine Lc.flow_block (R := fun u H' => u = .bool (Flo.blockOk mi regs b) ∧ Fr H H') (hO _ _ _ (by decide) (by decide) (by decide) (by decide)) (Nat.le_of_ble_eq_true rfl) (by kernel_rfl) ?_
  unfold P_flow_block
  refine zSeq ?_
  refine zReg ?_
  refine zBox rfl (fun _ => rfl) fun H1 f1 b1 n1 => ?_
  refine zBox rfl (fun _ => rfl) fun H2 f2 b2 n2 => ?_
  replace b1 := b1.fr f2
  have b1' : Bx H2 H.next 34 [vp, vc, vf, vt] := b1
  have b2' : Bx H2 H1.next 3 [.int .i64 regs] := b2
  have f12 := f1.trans f2
  replace hg := hg.fr f12
  replace hp := hp.fr PhiR.m f12
  replace hc := hc.fr InsR.m f12
  clear b1 b2
  (repeat first | refine zNil rfl ?_ | refine zAsg rfl ?_)
  refine zSeq ?_
  (repeat first | refine zReg ?_ | refine zNil rfl ?_ | refine zAsg rfl ?_)
  refine WP.seqS (σ := Unit) (fun _ => [(2, .pointer (some ⟨H.next, 0, none⟩)), (3, .pointer (some ⟨H1.next, 0, none⟩)), (5, .int .i64 (Flo.toOf b.code))]) (fun _ Hc => Fr H2 Hc ∧ Flo.codeOk mi regs b.code.length 0 b.code = true) ?_ ?_
  · have hlen : ∀ Hz, aLen V.E Hz 31 vc = some (.int .i64 b.code.length) := fun Hz => hc.len E_s_api_Ins
    (repeat first | refine zSeq ?_ | refine zReg ?_ | refine zBlk ?_ | refine zNil rfl ?_ | refine zMov rfl ?_ | refine zLd (ty := 31) rfl (Bx.ld (by assumption) (by rfl) E_s_api_Ins rfl) ?_ | refine zLen rfl (hc.len E_s_api_Ins) ?_ | refine zFld (f := 1) rfl O_api_Block_Code ?_)
    refine WP.loopH (σ := Nat) (fun k => [(2, .pointer (some ⟨H.next, 0, none⟩)), (3, .pointer (some ⟨H1.next, 0, none⟩)), (5, .int .i64 ((b.code.take k).foldl Flo.toN 1)), (10, vc), (11, .int .i64 b.code.length), (12, .int .i64 k)])
      (fun k Hc => Fr H2 Hc ∧ k ≤ b.code.length ∧ ∀ j (h : j < b.code.length), j < k → Flo.insOk mi regs b.code.length j b.code[j] = true) (fun k => b.code.length - k) 0 ⟨.refl _, Nat.zero_le _, fun j _ h => absurd h (by omega)⟩ ⟨rfl, rfl, rfl, rfl, rfl, rfl, trivial⟩ ?_
    rintro k Hc ⟨hfr, hk, hpre⟩
    rcases Nat.lt_or_ge k b.code.length with h | h
    · have g1 : decide ((k : Int) < b.code.length) = true := decide_eq_true (by omega)
      obtain ⟨bl, off, cs, ha1, hrd, va, rfl, hv⟩ := (hc.fr InsR.m hfr).at E_s_api_Ins E_api_Ins te_api_Ins_size (kd := .i64) h
      have hl1 := hrd.loadN (V := V) E_api_Ins te_api_Ins_agg te_api_Ins_size
      generalize hi : b.code[k] = i at *
      have hopi : 0 ≤ i.op ∧ i.op < 256 := hop i (by rw [← hi]; exact List.getElem_mem _)
      have hb1 := b1'.fr hfr
      have hb2 := b2'.fr hfr
      (repeat first | refine zSeq ?_ | refine zReg ?_ | refine zBlk ?_ | refine zSkp ?_ | refine zNil rfl ?_ | refine zGet rfl ?_ | refine zLss rfl rfl ?_ | refine zT rfl (by assumption) ?_ | refine zIdx rfl rfl ha1 ?_ | refine zLd rfl hl1 ?_)
      refine zAlc E_api_Ins zero39 fun H3 f3 b3 n3 => ?_
      refine zStB b3 rfl rfl E_api_Ins (by rw [te_api_Ins_size]; rfl) (by have := hv.oneCell; simp [Value.cells, Ins.cells, Value.oneCell'] at this ⊢; exact this) (by simp [Value.cells, Ins.cells]) (by simp [Value.cells, Ins.cells]) fun H4 f4 b4 n4 => ?_
      have b4' : Bx H4 Hc.next 39 (i.cells va) := b4
      have f34 : Fr Hc H4 := f3.young f4 (by simp) (by simp)
      obtain ⟨_, H5, hc5, rfl, f5⟩ := flowMayIns_c (H := H4) (i := i) (va := va) hO ((hg.fr hfr).fr f34) regs (hv.fr f34) hopi
      have f35 := f34.trans f5
      have fr5 := hfr.trans f35
      replace b4' := b4'.fr f5
      replace hb1 := hb1.fr f34
      replace hb2 := hb2.fr f34
      (repeat first | refine zSeq ?_ | refine zReg ?_ | refine zNil rfl ?_)
      refine zLd rfl (b4.ldN E_api_Ins te_api_Ins_agg (by rw [te_api_Ins_size]; rfl)) ?_
      (repeat first | refine zLd (ty := 3) rfl (Bx.ld (by assumption) (by rfl) E_int rfl) ?_)
      refine WL.call rfl rfl is_flow_mayIns hc5 ?_
      replace hb1 := hb1.fr f5
      replace hb2 := hb2.fr f5
      clear b3 b4 f3 f4 hc5
      have bad : Flo.insOk mi regs b.code.length k b.code[k] = false → Flo.blockOk mi regs b = false := fun hbad => by
        have : Flo.codeOk mi regs b.code.length 0 b.code = false := by
          cases e : Flo.codeOk mi regs b.code.length 0 b.code with
          | false => rfl
          | true => have := Flo.codeOk_iff.1 e k h; rw [Nat.zero_add, hbad] at this; cases this
        unfold Flo.blockOk; rw [this]; rfl
      rw [hi] at bad
      unfold Flo.insOk at bad
      cases c1 : mi regs i
      · rw [c1] at bad
        (repeat first | refine zSeq ?_ | refine zReg ?_ | refine zNil rfl ?_ | refine zOff rfl rfl ?_ | refine zU rfl ?_ | refine zAsg rfl ?_ | refine zPT rfl rfl rfl ?_ | refine zNot rfl ?_ | refine zT rfl rfl ?_)
        exact WP.ret ⟨.inr rfl, _, rfl, by rw [bad rfl]; rfl, f12.trans fr5⟩
      have hfold : (b.code.take (k + 1)).foldl Flo.toN 1 = Flo.toN ((b.code.take k).foldl Flo.toN 1) i := by
        rw [List.take_add_one, List.getElem?_eq_getElem h, hi, Option.toList_some, List.foldl_append]; rfl
      have hpre' : Flo.insOk mi regs b.code.length k i = true → ∀ j (h : j < b.code.length), j < k + 1 → Flo.insOk mi regs b.code.length j b.code[j] = true := fun hok j hj hjk => by
        by_cases e : j = k
        · subst e; rw [hi]; exact hok
        · exact hpre j hj (by omega)
      have fin : Flo.insOk mi regs b.code.length k i = true → ∀ {lz : SL}, Kn lz [(2, .pointer (some ⟨H.next, 0, none⟩)), (3, .pointer (some ⟨H1.next, 0, none⟩)), (5, .int .i64 (Flo.toN ((b.code.take k).foldl Flo.toN 1) i)), (10, vc), (11, .int .i64 b.code.length), (12, .int .i64 ((k : Int) + 1))] →
          ∃ s', (Fr H2 H5 ∧ s' ≤ b.code.length ∧ ∀ j (h : j < b.code.length), j < s' → Flo.insOk mi regs b.code.length j b.code[j] = true) ∧ b.code.length - s' < b.code.length - k ∧ Kn lz [(2, .pointer (some ⟨H.next, 0, none⟩)), (3, .pointer (some ⟨H1.next, 0, none⟩)), (5, .int .i64 ((b.code.take s').foldl Flo.toN 1)), (10, vc), (11, .int .i64 b.code.length), (12, .int .i64 s')] := fun hok lz hk =>
        ⟨k + 1, ⟨fr5, h, hpre' hok⟩, by omega, by rw [hfold]; exact hk⟩
      have good : Flo.insOk mi regs b.code.length k i = true → WP V O (some (liveOf Tryd.f60 c_flow_block)) Tryd.f60.ntmps (.skip) [] H5 (fun _ _ _ => True) := fun _ => .skip trivial
      clear good
      cases c2 : Flo.ends i.op
      · have hok : Flo.insOk mi regs b.code.length k i = true := by unfold Flo.insOk; rw [c1, c2]; rfl
        cases d1 : i.op == 12
        · cases d2 : i.op == 13
          · have et : ∀ t, Flo.toN t i = t := fun t => by unfold Flo.toN; rw [d1, d2]; rfl
            rw [et] at fin
            (repeat first | refine zOn rfl rfl ?_ | refine zNot rfl ?_ | refine zFld (f := 0) rfl O_api_Ins_Op ?_ | refine zLd (ty := 5) rfl (Bx.ld (by assumption) (by rfl) E_uint8 rfl) ?_)
            refine WL.call rfl rfl is_flow_ends (ends_c hO i.op) ?_
            (repeat first | refine zSeq ?_ | refine zReg ?_ | refine zBlk ?_ | refine zSkp ?_ | refine zNil rfl ?_ | refine zOn rfl rfl ?_ | refine zOff rfl (by assumption) ?_ | refine zMov rfl ?_ | refine zPF rfl rfl rfl ?_ | refine zPF rfl (by assumption) rfl ?_ | refine zEql rfl rfl ?_ | refine zAdd rfl rfl (by omega) ?_ | refine zF rfl rfl ?_ | refine zF rfl (by assumption) ?_ | refine zFld (f := 0) rfl O_api_Ins_Op ?_ | refine zLd (ty := 5) rfl (Bx.ld (by assumption) (by rfl) E_uint8 rfl) ?_)
            exact fin hok ⟨rfl, rfl, rfl, rfl, rfl, rfl, trivial⟩
          · exfalso; unfold Flo.ends at c2; rw [d2] at c2; simp at c2
        · exfalso; unfold Flo.ends at c2; rw [d1] at c2; simp at c2
      · cases c3 : decide ((k : Int) + 1 < b.code.length)
        case true =>
          have hbad : Flo.blockOk mi regs b = false := bad (by
            have : decide (k + 1 < b.code.length) = true := decide_eq_true (by have := of_decide_eq_true c3; omega)
            rw [c1, c2, this]; rfl)
          (repeat first | refine zOn rfl rfl ?_ | refine zNot rfl ?_ | refine zFld (f := 0) rfl O_api_Ins_Op ?_ | refine zLd (ty := 5) rfl (Bx.ld (by assumption) (by rfl) E_uint8 rfl) ?_)
          refine WL.call rfl rfl is_flow_ends (ends_c hO i.op) ?_
          (repeat first | refine zSeq ?_ | refine zReg ?_ | refine zNil rfl ?_ | refine zOn rfl rfl ?_ | refine zOn rfl (by assumption) ?_ | refine zMov rfl ?_ | refine zAsg rfl ?_ | refine zPF rfl rfl rfl ?_ | refine zPT rfl (by assumption) rfl ?_ | refine zLss rfl rfl ?_ | refine zAdd rfl rfl (by omega) ?_ | refine zT rfl (by assumption) ?_ | refine zLd (ty := 31) rfl (Bx.ld (by assumption) (by rfl) E_s_api_Ins rfl) ?_ | refine zLen rfl (hc.len E_s_api_Ins) ?_ | refine zFld (f := 1) rfl O_api_Block_Code ?_)
          exact WP.ret ⟨.inr rfl, _, rfl, by rw [hbad]; rfl, f12.trans fr5⟩
        have hok : Flo.insOk mi regs b.code.length k i = true := by
          have : decide (k + 1 < b.code.length) = false := decide_eq_false (by have := of_decide_eq_false c3; omega)
          unfold Flo.insOk; rw [c1, c2, this]; rfl
        cases d1 : i.op == 12
        · cases d2 : i.op == 13
          · have et : ∀ t, Flo.toN t i = t := fun t => by unfold Flo.toN; rw [d1, d2]; rfl
            rw [et] at fin
            (repeat first | refine zOn rfl rfl ?_ | refine zNot rfl ?_ | refine zFld (f := 0) rfl O_api_Ins_Op ?_ | refine zLd (ty := 5) rfl (Bx.ld (by assumption) (by rfl) E_uint8 rfl) ?_)
            refine WL.call rfl rfl is_flow_ends (ends_c hO i.op) ?_
            (repeat first | refine zSeq ?_ | refine zReg ?_ | refine zBlk ?_ | refine zSkp ?_ | refine zNil rfl ?_ | refine zOn rfl rfl ?_ | refine zOn rfl (by assumption) ?_ | refine zMov rfl ?_ | refine zPF rfl rfl rfl ?_ | refine zPT rfl (by assumption) rfl ?_ | refine zLss rfl rfl ?_ | refine zEql rfl rfl ?_ | refine zAdd rfl rfl (by omega) ?_ | refine zF rfl (by assumption) ?_ | refine zFld (f := 0) rfl O_api_Ins_Op ?_ | refine zLd (ty := 5) rfl (Bx.ld (by assumption) (by rfl) E_uint8 rfl) ?_ | refine zLd (ty := 31) rfl (Bx.ld (by assumption) (by rfl) E_s_api_Ins rfl) ?_ | refine zLen rfl (hc.len E_s_api_Ins) ?_ | refine zFld (f := 1) rfl O_api_Block_Code ?_)
            exact fin hok ⟨rfl, rfl, rfl, rfl, rfl, rfl, trivial⟩
          · have et : ∀ t, Flo.toN t i = 0 := fun t => by unfold Flo.toN; rw [d1, d2]; rfl
            rw [et] at fin
            (repeat first | refine zOn rfl rfl ?_ | refine zNot rfl ?_ | refine zFld (f := 0) rfl O_api_Ins_Op ?_ | refine zLd (ty := 5) rfl (Bx.ld (by assumption) (by rfl) E_uint8 rfl) ?_)
            refine WL.call rfl rfl is_flow_ends (ends_c hO i.op) ?_
            (repeat first | refine zSeq ?_ | refine zReg ?_ | refine zBlk ?_ | refine zSkp ?_ | refine zNil rfl ?_ | refine zOn rfl rfl ?_ | refine zOn rfl (by assumption) ?_ | refine zMov rfl ?_ | refine zAsg rfl ?_ | refine zPF rfl rfl rfl ?_ | refine zPT rfl (by assumption) rfl ?_ | refine zLss rfl rfl ?_ | refine zEql rfl rfl ?_ | refine zAdd rfl rfl (by omega) ?_ | refine zT rfl (by assumption) ?_ | refine zF rfl (by assumption) ?_ | refine zFld (f := 0) rfl O_api_Ins_Op ?_ | refine zLd (ty := 5) rfl (Bx.ld (by assumption) (by rfl) E_uint8 rfl) ?_ | refine zLd (ty := 31) rfl (Bx.ld (by assumption) (by rfl) E_s_api_Ins rfl) ?_ | refine zLen rfl (hc.len E_s_api_Ins) ?_ | refine zFld (f := 1) rfl O_api_Block_Code ?_)
            exact fin hok ⟨rfl, rfl, rfl, rfl, rfl, rfl, trivial⟩
        · have et : ∀ t, Flo.toN t i = 2 := fun t => by unfold Flo.toN; rw [d1]; rfl
          rw [et] at fin
          (repeat first | refine zOn rfl rfl ?_ | refine zNot rfl ?_ | refine zFld (f := 0) rfl O_api_Ins_Op ?_ | refine zLd (ty := 5) rfl (Bx.ld (by assumption) (by rfl) E_uint8 rfl) ?_)
          refine WL.call rfl rfl is_flow_ends (ends_c hO i.op) ?_
          (repeat first | refine zSeq ?_ | refine zReg ?_ | refine zBlk ?_ | refine zSkp ?_ | refine zNil rfl ?_ | refine zOn rfl rfl ?_ | refine zOn rfl (by assumption) ?_ | refine zMov rfl ?_ | refine zAsg rfl ?_ | refine zPF rfl rfl rfl ?_ | refine zPT rfl (by assumption) rfl ?_ | refine zLss rfl rfl ?_ | refine zEql rfl rfl ?_ | refine zAdd rfl rfl (by omega) ?_ | refine zT rfl (by assumption) ?_ | refine zF rfl (by assumption) ?_ | refine zFld (f := 0) rfl O_api_Ins_Op ?_ | refine zLd (ty := 5) rfl (Bx.ld (by assumption) (by rfl) E_uint8 rfl) ?_ | refine zLd (ty := 31) rfl (Bx.ld (by assumption) (by rfl) E_s_api_Ins rfl) ?_ | refine zLen rfl (hc.len E_s_api_Ins) ?_ | refine zFld (f := 1) rfl O_api_Block_Code ?_)
          exact fin hok ⟨rfl, rfl, rfl, rfl, rfl, rfl, trivial⟩
    · have g1 : decide ((k : Int) < b.code.length) = false := decide_eq_false (by omega)
      rw [List.take_of_length_le h]
      (repeat first | refine zSeq ?_ | refine zReg ?_ | refine zExt ?_ | refine zNil rfl ?_ | refine zLss rfl rfl ?_ | refine zF rfl (by assumption) ?_)
      exact ⟨(), ⟨hfr, Flo.codeOk_iff.2 fun j hj => by rw [Nat.zero_add]; exact hpre j hj (by omega)⟩, rfl, rfl, rfl, trivial⟩
  rintro _ H3 ⟨f3, hcode⟩
  replace b1' := b1'.fr f3
  replace b2' := b2'.fr f3
  replace hp := hp.fr PhiR.m f3
  have f13 := f12.trans f3
  have hn3 := f3.1
  have hbo : Flo.blockOk mi regs b = ((b.to.length : Int) == Flo.toOf b.code && b.phis.all (Flo.phiOk regs b.frm.length)) := by unfold Flo.blockOk; rw [hcode]; rfl
  rw [hbo]
  clear hbo hc f3 hg
  refine zSeq ?_
  refine zReg ?_
  refine WL.op (v := .func (.func 93) #[] #[.pointer (some ⟨H1.next, 0, none⟩)]) (H1 := H3) rfl ?_
  refine zAlc E_f122 te_f122_zero fun H4 f4 b4 n4 => ?_
  refine zStB b4 rfl rfl E_f122 (by rw [te_f122_size]; rfl) rfl (by simp [Value.cells]) (by simp [Value.cells]) fun H5 f5 b5 n5 => ?_
  have b5' : Bx H5 H3.next 122 [.func (.func 93) #[] #[.pointer (some ⟨H1.next, 0, none⟩)]] := b5
  have f35 : Fr H3 H5 := f4.young f5 (by simp) (by simp)
  replace b1' := b1'.fr f35
  replace b2' := b2'.fr f35
  replace hp := hp.fr PhiR.m f35
  have f15 := f13.trans f35
  clear f4 f5 b4 b5
  cases c1 : (b.to.length : Int) == Flo.toOf b.code
  · (repeat first | refine zSeq ?_ | refine zReg ?_ | refine zNil rfl ?_ | refine zGet rfl ?_ | refine zOff rfl (by assumption) ?_ | refine zPF rfl (by assumption) rfl ?_ | refine zEql rfl rfl ?_ | refine zLd (ty := 32) rfl (Bx.ld (by assumption) (by rfl) E_s_int rfl) ?_ | refine zFld (f := 3) rfl O_api_Block_To ?_ | refine zLen rfl (ht2.len E_s_int) ?_)
    exact WP.ret ⟨.inr rfl, _, rfl, rfl, f15⟩
  · obtain ⟨H6, hc6, f6⟩ := containsFunc_phi_c (H := H5) (f := 95) (cap := #[.pointer (some ⟨H3.next, 0, none⟩), .pointer (some ⟨H.next, 0, none⟩)]) (p := fun p => !Flo.phiOk regs b.frm.length p) hO hp hLp (by rw [fn_flow_block_q2]; rfl) (fun x hx cs Hx fx hR => by
      obtain ⟨_, Hy, h, rfl, fy⟩ := blockQ2_c (H := Hx) hO (b5'.fr fx) (b2'.fr fx) (b1'.fr fx) (fun Hz => hf.len E_s_int) hR (hLa x hx)
      exact ⟨Hy, h, fy⟩)
    (repeat first | refine zSeq ?_ | refine zReg ?_ | refine zNil rfl ?_ | refine zGet rfl ?_ | refine zOn rfl (by assumption) ?_ | refine zEql rfl rfl ?_ | refine zLd (ty := 32) rfl (Bx.ld (by assumption) (by rfl) E_s_int rfl) ?_ | refine zFld (f := 0) rfl O_api_Block_Phis ?_ | refine zFld (f := 3) rfl O_api_Block_To ?_ | refine zLd (ty := 30) rfl (Bx.ld (by assumption) (by rfl) E_s_api_Phi rfl) ?_ | refine zLen rfl (ht2.len E_s_int) ?_)
    refine WL.op (v := .func (.func 95) #[] #[.pointer (some ⟨H3.next, 0, none⟩), .pointer (some ⟨H.next, 0, none⟩)]) (H1 := H5) rfl ?_
    (repeat first | refine zOn rfl (by assumption) ?_)
    refine WL.call rfl rfl is_slices_ContainsFunc_s_api_Phi_api_Phi hc6 ?_
    (repeat first | refine zNil rfl ?_ | refine zOn rfl (by assumption) ?_ | refine zPT rfl (by assumption) rfl ?_ | refine zNot rfl ?_)
    refine WP.ret ⟨.inr rfl, _, rfl, ?_, f15.trans f6⟩
    rw [any_not, Bool.not_not]; rfl
end Go.Proofs.YtfhmdhndmlinkaaDoor.U

/-
  Contracts of flow: from which blocks one comes.
-/
namespace Go.Proofs.YtfhmdhndmlinkaaDoor.U
open Go Go.Ev
attribute [local irreducible] WL WP WH W
attribute [local irreducible] V
variable {O : Orc} {H : AH}
abbrev FV := Nat → Value × Option (Nat × Nat)
def wc (fv : FV) (tv : Nat → Value) (k : Nat) : List Value := [.slice none 0 0, .slice none 0 0, (fv k).1, tv k]
theorem wc_len (fv : FV) (tv : Nat → Value) (k : Nat) : (wc fv tv k).length = 4 := rfl
def Dj (o1 o2 : Option (Nat × Nat)) : Prop := (∀ b ∈ obs o1, b ∉ obs o2) ∧ (∀ g ∈ ogs o1, g ∉ ogs o2)
structure WS (Hc : AH) (w n0 n : Nat) (fv : FV) (tv : Nat → Value) (F : Nat → List Int) : Prop where
  bx : Bx Hc w 34 (rng n (wc fv tv))
  own : ∀ k, k < n → OwI 3 Hc n0 (fv k).1 (F k) (fv k).2
  dj : ∀ j k, j < n → k < n → j ≠ k → Dj (fv j).2 (fv k).2
  lt : w < n0
  nx : n0 ≤ Hc.next
section
variable {Hc H' : AH} {w n0 n : Nat} {fv : FV} {tv : Nat → Value} {F : Nat → List Int}
theorem WS.fr (h : WS Hc w n0 n fv tv F) (k : Fr Hc H') : WS H' w n0 n fv tv F := ⟨h.bx.fr k, fun j hj => (h.own j hj).fr k, h.dj, h.lt, Nat.le_trans h.nx k.1⟩
theorem WS.of_eq (h : WS Hc w n0 n fv tv F) {G : Nat → List Int} (e : ∀ k, k < n → F k = G k) : WS Hc w n0 n fv tv G := ⟨h.bx, fun j hj => by rw [← e j hj]; exact h.own j hj, h.dj, h.lt, h.nx⟩
theorem WS.at (h : WS Hc w n0 n fv tv F) (hn : n < 4611686018427387904) {i : Nat} (hi : i < n) : aIndex V.E 22 (.slice (some ⟨w, 0, none⟩) n n) (.int .i64 i) = some (.pointer (some ⟨w, 0 + i * 4, none⟩)) ∧ aLoad V.E Hc 32 (.pointer (some ⟨w, 0 + i * 4 + 2, none⟩)) = some (fv i).1 ∧ aLoad V.E Hc 32 (.pointer (some ⟨w, 0 + i * 4 + 3, none⟩)) = some (tv i) := by
  have hl := rng_len (wc_len fv tv) n
  have hr : Rd Hc w 0 (n * 4) (rng n (wc fv tv)) := h.bx.rd hl
  have hle : (i + 1) * 4 ≤ n * 4 := Nat.mul_le_mul_right 4 hi
  have h4 := hr.sub (i * 4) 4 (by omega)
  rw [rng_chunk (wc_len fv tv) hi] at h4
  refine ⟨?_, (h4.at1 (i := 2) rfl).load1 E_s_int rfl, (h4.at1 (i := 3) rfl).load1 E_s_int rfl⟩
  simp only [aIndex, E_s_api_Block, E_api_Block, te_api_Block_size]
  rw [if_pos ⟨by omega, by omega⟩]; rfl
theorem WS.setTo (h : WS Hc w n0 n fv tv F) {i : Nat} (hi : i < n) (v : Value) : ∃ H1, Hc.wr w (0 + i * 4 + 3) [v] = some H1 ∧ WS H1 w n0 n fv (fun j => if j = i then v else tv j) F ∧ FrX [w] [] Hc H1 := by
  have hl := rng_len (wc_len fv tv) n
  have hle : (i + 1) * 4 ≤ n * 4 := Nat.mul_le_mul_right 4 hi
  obtain ⟨H1, k1, k2, k3, k4⟩ := h.bx.wr (off := i * 4 + 3) (vs := [v]) (by simp) (by rw [hl]; simp; omega)
  rw [rng_splice (wc_len fv tv) hi (by simp)] at k2
  refine ⟨H1, by rw [Nat.zero_add]; exact k1, ⟨?_, fun j hj => (h.own j hj).frX k3 (fun b hb => by have := (h.own j hj).young.1 b hb; have := h.lt; simp; omega) (by simp), h.dj, h.lt, by rw [k4]; exact h.nx⟩, k3⟩
  have e : (rng n fun j => if j = i then splice (wc fv tv i) 3 [v] else wc fv tv j) = rng n (wc fv fun j => if j = i then v else tv j) := rng_congr fun j _ => by
    by_cases e : j = i
    · subst e; simp [wc, splice]
    · simp [wc, e]
  rw [e] at k2; exact k2
theorem WS.push (h : WS Hc w n0 n fv tv F) {i : Nat} (hi : i < n) (x : Int) (hL : (F i).length ≤ 999999) : ∃ v' H1 H2 o', (∀ {g : Ft} {y z : Operand}, g y = some (fv i).1 → g z = some (.slice (some ⟨Hc.next, 0, none⟩) 1 1) → aopG V g (Hc.alloc (.row 3 [.int .i64 x] .exact 0 0)) (.call ⟨.builtin .append, #[y, z], #[32, 32]⟩) = some (v', H1)) ∧ Value.oneCell' v' = true ∧ v'.cells.toList = [v'] ∧ H1.wr w (0 + i * 4 + 2) [v'] = some H2 ∧ WS H2 w n0 n (fun j => if j = i then (v', o') else fv j) tv (fun j => if j = i then F i ++ [x] else F j) ∧ (∀ Hb, Fr Hb Hc → Hb.next ≤ w → Fr Hb H2) := by
  obtain ⟨v', H1, o', k1, k2, k3, k4⟩ := (h.own i hi).app1 (V := V) x hL h.nx E_s_int E_s_int E_int (by decide)
  have hl := rng_len (wc_len fv tv) n
  have hle : (i + 1) * 4 ≤ n * 4 := Nat.mul_le_mul_right 4 hi
  have hw := h.lt
  have b1 := h.bx.frX k3 (fun hb => by have := (h.own i hi).young.1 w hb; omega)
  obtain ⟨H2, m1, m2, m3, m4⟩ := b1.wr (off := i * 4 + 2) (vs := [v']) (by simp) (by rw [hl]; simp; omega)
  rw [rng_splice (wc_len fv tv) hi (by simp)] at m2
  have ho' := k2.young
  have e : (rng n fun j => if j = i then splice (wc fv tv i) 2 [v'] else wc fv tv j) = rng n (wc (fun j => if j = i then (v', o') else fv j) tv) := rng_congr fun j _ => by
    by_cases e : j = i
    · subst e; simp [wc, splice]
    · simp [wc, e]
  rw [e] at m2
  have hv1 : Value.oneCell' v' = true ∧ v'.cells.toList = [v'] := by
    have hr : IntsR .no H1 v' (F i ++ [x]) := k2.rYoung .no
    obtain ⟨_, ⟨rfl, _⟩ | ⟨b, off, cap, rfl, _⟩⟩ := hr <;> exact ⟨rfl, rfl⟩
  refine ⟨v', H1, H2, o', k1, hv1.1, hv1.2, by rw [Nat.zero_add]; exact m1, ⟨m2, fun j hj => ?_, fun j k hj hk hjk => ?_, hw, by rw [m4]; exact Nat.le_trans h.nx k3.1⟩, fun Hb fb hbw => ?_⟩
  · by_cases e : j = i
    · subst e
      simp only [if_true]
      exact k2.frX m3 (fun b hb => by have := ho'.1 b hb; simp; omega) (by simp)
    · simp only [if_neg e]
      have d := h.dj j i hj hi e
      exact ((h.own j hj).frX k3 d.1 d.2).frX m3 (fun b hb => by have := (h.own j hj).young.1 b hb; simp; omega) (by simp)
  · have grow : ∀ j, j < n → j ≠ i → Dj (fv j).2 o' := fun j hj e => by
      have d := h.dj j i hj hi e
      have y := (h.own j hj).young
      exact ⟨fun b hb hb' => (k4.1 b hb').elim (fun h' => d.1 b hb h') (fun h' => by have := y.2.2.1 b hb; omega), fun g hg hg' => (k4.2 g hg').elim (fun h' => d.2 g hg h') (fun h' => by have := y.2.2.2 g hg; omega)⟩
    by_cases ej : j = i
    · subst ej
      simp only [if_true, if_neg (Ne.symm hjk)]
      have d := grow k hk (Ne.symm hjk)
      exact ⟨fun b h1 h2 => d.1 b h2 h1, fun b h1 h2 => d.2 b h2 h1⟩
    · by_cases ek : k = i
      · subst ek
        simp only [if_true, if_neg ej]
        exact grow j hj ej
      · simp only [if_neg ej, if_neg ek]
        exact h.dj j k hj hk hjk
  · have y := (h.own i hi).young
    exact (fb.young k3 (fun b hb => by have := y.1 b hb; omega) (fun b hb => by have := y.2.1 b hb; omega)).young m3 (by simp; omega) (by simp)
end
def FS (l : List Block) (k j : Nat) (to : List Int) (t : Nat) : List Int := Flo.fromOf l k t ++ if (to.take j).contains (t : Int) = true then [(k : Int)] else []
theorem fromOf_succ {l : List Block} {k : Nat} (h : k < l.length) (t : Int) : Flo.fromOf l (k + 1) t = Flo.fromOf l k t ++ if l[k].to.contains t = true then [(k : Int)] else [] := by
  unfold Flo.fromOf
  rw [List.range_succ, List.filter_append, List.map_append]
  congr 1
  rw [List.filter_cons, List.filter_nil, List.getElem?_eq_getElem h]
  simp only
  split <;> rfl
theorem FS_zero {l : List Block} {k : Nat} {to : List Int} (t : Nat) : FS l k 0 to t = Flo.fromOf l k t := by unfold FS; simp
theorem FS_all {l : List Block} {k : Nat} (h : k < l.length) (t : Nat) : FS l k l[k].to.length l[k].to t = Flo.fromOf l (k + 1) t := by unfold FS; rw [List.take_length, fromOf_succ h]
theorem fromOf_lt {l : List Block} {k : Nat} {t x : Int} (h : x ∈ Flo.fromOf l k t) : 0 ≤ x ∧ x < k := by
  unfold Flo.fromOf at h
  obtain ⟨y, hy, rfl⟩ := List.mem_map.1 h
  have := List.mem_range.1 (List.mem_filter.1 hy).1
  omega
theorem fromOf_length (l : List Block) (k : Nat) (t : Int) : (Flo.fromOf l k t).length ≤ k := by
  unfold Flo.fromOf
  rw [List.length_map]
  exact Nat.le_trans (List.length_filter_le _ _) (by simp)
theorem FS_length (l : List Block) (k j : Nat) (to : List Int) (t : Nat) : (FS l k j to t).length ≤ k + 1 := by
  unfold FS
  have := fromOf_length l k t
  rw [List.length_append]
  split <;> simp <;> omega
end Go.Proofs.YtfhmdhndmlinkaaDoor.U

/-
  Contracts of flow: from.
-/
namespace Go.Proofs.YtfhmdhndmlinkaaDoor.U
open Go Go.Ev
attribute [local irreducible] WL WP WH W
attribute [local irreducible] V
variable {O : Orc} {H : AH}
theorem take_contains {l : List Int} {j : Nat} (h : j < l.length) (x : Int) : (l.take (j + 1)).contains x = ((l.take j).contains x || (x == l[j])) := by
  rw [List.take_add_one, List.getElem?_eq_getElem h, Option.toList_some, List.contains_append]
  have : [l[j]].contains x = (x == l[j]) := by
    by_cases e : x = l[j] <;> simp [e]
  rw [this]
theorem FS_succ {l : List Block} {k j : Nat} {to : List Int} (h : j < to.length) {tn : Nat} (ht : to[j] = tn) (t : Nat) :
    FS l k (j + 1) to t = if t = tn then (if (to.take j).contains (tn : Int) = true then FS l k j to tn else FS l k j to tn ++ [(k : Int)]) else FS l k j to t := by
  unfold FS
  rw [take_contains h, ht]
  by_cases e : t = tn
  · subst e
    rw [if_pos rfl, beq_self_eq_true, Bool.or_true, if_pos rfl]
    split
    · rfl
    · simp
  · have : ((t : Int) == (tn : Int)) = false := by rw [beq_eq_false_iff_ne]; omega
    rw [if_neg e, this, Bool.or_false]
set_option maxHeartbeats 2000000 in
theorem from_c (hO : NoO O) {Hb : AH} {A : Av} {w n0 : Nat} {l : List Block} {fv : FV} {tv : Nat → Value} (hws : WS H w n0 l.length fv tv fun _ => []) (htv0 : ∀ k (h : k < l.length), IntsR A Hb (tv k) l[k].to) (hb : Fr Hb H) (hbw : Hb.next ≤ w) (hin : ∀ b ∈ l, ∀ t ∈ b.to, 0 ≤ t ∧ t < l.length) (hL : l.length ≤ 100000) (hLt : ∀ b ∈ l, b.to.length ≤ 1000000) :
    ∃ u H', Lc V O F_flow_from [.slice (some ⟨w, 0, none⟩) l.length l.length] H u H' ∧ (∃ fv', WS H' w n0 l.length fv' tv (fun t => Flo.fromOf l l.length t) ∧ Fr Hb H') := by
  refine Lc.flow_from (R := fun _ H' => ∃ fv', WS H' w n0 l.length fv' tv (fun t => Flo.fromOf l l.length t) ∧ Fr Hb H') (hO _ _ _ (by decide) (by decide) (by decide) (by decide)) (Nat.le_of_ble_eq_true rfl) (by kernel_rfl) ?_
  unfold P_flow_from
  have hwl : ∀ Hz, aLen V.E Hz 22 (.slice (some ⟨w, 0, none⟩) l.length l.length) = some (.int .i64 l.length) := fun Hz => by simp only [aLen, E_s_api_Block]
  (repeat first | refine zSeq ?_ | refine zReg ?_ | refine zBlk ?_ | refine zNil rfl ?_ | refine zGet rfl ?_ | refine zMov rfl ?_ | refine zLen rfl (hwl _) ?_)
  refine WP.loopH (σ := Nat × FV) (fun x => [(0, .slice (some ⟨w, 0, none⟩) l.length l.length), (7, .int .i64 l.length), (8, .int .i64 x.1)]) (fun x Hc => WS Hc w n0 l.length x.2 tv (fun t => Flo.fromOf l x.1 t) ∧ Fr Hb Hc ∧ x.1 ≤ l.length) (fun x => l.length - x.1) (0, fv) ⟨hws.of_eq fun k _ => rfl, hb, Nat.zero_le _⟩ ⟨rfl, rfl, rfl, trivial⟩ ?_
  rintro ⟨k, fv⟩ Hc ⟨hw, hfr, hk⟩
  simp only at hw hfr hk ⊢
  rcases Nat.lt_or_ge k l.length with h | h
  case inr =>
    have g1 : decide ((k : Int) < l.length) = false := decide_eq_false (by omega)
    obtain rfl : k = l.length := by omega
    (repeat first | refine zSeq ?_ | refine zReg ?_ | refine zExt ?_ | refine zNil rfl ?_ | refine zLss rfl rfl ?_ | refine zF rfl (by assumption) ?_)
    exact ⟨.inl rfl, _, rfl, fv, hw, hfr⟩
  have g1 : decide ((k : Int) < l.length) = true := decide_eq_true (by omega)
  have htv := (htv0 k h).fr hfr
  obtain ⟨hat, hxx, hlt⟩ := hw.at (by omega) h
  have hto := hin l[k] (List.getElem_mem _)
  have hLk := hLt l[k] (List.getElem_mem _)
  have hall := fun t => FS_all h t
  generalize hle : l[k].to = to at *
  (repeat first | refine zSeq ?_ | refine zReg ?_ | refine zBlk ?_ | refine zSkp ?_ | refine zNil rfl ?_ | refine zGet rfl ?_ | refine zMov rfl ?_ | refine zLss rfl rfl ?_ | refine zT rfl (by assumption) ?_ | refine zFld (f := 3) rfl O_api_Block_To ?_ | refine zLd (ty := 32) rfl hlt ?_ | refine zLen rfl (htv.len E_s_int) ?_ | refine zIdx rfl rfl hat ?_)
  refine WP.loopH (σ := Nat × FV) (fun x => [(0, .slice (some ⟨w, 0, none⟩) l.length l.length), (2, .int .i64 k), (7, .int .i64 l.length), (8, .int .i64 k), (15, tv k), (16, .int .i64 to.length), (17, .int .i64 x.1)]) (fun x Hc => WS Hc w n0 l.length x.2 tv (FS l k x.1 to) ∧ Fr Hb Hc ∧ x.1 ≤ to.length) (fun x => to.length - x.1) (0, fv) ⟨hw.of_eq fun t _ => (FS_zero t).symm, hfr, Nat.zero_le _⟩ ⟨rfl, rfl, rfl, rfl, rfl, rfl, rfl, trivial⟩ ?_
  clear hw hfr htv hat hlt hxx fv Hc
  rintro ⟨j, fv⟩ Hc ⟨hw, hfr, hj⟩
  simp only at hw hfr hj ⊢
  rcases Nat.lt_or_ge j to.length with h2 | h2
  case inr =>
    have g2 : decide ((j : Int) < to.length) = false := decide_eq_false (by omega)
    obtain rfl : j = to.length := by omega
    (repeat first | refine zSeq ?_ | refine zReg ?_ | refine zExt ?_ | refine zNil rfl ?_ | refine zLss rfl rfl ?_ | refine zAdd rfl rfl (by omega) ?_ | refine zF rfl (by assumption) ?_)
    exact ⟨(k + 1, fv), ⟨hw.of_eq fun t _ => hall t, hfr, h⟩, by simp only; omega, rfl, rfl, rfl, trivial⟩
  have g2 : decide ((j : Int) < to.length) = true := decide_eq_true (by omega)
  have htv : IntsR A Hc (tv k) to := by have := (htv0 k h).fr hfr; rw [hle] at this; exact this
  obtain ⟨bi, oi, hai, hli⟩ := htv.at E_s_int E_int (kd := .i64) h2
  obtain ⟨h01, h02⟩ := hto to[j] (List.getElem_mem _)
  obtain ⟨tn, htn⟩ : ∃ tn : Nat, to[j] = tn := ⟨to[j].toNat, by omega⟩
  have htl : tn < l.length := by omega
  have hsucc := fun t => FS_succ (l := l) (k := k) h2 htn t
  rw [htn] at hli
  obtain ⟨haf, hlf, _⟩ := hw.at (by omega) htl
  have hfv : IntsR .no Hc (fv tn).1 (FS l k j to tn) := (hw.own tn htl).rYoung .no
  have hFL := FS_length l k j to tn
  obtain ⟨v', H1, H2, o', k1, k2, k3, k4, k5, k6⟩ := hw.push htl (k : Int) (by omega)
  have fr2 := k6 Hb hfr hbw
  cases c0 : (to.take j).contains (tn : Int)
  case true =>
    have hF : FS l k j to tn = Flo.fromOf l k tn ++ [(k : Int)] := by unfold FS; rw [c0]; rfl
    have hne : FS l k j to tn ≠ [] := by rw [hF]; simp
    have hpos : 0 < (FS l k j to tn).length := List.length_pos_iff.2 hne
    obtain ⟨bl, ol, hal, hll⟩ := hfv.at E_s_int E_int (kd := .i64) (i := (FS l k j to tn).length - 1) (by omega)
    have e1 : (FS l k j to tn)[(FS l k j to tn).length - 1]'(by omega) = (k : Int) := by
      have := List.getLast_eq_getElem hne
      rw [← this]; simp [hF]
    rw [e1] at hll
    rw [show (((FS l k j to tn).length - 1 : Nat) : Int) = ((FS l k j to tn).length : Int) - 1 by omega] at hal
    have c1 : (((FS l k j to tn).length : Int) == 0) = false := by rw [beq_eq_false_iff_ne]; omega
    have c2 : ((k : Int) != k) = false := by simp
    (repeat first | refine zSeq ?_ | refine zReg ?_ | refine zBlk ?_ | refine zSkp ?_ | refine zNil rfl ?_ | refine zGet rfl ?_ | refine zOn rfl (by assumption) ?_ | refine zMov rfl ?_ | refine zPF rfl (by assumption) rfl ?_ | refine zLss rfl rfl ?_ | refine zEql rfl rfl ?_ | refine zNeq rfl rfl ?_ | refine zAdd rfl rfl (by omega) ?_ | refine zSub rfl rfl (by omega) ?_ | refine zT rfl (by assumption) ?_ | refine zF rfl (by assumption) ?_ | refine zFld (f := 2) rfl O_api_Block_From ?_ | refine zLd (ty := 32) rfl hlf ?_ | refine zLd (ty := 3) rfl hli ?_ | refine zLd (ty := 3) rfl hll ?_ | refine zLen rfl (hfv.len E_s_int) ?_ | refine zIdx rfl rfl haf ?_ | refine zIdx rfl rfl hai ?_ | refine zIdx rfl rfl hal ?_)
    refine ⟨(j + 1, fv), ⟨hw.of_eq fun t _ => ?_, hfr, h2⟩, by simp only; omega, rfl, rfl, rfl, rfl, rfl, rfl, rfl, trivial⟩
    rw [hsucc t]
    by_cases e : t = tn
    · rw [if_pos e, if_pos c0, e]
    · rw [if_neg e]
  have hF : FS l k j to tn = Flo.fromOf l k tn := by unfold FS; rw [c0]; simp
  have hws' : WS H2 w n0 l.length (fun j => if j = tn then (v', o') else fv j) tv (FS l k (j + 1) to) := k5.of_eq fun t _ => by
    rw [hsucc t]
    by_cases e : t = tn
    · rw [if_pos e, if_pos e, if_neg (by rw [c0]; decide)]
    · rw [if_neg e, if_neg e]
  have hsz : v'.cells.size = 1 := by have := congrArg List.length k3; simpa using this
  cases c1 : ((FS l k j to tn).length : Int) == 0
  · have hpos : 0 < (FS l k j to tn).length := by have := beq_eq_false_iff_ne.1 c1; omega
    have hne : FS l k j to tn ≠ [] := List.length_pos_iff.1 hpos
    obtain ⟨bl, ol, hal, hll⟩ := hfv.at E_s_int E_int (kd := .i64) (i := (FS l k j to tn).length - 1) (by omega)
    have hmem : (FS l k j to tn)[(FS l k j to tn).length - 1]'(by omega) ∈ Flo.fromOf l k tn := by rw [← hF]; exact List.getElem_mem _
    have hlt := fromOf_lt hmem
    rw [show (((FS l k j to tn).length - 1 : Nat) : Int) = ((FS l k j to tn).length : Int) - 1 by omega] at hal
    have c2 : ((FS l k j to tn)[(FS l k j to tn).length - 1]'(by omega) != (k : Int)) = true := by rw [bne_iff_ne]; omega
    (repeat first | refine zSeq ?_ | refine zReg ?_ | refine zBlk ?_ | refine zSkp ?_ | refine zNil rfl ?_ | refine zGet rfl ?_ | refine zOn rfl (by assumption) ?_ | refine zMov rfl ?_ | refine zPF rfl (by assumption) rfl ?_ | refine zLss rfl rfl ?_ | refine zEql rfl rfl ?_ | refine zNeq rfl rfl ?_ | refine zSub rfl rfl (by omega) ?_ | refine zT rfl (by assumption) ?_ | refine zFld (f := 2) rfl O_api_Block_From ?_ | refine zLd (ty := 32) rfl hlf ?_ | refine zLd (ty := 3) rfl hli ?_ | refine zLd (ty := 3) rfl hll ?_ | refine zLen rfl (hfv.len E_s_int) ?_ | refine zIdx rfl rfl haf ?_ | refine zIdx rfl rfl hai ?_ | refine zIdx rfl rfl hal ?_)
    refine WL.op (op_buildSlice rfl E_s_int E_int (by decide) fill_int) ?_
    refine WL.op (k1 rfl rfl) ?_
    (repeat first | refine zFld (f := 2) rfl O_api_Block_From ?_ | refine zIdx rfl rfl haf ?_)
    refine WL.op (op_store rfl rfl E_s_int hsz (by rw [k3]; simp [k2]) (by rw [k3]; exact k4)) ?_
    (repeat first | refine zReg ?_ | refine zNil rfl ?_ | refine zAdd rfl rfl (by omega) ?_)
    exact ⟨(j + 1, _), ⟨hws', fr2, h2⟩, by simp only; omega, rfl, rfl, rfl, rfl, rfl, rfl, rfl, trivial⟩
  · (repeat first | refine zSeq ?_ | refine zReg ?_ | refine zBlk ?_ | refine zSkp ?_ | refine zNil rfl ?_ | refine zGet rfl ?_ | refine zOff rfl (by assumption) ?_ | refine zPT rfl (by assumption) rfl ?_ | refine zLss rfl rfl ?_ | refine zEql rfl rfl ?_ | refine zT rfl rfl ?_ | refine zT rfl (by assumption) ?_ | refine zFld (f := 2) rfl O_api_Block_From ?_ | refine zLd (ty := 32) rfl hlf ?_ | refine zLd (ty := 3) rfl hli ?_ | refine zLen rfl (hfv.len E_s_int) ?_ | refine zIdx rfl rfl haf ?_ | refine zIdx rfl rfl hai ?_)
    refine WL.op (op_buildSlice rfl E_s_int E_int (by decide) fill_int) ?_
    refine WL.op (k1 rfl rfl) ?_
    (repeat first | refine zFld (f := 2) rfl O_api_Block_From ?_ | refine zIdx rfl rfl haf ?_)
    refine WL.op (op_store rfl rfl E_s_int hsz (by rw [k3]; simp [k2]) (by rw [k3]; exact k4)) ?_
    (repeat first | refine zReg ?_ | refine zNil rfl ?_ | refine zAdd rfl rfl (by omega) ?_)
    exact ⟨(j + 1, _), ⟨hws', fr2, h2⟩, by simp only; omega, rfl, rfl, rfl, rfl, rfl, rfl, rfl, trivial⟩
end Go.Proofs.YtfhmdhndmlinkaaDoor.U

/-
  Contracts of flow: froms.
-/
namespace Go.Proofs.YtfhmdhndmlinkaaDoor.U
open Go Go.Ev
attribute [local irreducible] WL WP WH W
theorem zero34 : te_api_Block.zv.cells.toList = List.replicate 4 (.slice none 0 0) := by kernel_rfl
attribute [local irreducible] V
variable {O : Orc} {H : AH}
theorem els_cols {A : Av} {v : Value} {l : List Block} (h : Els 4 BlockR A H v l) : ∃ (ck : Nat → List Value) (fvs tvs : Nat → Value), (∀ k (hk : k < l.length) Hc, Fr H Hc → ∃ b off, aIndex V.E 22 v (.int .i64 k) = some (.pointer (some ⟨b, off, none⟩)) ∧ Rd Hc b off 4 (ck k)) ∧
    ∀ k (hk : k < l.length), (∃ vp vc, ck k = [vp, vc, fvs k, tvs k] ∧ Els 2 PhiR A H vp l[k].phis ∧ Els 6 InsR A H vc l[k].code) ∧ IntsR A H (fvs k) l[k].frm ∧ IntsR A H (tvs k) l[k].to := by
  obtain ⟨CS, h1, h2⟩ := h
  refine ⟨fun k => (CS.drop (k * 4)).take 4, fun k => ((CS.drop (k * 4)).take 4).getD 2 (.slice none 0 0), fun k => ((CS.drop (k * 4)).take 4).getD 3 (.slice none 0 0), fun k hk Hc hf => (h1.fr hf).at E_s_api_Block E_api_Block te_api_Block_size (by omega) (by omega), fun k hk => ?_⟩
  obtain ⟨vp, vc, vf, vt, e, k1, k2, k3, k4⟩ := h2 k hk
  refine ⟨⟨vp, vc, ?_, k1, k2⟩, ?_, ?_⟩
  · show (CS.drop (k * 4)).take 4 = [vp, vc, ((CS.drop (k * 4)).take 4).getD 2 _, ((CS.drop (k * 4)).take 4).getD 3 _]
    rw [e]; rfl
  · show IntsR A H (((CS.drop (k * 4)).take 4).getD 2 _) _
    rw [e]; exact k3
  · show IntsR A H (((CS.drop (k * 4)).take 4).getD 3 _) _
    rw [e]; exact k4
set_option maxHeartbeats 4000000 in
theorem froms_c (hO : NoO O) {A : Av} {l : List Block} {vl : Value} (hvl : Els 4 BlockR A H vl l) (h0 : 0 < l.length) (hL : l.length ≤ 100000) (hLt : ∀ b ∈ l, b.to.length ≤ 1000000) (hLf : ∀ b ∈ l, b.frm.length ≤ 1000000) :
    ∃ u H', Lc V O F_flow_froms [vl] H u H' ∧ (u = .bool (Flo.froms l) ∧ Fr H H') := by
  refine Lc.flow_froms (R := fun u H' => u = .bool (Flo.froms l) ∧ Fr H H') (hO _ _ _ (by decide) (by decide) (by decide) (by decide)) (Nat.le_of_ble_eq_true rfl) (by kernel_rfl) ?_
  unfold P_flow_froms
  obtain ⟨ck, fvs, tvs, hat0, hcol⟩ := els_cols hvl
  (repeat first | refine zSeq ?_ | refine zReg ?_ | refine zNil rfl ?_ | refine zGet rfl ?_ | refine zAsg rfl ?_ | refine zLen rfl (hvl.len E_s_api_Block) ?_)
  refine zMkS (n := l.length) (m := l.length) rfl rfl E_s_api_Block E_api_Block (Nat.le_refl _) (by rw [te_api_Block_bytes]; omega) (by omega) rfl fun H1 f1 b1 n1 => ?_
  have hws : WS H1 H.next H1.next l.length (fun _ => (.slice none 0 0, none)) (fun _ => .slice none 0 0) (fun _ => []) := by
    refine ⟨?_, fun k _ => .nil, fun j k _ _ _ => ⟨by simp [obs], by simp [ogs]⟩, by omega, Nat.le_refl _⟩
    rw [zero34, azeros_rep (by decide)] at b1
    have e : rng l.length (wc (fun _ => (.slice none 0 0, none)) fun _ => .slice none 0 0) = List.replicate (l.length * 4) (.slice none 0 0) := rng_rep 4 _ _
    rw [e]; exact b1
  clear b1
  (repeat first | refine zNil rfl ?_)
  refine WP.seqS (σ := Unit) (fun _ => [(0, vl), (3, .slice (some ⟨H.next, 0, none⟩) l.length l.length)]) (fun _ Hc => WS Hc H.next H1.next l.length (fun _ => (.slice none 0 0, none)) (fun j => if j < l.length then tvs j else .slice none 0 0) (fun _ => []) ∧ Fr H Hc ∧ ∀ b ∈ l, b.to.all (Flo.within l.length) = true) ?_ ?_
  · (repeat first | refine zSeq ?_ | refine zReg ?_ | refine zBlk ?_ | refine zNil rfl ?_ | refine zGet rfl ?_ | refine zMov rfl ?_ | refine zLen rfl (hvl.len E_s_api_Block) ?_)
    refine WP.loopH (σ := Nat) (fun k => [(0, vl), (3, .slice (some ⟨H.next, 0, none⟩) l.length l.length), (13, vl), (14, .int .i64 l.length), (15, .int .i64 k)]) (fun k Hc => WS Hc H.next H1.next l.length (fun _ => (.slice none 0 0, none)) (fun j => if j < k then tvs j else .slice none 0 0) (fun _ => []) ∧ Fr H Hc ∧ k ≤ l.length ∧ ∀ j (h : j < l.length), j < k → l[j].to.all (Flo.within l.length) = true) (fun k => l.length - k) 0 ⟨hws, f1, Nat.zero_le _, fun j _ h => absurd h (by omega)⟩ ⟨rfl, rfl, rfl, rfl, rfl, trivial⟩ ?_
    rintro k Hc ⟨hw, hfr, hk, hpre⟩
    rcases Nat.lt_or_ge k l.length with h | h
    case inr =>
      have g1 : decide ((k : Int) < l.length) = false := decide_eq_false (by omega)
      obtain rfl : k = l.length := by omega
      (repeat first | refine zSeq ?_ | refine zReg ?_ | refine zExt ?_ | refine zNil rfl ?_ | refine zLss rfl rfl ?_ | refine zF rfl (by assumption) ?_)
      exact ⟨(), ⟨hw, hfr, fun b hb => by obtain ⟨j, hj, rfl⟩ := List.mem_iff_getElem.1 hb; exact hpre j hj hj⟩, rfl, rfl, trivial⟩
    have g1 : decide ((k : Int) < l.length) = true := decide_eq_true (by omega)
    obtain ⟨bb, off, ha1, hrd⟩ := hat0 k h Hc hfr
    have hl1 := hrd.loadN (V := V) E_api_Block te_api_Block_agg te_api_Block_size
    obtain ⟨⟨vp, vc, eck, _, _⟩, hfk, htk⟩ := hcol k h
    have hLk := hLt l[k] (List.getElem_mem _)
    rw [eck] at hl1
    have hone : ([vp, vc, fvs k, tvs k].all Value.oneCell') = true := by
      rename_i hP hC
      simp [hP.oneCell, hC.oneCell, hfk.oneCell, htk.oneCell]
    have hfr0 := hfr
    have hbad : l[k].to.all (Flo.within l.length) = false → Flo.froms l = false := fun hb => by
      have : l.all (fun b => b.to.all (Flo.within l.length)) = false := by
        rw [List.all_eq_false]
        exact ⟨_, List.getElem_mem h, by rw [hb]; simp⟩
      unfold Flo.froms; rw [this]; rfl
    (repeat first | refine zSeq ?_ | refine zReg ?_ | refine zBlk ?_ | refine zSkp ?_ | refine zNil rfl ?_ | refine zGet rfl ?_ | refine zLss rfl rfl ?_ | refine zT rfl (by assumption) ?_ | refine zIdx rfl rfl ha1 ?_ | refine zLd rfl hl1 ?_)
    refine zAlc E_api_Block zero34 fun H3 f3 b3 n3 => ?_
    refine zStB b3 rfl rfl E_api_Block (by rw [te_api_Block_size]; rfl) hone (by simp [Value.cells]) (by simp [Value.cells]) fun H4 f4 b4 n4 => ?_
    have b4' : Bx H4 Hc.next 34 [vp, vc, fvs k, tvs k] := b4
    have f34 : Fr Hc H4 := f3.young f4 (by simp) (by simp)
    replace hw := hw.fr f34
    have fr4 := hfr.trans f34
    have htv := htk.fr fr4
    clear b3 b4 f3 f4
    obtain ⟨hat, _, _⟩ := hw.at (by omega) h
    generalize hto : l[k].to = to at *
    (repeat first | refine zSeq ?_ | refine zReg ?_ | refine zBlk ?_ | refine zNil rfl ?_ | refine zMov rfl ?_ | refine zLd (ty := 32) rfl (Bx.ld (by assumption) (by rfl) E_s_int rfl) ?_ | refine zFld (f := 3) rfl O_api_Block_To ?_ | refine zLen rfl (htv.len E_s_int) ?_)
    refine WP.loopH (σ := Nat) (fun j => [(0, vl), (3, .slice (some ⟨H.next, 0, none⟩) l.length l.length), (4, .int .i64 k), (5, .pointer (some ⟨Hc.next, 0, none⟩)), (13, vl), (14, .int .i64 l.length), (15, .int .i64 k), (21, tvs k), (22, .int .i64 to.length), (23, .int .i64 j)]) (fun j Hy => Hy = H4 ∧ j ≤ to.length ∧ ∀ i (h : i < to.length), i < j → Flo.within l.length to[i] = true) (fun j => to.length - j) 0 ⟨rfl, Nat.zero_le _, fun i _ h => absurd h (by omega)⟩ ⟨rfl, rfl, rfl, rfl, rfl, rfl, rfl, rfl, rfl, rfl, trivial⟩ ?_
    rintro j Hy ⟨hy, hj, hpj⟩
    replace hy := hy.symm
    subst hy
    rcases Nat.lt_or_ge j to.length with h2 | h2
    · have g2 : decide ((j : Int) < to.length) = true := decide_eq_true (by omega)
      obtain ⟨bi, oi, hai, hli⟩ := IntsR.at htv E_s_int E_int (kd := .i64) h2
      have bad : Flo.within l.length to[j] = false → Flo.froms l = false := fun hb => hbad (by
        rw [List.all_eq_false]
        exact ⟨_, List.getElem_mem h2, by rw [hb]; simp⟩)
      cases c1 : decide (to[j] < 0)
      · cases c2 : decide (to[j] ≥ (l.length : Int))
        · have hw1 : Flo.within l.length to[j] = true := by unfold Flo.within; rw [c1, c2]; rfl
          (repeat first | refine zSeq ?_ | refine zReg ?_ | refine zBlk ?_ | refine zSkp ?_ | refine zNil rfl ?_ | refine zGet rfl ?_ | refine zOn rfl (by assumption) ?_ | refine zMov rfl ?_ | refine zPF rfl (by assumption) rfl ?_ | refine zLss rfl rfl ?_ | refine zGeq rfl rfl ?_ | refine zAdd rfl rfl (by omega) ?_ | refine zT rfl (by assumption) ?_ | refine zF rfl (by assumption) ?_ | refine zLd (ty := 3) rfl hli ?_ | refine zIdx rfl rfl hai ?_ | refine zLen rfl (hvl.len E_s_api_Block) ?_)
          refine ⟨j + 1, ⟨rfl, h2, fun i hi hij => ?_⟩, by omega, rfl, rfl, rfl, rfl, rfl, rfl, rfl, rfl, rfl, rfl, trivial⟩
          by_cases e : i = j
          · subst e; exact hw1
          · exact hpj i hi (by omega)
        · have hw1 : Flo.within l.length to[j] = false := by unfold Flo.within; rw [c1, c2]; rfl
          (repeat first | refine zSeq ?_ | refine zReg ?_ | refine zBlk ?_ | refine zSkp ?_ | refine zNil rfl ?_ | refine zGet rfl ?_ | refine zOn rfl (by assumption) ?_ | refine zMov rfl ?_ | refine zAsg rfl ?_ | refine zPF rfl (by assumption) rfl ?_ | refine zLss rfl rfl ?_ | refine zGeq rfl rfl ?_ | refine zT rfl (by assumption) ?_ | refine zLd (ty := 3) rfl hli ?_ | refine zIdx rfl rfl hai ?_ | refine zLen rfl (hvl.len E_s_api_Block) ?_)
          exact WP.ret ⟨.inr rfl, _, rfl, by rw [bad hw1]; rfl, fr4⟩
      · have hw1 : Flo.within l.length to[j] = false := by unfold Flo.within; rw [c1]; rfl
        (repeat first | refine zSeq ?_ | refine zReg ?_ | refine zBlk ?_ | refine zSkp ?_ | refine zNil rfl ?_ | refine zGet rfl ?_ | refine zOff rfl (by assumption) ?_ | refine zAsg rfl ?_ | refine zPT rfl (by assumption) rfl ?_ | refine zLss rfl rfl ?_ | refine zT rfl rfl ?_ | refine zT rfl (by assumption) ?_ | refine zLd (ty := 3) rfl hli ?_ | refine zIdx rfl rfl hai ?_)
        exact WP.ret ⟨.inr rfl, _, rfl, by rw [bad hw1]; rfl, fr4⟩
    · have g2 : decide ((j : Int) < to.length) = false := decide_eq_false (by omega)
      have hall : to.all (Flo.within l.length) = true := by
        rw [List.all_eq_true]
        intro x hx
        obtain ⟨i, hi, rfl⟩ := List.mem_iff_getElem.1 hx
        exact hpj i hi (by omega)
      obtain ⟨H5, q1, q2, q3⟩ := hw.setTo h (tvs k)
      have hvc : (tvs k).cells.toList = [tvs k] := by obtain ⟨_, ⟨e, _⟩ | ⟨b, off, cap, e, _⟩⟩ := htv <;> rw [e] <;> rfl
      have hsz : (tvs k).cells.size = 1 := by have := congrArg List.length hvc; simpa using this
      (repeat first | refine zSeq ?_ | refine zReg ?_ | refine zExt ?_ | refine zNil rfl ?_ | refine zGet rfl ?_ | refine zLss rfl rfl ?_ | refine zF rfl (by assumption) ?_ | refine zLd (ty := 32) rfl (Bx.ld (by assumption) (by rfl) E_s_int rfl) ?_ | refine zFld (f := 3) rfl O_api_Block_To ?_ | refine zIdx rfl rfl hat ?_)
      refine WL.op (op_store rfl rfl E_s_int hsz (by rw [hvc]; simp [htv.oneCell]) (by rw [hvc]; exact q1)) ?_
      (repeat first | refine zReg ?_ | refine zNil rfl ?_ | refine zAdd rfl rfl (by omega) ?_)
      refine ⟨k + 1, ⟨?_, fr4.young q3 (by simp) (by simp), h, fun i hi hik => ?_⟩, by omega, rfl, rfl, rfl, rfl, rfl, trivial⟩
      · have e : (fun j => if j < k + 1 then tvs j else .slice none 0 0) = fun j => if j = k then tvs k else if j < k then tvs j else .slice none 0 0 := by
          funext j
          by_cases e : j = k
          · subst e; simp
          · by_cases e2 : j < k
            · rw [if_pos (by omega), if_neg e, if_pos e2]
            · rw [if_neg (by omega), if_neg e, if_neg e2]
        rw [e]; exact q2
      · by_cases e : i = k
        · subst e; rw [hto]; exact hall
        · exact hpre i hi (by omega)
  rintro _ H2 ⟨hw, hfr, hin⟩
  have hin' : ∀ b ∈ l, ∀ t ∈ b.to, 0 ≤ t ∧ t < l.length := fun b hb t ht => by
    have := List.all_eq_true.1 (hin b hb) t ht
    unfold Flo.within at this
    simp only [Bool.not_eq_true', Bool.or_eq_false_iff, decide_eq_false_iff_not] at this
    omega
  have hfm : Flo.froms l = ((List.range l.length).all (fun n => match l[n]? with | some b => b.frm == Flo.fromOf l l.length n | none => false) && (match l[0]? with | some b => b.frm.isEmpty | none => false)) := by
    have : l.all (fun b => b.to.all (Flo.within l.length)) = true := List.all_eq_true.2 hin
    unfold Flo.froms; rw [this]; rfl
  obtain ⟨_, H3, hc3, fv', hw3, hfr3⟩ := from_c (Hb := H) (A := A) hO hw (fun k h => by rw [if_pos h]; exact (hcol k h).2.2) hfr (Nat.le_refl _) hin' hL hLt
  clear hw hfr hin hws
  (repeat first | refine zSeq ?_ | refine zReg ?_ | refine zGet rfl ?_)
  refine WL.call rfl rfl is_flow_from hc3 ?_
  (repeat first | refine zSeq ?_ | refine zReg ?_ | refine zBlk ?_ | refine zNil rfl ?_ | refine zGet rfl ?_ | refine zMov rfl ?_ | refine zLen rfl (hvl.len E_s_api_Block) ?_)
  refine WP.loopH (σ := Nat) (fun k => [(0, vl), (3, .slice (some ⟨H.next, 0, none⟩) l.length l.length), (45, vl), (46, .int .i64 l.length), (47, .int .i64 k)]) (fun k Hc => WS Hc H.next H1.next l.length fv' (fun j => if j < l.length then tvs j else .slice none 0 0) (fun t => Flo.fromOf l l.length t) ∧ Fr H Hc ∧ k ≤ l.length ∧ ∀ j (h : j < l.length), j < k → (l[j].frm == Flo.fromOf l l.length j) = true) (fun k => l.length - k) 0 ⟨hw3, hfr3, Nat.zero_le _, fun j _ h => absurd h (by omega)⟩ ⟨rfl, rfl, rfl, rfl, rfl, trivial⟩ ?_
  clear hw3 hfr3 hc3
  rintro k Hc ⟨hw, hfr, hk, hpre⟩
  rcases Nat.lt_or_ge k l.length with h | h
  case inr =>
    have g1 : decide ((k : Int) < l.length) = false := decide_eq_false (by omega)
    obtain rfl : k = l.length := by omega
    obtain ⟨bb, off, ha1, hrd⟩ := hat0 0 h0 Hc hfr
    obtain ⟨⟨vp, vc, eck, _, _⟩, hfk, htk⟩ := hcol 0 h0
    rw [eck] at hrd
    have hlt := (hrd.at1 (i := 2) rfl).load1 (V := V) E_s_int rfl
    have htv := hfk.fr hfr
    have ha1 : aIndex V.E 22 vl (.int .i64 0) = some (.pointer (some ⟨bb, off, none⟩)) := ha1
    (repeat first | refine zSeq ?_ | refine zReg ?_ | refine zExt ?_ | refine zNil rfl ?_ | refine zGet rfl ?_ | refine zLss rfl rfl ?_ | refine zEql rfl rfl ?_ | refine zF rfl (by assumption) ?_ | refine zIdx rfl rfl ha1 ?_ | refine zFld (f := 2) rfl O_api_Block_From ?_ | refine zLd (ty := 32) rfl hlt ?_ | refine zLen rfl (htv.len E_s_int) ?_)
    refine WP.ret ⟨.inr rfl, _, rfl, ?_, hfr⟩
    have e1 : (List.range l.length).all (fun n => match l[n]? with | some b => b.frm == Flo.fromOf l l.length n | none => false) = true := by
      rw [List.all_eq_true]
      intro j hj
      have hj := List.mem_range.1 hj
      simp only [List.getElem?_eq_getElem hj]
      exact hpre j hj hj
    rw [hfm, e1, List.getElem?_eq_getElem h0]
    simp only [Bool.true_and]
    have : (l[0].frm.isEmpty) = ((l[0].frm.length : Int) == 0) := by
      cases l[0].frm with
      | nil => rfl
      | cons a b => simp; omega
    rw [this]; rfl
  have g1 : decide ((k : Int) < l.length) = true := decide_eq_true (by omega)
  obtain ⟨bb, off, ha1, hrd⟩ := hat0 k h Hc hfr
  have hl1 := hrd.loadN (V := V) E_api_Block te_api_Block_agg te_api_Block_size
  obtain ⟨⟨vp, vc, eck, hP, hC⟩, hfk, htk⟩ := hcol k h
  rw [eck] at hl1
  have hone : ([vp, vc, fvs k, tvs k].all Value.oneCell') = true := by simp [hP.oneCell, hC.oneCell, hfk.oneCell, htk.oneCell]
  have hbad : (l[k].frm == Flo.fromOf l l.length k) = false → Flo.froms l = false := fun hb => by
    have : (List.range l.length).all (fun n => match l[n]? with | some b => b.frm == Flo.fromOf l l.length n | none => false) = false := by
      rw [List.all_eq_false]
      exact ⟨k, List.mem_range.2 h, by simp only [List.getElem?_eq_getElem h, hb]; decide⟩
    rw [hfm, this]; rfl
  (repeat first | refine zSeq ?_ | refine zReg ?_ | refine zBlk ?_ | refine zSkp ?_ | refine zNil rfl ?_ | refine zGet rfl ?_ | refine zLss rfl rfl ?_ | refine zT rfl (by assumption) ?_ | refine zIdx rfl rfl ha1 ?_ | refine zLd rfl hl1 ?_)
  refine zAlc E_api_Block zero34 fun H4 f4 b4 n4 => ?_
  refine zStB b4 rfl rfl E_api_Block (by rw [te_api_Block_size]; rfl) hone (by simp [Value.cells]) (by simp [Value.cells]) fun H5 f5 b5 n5 => ?_
  have b5' : Bx H5 Hc.next 34 [vp, vc, fvs k, tvs k] := b5
  have f35 : Fr Hc H5 := f4.young f5 (by simp) (by simp)
  replace hw := hw.fr f35
  have fr5 := hfr.trans f35
  clear b4 b5 f4 f5
  obtain ⟨hat, hlt, _⟩ := hw.at (by omega) h
  have hF : IntsR .no H5 (fv' k).1 (Flo.fromOf l l.length k) := (hw.own k h).rYoung .no
  have heq := equal_c (H := H5) hO (hfk.fr fr5) hF (hLf l[k] (List.getElem_mem _))
  (repeat first | refine zSeq ?_ | refine zReg ?_ | refine zNil rfl ?_ | refine zGet rfl ?_ | refine zLd (ty := 32) rfl (Bx.ld (by assumption) (by rfl) E_s_int rfl) ?_ | refine zFld (f := 2) rfl O_api_Block_From ?_ | refine zLd (ty := 32) rfl hlt ?_ | refine zIdx rfl rfl hat ?_)
  refine WL.call rfl rfl is_slices_Equal_s_int_int heq ?_
  cases c1 : l[k].frm == Flo.fromOf l l.length k
  · (repeat first | refine zSeq ?_ | refine zReg ?_ | refine zNil rfl ?_ | refine zAsg rfl ?_ | refine zNot rfl ?_ | refine zT rfl rfl ?_)
    exact WP.ret ⟨.inr rfl, _, rfl, by rw [hbad c1]; rfl, fr5⟩
  · (repeat first | refine zReg ?_ | refine zSkp ?_ | refine zNil rfl ?_ | refine zAdd rfl rfl (by omega) ?_ | refine zNot rfl ?_ | refine zF rfl rfl ?_)
    refine ⟨k + 1, ⟨hw, fr5, h, fun i hi hik => ?_⟩, by omega, rfl, rfl, rfl, rfl, rfl, trivial⟩
    by_cases e : i = k
    · subst e; exact c1
    · exact hpre i hi (by omega)
end Go.Proofs.YtfhmdhndmlinkaaDoor.U

/-
  Contracts of flow: May.
-/
namespace Go.Proofs.YtfhmdhndmlinkaaDoor.U
open Go Go.Ev
attribute [local irreducible] WL WP WH W
attribute [local irreducible] V
variable {O : Orc} {H : AH}
theorem circle_c (hO : NoO O) {A : Av} {l : List Block} {vl : Value} (hvl : Els 4 BlockR A H vl l) {k : Nat} (hk : k < l.length) (hL : l.length ≤ 100000) (hone : ∀ b ∈ l, b.code = [] → b.to ≠ []) (hin : ∀ b ∈ l, ∀ t ∈ b.to, 0 ≤ t ∧ t < l.length) :
    Lc V O F_flow_circle [vl, .int .i64 k] H (.bool (Flo.circ l k l.length k)) H := by
  refine Lc.of_eq (Lc.flow_circle (R := fun u H' => u = .bool (Flo.circ l k l.length k) ∧ H' = H) (hO _ _ _ (by decide) (by decide) (by decide) (by decide)) (Nat.le_of_ble_eq_true rfl) (by kernel_rfl) ?_)
  unfold P_flow_circle
  obtain ⟨ck, fvs, tvs, hat0, hcol⟩ := els_cols hvl
  (repeat first | refine zSeq ?_ | refine zReg ?_ | refine zBlk ?_ | refine zNil rfl ?_ | refine zGet rfl ?_ | refine zMov rfl ?_ | refine zAsg rfl ?_ | refine zLen rfl (hvl.len E_s_api_Block) ?_)
  refine WP.loopH (σ := Nat × Nat) (fun x => [(0, vl), (1, .int .i64 k), (5, .int .i64 x.2), (8, .int .i64 l.length), (9, .int .i64 x.1)]) (fun x Hy => Hy = H ∧ x.1 ≤ l.length ∧ x.2 < l.length ∧ Flo.circ l k l.length k = Flo.circ l k (l.length - x.1) x.2) (fun x => l.length - x.1) (0, k) ⟨rfl, Nat.zero_le _, hk, rfl⟩ ⟨rfl, rfl, rfl, rfl, rfl, trivial⟩ ?_
  rintro ⟨i, at_⟩ Hy ⟨hy, hi, hat, he⟩
  replace hy := hy.symm
  subst hy
  simp only at hi hat he ⊢
  rw [he]
  rcases Nat.lt_or_ge i l.length with h | h
  case inr =>
    have g1 : decide ((i : Int) < l.length) = false := decide_eq_false (by omega)
    (repeat first | refine zSeq ?_ | refine zReg ?_ | refine zExt ?_ | refine zNil rfl ?_ | refine zAsg rfl ?_ | refine zLss rfl rfl ?_ | refine zF rfl (by assumption) ?_)
    refine WP.ret ⟨.inr rfl, _, rfl, ?_, rfl⟩
    rw [show l.length - i = 0 by omega]; rfl
  have g1 : decide ((i : Int) < l.length) = true := decide_eq_true (by omega)
  obtain ⟨b, off, ha1, hrd⟩ := hat0 at_ hat H (.refl _)
  obtain ⟨⟨vp, vc, eck, hP, hC⟩, hfk, htv⟩ := hcol at_ hat
  rw [eck] at hrd
  have hl2 := (hrd.at1 (i := 1) rfl).load1 (V := V) E_s_api_Ins rfl
  have hlt := (hrd.at1 (i := 3) rfl).load1 (V := V) E_s_int rfl
  have hsuc : Flo.circ l k (l.length - i) at_ = if l[at_].code.length > 0 then false else match l[at_].to with
      | t :: _ => if t = k then true else Flo.circ l k (l.length - (i + 1)) t.toNat
      | [] => false := by
    rw [show l.length - i = (l.length - (i + 1)) + 1 by omega]
    simp only [Flo.circ, List.getElem?_eq_getElem hat]
    split
    · rfl
    · cases l[at_].to <;> rfl
  rw [hsuc]
  cases c1 : decide ((l[at_].code.length : Int) > 0)
  case true =>
    (repeat first | refine zSeq ?_ | refine zReg ?_ | refine zBlk ?_ | refine zSkp ?_ | refine zNil rfl ?_ | refine zGet rfl ?_ | refine zLss rfl rfl ?_ | refine zT rfl (by assumption) ?_ | refine zIdx rfl rfl ha1 ?_ | refine zLd rfl hl2 ?_ | refine zFld (f := 1) rfl O_api_Block_Code ?_)
    refine zLen rfl (hC.len E_s_api_Ins) ?_
    (repeat first | refine zSeq ?_ | refine zReg ?_ | refine zNil rfl ?_ | refine zAsg rfl ?_ | refine zGtr rfl rfl ?_ | refine zT rfl (by assumption) ?_)
    refine WP.ret ⟨.inr rfl, _, rfl, ?_, rfl⟩
    rw [if_pos (by have := of_decide_eq_true c1; omega)]; rfl
  have hc0 : l[at_].code = [] := List.length_eq_zero_iff.1 (by have := of_decide_eq_false c1; omega)
  have hto := hone _ (List.getElem_mem hat) hc0
  have hin' := hin _ (List.getElem_mem hat)
  rw [if_neg (by have := of_decide_eq_false c1; omega)]
  have hpos : 0 < l[at_].to.length := List.length_pos_iff.2 hto
  obtain ⟨bi, oi, hai, hli⟩ := IntsR.at htv E_s_int E_int (kd := .i64) (i := 0) hpos
  obtain ⟨t, ts, hts⟩ := List.exists_cons_of_ne_nil hto
  have h0 : l[at_].to[0] = t := by simp [hts]
  have htr := hin' t (by rw [hts]; simp)
  rw [h0] at hli
  have hai : aIndex V.E 32 (tvs at_) (.int .i64 0) = some (.pointer (some ⟨bi, oi, none⟩)) := hai
  rw [hts]
  simp only
  cases c2 : t == (k : Int)
  · have hne : t ≠ (k : Int) := beq_eq_false_iff_ne.1 c2
    (repeat first | refine zSeq ?_ | refine zReg ?_ | refine zBlk ?_ | refine zSkp ?_ | refine zNil rfl ?_ | refine zGet rfl ?_ | refine zLss rfl rfl ?_ | refine zT rfl (by assumption) ?_ | refine zIdx rfl rfl ha1 ?_ | refine zLd rfl hl2 ?_ | refine zFld (f := 1) rfl O_api_Block_Code ?_)
    refine zLen rfl (hC.len E_s_api_Ins) ?_
    (repeat first | refine zSeq ?_ | refine zReg ?_ | refine zSkp ?_ | refine zNil rfl ?_ | refine zGet rfl ?_ | refine zGtr rfl rfl ?_ | refine zEql rfl rfl ?_ | refine zAdd rfl rfl (by omega) ?_ | refine zF rfl (by assumption) ?_ | refine zIdx rfl rfl ha1 ?_ | refine zFld (f := 3) rfl O_api_Block_To ?_ | refine zLd (ty := 32) rfl hlt ?_ | refine zLd (ty := 3) rfl hli ?_ | refine zIdx rfl rfl hai ?_)
    refine ⟨(i + 1, t.toNat), ⟨rfl, h, by simp only; omega, ?_⟩, by simp only; omega, rfl, rfl, ?_, rfl, rfl, trivial⟩
    · rw [if_neg hne]
    · have : ((t.toNat : Nat) : Int) = t := by omega
      simp only [this]; rfl
  · (repeat first | refine zSeq ?_ | refine zReg ?_ | refine zBlk ?_ | refine zSkp ?_ | refine zNil rfl ?_ | refine zGet rfl ?_ | refine zLss rfl rfl ?_ | refine zT rfl (by assumption) ?_ | refine zIdx rfl rfl ha1 ?_ | refine zLd rfl hl2 ?_ | refine zFld (f := 1) rfl O_api_Block_Code ?_)
    refine zLen rfl (hC.len E_s_api_Ins) ?_
    (repeat first | refine zSeq ?_ | refine zReg ?_ | refine zSkp ?_ | refine zNil rfl ?_ | refine zGet rfl ?_ | refine zAsg rfl ?_ | refine zGtr rfl rfl ?_ | refine zEql rfl rfl ?_ | refine zT rfl (by assumption) ?_ | refine zF rfl (by assumption) ?_ | refine zIdx rfl rfl ha1 ?_ | refine zFld (f := 3) rfl O_api_Block_To ?_ | refine zLd (ty := 32) rfl hlt ?_ | refine zLd (ty := 3) rfl hli ?_ | refine zIdx rfl rfl hai ?_)
    refine WP.ret ⟨.inr rfl, _, rfl, ?_, rfl⟩
    rw [if_pos (by simpa using c2)]; rfl
structure Small (g : Graph) : Prop where
  nb : g.blocks.length ≤ 100000
  code : ∀ b ∈ g.blocks, b.code.length ≤ 1000000
  phis : ∀ b ∈ g.blocks, b.phis.length ≤ 1000000
  frm : ∀ b ∈ g.blocks, b.frm.length ≤ 1000000
  to : ∀ b ∈ g.blocks, b.to.length ≤ 1000000
  args : ∀ b ∈ g.blocks, ∀ p ∈ b.phis, p.args.length ≤ 1000000
def graphC (g : Graph) (vb : Value) : List Value := [.string g.name, .bool g.thread, .int .i64 g.params, .int .i64 g.regs, vb]
theorem mayQ1_c (hO : NoO O) (hg : GH H) {A : Av} {c : Nat} {g : Graph} {vb : Value} (hb : Bx H c 24 (graphC g vb)) {b : Block} {cs : List Value} (hR : BlockR A H cs b) (hop : ∀ i ∈ b.code, 0 ≤ i.op ∧ i.op < 256) (hLc : b.code.length ≤ 1000000) (hLp : b.phis.length ≤ 1000000) (hLa : ∀ p ∈ b.phis, p.args.length ≤ 1000000) :
    ∃ u H', Lc V O F_flow_May_q1 [.agg cs.toArray, .pointer (some ⟨c, 0, none⟩)] H u H' ∧ (u = .bool (!Flo.blockOk mi g.regs b) ∧ Fr H H') := by
  refine Lc.flow_May_q1 (R := fun u H' => u = .bool (!Flo.blockOk mi g.regs b) ∧ Fr H H') (hO _ _ _ (by decide) (by decide) (by decide) (by decide)) (Nat.le_of_ble_eq_true rfl) (by kernel_rfl) ?_
  unfold P_flow_May_q1
  refine zSeq ?_
  refine zReg ?_
  refine zBox rfl (fun _ => rfl) fun H1 f1 b1 n1 => ?_
  replace hb := hb.fr f1
  obtain ⟨_, H2, hc2, rfl, f2⟩ := block_c (H := H1) hO (hg.fr f1) (BlockR.m.fr hR f1) g.regs hop hLc hLp hLa
  have hlen := hR.one.2
  (repeat first | refine zSeq ?_ | refine zReg ?_ | refine zNil rfl ?_ | refine zAsg rfl ?_)
  refine zLd rfl (b1.ldN E_api_Block te_api_Block_agg (by rw [te_api_Block_size]; simp [Value.cells, hlen])) ?_
  (repeat first | refine zLd (ty := 3) rfl (Bx.ld (by assumption) (by rfl) E_int rfl) ?_ | refine zFld (f := 3) rfl O_api_Graph_Regs ?_)
  have hc2' : Lc V O F_flow_block [.agg (Value.agg cs.toArray).cells.toList.toArray, .int .i64 g.regs] H1 (.bool (Flo.blockOk mi g.regs b)) H2 := by
    have : (Value.agg cs.toArray).cells.toList.toArray = cs.toArray := by simp [Value.cells]
    rw [this]; exact hc2
  refine WL.call rfl rfl is_flow_block hc2' ?_
  (repeat first | refine zNil rfl ?_ | refine zNot rfl ?_)
  exact WP.ret ⟨.inr rfl, _, rfl, rfl, f1.trans f2⟩
set_option maxHeartbeats 4000000 in
theorem may_c (hO : NoO O) (hg : GH H) {A : Av} {g : Graph} {cs : List Value} (hR : GraphR A H cs g) (hsm : Small g) (hop : ∀ b ∈ g.blocks, ∀ i ∈ b.code, 0 ≤ i.op ∧ i.op < 256) :
    ∃ u H', Lc V O F_flow_May [.agg cs.toArray] H u H' ∧ (u = .bool (Flo.may mi g) ∧ Fr H H') := by
  obtain ⟨vb, rfl, hvl0⟩ := hR
  refine Lc.flow_May (R := fun u H' => u = .bool (Flo.may mi g) ∧ Fr H H') (hO _ _ _ (by decide) (by decide) (by decide) (by decide)) (Nat.le_of_ble_eq_true rfl) (by kernel_rfl) ?_
  unfold P_flow_May
  refine zSeq ?_
  refine zReg ?_
  refine zBox rfl (fun _ => rfl) fun H1 f1 b1 n1 => ?_
  have b1' : Bx H1 H.next 24 (graphC g vb) := b1
  have hvl := hvl0.fr BlockR.m f1
  have hg1 := hg.fr f1
  clear b1
  have bad : Flo.odd g = true → Flo.may mi g = false := fun h => by unfold Flo.may; rw [h]; rfl
  cases d1 : decide (g.params < 0)
  case true =>
    have e := bad (by unfold Flo.odd; rw [d1]; rfl)
    (repeat first | refine zSeq ?_ | refine zReg ?_ | refine zNil rfl ?_ | refine zOff rfl rfl ?_ | refine zU rfl ?_ | refine zOff rfl (by assumption) ?_ | refine zAsg rfl ?_ | refine zPT rfl rfl rfl ?_ | refine zPT rfl (by assumption) rfl ?_ | refine zLss rfl rfl ?_ | refine zT rfl rfl ?_ | refine zLd (ty := 3) rfl (Bx.ld (by assumption) (by rfl) E_int rfl) ?_ | refine zLen rfl (hvl.len E_s_api_Block) ?_ | refine zFld (f := 2) rfl O_api_Graph_Params ?_ | refine zFld (f := 4) rfl O_api_Graph_Blocks ?_ | refine zLd (ty := 22) rfl (Bx.ld (by assumption) (by rfl) E_s_api_Block rfl) ?_)
    exact WP.ret ⟨.inr rfl, _, rfl, by rw [e]; rfl, f1⟩
  cases d2 : decide (g.params > 8)
  case true =>
    have e := bad (by unfold Flo.odd; rw [d1, d2]; rfl)
    (repeat first | refine zSeq ?_ | refine zReg ?_ | refine zNil rfl ?_ | refine zOff rfl rfl ?_ | refine zU rfl ?_ | refine zOn rfl (by assumption) ?_ | refine zOff rfl (by assumption) ?_ | refine zAsg rfl ?_ | refine zPT rfl rfl rfl ?_ | refine zPT rfl (by assumption) rfl ?_ | refine zPF rfl (by assumption) rfl ?_ | refine zLss rfl rfl ?_ | refine zGtr rfl rfl ?_ | refine zT rfl rfl ?_ | refine zLd (ty := 3) rfl (Bx.ld (by assumption) (by rfl) E_int rfl) ?_ | refine zLen rfl (hvl.len E_s_api_Block) ?_ | refine zFld (f := 2) rfl O_api_Graph_Params ?_ | refine zFld (f := 4) rfl O_api_Graph_Blocks ?_ | refine zLd (ty := 22) rfl (Bx.ld (by assumption) (by rfl) E_s_api_Block rfl) ?_)
    exact WP.ret ⟨.inr rfl, _, rfl, by rw [e]; rfl, f1⟩
  (repeat first | refine zNil rfl ?_ | refine zAsg rfl ?_)
  refine zSeq ?_
  (repeat first | refine zReg ?_ | refine zNil rfl ?_ | refine zLen rfl (hvl.len E_s_api_Block) ?_ | refine zFld (f := 4) rfl O_api_Graph_Blocks ?_ | refine zLd (ty := 22) rfl (Bx.ld (by assumption) (by rfl) E_s_api_Block rfl) ?_)
  refine WP.seqS (σ := Unit) (fun _ => [(1, .pointer (some ⟨H.next, 0, none⟩)), (3, .int .i64 g.blocks.length)]) (fun _ Hc => Hc = H1 ∧ Flo.odd g = false) ?_ ?_
  · have rest : ∀ (c3 : (g.thread && decide (g.params > 0)) = false), Flo.odd g = (decide (g.regs < g.params) || (decide (g.regs > 65536) || (decide ((g.blocks.length : Int) < 1) || (decide ((g.blocks.length : Int) > 32768) || (match g.blocks[0]? with | some b => decide ((b.phis.length : Int) > 0) | none => false))))) := fun c3 => by
      unfold Flo.odd; rw [d1, d2, c3]; rfl
    cases t1 : g.thread
    · have b1' : Bx H1 H.next 24 [.string g.name, .bool false, .int .i64 g.params, .int .i64 g.regs, vb] := by have := b1'; unfold graphC at this; rw [t1] at this; exact this
      have rest := rest (by rw [t1]; rfl)
      cases d4 : decide (g.regs < g.params)
      case true =>
        have e := bad (by rw [rest, d4]; rfl)
        (repeat first | refine zSeq ?_ | refine zReg ?_ | refine zNil rfl ?_ | refine zOn rfl rfl ?_ | refine zOff rfl rfl ?_ | refine zOn rfl (by assumption) ?_ | refine zOff rfl (by assumption) ?_ | refine zMov rfl ?_ | refine zAsg rfl ?_ | refine zPT rfl rfl rfl ?_ | refine zPF rfl rfl rfl ?_ | refine zPT rfl (by assumption) rfl ?_ | refine zPF rfl (by assumption) rfl ?_ | refine zLss rfl rfl ?_ | refine zGtr rfl rfl ?_ | refine zT rfl rfl ?_ | refine zLd (ty := 3) rfl (Bx.ld (by assumption) (by rfl) E_int rfl) ?_ | refine zLd (ty := 4) rfl (Bx.ld (by assumption) (by rfl) E_bool rfl) ?_ | refine zFld (f := 1) rfl O_api_Graph_Thread ?_ | refine zFld (f := 2) rfl O_api_Graph_Params ?_ | refine zFld (f := 3) rfl O_api_Graph_Regs ?_)
        exact WP.ret ⟨.inr rfl, _, rfl, by rw [e]; rfl, f1⟩
      cases d5 : decide (g.regs > 65536)
      case true =>
        have e := bad (by rw [rest, d4, d5]; rfl)
        (repeat first | refine zSeq ?_ | refine zReg ?_ | refine zNil rfl ?_ | refine zOn rfl rfl ?_ | refine zOff rfl rfl ?_ | refine zOn rfl (by assumption) ?_ | refine zOff rfl (by assumption) ?_ | refine zMov rfl ?_ | refine zAsg rfl ?_ | refine zPT rfl rfl rfl ?_ | refine zPF rfl rfl rfl ?_ | refine zPT rfl (by assumption) rfl ?_ | refine zPF rfl (by assumption) rfl ?_ | refine zLss rfl rfl ?_ | refine zGtr rfl rfl ?_ | refine zT rfl rfl ?_ | refine zLd (ty := 3) rfl (Bx.ld (by assumption) (by rfl) E_int rfl) ?_ | refine zLd (ty := 4) rfl (Bx.ld (by assumption) (by rfl) E_bool rfl) ?_ | refine zFld (f := 1) rfl O_api_Graph_Thread ?_ | refine zFld (f := 2) rfl O_api_Graph_Params ?_ | refine zFld (f := 3) rfl O_api_Graph_Regs ?_)
        exact WP.ret ⟨.inr rfl, _, rfl, by rw [e]; rfl, f1⟩
      cases d6 : decide ((g.blocks.length : Int) < 1)
      case true =>
        have e := bad (by rw [rest, d4, d5, d6]; rfl)
        (repeat first | refine zSeq ?_ | refine zReg ?_ | refine zNil rfl ?_ | refine zOn rfl rfl ?_ | refine zOff rfl rfl ?_ | refine zOn rfl (by assumption) ?_ | refine zOff rfl (by assumption) ?_ | refine zMov rfl ?_ | refine zAsg rfl ?_ | refine zPT rfl rfl rfl ?_ | refine zPF rfl rfl rfl ?_ | refine zPT rfl (by assumption) rfl ?_ | refine zPF rfl (by assumption) rfl ?_ | refine zLss rfl rfl ?_ | refine zGtr rfl rfl ?_ | refine zT rfl rfl ?_ | refine zLd (ty := 3) rfl (Bx.ld (by assumption) (by rfl) E_int rfl) ?_ | refine zLd (ty := 4) rfl (Bx.ld (by assumption) (by rfl) E_bool rfl) ?_ | refine zFld (f := 1) rfl O_api_Graph_Thread ?_ | refine zFld (f := 2) rfl O_api_Graph_Params ?_ | refine zFld (f := 3) rfl O_api_Graph_Regs ?_)
        exact WP.ret ⟨.inr rfl, _, rfl, by rw [e]; rfl, f1⟩
      cases d7 : decide ((g.blocks.length : Int) > 32768)
      case true =>
        have e := bad (by rw [rest, d4, d5, d6, d7]; rfl)
        (repeat first | refine zSeq ?_ | refine zReg ?_ | refine zNil rfl ?_ | refine zOn rfl rfl ?_ | refine zOff rfl rfl ?_ | refine zOn rfl (by assumption) ?_ | refine zOff rfl (by assumption) ?_ | refine zMov rfl ?_ | refine zAsg rfl ?_ | refine zPF rfl rfl rfl ?_ | refine zPT rfl (by assumption) rfl ?_ | refine zPF rfl (by assumption) rfl ?_ | refine zLss rfl rfl ?_ | refine zGtr rfl rfl ?_ | refine zT rfl rfl ?_ | refine zLd (ty := 3) rfl (Bx.ld (by assumption) (by rfl) E_int rfl) ?_ | refine zLd (ty := 4) rfl (Bx.ld (by assumption) (by rfl) E_bool rfl) ?_ | refine zFld (f := 1) rfl O_api_Graph_Thread ?_ | refine zFld (f := 2) rfl O_api_Graph_Params ?_ | refine zFld (f := 3) rfl O_api_Graph_Regs ?_)
        exact WP.ret ⟨.inr rfl, _, rfl, by rw [e]; rfl, f1⟩
      have hpos : 0 < g.blocks.length := by have := of_decide_eq_false d6; omega
      obtain ⟨ck, fvs, tvs, hat0, hcol⟩ := els_cols hvl
      obtain ⟨bb, off, ha1, hrd⟩ := hat0 0 hpos H1 (.refl _)
      obtain ⟨⟨vp, vc, eck, hph, _⟩, _, _⟩ := hcol 0 hpos
      rw [eck] at hrd
      have hl3 := (hrd.at1 (i := 0) rfl).load1 (V := V) E_s_api_Phi rfl
      have ha1 : aIndex V.E 22 vb (.int .i64 0) = some (.pointer (some ⟨bb, off, none⟩)) := ha1
      cases d8 : decide ((g.blocks[0].phis.length : Int) > 0)
      · have e : Flo.odd g = false := by
          rw [rest, d4, d5, d6, d7, List.getElem?_eq_getElem hpos]
          simp only [d8]; rfl
        (repeat first | refine zSeq ?_ | refine zReg ?_ | refine zSkp ?_ | refine zNil rfl ?_ | refine zOn rfl rfl ?_ | refine zOff rfl rfl ?_ | refine zOn rfl (by assumption) ?_ | refine zMov rfl ?_ | refine zPF rfl rfl rfl ?_ | refine zPF rfl (by assumption) rfl ?_ | refine zLss rfl rfl ?_ | refine zGtr rfl rfl ?_ | refine zF rfl (by assumption) ?_ | refine zLd (ty := 3) rfl (Bx.ld (by assumption) (by rfl) E_int rfl) ?_ | refine zLd (ty := 4) rfl (Bx.ld (by assumption) (by rfl) E_bool rfl) ?_ | refine zIdx rfl rfl ha1 ?_ | refine zFld (f := 0) rfl O_api_Block_Phis ?_ | refine zLen rfl (hph.len E_s_api_Phi) ?_ | refine zLd (ty := 30) rfl hl3 ?_ | refine zFld (f := 1) rfl O_api_Graph_Thread ?_ | refine zFld (f := 2) rfl O_api_Graph_Params ?_ | refine zFld (f := 3) rfl O_api_Graph_Regs ?_ | refine zFld (f := 4) rfl O_api_Graph_Blocks ?_ | refine zLd (ty := 22) rfl (Bx.ld (by assumption) (by rfl) E_s_api_Block rfl) ?_)
        exact ⟨(), ⟨rfl, e⟩, rfl, rfl, trivial⟩
      · have e := bad (by
          rw [rest, d4, d5, d6, d7, List.getElem?_eq_getElem hpos]
          simp only [d8]; rfl)
        (repeat first | refine zSeq ?_ | refine zReg ?_ | refine zNil rfl ?_ | refine zOn rfl rfl ?_ | refine zOff rfl rfl ?_ | refine zOn rfl (by assumption) ?_ | refine zMov rfl ?_ | refine zAsg rfl ?_ | refine zPF rfl rfl rfl ?_ | refine zPF rfl (by assumption) rfl ?_ | refine zLss rfl rfl ?_ | refine zGtr rfl rfl ?_ | refine zT rfl (by assumption) ?_ | refine zLd (ty := 3) rfl (Bx.ld (by assumption) (by rfl) E_int rfl) ?_ | refine zLd (ty := 4) rfl (Bx.ld (by assumption) (by rfl) E_bool rfl) ?_ | refine zIdx rfl rfl ha1 ?_ | refine zFld (f := 0) rfl O_api_Block_Phis ?_ | refine zLen rfl (hph.len E_s_api_Phi) ?_ | refine zLd (ty := 30) rfl hl3 ?_ | refine zFld (f := 1) rfl O_api_Graph_Thread ?_ | refine zFld (f := 2) rfl O_api_Graph_Params ?_ | refine zFld (f := 3) rfl O_api_Graph_Regs ?_ | refine zFld (f := 4) rfl O_api_Graph_Blocks ?_ | refine zLd (ty := 22) rfl (Bx.ld (by assumption) (by rfl) E_s_api_Block rfl) ?_)
        exact WP.ret ⟨.inr rfl, _, rfl, by rw [e]; rfl, f1⟩
    · have b1' : Bx H1 H.next 24 [.string g.name, .bool true, .int .i64 g.params, .int .i64 g.regs, vb] := by have := b1'; unfold graphC at this; rw [t1] at this; exact this
      cases t2 : decide (g.params > 0)
      ·
        have rest := rest (by rw [t1, t2]; rfl)
        cases d4 : decide (g.regs < g.params)
        case true =>
          have e := bad (by rw [rest, d4]; rfl)
          (repeat first | refine zSeq ?_ | refine zReg ?_ | refine zNil rfl ?_ | refine zOn rfl rfl ?_ | refine zOff rfl rfl ?_ | refine zOn rfl (by assumption) ?_ | refine zOff rfl (by assumption) ?_ | refine zMov rfl ?_ | refine zAsg rfl ?_ | refine zPT rfl rfl rfl ?_ | refine zPT rfl (by assumption) rfl ?_ | refine zPF rfl (by assumption) rfl ?_ | refine zLss rfl rfl ?_ | refine zGtr rfl rfl ?_ | refine zT rfl rfl ?_ | refine zLd (ty := 3) rfl (Bx.ld (by assumption) (by rfl) E_int rfl) ?_ | refine zLd (ty := 4) rfl (Bx.ld (by assumption) (by rfl) E_bool rfl) ?_ | refine zFld (f := 1) rfl O_api_Graph_Thread ?_ | refine zFld (f := 2) rfl O_api_Graph_Params ?_ | refine zFld (f := 3) rfl O_api_Graph_Regs ?_)
          exact WP.ret ⟨.inr rfl, _, rfl, by rw [e]; rfl, f1⟩
        cases d5 : decide (g.regs > 65536)
        case true =>
          have e := bad (by rw [rest, d4, d5]; rfl)
          (repeat first | refine zSeq ?_ | refine zReg ?_ | refine zNil rfl ?_ | refine zOn rfl rfl ?_ | refine zOff rfl rfl ?_ | refine zOn rfl (by assumption) ?_ | refine zOff rfl (by assumption) ?_ | refine zMov rfl ?_ | refine zAsg rfl ?_ | refine zPT rfl rfl rfl ?_ | refine zPT rfl (by assumption) rfl ?_ | refine zPF rfl (by assumption) rfl ?_ | refine zLss rfl rfl ?_ | refine zGtr rfl rfl ?_ | refine zT rfl rfl ?_ | refine zLd (ty := 3) rfl (Bx.ld (by assumption) (by rfl) E_int rfl) ?_ | refine zLd (ty := 4) rfl (Bx.ld (by assumption) (by rfl) E_bool rfl) ?_ | refine zFld (f := 1) rfl O_api_Graph_Thread ?_ | refine zFld (f := 2) rfl O_api_Graph_Params ?_ | refine zFld (f := 3) rfl O_api_Graph_Regs ?_)
          exact WP.ret ⟨.inr rfl, _, rfl, by rw [e]; rfl, f1⟩
        cases d6 : decide ((g.blocks.length : Int) < 1)
        case true =>
          have e := bad (by rw [rest, d4, d5, d6]; rfl)
          (repeat first | refine zSeq ?_ | refine zReg ?_ | refine zNil rfl ?_ | refine zOn rfl rfl ?_ | refine zOff rfl rfl ?_ | refine zOn rfl (by assumption) ?_ | refine zOff rfl (by assumption) ?_ | refine zMov rfl ?_ | refine zAsg rfl ?_ | refine zPT rfl rfl rfl ?_ | refine zPT rfl (by assumption) rfl ?_ | refine zPF rfl (by assumption) rfl ?_ | refine zLss rfl rfl ?_ | refine zGtr rfl rfl ?_ | refine zT rfl rfl ?_ | refine zLd (ty := 3) rfl (Bx.ld (by assumption) (by rfl) E_int rfl) ?_ | refine zLd (ty := 4) rfl (Bx.ld (by assumption) (by rfl) E_bool rfl) ?_ | refine zFld (f := 1) rfl O_api_Graph_Thread ?_ | refine zFld (f := 2) rfl O_api_Graph_Params ?_ | refine zFld (f := 3) rfl O_api_Graph_Regs ?_)
          exact WP.ret ⟨.inr rfl, _, rfl, by rw [e]; rfl, f1⟩
        cases d7 : decide ((g.blocks.length : Int) > 32768)
        case true =>
          have e := bad (by rw [rest, d4, d5, d6, d7]; rfl)
          (repeat first | refine zSeq ?_ | refine zReg ?_ | refine zNil rfl ?_ | refine zOn rfl rfl ?_ | refine zOn rfl (by assumption) ?_ | refine zOff rfl (by assumption) ?_ | refine zMov rfl ?_ | refine zAsg rfl ?_ | refine zPT rfl rfl rfl ?_ | refine zPT rfl (by assumption) rfl ?_ | refine zPF rfl (by assumption) rfl ?_ | refine zLss rfl rfl ?_ | refine zGtr rfl rfl ?_ | refine zT rfl rfl ?_ | refine zLd (ty := 3) rfl (Bx.ld (by assumption) (by rfl) E_int rfl) ?_ | refine zLd (ty := 4) rfl (Bx.ld (by assumption) (by rfl) E_bool rfl) ?_ | refine zFld (f := 1) rfl O_api_Graph_Thread ?_ | refine zFld (f := 2) rfl O_api_Graph_Params ?_ | refine zFld (f := 3) rfl O_api_Graph_Regs ?_)
          exact WP.ret ⟨.inr rfl, _, rfl, by rw [e]; rfl, f1⟩
        have hpos : 0 < g.blocks.length := by have := of_decide_eq_false d6; omega
        obtain ⟨ck, fvs, tvs, hat0, hcol⟩ := els_cols hvl
        obtain ⟨bb, off, ha1, hrd⟩ := hat0 0 hpos H1 (.refl _)
        obtain ⟨⟨vp, vc, eck, hph, _⟩, _, _⟩ := hcol 0 hpos
        rw [eck] at hrd
        have hl3 := (hrd.at1 (i := 0) rfl).load1 (V := V) E_s_api_Phi rfl
        have ha1 : aIndex V.E 22 vb (.int .i64 0) = some (.pointer (some ⟨bb, off, none⟩)) := ha1
        cases d8 : decide ((g.blocks[0].phis.length : Int) > 0)
        · have e : Flo.odd g = false := by
            rw [rest, d4, d5, d6, d7, List.getElem?_eq_getElem hpos]
            simp only [d8]; rfl
          (repeat first | refine zSeq ?_ | refine zReg ?_ | refine zSkp ?_ | refine zNil rfl ?_ | refine zOn rfl rfl ?_ | refine zOn rfl (by assumption) ?_ | refine zMov rfl ?_ | refine zPT rfl rfl rfl ?_ | refine zPF rfl (by assumption) rfl ?_ | refine zLss rfl rfl ?_ | refine zGtr rfl rfl ?_ | refine zF rfl (by assumption) ?_ | refine zLd (ty := 3) rfl (Bx.ld (by assumption) (by rfl) E_int rfl) ?_ | refine zLd (ty := 4) rfl (Bx.ld (by assumption) (by rfl) E_bool rfl) ?_ | refine zIdx rfl rfl ha1 ?_ | refine zFld (f := 0) rfl O_api_Block_Phis ?_ | refine zLen rfl (hph.len E_s_api_Phi) ?_ | refine zLd (ty := 30) rfl hl3 ?_ | refine zFld (f := 1) rfl O_api_Graph_Thread ?_ | refine zFld (f := 2) rfl O_api_Graph_Params ?_ | refine zFld (f := 3) rfl O_api_Graph_Regs ?_ | refine zFld (f := 4) rfl O_api_Graph_Blocks ?_ | refine zLd (ty := 22) rfl (Bx.ld (by assumption) (by rfl) E_s_api_Block rfl) ?_)
          exact ⟨(), ⟨rfl, e⟩, rfl, rfl, trivial⟩
        · have e := bad (by
            rw [rest, d4, d5, d6, d7, List.getElem?_eq_getElem hpos]
            simp only [d8]; rfl)
          (repeat first | refine zSeq ?_ | refine zReg ?_ | refine zNil rfl ?_ | refine zOn rfl rfl ?_ | refine zOn rfl (by assumption) ?_ | refine zMov rfl ?_ | refine zAsg rfl ?_ | refine zPT rfl rfl rfl ?_ | refine zPF rfl (by assumption) rfl ?_ | refine zLss rfl rfl ?_ | refine zGtr rfl rfl ?_ | refine zT rfl (by assumption) ?_ | refine zLd (ty := 3) rfl (Bx.ld (by assumption) (by rfl) E_int rfl) ?_ | refine zLd (ty := 4) rfl (Bx.ld (by assumption) (by rfl) E_bool rfl) ?_ | refine zIdx rfl rfl ha1 ?_ | refine zFld (f := 0) rfl O_api_Block_Phis ?_ | refine zLen rfl (hph.len E_s_api_Phi) ?_ | refine zLd (ty := 30) rfl hl3 ?_ | refine zFld (f := 1) rfl O_api_Graph_Thread ?_ | refine zFld (f := 2) rfl O_api_Graph_Params ?_ | refine zFld (f := 3) rfl O_api_Graph_Regs ?_ | refine zFld (f := 4) rfl O_api_Graph_Blocks ?_ | refine zLd (ty := 22) rfl (Bx.ld (by assumption) (by rfl) E_s_api_Block rfl) ?_)
          exact WP.ret ⟨.inr rfl, _, rfl, by rw [e]; rfl, f1⟩
      · have e := bad (by unfold Flo.odd; rw [d1, d2, t1, t2]; rfl)
        (repeat first | refine zSeq ?_ | refine zReg ?_ | refine zNil rfl ?_ | refine zOn rfl rfl ?_ | refine zOff rfl rfl ?_ | refine zOn rfl (by assumption) ?_ | refine zOff rfl (by assumption) ?_ | refine zMov rfl ?_ | refine zAsg rfl ?_ | refine zPT rfl rfl rfl ?_ | refine zPT rfl (by assumption) rfl ?_ | refine zPF rfl (by assumption) rfl ?_ | refine zLss rfl rfl ?_ | refine zGtr rfl rfl ?_ | refine zT rfl rfl ?_ | refine zLd (ty := 3) rfl (Bx.ld (by assumption) (by rfl) E_int rfl) ?_ | refine zLd (ty := 4) rfl (Bx.ld (by assumption) (by rfl) E_bool rfl) ?_ | refine zFld (f := 1) rfl O_api_Graph_Thread ?_ | refine zFld (f := 2) rfl O_api_Graph_Params ?_)
        exact WP.ret ⟨.inr rfl, _, rfl, by rw [e]; rfl, f1⟩
  rintro _ Hy ⟨hy, hodd⟩
  replace hy := hy.symm
  subst hy
  have hmay : Flo.may mi g = (g.blocks.all (Flo.blockOk mi g.regs) && (Flo.froms g.blocks && (List.range g.blocks.length).all fun k => !Flo.circ g.blocks k g.blocks.length k)) := by unfold Flo.may; rw [hodd]; rfl
  rw [hmay]
  clear hmay bad
  have hpos : 0 < g.blocks.length := by
    unfold Flo.odd at hodd
    simp only [Bool.or_eq_false_iff] at hodd
    have := of_decide_eq_false hodd.2.2.2.2.2.1
    omega
  obtain ⟨H2, hc2, f2⟩ := containsFunc_block_c (H := H1) (f := 59) (cap := #[.pointer (some ⟨H.next, 0, none⟩)]) (p := fun b => !Flo.blockOk mi g.regs b) hO hvl (by have := hsm.nb; omega) (by rw [fn_flow_May_q1]; rfl) (fun x hx cs Hx fx hR => by
    obtain ⟨_, Hz, h, rfl, fz⟩ := mayQ1_c (H := Hx) hO (hg1.fr fx) (b1'.fr fx) hR (hop x hx) (hsm.code x hx) (hsm.phis x hx) (hsm.args x hx)
    exact ⟨Hz, h, fz⟩)
  rw [any_not] at hc2
  have b2 := b1'.fr f2
  have hvl2 := hvl.fr BlockR.m f2
  have f12 := f1.trans f2
  obtain ⟨_, H3, hc3, rfl, f3⟩ := froms_c (H := H2) hO hvl2 hpos hsm.nb hsm.to hsm.frm
  have b3 := b2.fr f3
  have hvl3 := hvl2.fr BlockR.m f3
  have f13 := f12.trans f3
  (repeat first | refine zSeq ?_ | refine zReg ?_ | refine zFld (f := 4) rfl O_api_Graph_Blocks ?_ | refine zLd (ty := 22) rfl (Bx.ld (by assumption) (by rfl) E_s_api_Block rfl) ?_)
  refine WL.op (v := .func (.func 59) #[] #[.pointer (some ⟨H.next, 0, none⟩)]) (H1 := H1) rfl ?_
  refine WL.call rfl rfl is_slices_ContainsFunc_s_api_Block_api_Block hc2 ?_
  cases c1 : g.blocks.all (Flo.blockOk mi g.regs)
  · (repeat first | refine zSeq ?_ | refine zReg ?_ | refine zNil rfl ?_ | refine zOff rfl rfl ?_ | refine zAsg rfl ?_ | refine zPT rfl rfl rfl ?_ | refine zT rfl rfl ?_)
    exact WP.ret ⟨.inr rfl, _, rfl, rfl, f12⟩
  (repeat first | refine zOn rfl rfl ?_ | refine zFld (f := 4) rfl O_api_Graph_Blocks ?_ | refine zLd (ty := 22) rfl (Bx.ld (by assumption) (by rfl) E_s_api_Block rfl) ?_)
  refine WL.call rfl rfl is_flow_froms hc3 ?_
  cases c2 : Flo.froms g.blocks
  · (repeat first | refine zSeq ?_ | refine zReg ?_ | refine zNil rfl ?_ | refine zOn rfl rfl ?_ | refine zAsg rfl ?_ | refine zPF rfl rfl rfl ?_ | refine zNot rfl ?_ | refine zT rfl rfl ?_)
    exact WP.ret ⟨.inr rfl, _, rfl, rfl, f13⟩
  have hin : ∀ b ∈ g.blocks, ∀ t ∈ b.to, 0 ≤ t ∧ t < g.blocks.length := fun b hb t ht => by
    unfold Flo.froms at c2
    simp only [Bool.and_eq_true] at c2
    have := List.all_eq_true.1 (List.all_eq_true.1 c2.1.1 b hb) t ht
    unfold Flo.within at this
    simp only [Bool.not_eq_true', Bool.or_eq_false_iff, decide_eq_false_iff_not] at this
    omega
  have hone : ∀ b ∈ g.blocks, b.code = [] → b.to ≠ [] := fun b hb hc he => by
    have := List.all_eq_true.1 c1 b hb
    unfold Flo.blockOk at this
    rw [hc, he] at this
    simp [Flo.toOf] at this
  (repeat first | refine zSeq ?_ | refine zReg ?_ | refine zBlk ?_ | refine zSkp ?_ | refine zNil rfl ?_ | refine zOn rfl rfl ?_ | refine zMov rfl ?_ | refine zPF rfl rfl rfl ?_ | refine zNot rfl ?_ | refine zF rfl rfl ?_ | refine zLen rfl (hvl.len E_s_api_Block) ?_ | refine zFld (f := 4) rfl O_api_Graph_Blocks ?_ | refine zLd (ty := 22) rfl (Bx.ld (by assumption) (by rfl) E_s_api_Block rfl) ?_)
  refine WP.loopH (σ := Nat) (fun k => [(1, .pointer (some ⟨H.next, 0, none⟩)), (66, .int .i64 g.blocks.length), (67, .int .i64 k)]) (fun k Hy => Hy = H3 ∧ k ≤ g.blocks.length ∧ ∀ j, j < k → Flo.circ g.blocks j g.blocks.length j = false) (fun k => g.blocks.length - k) 0 ⟨rfl, Nat.zero_le _, fun j h => absurd h (by omega)⟩ ⟨rfl, rfl, rfl, trivial⟩ ?_
  rintro k Hy ⟨hy, hk, hpre⟩
  replace hy := hy.symm
  subst hy
  have hnb := hsm.nb
  rcases Nat.lt_or_ge k g.blocks.length with h | h
  · have g1 : decide ((k : Int) < g.blocks.length) = true := decide_eq_true (by omega)
    have hci := circle_c (H := H3) hO hvl3 h hsm.nb hone hin
    (repeat first | refine zSeq ?_ | refine zReg ?_ | refine zBlk ?_ | refine zSkp ?_ | refine zNil rfl ?_ | refine zGet rfl ?_ | refine zLss rfl rfl ?_ | refine zT rfl (by assumption) ?_ | refine zFld (f := 4) rfl O_api_Graph_Blocks ?_ | refine zLd (ty := 22) rfl (Bx.ld (by assumption) (by rfl) E_s_api_Block rfl) ?_)
    refine WL.call rfl rfl is_flow_circle hci ?_
    cases c3 : Flo.circ g.blocks k g.blocks.length k
    · (repeat first | refine zReg ?_ | refine zSkp ?_ | refine zNil rfl ?_ | refine zAdd rfl rfl (by omega) ?_ | refine zF rfl rfl ?_)
      refine ⟨k + 1, ⟨rfl, h, fun j hj => ?_⟩, by omega, rfl, rfl, rfl, trivial⟩
      by_cases e : j = k
      · subst e; exact c3
      · exact hpre j (by omega)
    · (repeat first | refine zSeq ?_ | refine zReg ?_ | refine zNil rfl ?_ | refine zAsg rfl ?_ | refine zT rfl rfl ?_)
      refine WP.ret ⟨.inr rfl, _, rfl, ?_, f13⟩
      have : ((List.range g.blocks.length).all fun k => !Flo.circ g.blocks k g.blocks.length k) = false := by
        rw [List.all_eq_false]
        exact ⟨k, List.mem_range.2 h, by rw [c3]; decide⟩
      rw [this]; rfl
  · have g1 : decide ((k : Int) < g.blocks.length) = false := decide_eq_false (by omega)
    (repeat first | refine zSeq ?_ | refine zReg ?_ | refine zExt ?_ | refine zNil rfl ?_ | refine zAsg rfl ?_ | refine zLss rfl rfl ?_ | refine zF rfl (by assumption) ?_)
    refine WP.ret ⟨.inr rfl, _, rfl, ?_, f13⟩
    have : ((List.range g.blocks.length).all fun k => !Flo.circ g.blocks k g.blocks.length k) = true := by
      rw [List.all_eq_true]
      intro j hj
      rw [hpre j (by have := List.mem_range.1 hj; omega)]; rfl
    rw [this]; rfl
end Go.Proofs.YtfhmdhndmlinkaaDoor.U

