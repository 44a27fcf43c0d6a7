/-
  EV, part Y: regions that draw their order are run soundly; the whole.
-/
import Derived.Test.YtikjlppcnmalnaaGreatDoorEvX
namespace Go.Ev
open Go.RowKit

variable {B0 : Nat} {V : Env} {call : CallFn} {n : Nat} {ds : List Deferred} {ops : Array Oper} {σ : List Nat} {T0 : PTree Value} {H0 : AH} {R : List Rec} {Tf : PTree Value} {Hf : AH} {ι0 : Emb} {w0 : World}

/-- Where nothing may come up any more, all has come up. -/
theorem all_listed (h : Ran V call n ops σ T0 H0 R Tf Hf) {listed : Array Bool} (hsz : listed.size = ops.size) (hr : Region.ready .any ops listed = []) : ∀ (k : Nat) (r : Rec), R[k]? = some r → Listed listed r.i := by
  intro k
  induction k using Nat.strongRecOn with
  | _ k ih =>
    intro r hk
    have hin := h.ord.lt _ (h.mem hk)
    obtain ⟨o, ho, _⟩ := h.step k r hk
    by_cases hL : Listed listed r.i
    · exact hL
    · exfalso
      have : r.i ∈ Region.ready .any ops listed := mem_ready.2 ⟨by
        unfold Listed at hL
        have hi : r.i < listed.size := by omega
        simp only [Array.getD_eq_getD_getElem?, Array.getElem?_eq_getElem hi, Option.getD_some] at hL ⊢
        simpa using hL, o, ho, fun e he hb => by
        have hlt := h.ord.topo r.i o ho e he hb
        rw [h.idx hk] at hlt
        have hmem : e.on ∈ σ := by
          have hl : R.length = σ.length := by rw [← h.ids]; simp
          have hk' := (List.getElem?_eq_some_iff.1 hk).1
          exact List.idxOf_lt_length_iff.1 (by omega)
        obtain ⟨k2, r2, q1, q2⟩ := h.find (h.ord.lt _ hmem)
        have := h.idx q1
        rw [q2] at this
        have := ih k2 (by omega) r2 q1
        rw [q2] at this
        exact this⟩
      rw [hr] at this
      cases this

theorem draw_done (h : Ran V call n ops σ T0 H0 R Tf Hf) {Q : Exit → Act → World → Prop} (hQ : ∀ ι' a' w', TRel ι' Tf a'.tmps → a'.tmps.size = n → a'.defers = ds → Step V.P B0 ι0 H0 w0 ι' Hf w' → Q .normal a' w')
    {fuel : Nat} {listed : Array Bool} {a : Act} {w : World} {nb : Nat} {ι : Emb} {T : PTree Value} (hI : Inv V B0 n ds ops T0 H0 R Hf ι0 w0 fuel listed a w nb ι T) (hr : Region.ready .any ops listed = []) : Q .normal a w := by
  have hall := all_listed h hI.sz hr
  have hnb : nb = R.length := by
    rcases Nat.eq_or_lt_of_le hI.nbl with e | hlt
    · exact e
    · have h1 := hI.nbbig R[nb] (by simp [hlt])
      exact absurd (hall nb R[nb] (by simp [hlt])) (hI.after nb R[nb] (Nat.le_refl _) (by simp [hlt]) h1)
  have hH : Hat R Hf nb = Hf := by rw [hnb]; simp [Hat]
  have hst := hI.step
  rw [hH] at hst
  refine hQ ι a w (fun t v hv => ?_) hI.tsz hI.td hst
  have hTf : Tat R Tf R.length = Tf := by simp [Tat]
  have key : T.get t = Tf.get t := by
    have h1 := Tat_get h R.length (Nat.le_refl _) t
    rw [hTf] at h1
    rcases h1 with ⟨k1, r1, o1, _, q2, q3, q4, q5⟩ | ⟨q1, q2⟩
    · rw [q5]
      rcases hI.slots t with ⟨k2, r2, o2, s1, s2, s3, s4, s5⟩ | ⟨s1, _⟩
      · by_cases e : r2.i = r1.i
        · obtain ⟨rfl, rfl⟩ := h.uniq s1 q2 e
          exact s5
        · exact absurd q4 (h.ord.dst r2.i r1.i o2 o1 t (h.mem s1) (h.mem q2) s3 q3 e s4).1
      · exact absurd q4 (s1 k1 r1 o1 q2 (hall k1 r1 q2) q3)
    · rw [q2]
      rcases hI.slots t with ⟨k2, r2, o2, s1, s2, s3, s4, s5⟩ | ⟨_, s2⟩
      · exact absurd s4 (q1 k2 r2 o2 (List.getElem?_eq_some_iff.1 s1).1 s1 s3)
      · exact s2
  exact hI.tr t v (by rw [key]; exact hv)

theorem draw_any {ro : Option Nat} (hE : TOk V.E V.P) (hF : FOk V.F V.P) (hc : CallOk V call) (h : Ran V call n ops σ T0 H0 R Tf Hf) (hG : GOk ι0 V.nG) {Q : Exit → Act → World → Prop}
    (hQ : ∀ ι' a' w', TRel ι' Tf a'.tmps → a'.tmps.size = n → a'.defers = ds → Step V.P B0 ι0 H0 w0 ι' Hf w' → Q .normal a' w') :
    ∀ (fuel : Nat) (listed : Array Bool) (a : Act) (w : World) (nb : Nat) (ι : Emb) (T : PTree Value), Inv V B0 n ds ops T0 H0 R Hf ι0 w0 fuel listed a w nb ι T → wpAnyIn (Wd ro) 0 V.P .any ops Q fuel listed a w
  | 0, listed, a, w, nb, ι, T, hI => by
    have hr : Region.ready .any ops listed = [] := by
      have hc0 := hI.cnt
      rw [List.count_eq_zero] at hc0
      cases hrd : Region.ready .any ops listed with
      | nil => rfl
      | cons j js =>
        have hj : j ∈ Region.ready .any ops listed := by rw [hrd]; simp
        obtain ⟨h1, o, ho, _⟩ := mem_ready.1 hj
        have hlt : j < listed.size := by rw [hI.sz]; exact (Array.getElem?_eq_some_iff.1 ho).1
        refine absurd ?_ hc0
        simp only [Array.getD_eq_getD_getElem?, Array.getElem?_eq_getElem hlt, Option.getD_some] at h1
        rw [← h1]
        simp
    exact ⟨hr, draw_done h hQ hI hr⟩
  | fuel + 1, listed, a, w, nb, ι, T, hI => by
    refine ⟨fun hr => draw_done h hQ hI hr, fun i hi => ?_⟩
    obtain ⟨h0, o, ho, hed⟩ := mem_ready.1 hi
    obtain ⟨k, r, hr, rfl⟩ := h.find (Array.getElem?_eq_some_iff.1 ho).1
    have hilt : r.i < listed.size := by rw [hI.sz]; exact (Array.getElem?_eq_some_iff.1 ho).1
    have hun : ¬ Listed listed r.i := fun hL => by
      unfold Listed at hL
      simp only [Array.getD_eq_getD_getElem?, Array.getElem?_eq_getElem hilt, Option.getD_some] at hL h0
      rw [hL] at h0; cases h0
    have hag := agree_at h hI hr ho hun hed
    have hG' : GOk ι V.nG := hG.mono hI.step.le
    obtain ⟨o', ho', hs, _, hH⟩ := h.step k r hr
    rw [ho] at ho'; cases ho'
    have hHk : r.H = Hat R Hf k := by simp [Hat, hr]
    unfold wpOpIn
    simp only [ho]
    have hsn := stepOp_seen hs
    rw [aWanted_ok hI.tr o (by rw [aSeen_agree hag]; exact hsn), aWanted_agree hag]
    unfold stepOp at hs
    rw [if_pos hsn] at hs
    cases hb : bigAt ops r with
    | true =>
      have hcb : cls o.op = .big := (bigAt_iff ho).1 hb
      have hk : k = nb := by
        rcases Nat.lt_trichotomy k nb with hlt | e | hgt
        · exact absurd (hI.before k r hlt hr hb) hun
        · exact e
        · exfalso
          have hlt : nb < R.length := Nat.lt_trans hgt (List.getElem?_eq_some_iff.1 hr).1
          have hnb : R[nb]? = some R[nb] := by simp [hlt]
          have hbn := hI.nbbig R[nb] hnb
          obtain ⟨o2, ho2, _⟩ := h.step nb R[nb] hnb
          have ha := h.ord.big R[nb].i r.i o2 (h.mem hnb) (h.mem hr) ho2 ((bigAt_iff ho2).1 hbn) (by rw [h.idx hnb, h.idx hr]; exact hgt)
          exact hI.after nb R[nb] (Nat.le_refl _) hnb hbn (anc_listed hI.closed r.i o ho hed _ ha)
      subst hk
      by_cases hw : aWanted ops r.T o = true
      · rw [if_pos hw] at hs ⊢
        rw [hcb] at hs
        simp only at hs
        rw [← evOp_agree hag, hHk] at hs
        refine (evOp_wp hE hF hc hI.tr hG' hI.step.rel hs fun v' w' ι' hv hst => ?_)
        obtain ⟨nb', T', hI'⟩ := hI.big h hr ho h0 hed hb hst hv
        exact draw_any hE hF hc h hG hQ fuel _ _ _ nb' ι' T' hI'
      · rw [if_neg hw] at hs ⊢
        simp only [Option.some.injEq, Prod.mk.injEq] at hs
        have hst : Step V.P B0 ι (Hat R Hf k) w ι r.H' w := by rw [← hs.2, hHk]; exact Step.refl hI.step.rel
        obtain ⟨nb', T', hI'⟩ := hI.big h hr ho h0 hed hb hst (v' := undef) (by rw [← hs.1]; exact VRel.undef)
        exact ⟨fun _ _ => trivial, draw_any hE hF hc h hG hQ fuel _ _ _ nb' ι T' hI'⟩
    | false =>
      have hcb : cls o.op ≠ .big := fun e => by rw [(bigAt_iff ho).2 e] at hb; cases hb
      have hk : k < nb := by
        rcases Nat.lt_or_ge k nb with hlt | hge
        · exact hlt
        · exfalso
          rcases Nat.eq_or_lt_of_le hge with e | hgt
          · subst e; have := hI.nbbig r hr; rw [hb] at this; cases this
          · have hlt : nb < R.length := Nat.lt_trans hgt (List.getElem?_eq_some_iff.1 hr).1
            have hnb : R[nb]? = some R[nb] := by simp [hlt]
            have hbn := hI.nbbig R[nb] hnb
            obtain ⟨o2, ho2, _⟩ := h.step nb R[nb] hnb
            have ha := h.ord.big R[nb].i r.i o2 (h.mem hnb) (h.mem hr) ho2 ((bigAt_iff ho2).1 hbn) (by rw [h.idx hnb, h.idx hr]; exact hgt)
            exact hI.after nb R[nb] (Nat.le_refl _) hnb hbn (anc_listed hI.closed r.i o ho hed _ ha)
      by_cases hw : aWanted ops r.T o = true
      · rw [if_pos hw] at hs ⊢
        cases hcl : cls o.op with
        | big => exact absurd hcl hcb
        | look =>
          have hl := h.looks k nb r o hr ho hcl hw hk hI.nbl hI.nbbig fun m q m1 m2 m3 m4 => by
            cases hq : anc (masks ops.toList []) r.i q.i with
            | false => rfl
            | true =>
              exfalso
              obtain ⟨oq, hoq, _⟩ := h.step m q m3
              have hLq := hI.before m q m2 m3 m4
              exact hun (anc_listed hI.closed q.i oq hoq (fun e he hbb => hI.closed q.i oq hoq hLq e he hbb) _ hq)
          rw [← aop_agree hag] at hl
          have hev : evOp V call T (Hat R Hf nb) o.op = some (r.v, Hat R Hf nb) := by
            unfold evOp
            split
            · rename_i heq; rw [heq] at hcl; simp [cls] at hcl
            · exact hl
          refine (evOp_wp hE hF hc hI.tr hG' hI.step.rel hev fun v' w' ι' hv hst => ?_)
          have e := hst.same_emb
          subst e
          obtain ⟨T', hI'⟩ := hI.small h hr ho h0 hed hk hb (hI.step.trans hst) (Emb.le_refl _) hv fun k2 r2 ob2 q1 _ q2 q3 => (hI.cr k2 r2 ob2 q1 q2 q3).1
          exact draw_any hE hF hc h hG hQ fuel _ _ _ nb _ T' hI'
        | create =>
          rw [hcl] at hs
          simp only at hs
          cases hcr : aCreate V r.T o.op with
          | none => rw [hcr] at hs; cases hs
          | some mo =>
            obtain ⟨mk, ob⟩ := mo
            rw [hcr] at hs
            simp only [Option.some.injEq, Prod.mk.injEq] at hs
            have hnew : NewAt V ops R k r ob := ⟨hr, o, mk, ho, hcl, hw, hcr⟩
            obtain ⟨c1, c2, c3, c4⟩ := hI.cr k r ob hk hnew hun
            rw [← aCreate_agree hag] at hcr
            obtain ⟨hlone, v', obj, l, hmk⟩ := aCreate_ok (B0 := B0) (w := w) hE hI.tr hG' hcr
            obtain ⟨m1, m2⟩ := hmk.ok r.H.next c1 hI.step.rel.base
            unfold Oper.wpIn
            refine ⟨fun _ _ => trivial, ?_⟩
            rw [Oper.semAt_eq _ _ _ fun c e => by rw [e] at hcr; simp [aCreate] at hcr]
            rw [hmk.run]
            simp only [Oper.uponIn]
            have hst := hI.step.adopt c2 c3 c1 c4 hlone hmk.blk m2
            obtain ⟨T', hI'⟩ := hI.small h hr ho h0 hed hk hb hst (Emb.le_ext c1) (v' := v') (by rw [← hs.1]; exact m1) fun k2 r2 ob2 q1 qne q2 q3 => by
              have hne := hI.crd k2 k r2 r ob2 ob q1 hk qne q2 hnew q3 hun
              unfold Emb.ext
              rw [if_neg hne]
              exact (hI.cr k2 r2 ob2 q1 q2 q3).1
            exact draw_any hE hF hc h hG hQ fuel _ _ _ nb _ T' hI'
      · rw [if_neg hw] at hs ⊢
        simp only [Option.some.injEq, Prod.mk.injEq] at hs
        obtain ⟨T', hI'⟩ := hI.small h hr ho h0 hed hk hb hI.step (Emb.le_refl _) (v' := undef) (by rw [← hs.1]; exact VRel.undef) fun k2 r2 ob2 q1 _ q2 q3 => (hI.cr k2 r2 ob2 q1 q2 q3).1
        exact ⟨fun _ _ => trivial, draw_any hE hF hc h hG hQ fuel _ _ _ nb ι T' hI'⟩

/-- A region that draws, from all that is known of its run in one order. -/
theorem ran_wp (hE : TOk V.E V.P) (hF : FOk V.F V.P) (hm : V.P.follows .mixedOrders = true) (hc : CallOk V call) (ro : Option Nat) (id : Nat) {ι : Emb} {T : PTree Value} {H : AH} {a : Act} {w : World} {T' : PTree Value} {H' : AH} {R : List Rec}
    (hT : TRel ι T a.tmps) (hn : a.tmps.size = n) (hd : a.defers = ds) (hG : GOk ι V.nG) (hR : HRel V.P B0 ι H w) (h : Ran V call n ops σ T H R T' H') (Q : Exit → Act → World → Prop)
    (hQ : ∀ ι' a' w', TRel ι' T' a'.tmps → a'.tmps.size = n → a'.defers = ds → Step V.P B0 ι H w ι' H' w' → Q .normal a' w') : (Code.region id ops true).wpIn (Wd ro) 0 V.P Q a w := by
  refine wpIn_region_any hm ?_
  have hR' : HRel V.P B0 ι H w.drew := hR.drewN w.drew rfl
  obtain ⟨nb, hI⟩ := Inv.start h hT hn hd hR'
  exact draw_any hE hF hc h hG (w0 := w.drew) (fun ι' a' w' g1 g2 g3 g4 => hQ ι' a' w' g1 g2 g3 ((Step.drew hR).trans g4)) _ _ _ _ nb ι T hI

theorem drawEv_ok (hE : TOk V.E V.P) (hF : FOk V.F V.P) (hm : V.P.follows .mixedOrders = true) : DrawOk V (drawEv V) := by
  intro call hc ro n ds ops id B0 ι T H a w T' H' hT hn hd hG hR he Q hQ
  unfold drawEv at he
  split at he
  · rename_i hok
    split at he
    · rename_i R Tf Hf hrun
      split at he
      · rename_i hl
        cases he
        exact ran_wp hE hF hm hc ro id hT hn hd hG hR ⟨orderOk_ord hok, runSeq_len hrun, runSeq_zero hrun, runSeq_step hrun, fun k nb r o hr ho hc hw => looks_of_all hl k nb r o hr ho hc (by
          obtain ⟨o', ho', hs, _⟩ := runSeq_step hrun k r hr
          rw [ho] at ho'; cases ho'
          have hsn := stepOp_seen hs
          unfold stepOp at hs
          rw [if_pos hsn, if_pos hw, hc] at hs
          simp only at hs
          split at hs
          · assumption
          · cases hs) hw⟩ Q hQ
      · cases he
    · cases he
  · cases he

/-- THE WHOLE: what the abstract run of a function yields, the model's calls yield, on whatever tape. -/
theorem ev_sound (hE : TOk V.E V.P) (hF : FOk V.F V.P) (hm : V.P.follows .mixedOrders = true) (lf d : Nat) : CallOk V (evF V (drawEv V) lf d) :=
  evF_ok (drawEv V) hE hF (drawEv_ok hE hF hm) lf d
end Go.Ev
