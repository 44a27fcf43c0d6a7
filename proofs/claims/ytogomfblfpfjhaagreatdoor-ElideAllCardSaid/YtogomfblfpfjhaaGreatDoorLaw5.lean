/-
  Contracts of elide: a block of one's own.
-/
import Derived.Test.YtogomfblfpfjhaaGreatDoorLaw4
import Derived.Test.YtogomfblfpfjhaaGreatDoorEv5
set_option linter.all false
namespace Go.Eli
open Go.Ev
def block (locks:List Int) (b:Block):Block:={ b with code:=b.code.filter fun i=>!goes locks i }
end Go.Eli
namespace Go.Ev
theorem OwI.isSl {e:TypeId}{H:AH}{n0:Nat}{v:Value}{l:List Int}{o:Option (Nat×Nat)} (h:OwI e H n0 v l o):∃ a n c,v=.slice a n c:=(h.rYoung (A:=.no) .no).isSl
end Go.Ev
namespace Go.Proofs.YtogomfblfpfjhaaGreatDoor.U
open Go Go.Ev
attribute [local irreducible] WL WP WH W
theorem elPhi0:te_Phi.zv.cells.toList=[.int .i64 0,.slice none 0 0]:=by kernel_rfl
theorem elBlk0:te_Block.zv.cells.toList=List.replicate 4 (.slice none 0 0):=by kernel_rfl
theorem elIns0:te_Ins.zv.cells.toList=[.int .u8 0,.int .i64 0,.int .i64 0,.int .i64 0,.int .i64 0,.slice none 0 0]:=by kernel_rfl
theorem elFillPhi {r:Int}{a:Option Addr}{n c:Nat}:afill (fun i=>some (i * te_Phi.size,te_Phi.size)) (azeros te_Phi.zv.cells.toList 1) [(0,.agg #[.int .i64 r,.slice a n c])]=some [.int .i64 r,.slice a n c]:=by kernel_rfl
theorem elFillIns {a0 a1 a2 a3 a4 a5:Value}:afill (fun i=>some (i * te_Ins.size,te_Ins.size)) (azeros te_Ins.zv.cells.toList 1) [(0,.agg #[a0,a1,a2,a3,a4,a5])]=some [a0,a1,a2,a3,a4,a5]:=by kernel_rfl
theorem elBuildBlk {a1 a2 b1 b2:Nat}{p q:Option Addr}:aBuild V.E 39 [(2,.slice p a1 a2),(3,.slice q b1 b2)]=some (.agg #[.slice none 0 0,.slice none 0 0,.slice p a1 a2,.slice q b1 b2]):=by kernel_rfl
theorem elBuildPhi {r:Int}{a:Option Addr}{n c:Nat}:aBuild V.E 43 [(0,.int .i64 r),(1,.slice a n c)]=some (.agg #[.int .i64 r,.slice a n c]):=by kernel_rfl
attribute [local irreducible] V
variable {O:Orc}{H:AH}
structure SmallE (b:Block):Prop where
 code:b.code.length≤100000
 phis:b.phis.length≤100000
 frm:b.frm.length≤100000
 to:b.to.length≤100000
 pargs:∀ p∈b.phis,p.args.length≤100000
 cargs:∀ i∈b.code,i.args.length≤100000
abbrev WP_:=WPhi 3
abbrev WI_:=WIns 3
abbrev WB_:=WBlk 3 43 41
abbrev WG_:=WGr 3 43 41 39
theorem filter_take {l:List Ins}{p:Ins→Bool}{k:Nat} (h:k < l.length):(l.take (k+1)).filter p=(l.take k).filter p++if p l[k]=true then [l[k]] else []:=by
 rw [List.take_succ_eq_append_getElem h,List.filter_append,List.filter_cons];rfl
set_option maxHeartbeats 8000000 in
theorem own_c (hO:NoO O) {A A2:Av}{b:Block}{cs:List Value} (hb:BlockR A H cs b) (hsm:SmallE b) {locks:List Int}{vl:Value}{c:Nat} (hvl:IntsR A2 H vl locks) (hbl:Bx H c 27 [vl]) (hLl:locks.length≤1000000) :
    ∃ u H',Lc V O F_elide_own [.agg cs.toArray,.func (.func F_elide_All_q1) #[] #[.pointer (some ⟨c,0,none⟩)]] H u H'∧(∃ (cs':List Value) (os:Ev.Os),u=.agg cs'.toArray∧BlockR (.old H.next) H' cs' (Eli.block locks b)∧WB_ H' cs' (Eli.block locks b) os∧os.In H.next H'.next∧os.nd∧Fr H H'):=by
  obtain ⟨vp,vc,vf,vt,rfl,hp,hc,hf,ht⟩:=hb
  refine Lc.elide_own (R:=fun u H'=>∃ (cs':List Value) (os:Ev.Os),u=.agg cs'.toArray∧BlockR (.old H.next) H' cs' (Eli.block locks b)∧WB_ H' cs' (Eli.block locks b) os∧os.In H.next H'.next∧os.nd∧Fr H H') (hO _ _ _ (by decide)) (Nat.le_of_ble_eq_true rfl) (by kernel_rfl) ?_
  unfold P_elide_own
  apply zSeq
  apply zReg
  refine zBox rfl (fun _=>rfl) fun H1 f1 b1 n1=>?_
  refine zAlc E_Block elBlk0 fun H2 f2 b2 n2=>?_
  replace b1:=b1.fr f2
  have b1':Bx H2 H.next 39 [vp,vc,vf,vt]:=b1
  have f12:=f1.trans f2
  clear b1 f1 f2
  refine wN ?_
  apply zSeq
  refine WP.rega ?_
  refine yFld rfl O_Block_From ?_
  refine yLd rfl (b1'.ld rfl E_s_int rfl) ?_
  refine yFld rfl O_Block_To ?_
  refine yLd rfl (b1'.ld rfl E_s_int rfl) ?_
  refine yAlc E_Block elBlk0 fun H3 f3 b3 n3=>?_
  have f13:=f12.trans f3
  obtain ⟨_,H4,hc4,f4,of,wf4⟩:=cloneO_c (H:=H3) hO (hf.fr f13) hsm.frm
  obtain ⟨fa,fn,fc,rfl⟩:=wf4.isSl
  have f14:=f13.trans f4
  obtain ⟨_,H5,hc5,f5,ot,wt5⟩:=cloneO_c (H:=H4) hO (ht.fr f14) hsm.to
  obtain ⟨ta,tn,tc,rfl⟩:=wt5.isSl
  have f15:=f14.trans f5
  refine WH.call rfl rfl is_slices_Clone_s_int_int hc4 ?_
  refine WH.call rfl rfl is_slices_Clone_s_int_int hc5 ?_
  refine WH.op (op_build rfl elBuildBlk) ?_
  have b35:=(b3.fr f4).fr f5
  refine yStB b35 rfl rfl E_Block (by rw [te_Block_size];rfl) rfl (by simp [Value.cells]) (by simp [Value.cells]) fun H6 f6 b6 n6=>?_
  have b6':Bx H6 H2.next 39 [.slice none 0 0,.slice none 0 0,.slice fa fn fc,.slice ta tn tc]:=b6
  have hn34:H3.next≤H4.next:=f4.1
  have hn45:H4.next≤H5.next:=f5.1
  have hn23:H3.next=H2.next+1:=n3
  have hbo:H.next≤H2.next:=f12.1
  have b16:=(((b1'.fr f3).fr f4).fr f5).frX f6 (by simp;omega)
  have b26:=(((b2.fr f3).fr f4).fr f5).frX f6 (by simp;omega)
  have f16:Fr H H6:=f15.young f6 (by simp;omega) (by simp)
  have wf6:OwI 3 H6 H3.next (.slice fa fn fc) b.frm of:=(wf4.fr f5).frX f6 (fun b hb=>by have:=wf4.young.1 b hb;simp;omega) (by simp)
  have wt6:OwI 3 H6 H4.next (.slice ta tn tc) b.to ot:=wt5.frX f6 (fun b hb=>by have:=wt5.young.1 b hb;simp;omega) (by simp)
  refine WH.nil ⟨?_,_,rfl,?_⟩
  · intro x hx
    rw [List.mem_singleton] at hx
    subst hx
    obtain ⟨q1,q2,q3,rfl⟩:=ht.isSl
    exact .inr ⟨rfl,_,_,_,rfl,rfl,op_load rfl (((b1'.fr f3).fr f4).ld (off:=3) rfl E_s_int rfl),sameV_sl⟩
  have hpH:=hp
  have hcH:=hc
  have hn6:H2.next < H6.next:=b6'.1
  have hBG:∀ {n:Nat},(Av.old H6.next).Gr (.old H.next) n:=Av.old_gr (Av.old_lt.mono (by have:=f16.1;omega))
  have hBlt:(Av.old H6.next).Lt H6.next:=Av.old_lt
  have hBsub:∀ {Hx Hy:AH},FrX [H2.next] [] Hx Hy→FrX (Av.old H6.next).bs (Av.old H6.next).gs Hx Hy:=fun h=>h.sub (fun b hb=>by simp [Av.old] at hb ⊢;omega) (by simp)
  generalize hB:Av.old H6.next=B at *
  clear b1' b2 b3 b35 b6 f3 f4 f5 f6 f12 f13 f14 f15 hc4 hc5 wf4 wt5 hf ht hp hc
  refine WP.seqS (σ:=Value×Option (Nat×Nat)) (fun x=>[(1,.func (.func F_elide_All_q1) #[] #[.pointer (some ⟨c,0,none⟩)]),(2,.pointer (some ⟨H.next,0,none⟩)),(4,.pointer (some ⟨H1.next,0,none⟩)),(5,.pointer (some ⟨H2.next,0,none⟩))]) (fun x Hc=>FrX [H2.next] [] H6 Hc∧Bx Hc H2.next 39 [x.1,.slice none 0 0,.slice fa fn fc,.slice ta tn tc]∧Bd 43 2 PhiR WP_ B Hc H6.next x.1 b.phis x.2) ?_ ?_
  · have hpl:=hpH.len (V:=V) (H2:=H6) E_s_api_Phi
    have hlen1:=fun Hz=>hpH.len (V:=V) (H2:=Hz) E_s_api_Phi
    (repeat first|apply zSeq|apply zReg|apply zBlk|refine wN ?_|refine wM ?_|refine zFld rfl O_Block_Phis ?_|refine wB E_s_api_Phi ?_|refine zLen rfl (hlen1 _) ?_)
    refine WP.loopH (σ:=Nat×Value×Option (Nat×Nat)) (fun x=>[(1,.func (.func F_elide_All_q1) #[] #[.pointer (some ⟨c,0,none⟩)]),(2,.pointer (some ⟨H.next,0,none⟩)),(4,.pointer (some ⟨H1.next,0,none⟩)),(5,.pointer (some ⟨H2.next,0,none⟩)),(18,vp),(19,.int .i64 b.phis.length),(20,.int .i64 x.1)]) (fun x Hc=>FrX [H2.next] [] H6 Hc∧Bx Hc H2.next 39 [x.2.1,.slice none 0 0,.slice fa fn fc,.slice ta tn tc]∧Bd 43 2 PhiR WP_ B Hc H6.next x.2.1 (b.phis.take x.1) x.2.2∧x.1≤b.phis.length) (fun x=>b.phis.length - x.1) (0,.slice none 0 0,none) ⟨.refl _ _ _,b6',.nil,Nat.zero_le _⟩ ⟨rfl,rfl,rfl,rfl,rfl,rfl,rfl,trivial⟩ ?_
    rintro ⟨k,pv,o⟩ Hc ⟨hfr,hbx,how,hk⟩
    simp only at hfr hbx how hk ⊢
    rcases Nat.lt_or_ge k b.phis.length with h|h
    case inr =>
      have g1:decide ((k:Int) < b.phis.length)=false:=decide_eq_false (by omega)
      rw [List.take_of_length_le h] at how
      (repeat first|apply zSeq|apply zReg|refine zExt ?_|refine wN ?_|refine wL ?_|refine wE ?_)
      exact ⟨(pv,o),⟨hfr,hbx,how⟩,rfl,rfl,rfl,rfl,trivial⟩
    have g1:decide ((k:Int) < b.phis.length)=true:=decide_eq_true (by omega)
    have frH:Fr H Hc:=f16.young hfr (by simp;omega) (by simp)
    have hpc:Els 2 PhiR A Hc vp b.phis:=hpH.fr PhiR.m frH
    obtain ⟨bb,off,cs,ha1,hrd,va,rfl,hva⟩:=hpc.at E_s_api_Phi E_Phi te_Phi_size (kd:=.i64) h
    have hl1:=hrd.loadN (V:=V) E_Phi te_Phi_agg te_Phi_size
    have hLa:=hsm.pargs b.phis[k] (List.getElem_mem _)
    have hLp:=hsm.phis
    generalize hp0:b.phis[k]=p at *
    (repeat first|apply zSeq|apply zReg|apply zBlk|apply zSkp|refine wN ?_|refine wL ?_|refine wT ?_|refine wI ?_|refine zLd rfl ‹_› ?_)
    refine zAlc E_Phi elPhi0 fun H7 f7 b7 n7=>?_
    refine zStB b7 rfl rfl E_Phi (by rw [te_Phi_size];rfl) (by have:=hva.oneCell;simp [Value.cells,Value.oneCell'] at this ⊢;exact this) (by simp [Value.cells]) (by simp [Value.cells]) fun H8 f8 b8 n8=>?_
    have b8':Bx H8 Hc.next 43 [.int .i64 p.r,va]:=b8
    have f78:Fr Hc H8:=f7.young f8 (by simp) (by simp)
    have hbx8:=hbx.fr f78
    have how8:=how.fr PhiR.m WPhi.m f78
    obtain ⟨_,H9,hc9,f9,o9,wl9⟩:=cloneO_c (H:=H8) hO (hva.fr f78) hLa
    obtain ⟨ca,cn,cc,rfl⟩:=wl9.isSl
    obtain ⟨os9,wi9,in9,nd9⟩:=wl9.wi
    have hbx9:=hbx8.fr f9
    have b9':=b8'.fr f9
    have hn8:=f78.1
    have hn9:=f9.1
    have hn6c:=hfr.1
    have hyo:=how8.young
    obtain ⟨pv',H10,o',k1,k2,k3,k4⟩:=how8.app1 (V:=V) (x:=⟨p.r,p.args⟩) (cx:=[.int .i64 p.r,.slice ca cn cc]) PhiR.m WPhi.m f9 (hBlt.mono (by omega)) ⟨_,rfl,wl9.rYoung ((hBlt.mono (by omega)).and how8.lt)⟩ ⟨_,rfl,wi9⟩ in9 nd9 PhiR.one (by decide) (bytes:=32) (by rw [List.length_take];have:=hsm.phis;omega) (by rw [List.length_take];have:=hsm.phis;omega) (by omega) E_s_api_Phi E_s_api_Phi E_Phi te_Phi_size te_Phi_bytes
    refine wN ?_
    refine WP.rega ?_
    refine yFld rfl O_Block_Phis ?_
    refine yLd rfl (hbx8.ld (off:=0) rfl E_s_api_Phi rfl) ?_
    refine yFld rfl O_Phi_R ?_
    refine yLd rfl (b8'.ld (off:=0) rfl E_int rfl) ?_
    refine yFld rfl O_Phi_Args ?_
    refine yLd rfl (b8'.ld (off:=1) rfl E_s_int rfl) ?_
    refine WH.call rfl rfl is_slices_Clone_s_int_int hc9 ?_
    refine WH.op (op_build rfl elBuildPhi) ?_
    refine WH.op (op_buildSlice rfl E_s_api_Phi E_Phi (by rw [te_Phi_size];decide) elFillPhi) ?_
    refine WH.op (k1 rfl rfl) ?_
    have hyc:=how.young
    have hbx10:=hbx9.frX k3 (fun hb=>by have:=hyc.1 _ hb;omega)
    have b10:=b9'.frX k3 (fun hb=>by have:=hyc.2.2.1 _ hb;omega)
    obtain ⟨h1v,h2v⟩:=k2.oneCell
    refine yFld rfl O_Block_Phis ?_
    refine yStB hbx10 rfl rfl E_s_api_Phi (by rw [← Array.length_toList,h2v];rfl) (by rw [h2v];simp [h1v]) (by rw [h2v];simp) (by rw [h2v];simp) fun H11 f11 b11 n11=>?_
    rw [h2v] at b11
    have b11':Bx H11 H2.next 39 [pv',.slice none 0 0,.slice fa fn fc,.slice ta tn tc]:=b11
    refine WH.nil ⟨?_,_,rfl,?_⟩
    · intro x hx
      simp only [List.mem_cons,List.not_mem_nil,or_false] at hx
      rcases hx with rfl|rfl
      · obtain ⟨q1,q2,q3,rfl⟩:=how.isSl
        exact .inr ⟨rfl,_,_,_,rfl,rfl,op_load rfl ((hbx9.fr (.alloc _ _)).ld (off:=0) rfl E_s_api_Phi rfl),sameV_sl⟩
      · exact .inr ⟨rfl,_,_,_,rfl,rfl,op_load rfl ((b9'.fr (.alloc _ _)).ld (off:=0) rfl E_int rfl),sameV_int⟩
    (repeat first|apply zReg|refine wN ?_|refine zAdd rfl rfl (by omega) ?_)
    have hfin:FrX [H2.next] [] H6 H11:=((hfr.trans ((f78.trans f9).x [] []) (by simp) (by simp)).trans k3 (fun b hb hlt=>absurd (hyc.1 b hb) (by omega)) (fun b hb hlt=>absurd (hyc.2.1 b hb) (by omega))).trans f11 (fun b hb _=>hb) (by simp)
    have hy2:=k2.young
    exact ⟨(k+1,pv',o'),⟨hfin,b11',by rw [List.take_succ_eq_append_getElem h,hp0];exact k2.frX PhiR.m WPhi.m (hBsub f11) (fun b hb h2=>by have:=hy2.1 b hb;have:=hBlt.1 b h2;omega) (fun b hb h2=>by have:=hy2.2.1 b hb;have:=hBlt.2 b h2;omega),h⟩,by simp only;omega,rfl,rfl,rfl,rfl,rfl,rfl,rfl,trivial⟩
  · rintro ⟨pv,o⟩ Hp ⟨hfrp,hbxp,howp⟩
    simp only at hfrp hbxp howp ⊢
    have hlc:=hsm.code
    have f1p:Fr H Hp:=f16.young hfrp (by simp;omega) (by simp)
    have b1p:=b16.frX hfrp (by simp;omega)
    have b2p:=b26.frX hfrp (by simp;omega)
    have hnp:=hfrp.1
    have hCG:∀ {n:Nat},(Av.old Hp.next).Gr (.old H.next) n:=Av.old_gr (Av.old_lt.mono (by have:=f1p.1;omega))
    have hClt:(Av.old Hp.next).Lt Hp.next:=Av.old_lt
    have hCsub:∀ {Hx Hy:AH},FrX [H2.next] [] Hx Hy→FrX (Av.old Hp.next).bs (Av.old Hp.next).gs Hx Hy:=fun h=>h.sub (fun b hb=>by simp [Av.old] at hb ⊢;omega) (by simp)
    generalize hC:Av.old Hp.next=C at *
    refine WP.seqS (σ:=Value×Option (Nat×Nat)) (fun x=>[(4,.pointer (some ⟨H1.next,0,none⟩)),(5,.pointer (some ⟨H2.next,0,none⟩))]) (fun x Hc=>FrX [H2.next] [] Hp Hc∧Bx Hc H2.next 39 [pv,x.1,.slice fa fn fc,.slice ta tn tc]∧Bd 41 6 InsR WI_ C Hc Hp.next x.1 (b.code.filter fun i=>!Eli.goes locks i) x.2) ?_ ?_
    · have hlen1:=fun Hz=>hcH.len (V:=V) (H2:=Hz) E_s_api_Ins
      (repeat first|apply zSeq|apply zReg|apply zBlk|refine wN ?_|refine wM ?_|refine zFld rfl O_Block_Code ?_|refine wB E_s_api_Ins ?_|refine zLen rfl (hlen1 _) ?_)
      refine WP.loopH (σ:=Nat×Value×Option (Nat×Nat)) (fun x=>[(1,.func (.func F_elide_All_q1) #[] #[.pointer (some ⟨c,0,none⟩)]),(2,.pointer (some ⟨H.next,0,none⟩)),(4,.pointer (some ⟨H1.next,0,none⟩)),(5,.pointer (some ⟨H2.next,0,none⟩)),(37,vc),(38,.int .i64 b.code.length),(39,.int .i64 x.1)]) (fun x Hc=>FrX [H2.next] [] Hp Hc∧Bx Hc H2.next 39 [pv,x.2.1,.slice fa fn fc,.slice ta tn tc]∧Bd 41 6 InsR WI_ C Hc Hp.next x.2.1 ((b.code.take x.1).filter fun i=>!Eli.goes locks i) x.2.2∧x.1≤b.code.length) (fun x=>b.code.length - x.1) (0,.slice none 0 0,none) ⟨.refl _ _ _,hbxp,.nil,Nat.zero_le _⟩ ⟨rfl,rfl,rfl,rfl,rfl,rfl,rfl,trivial⟩ ?_
      rintro ⟨k,cv,o2⟩ Hc ⟨hfr,hbx,how,hk⟩
      simp only at hfr hbx how hk ⊢
      rcases Nat.lt_or_ge k b.code.length with h|h
      case inr =>
        have g1:decide ((k:Int) < b.code.length)=false:=decide_eq_false (by omega)
        rw [List.take_of_length_le h] at how
        (repeat first|apply zSeq|apply zReg|refine zExt ?_|refine wN ?_|refine wL ?_|refine wE ?_)
        exact ⟨(cv,o2),⟨hfr,hbx,how⟩,rfl,rfl,trivial⟩
      have g1:decide ((k:Int) < b.code.length)=true:=decide_eq_true (by omega)
      have frH:Fr H Hc:=f1p.young hfr (by simp;omega) (by simp)
      have hpc:Els 6 InsR A Hc vc b.code:=hcH.fr InsR.m frH
      obtain ⟨bb,off,cs,ha1,hrd,va,rfl,hva⟩:=hpc.at E_s_api_Ins E_Ins te_Ins_size (kd:=.i64) h
      have hl1:=hrd.loadN (V:=V) E_Ins te_Ins_agg te_Ins_size
      have hLa:=hsm.cargs b.code[k] (List.getElem_mem _)
      have hft:=filter_take (p:=fun i=>!Eli.goes locks i) h
      have hfl:((b.code.take k).filter fun i=>!Eli.goes locks i).length≤k:=by
        have:=List.length_filter_le (fun i=>!Eli.goes locks i) (b.code.take k)
        rw [List.length_take] at this;omega
      generalize hp0:b.code[k]=i at *
      (repeat first|apply zSeq|apply zReg|apply zBlk|apply zSkp|refine wN ?_|refine wL ?_|refine wT ?_|refine wI ?_|refine zLd rfl ‹_› ?_)
      refine zAlc E_Ins elIns0 fun H7 f7 b7 n7=>?_
      refine zStB b7 rfl rfl E_Ins (by rw [te_Ins_size];rfl) (by have:=hva.oneCell;simp [Value.cells,Value.oneCell',Ins.cells] at this ⊢;exact this) (by simp [Value.cells,Ins.cells]) (by simp [Value.cells,Ins.cells]) fun H8 f8 b8 n8=>?_
      have b8':Bx H8 Hc.next 41 (i.cells va):=b8
      have f78:Fr Hc H8:=f7.young f8 (by simp) (by simp)
      have hbx8:=hbx.fr f78
      have how8:=how.fr InsR.m WIns.m f78
      have f08:=frH.trans f78
      obtain ⟨_,H9,hc9,rfl,f9⟩:=goes_c (H:=H8) (i:=i) (va:=va) hO (hvl.fr f08) (hbl.fr f08) hLl
      have hbx9:=hbx8.fr f9
      have b9':=b8'.fr f9
      have how9:=how8.fr InsR.m WIns.m f9
      have hn8:=f78.1
      have hn9:=f9.1
      have hn6c:=hfr.1
      cases hg:Eli.goes locks i
      case true =>
        rw [hg] at hc9 hft
        (repeat first|apply zSeq|apply zReg|refine wN ?_|refine wG ?_)
        refine zLd rfl (b8'.ldN E_Ins te_Ins_agg (by rw [te_Ins_size];rfl)) ?_
        refine WL.call rfl rfl is_elide_All_q1 hc9 ?_
        (repeat first|apply zReg|apply zSkp|refine wN ?_|refine zAdd rfl rfl (by omega) ?_|refine zNot rfl ?_|refine zF rfl rfl ?_)
        exact ⟨(k+1,cv,o2),⟨hfr.trans ((f78.trans f9).x [] []) (by simp) (by simp),hbx9,by rw [hft];simpa using how9,h⟩,by simp only;omega,rfl,rfl,rfl,rfl,rfl,rfl,rfl,trivial⟩
      rw [hg] at hc9 hft
      obtain ⟨_,Ha,hca,fa',oa,wla⟩:=cloneO_c (H:=H9) hO ((hva.fr f78).fr f9) hLa
      obtain ⟨ca,cn,cc,rfl⟩:=wla.isSl
      obtain ⟨osa,wia,ina,nda⟩:=wla.wi
      have ba':=b9'.fr fa'
      have hbxa:=hbx9.fr fa'
      have hna:=fa'.1
      (repeat first|apply zSeq|apply zReg|refine wN ?_|refine wG ?_)
      refine zLd rfl (b8'.ldN E_Ins te_Ins_agg (by rw [te_Ins_size];rfl)) ?_
      refine WL.call rfl rfl is_elide_All_q1 hc9 ?_
      (repeat first|apply zSeq|apply zReg|refine wN ?_|refine zNot rfl ?_|refine zT rfl rfl ?_|refine zFld rfl O_Ins_Args ?_|refine wB E_s_int ?_)
      refine WL.call rfl rfl is_slices_Clone_s_int_int hca ?_
      (repeat first|refine zFld rfl O_Ins_Args ?_)
      refine zStB ba' rfl rfl E_s_int rfl rfl (by simp [Value.cells]) (by simp [Value.cells,Ins.cells]) fun Hd fd bd nd=>?_
      have bd':Bx Hd Hc.next 41 (i.cells (.slice ca cn cc)):=bd
      have hbxd:=hbxa.frX fd (by simp;have:=hbx.1;omega)
      have f9d:Fr H9 Hd→True:=fun _=>trivial
      have hcn:Hc.next < H8.next:=b8'.1
      have how0:=how.fr InsR.m WIns.m (Fr.refl Hc)
      have fcd:Fr Hc Hd:=((f78.trans f9).trans fa').young fd (by simp) (by simp)
      have wlad:OwI 3 Hd H9.next (.slice ca cn cc) i.args oa:=wla.frX fd (fun b hb=>by have:=wla.young.1 b hb;simp;omega) (by simp)
      have wiad:WI 3 Hd (.slice ca cn cc) i.args.length osa:=wia.frX WN.m fd (fun p hp=>⟨by have:=ina p hp;simp;omega,by simp⟩)
      have inad:osa.In Hc.next Hd.next:=ina.mono (by omega) (by have:=fd.1;omega)
      obtain ⟨cv',H10,o',k1,k2,k3,k4⟩:=how0.app1 (V:=V) (x:=i) (cx:=i.cells (.slice ca cn cc)) InsR.m WIns.m fcd (hClt.mono (by omega)) ⟨_,rfl,wlad.rYoung (((hClt.mono (by omega)).and how.lt).mono (by omega))⟩ ⟨⟨_,rfl,wiad⟩,_,rfl,rfl⟩ inad nda InsR.one (by decide) (bytes:=64) (by omega) (by omega) (by omega) E_s_api_Ins E_s_api_Ins E_Ins te_Ins_size te_Ins_bytes
      (repeat first|apply zReg|refine wN ?_|refine zFld rfl O_Block_Code ?_|refine wB E_s_api_Ins ?_)
      refine zLd rfl (bd'.ldN E_Ins te_Ins_agg (by rw [te_Ins_size];rfl)) ?_
      refine WL.op (op_buildSlice rfl E_s_api_Ins E_Ins (by rw [te_Ins_size];decide) elFillIns) ?_
      refine WL.op (k1 rfl rfl) ?_
      have hyc:=how.young
      have hbx10:=hbxd.frX k3 (fun hb=>by have:=hyc.1 _ hb;omega)
      obtain ⟨h1v,h2v⟩:=k2.oneCell
      (repeat first|refine zFld rfl O_Block_Code ?_)
      refine zStB hbx10 rfl rfl E_s_api_Ins (by rw [← Array.length_toList,h2v];rfl) (by rw [h2v];simp [h1v]) (by rw [h2v];simp) (by rw [h2v];simp) fun H11 f11 b11 n11=>?_
      rw [h2v] at b11
      have b11':Bx H11 H2.next 39 [pv,cv',.slice fa fn fc,.slice ta tn tc]:=b11
      (repeat first|apply zReg|refine wN ?_|refine zAdd rfl rfl (by omega) ?_)
      have hfin:FrX [H2.next] [] Hp H11:=((hfr.trans (fcd.x [] []) (by simp) (by simp)).trans k3 (fun b hb hlt=>absurd (hyc.1 b hb) (by omega)) (fun b hb hlt=>absurd (hyc.2.1 b hb) (by omega))).trans f11 (fun b hb _=>hb) (by simp)
      have hy2:=k2.young
      exact ⟨(k+1,cv',o'),⟨hfin,b11',by rw [hft];exact k2.frX InsR.m WIns.m (hCsub f11) (fun b hb h2=>by have:=hy2.1 b hb;have:=hClt.1 b h2;omega) (fun b hb h2=>by have:=hy2.2.1 b hb;have:=hClt.2 b h2;omega),h⟩,by simp only;omega,rfl,rfl,rfl,rfl,rfl,rfl,rfl,trivial⟩
    · rintro ⟨cv,o2⟩ Hq ⟨hfrq,hbxq,howq⟩
      simp only at hfrq hbxq howq ⊢
      have hyp:=howp.young
      have hyq:=howq.young
      have hnq:=hfrq.1
      have b2q:=b2p.frX hfrq (by simp;omega)
      have f1q:Fr H Hq:=f1p.young hfrq (by simp;omega) (by simp)
      have howpq:=howp.frX PhiR.m WPhi.m (hBsub hfrq) (fun b hb h2=>by have:=hyp.1 b hb;have:=hBlt.1 b h2;omega) (fun b hb h2=>by have:=hyp.2.1 b hb;have:=hBlt.2 b h2;omega)
      have hf6q:FrX [H2.next] [] H6 Hq:=hfrp.trans hfrq (fun b hb _=>hb) (by simp)
      have wfq:=wf6.frX hf6q (fun b hb=>by have:=wf6.young.1 b hb;simp;omega) (by simp)
      have wtq:=wt6.frX hf6q (fun b hb=>by have:=wt6.young.1 b hb;simp;omega) (by simp)
      obtain ⟨pa,pn,pc,rfl⟩:=howp.isSl
      obtain ⟨qa,qn,qc,rfl⟩:=howq.isSl
      (repeat first|apply zSeq|apply zReg)
      refine zLd rfl (hbxq.ldN E_Block te_Block_agg (by rw [te_Block_size];rfl)) ?_
      refine zStB b2q rfl rfl E_Block (by rw [te_Block_size];rfl) rfl (by simp [Value.cells]) (by simp [Value.cells]) fun H7 f7 b7 n7=>?_
      have b7':Bx H7 H1.next 39 [.slice pa pn pc,.slice qa qn qc,.slice fa fn fc,.slice ta tn tc]:=b7
      have hn12:H1.next < H6.next:=b26.1
      have fxB:FrX B.bs B.gs Hq H7:=f7.sub (fun b hb=>by rw [← hB];simp [Av.old] at hb ⊢;omega) (by simp)
      have fxC:FrX C.bs C.gs Hq H7:=f7.sub (fun b hb=>by rw [← hC];simp [Av.old] at hb ⊢;omega) (by simp)
      have how7:=howpq.frX PhiR.m WPhi.m fxB (fun b hb h2=>by have:=hyp.1 b hb;have:=hBlt.1 b h2;omega) (fun b hb h2=>by have:=hyp.2.1 b hb;have:=hBlt.2 b h2;omega)
      have how7q:=howq.frX InsR.m WIns.m fxC (fun b hb h2=>by have:=hyq.1 b hb;have:=hClt.1 b h2;omega) (fun b hb h2=>by have:=hyq.2.1 b hb;have:=hClt.2 b h2;omega)
      have hn1:H.next≤H1.next:=by omega
      have hn13:H1.next < H3.next:=by omega
      have wf7:=wfq.frX f7 (fun b hb=>by have:=wf6.young.1 b hb;simp;omega) (by simp)
      have wt7:=wtq.frX f7 (fun b hb=>by have:=wt6.young.1 b hb;simp;omega) (by simp)
      obtain ⟨osp,wp0,inp0,ndp⟩:=howp.wl PhiR.m WPhi.m
      have inp:=inp0.mono (Nat.le_refl _) (show Hp.next≤H7.next by have:=f7.1;omega)
      have wp:=(wp0.frX WPhi.m hfrq (fun p hp=>⟨by have:=inp0 p hp;simp;omega,by simp⟩)).frX WPhi.m f7 (fun p hp=>⟨by have:=inp0 p hp;simp;omega,by simp⟩)
      obtain ⟨osc,wc,inc,ndc⟩:=how7q.wl InsR.m WIns.m
      obtain ⟨ost,wt,int_,ndt⟩:=wt6.wi
      have hsub6:∀ {Hx Hy:AH}{c:Nat},c < H4.next→FrX [c] [] Hx Hy→∀ p∈ost,p.1∉[c]∧p.2∉([]:List Nat):=fun hc _ p hp=>⟨by have:=int_ p hp;simp;omega,by simp⟩
      have wt7':=(wt.frX WN.m hf6q (hsub6 (by omega) hf6q)).frX WN.m f7 (hsub6 (by omega) f7)
      (repeat first|refine wN ?_)
      have hn07:H.next≤Hp.next:=f1p.1
      have hnq7:Hq.next≤H7.next:=f7.1
      refine WP.ret ⟨.inr rfl,_,resL_cell rfl (b7'.ldN E_Block te_Block_agg (by rw [te_Block_size];rfl)) rfl,_,_,rfl,⟨_,_,_,_,rfl,(how7.elsY PhiR.m WPhi.m hBlt).gr PhiR.m hBG,(how7q.elsY InsR.m WIns.m hClt).gr InsR.m hCG,wf7.rYoung (Av.old_lt.mono (by omega)),wt7.rYoung (Av.old_lt.mono (by omega))⟩,⟨_,_,_,_,_,_,rfl,rfl,rfl,rfl,⟨_,rfl,rfl⟩,wp,wc,wt7'⟩,?_,?_,f1q.young f7 (by simp;omega) (by simp)⟩
      · exact (int_.mono (by omega) (by omega)).app ((inp.mono (by omega) (Nat.le_refl _)).app (inc.mono (by omega) (Nat.le_refl _)))
      · have inp6:osp.In H6.next Hp.next:=inp0
        exact ndt.app (ndp.app ndc inp6 inc) int_ ((inp6.mono (Nat.le_refl _) (by omega)).app (inc.mono (by omega) (Nat.le_refl _)))
end Go.Proofs.YtogomfblfpfjhaaGreatDoor.U
namespace Go.Ev
theorem OwE.sr {H:AH}{n0:Nat}{e:TypeId}{sz n:Nat}{v:Value}{cs:List Value}{o:Option (Nat×Nat)}{A:Av} (h:OwE H n0 e sz v n cs o) (hA:A.Lt n0):Sr A H v sz n cs:=by
 rcases h with ⟨k1,k2,⟨k3,k4,_⟩|⟨b,g,rfl,k4,k5,k6,k7,k8,k9,_⟩⟩|⟨rfl,rfl,b,rfl,hb,rfl,hbx⟩
 ·exact ⟨k1,.inl ⟨k3,k4⟩⟩
 ·exact ⟨k1,.inr ⟨b,0,unk,k8,fun _=>⟨fun h=>by have:=hA.1 b h;omega,e,cs,.loose,g,_,k6,k9,.inr (.inr ⟨k7,fun h=>by have:=hA.2 g h;omega,rfl⟩),by omega,by rw [← k1];simp⟩⟩⟩
 ·exact ⟨by simp,.inr ⟨b,0,0,rfl,fun h=>absurd h (by simp)⟩⟩
end Go.Ev
namespace Go.Eli
open Go.Ev
def graph (locks:List Int) (g:Graph):Graph:={ g with blocks:=g.blocks.map (block locks) }
def form (locks:List Int) (f:For.Form):For.Form:={ f with funs:=f.funs.map (graph locks) }
def zeroF:For.Form:=⟨[],[],[]⟩
def bad (f:For.Form) (x:Int):Bool:=decide (x < 0)||decide (x≥(f.locks.length:Int))
def err (m:For.Form→Bool) (f:For.Form) (locks:List Int):Int:=if m f=false then 4 else if locks.any (bad f)=true then 1 else if m (form locks f)=false then 4 else 0
def out (m:For.Form→Bool) (f:For.Form) (locks:List Int):For.Form:=if err m f locks=0 then form locks f else zeroF
end Go.Eli
namespace Go.Proofs.YtogomfblfpfjhaaGreatDoor.U
open Go Go.Ev
attribute [local irreducible] WL WP WH W
theorem nil_nilM:aBin V.P V.E .eql 22 (.tmp 0) (.const (.slice none 0 0)) (.slice none 0 0) (.slice none 0 0)=some (.bool true):=by kernel_rfl
theorem elFill0:afill (fun i=>some (i * te_Mem.size,te_Mem.size)) (azeros te_Mem.zv.cells.toList 0) []=some []:=by simp [afill,azeros]
attribute [local irreducible] V
variable {O:Orc}{H:AH}
theorem op_eqNilM {g:Ft}{x y:Operand}{b off n c:Nat} (hx:g x=some (.slice (some ⟨b,off,none⟩) n c)) (hy:g y=some (.slice none 0 0)):aopG V g H (.binOp .eql 22 x y 22)=some (.bool false,H):=by
 simp only [aopG,hx,hy,aBin,E_s_api_Mem,nilRes,Option.map_some]
theorem op_nilNilM {g:Ft} (hx:g (.tmp 0)=some (.slice none 0 0)) (hy:g (.const (.slice none 0 0))=some (.slice none 0 0)):aopG V g H (.binOp .eql 22 (.tmp 0) (.const (.slice none 0 0)) 22)=some (.bool true,H):=by
 simp only [aopG,hx,hy,nil_nilM,Option.map_some]
theorem cloneMem_c (hO:NoO O) {A:Av}{v:Value}{l:List Ev.Mem} (hv:Els 3 MemR A H v l) (hL:l.length≤100000) :
  ∃ u H',Lc V O F_slices_Clone_s_api_Mem_api_Mem [v] H u H'∧(Fr H H'∧∃ a n c,u=.slice a n c∧∀ B:Av,B.Lt H.next→Els 3 MemR B H' (.slice a n c) l):=by
 refine Lc.slices_Clone_s_api_Mem_api_Mem (R:=fun u H'=>Fr H H'∧∃ a n c,u=.slice a n c∧∀ B:Av,B.Lt H.next→Els 3 MemR B H' (.slice a n c) l) (hO _ _ _ (by decide)) (Nat.le_of_ble_eq_true rfl) (by kernel_rfl) ?_
 unfold P_slices_Clone_s_api_Mem_api_Mem
 obtain ⟨cs,hs,hR⟩:=hv
 have hone:=all_chunks hs.1 (by decide) fun i hi=>(MemR.one (hR i hi)).1
 obtain ⟨hc,⟨rfl,hn⟩|⟨b,off,cap,rfl,hr⟩⟩:=hs
 ·have hl:l=[]:=List.length_eq_zero_iff.1 hn
  subst hl
  (repeat first|apply zSeq|apply zReg|refine wN ?_|refine wG ?_|refine wA ?_)
  refine WL.op (op_nilNilM rfl rfl) ?_
  (repeat first|apply zSeq|apply zReg|refine wN ?_|refine wA ?_|refine zT rfl rfl ?_)
  exact WP.ret ⟨.inr rfl,_,rfl,.refl _,_,_,_,rfl,fun B _=>.nil⟩
 ·have hv:Sr A H (.slice (some ⟨b,off,none⟩) l.length cap) 3 l.length cs:=⟨hc,.inr ⟨b,off,cap,rfl,hr⟩⟩
  have f5:=Fr.alloc H (.row 50 [] .exact 0 0)
  have w5:OwE (H.alloc (.row 50 [] .exact 0 0)) H.next 50 3 (.slice (some ⟨H.next,0,none⟩) 0 0) 0 [] (some (H.next,H.next)):=.new (Nat.le_refl _)
  obtain ⟨v',H',o',k1,k2,k3,k4⟩:=w5.appSl (V:=V) ((hv.fr f5).sl (by omega)) (by decide) (bytes:=32) (by omega) (by omega) f5.1 hone E_s_api_Mem E_s_api_Mem E_Mem te_Mem_size te_Mem_bytes
  rw [Nat.zero_add,List.nil_append] at k2
  (repeat first|apply zSeq|apply zReg|refine wN ?_|refine wG ?_|refine wA ?_)
  refine WL.op (op_eqNilM rfl rfl) ?_
  (repeat first|apply zSeq|apply zReg|apply zSkp|refine wN ?_|refine zF rfl rfl ?_)
  refine WL.op (op_buildSlice rfl E_s_api_Mem E_Mem (by rw [te_Mem_size];decide) elFill0) ?_
  (repeat first|refine wG ?_)
  refine WL.op (k1 rfl rfl) ?_
  (repeat first|refine wN ?_)
  obtain ⟨a',n',c',rfl⟩:=(k2.sr (A:=.no) .no).isSl
  exact WP.ret ⟨.inr rfl,_,rfl,f5.young k3 w5.young.1 w5.young.2.1,_,_,_,rfl,fun B hB=>⟨cs,k2.sr hB,fun i hi=>hR i hi⟩⟩
theorem cloneStrE_c (hO:NoO O) {A:Av}{v:Value}{l:List ByteArray} (hv:Els 1 StrR A H v l) (hL:l.length≤100000) :
  ∃ u H',Lc V O F_slices_Clone_s_string_string [v] H u H'∧(Fr H H'∧∃ a n c,u=.slice a n c∧∀ B:Av,B.Lt H.next→Els 1 StrR B H' (.slice a n c) l):=by
 refine Lc.slices_Clone_s_string_string (R:=fun u H'=>Fr H H'∧∃ a n c,u=.slice a n c∧∀ B:Av,B.Lt H.next→Els 1 StrR B H' (.slice a n c) l) (hO _ _ _ (by decide)) (Nat.le_of_ble_eq_true rfl) (by kernel_rfl) ?_
 unfold P_slices_Clone_s_string_string
 obtain ⟨cs,hs,hR⟩:=hv
 have hone:=all_chunks hs.1 (by decide) fun i hi=>(StrR.one (hR i hi)).1
 obtain ⟨hc,⟨rfl,hn⟩|⟨b,off,cap,rfl,hr⟩⟩:=hs
 ·have hl:l=[]:=List.length_eq_zero_iff.1 hn
  subst hl
  (repeat first|apply zSeq|apply zReg|refine wN ?_|refine wG ?_|refine wA ?_)
  refine WL.op (op_nilNilS rfl rfl) ?_
  (repeat first|apply zSeq|apply zReg|refine wN ?_|refine wA ?_|refine zT rfl rfl ?_)
  exact WP.ret ⟨.inr rfl,_,rfl,.refl _,_,_,_,rfl,fun B _=>.nil⟩
 ·have hv:Sr A H (.slice (some ⟨b,off,none⟩) l.length cap) 1 l.length cs:=⟨hc,.inr ⟨b,off,cap,rfl,hr⟩⟩
  have f5:=Fr.alloc H (.row 9 [] .exact 0 0)
  have w5:OwE (H.alloc (.row 9 [] .exact 0 0)) H.next 9 1 (.slice (some ⟨H.next,0,none⟩) 0 0) 0 [] (some (H.next,H.next)):=.new (Nat.le_refl _)
  obtain ⟨v',H',o',k1,k2,k3,k4⟩:=w5.appSl (V:=V) ((hv.fr f5).sl (by omega)) (by decide) (bytes:=16) (by omega) (by omega) f5.1 hone E_s_string E_s_string E_string rfl rfl
  rw [Nat.zero_add,List.nil_append] at k2
  (repeat first|apply zSeq|apply zReg|refine wN ?_|refine wG ?_|refine wA ?_)
  refine WL.op (op_eqNilS rfl rfl) ?_
  (repeat first|apply zSeq|apply zReg|apply zSkp|refine wN ?_|refine zF rfl rfl ?_)
  refine WL.op (op_buildSlice rfl E_s_string E_string (by decide) rfl) ?_
  (repeat first|refine wG ?_)
  refine WL.op (k1 rfl rfl) ?_
  (repeat first|refine wN ?_)
  obtain ⟨a',n',c',rfl⟩:=(k2.sr (A:=.no) .no).isSl
  exact WP.ret ⟨.inr rfl,_,rfl,f5.young k3 w5.young.1 w5.young.2.1,_,_,_,rfl,fun B hB=>⟨cs,k2.sr hB,fun i hi=>hR i hi⟩⟩
structure SmallEl (f:For.Form):Prop where
 fm:SmallFm f
 b:∀ g∈f.funs,∀ b∈g.blocks,SmallE b
theorem SmallEl.el {f:For.Form} (h:SmallEl f) (locks:List Int):SmallFm (Eli.form locks f):=by
 have hf:=h.fm
 refine ⟨hf.mems,hf.locks,by simp only [Eli.form,List.length_map];exact hf.funs,fun g hg=>?_,fun g hg b hb i hi=>?_,fun g hg b hb i hi=>?_⟩
 all_goals
  simp only [Eli.form,List.mem_map] at hg
  obtain ⟨g',hg',rfl⟩:=hg
 ·have hs:=hf.gs g' hg'
  have hin:∀ b∈(Eli.graph locks g').blocks,∃ b'∈g'.blocks,b=Eli.block locks b':=fun b hb=>by
   simp only [Eli.graph,List.mem_map] at hb
   obtain ⟨b',h1,rfl⟩:=hb
   exact ⟨b',h1,rfl⟩
  refine ⟨by simp only [Eli.graph,List.length_map];exact hs.nb,fun b hb=>?_,fun b hb=>?_,fun b hb=>?_,fun b hb=>?_,fun b hb=>?_⟩
  all_goals obtain ⟨b',hb',rfl⟩:=hin b hb
  ·exact Nat.le_trans (List.length_filter_le _ _) (hs.code b' hb')
  ·exact hs.phis b' hb'
  ·exact hs.frm b' hb'
  ·exact hs.to b' hb'
  ·exact hs.args b' hb'
 all_goals
  simp only [Eli.graph,List.mem_map] at hb
  obtain ⟨b',hb',rfl⟩:=hb
  have hi':i∈b'.code:=(List.mem_filter.1 hi).1
 ·exact hf.args g' hg' b' hb' i hi'
 ·exact hf.op g' hg' b' hb' i hi'
end Go.Proofs.YtogomfblfpfjhaaGreatDoor.U
namespace Go.Proofs.YtogomfblfpfjhaaGreatDoor.U
open Go Go.Ev
attribute [local irreducible] WL WP WH W
theorem elNeB' {P:Program}{E:TypeId→Option TI}{t:TypeId}{ox oy:Operand}{a b:Bool} (e3:pureRun P (binOp .neq t (.bool a) (.bool b))=some (.bool (a != b))):aBin P E .neq t ox oy (.bool a) (.bool b)=some (.bool (a != b)):=by
  have e:aBin P E .neq t ox oy (.bool a) (.bool b)=(if constOk (.bool a)&&constOk (.bool b) then match pureRun P (do eqGuard .neq t ox oy (.bool a) (.bool b);binOp .neq t (.bool a) (.bool b)) with
      | some v=>if constOk v then some v else none
      | none=>none
    else none):=by unfold aBin;rfl
  have e2:(do eqGuard .neq t ox oy (.bool a) (.bool b);binOp .neq t (.bool a) (.bool b))=binOp .neq t (.bool a) (.bool b):=by
    have:=binSem_skip (op:=.neq) (t:=t) (ox:=ox) (oy:=oy) (x:=.bool a) (y:=.bool b) (fun _ h=>nomatch h) (fun h=>nomatch h)
    unfold binSem at this
    rw [this]
  rw [e,e2]
  rw [e3];rfl
theorem elNeB_run {a b:Bool}:pureRun V.P (binOp .neq 4 (.bool a) (.bool b))=some (.bool (a != b)):=by cases a <;> cases b <;> kernel_rfl
theorem elNeB {ox oy:Operand}{a b:Bool}:aBin V.P V.E .neq 4 ox oy (.bool a) (.bool b)=some (.bool (a != b)):=elNeB' elNeB_run
noncomputable def fsM:Array Field:=match V.P.underlying 50 with
 | some (.struct fs)=>fs
 | _=>#[]
theorem usM:V.P.underlying 50=some (.struct fsM):=by kernel_rfl
noncomputable def fM (i:Nat):Field:=fsM.getD i default
theorem fsM_list:fsM.toList=[fM 0,fM 1,fM 2]:=by kernel_rfl
theorem nM_0:(fM 0).name ≠ "_" := by
 have:((fM 0).name == "_")=false:=by kernel_rfl
 simpa using this
theorem nM_1:(fM 1).name ≠ "_" := by
 have:((fM 1).name == "_")=false:=by kernel_rfl
 simpa using this
theorem nM_2:(fM 2).name ≠ "_" := by
 have:((fM 2).name == "_")=false:=by kernel_rfl
 simpa using this
theorem tM_0:(fM 0).type=9:=by kernel_rfl
theorem tM_1:(fM 1).type=3:=by kernel_rfl
theorem tM_2:(fM 2).type=2:=by kernel_rfl
theorem oM_0:(fM 0).offset=0:=by kernel_rfl
theorem oM_1:(fM 1).offset=1:=by kernel_rfl
theorem oM_2:(fM 2).offset=2:=by kernel_rfl
theorem sM:V.P.stoodInHeld 50=false:=by kernel_rfl
theorem gM:V.P.eqGuardType V.P.depth 50=false:=by kernel_rfl
theorem uM9:V.P.underlying 9=some .string:=by kernel_rfl
theorem uM3:V.P.underlying 3=some (.int .i64):=by kernel_rfl
theorem uM2:V.P.underlying 2=some (.int .i64):=by kernel_rfl
theorem uM2':V.P.underlying (fM 2).type=some (.int .i64):=by rw [tM_2];exact uM2
theorem elNeM {ox oy:Operand} (m:Ev.Mem):aBin V.P V.E .neq 50 ox oy (.agg #[.string m.name,.int .i64 m.size,.int .i64 m.first]) (.agg #[.string m.name,.int .i64 m.size,.int .i64 m.first])=some (.bool false):=by
 have h:aBin V.P V.E .neq 50 ox oy (.agg #[.string m.name,.int .i64 m.size,.int .i64 m.first]) (.agg #[.string m.name,.int .i64 m.size,.int .i64 m.first])=some (.bool !([(m.name.data.toList==m.name.data.toList),(m.size==m.size),(m.first==m.first)].all id)):=by
  refine (aBin_eqAgg rfl rfl gM (equal_struct (d:=9999) usM sM ?_)).2
  rw [fsM_list]
  refine .cons nM_0 (part_one (by rw [tM_0];exact uM9) rfl (by rw [oM_0];rfl)) (part_one (by rw [tM_0];exact uM9) rfl (by rw [oM_0];rfl)) (by rw [tM_0];exact equal_str (d:=9998) uM9) ?_
  refine .cons nM_1 (part_one (by rw [tM_1];exact uM3) rfl (by rw [oM_1];rfl)) (part_one (by rw [tM_1];exact uM3) rfl (by rw [oM_1];rfl)) (by rw [tM_1];exact equal_int (d:=9998) uM3) ?_
  exact .cons nM_2 (part_one uM2' rfl (by rw [oM_2];rfl)) (part_one uM2' rfl (by rw [oM_2];rfl)) (equal_int (d:=9998) uM2') .nil
 rw [h];simp
theorem elBuildPr {a1 a2 b1 b2:Nat}{p q:Option Addr}:aBuild V.E 56 [(0,.slice p a1 a2),(1,.slice q b1 b2)]=some (.agg #[.slice p a1 a2,.slice q b1 b2,.slice none 0 0]):=by kernel_rfl
attribute [local irreducible] V
theorem zNeBe {O:Orc}{E:List Value}{l:SL}{H:AH}{K:List Value→AH→Prop}{is:List LI}{x y:Operand}{ty2:TypeId}{s r:Bool} (hx:gS V.nG E l x=some (.bool s)) (hy:gS V.nG E l y=some (.bool r)) (h:WL V O is (.bool (s != r)::E) l H K):WL V O (.run (.binOp .neq 4 x y ty2) none::is) E l H K:=.op (by simp only [aopG,hx,hy,elNeB,Option.map_some]) h
theorem zNeM {O:Orc}{E:List Value}{l:SL}{H:AH}{K:List Value→AH→Prop}{is:List LI}{x y:Operand}{ty2:TypeId}{m:Ev.Mem} (hx:gS V.nG E l x=some (.agg #[.string m.name,.int .i64 m.size,.int .i64 m.first])) (hy:gS V.nG E l y=some (.agg #[.string m.name,.int .i64 m.size,.int .i64 m.first])) (h:WL V O is (.bool false::E) l H K):WL V O (.run (.binOp .neq 50 x y ty2) none::is) E l H K:=.op (by simp only [aopG,hx,hy,elNeM,Option.map_some]) h
theorem elPhi_at {A:Av}{H:AH}{v:Value}{l:List Ev.Phi} (h:Els 2 PhiR A H v l) {k:Nat} (hk:k < l.length):∃ b off va,aIndex V.E 36 v (.int .i64 k)=some (.pointer (some ⟨b,off,none⟩))∧aLoad V.E H 3 (.pointer (some ⟨b,off+0,none⟩))=some (.int .i64 l[k].r)∧aLoad V.E H 27 (.pointer (some ⟨b,off+1,none⟩))=some va∧IntsR A H va l[k].args:=by
 obtain ⟨b,off,cs,h1,hrd,va,rfl,hva⟩:=h.at E_s_api_Phi E_Phi te_Phi_size (kd:=.i64) hk
 exact ⟨b,off,va,h1,(hrd.sub 0 1 (by omega)).load1 E_int rfl,(hrd.sub 1 1 (by omega)).load1 E_s_int rfl,hva⟩
variable {O:Orc}{H:AH}
set_option maxHeartbeats 4000000 in
theorem sameGraph_c (hO:NoO O) {A A':Av}{g:Graph}{cs cs':List Value} (hR:GraphR A H cs g) (hR':GraphR A' H cs' g) (hnb:g.blocks.length≤100000) (hsm:∀ b∈g.blocks,SmallE b) :
  ∃ u H',Lc V O F_ref11_SameGraph [.agg cs.toArray,.agg cs'.toArray] H u H'∧(u=.bool true∧Fr H H'):=by
 obtain ⟨vb,rfl,hb⟩:=hR
 obtain ⟨vb',rfl,hb'⟩:=hR'
 refine Lc.ref11_SameGraph (R:=fun u H'=>u=.bool true∧Fr H H') (hO _ _ _ (by decide)) (Nat.le_of_ble_eq_true rfl) (by kernel_rfl) ?_
 unfold P_ref11_SameGraph
 apply zSeq
 apply zReg
 refine zBox rfl (fun _=>rfl) fun H1 f1 b1 n1=>?_
 have b1':Bx H1 H.next 35 (graphC g vb):=b1
 refine zBox rfl (fun _=>rfl) fun H2 f2 b2 n2=>?_
 have b2':Bx H2 H1.next 35 (graphC g vb'):=b2
 replace b1':=b1'.fr f2
 have f12:=f1.trans f2
 clear b1 b2 f1 f2
 have hlen1:=fun Hz=>hb.len (V:=V) (H2:=Hz) E_s_api_Block
 have hlen2:=fun Hz=>hb'.len (V:=V) (H2:=Hz) E_s_api_Block
 have e1:(!(g.name.data.toList==g.name.data.toList))=false:=by simp
 have e2:(g.thread != g.thread)=false:=by simp
 have e3:(g.params != g.params)=false:=by simp
 have e4:(g.regs != g.regs)=false:=by simp
 have e5:((g.blocks.length:Int) != g.blocks.length)=false:=by simp
 (repeat first|apply zSeq|apply zReg|apply zBlk|apply zSkp|refine wN ?_|refine wO ?_|refine wA ?_|refine wR ?_|refine zNeq rfl rfl ?_|refine zNeS rfl rfl ?_|refine wE ?_|refine zFld rfl O_Graph_Name ?_|refine zFld rfl O_Graph_Thread ?_|refine zFld rfl O_Graph_Params ?_|refine zFld rfl O_Graph_Regs ?_|refine zFld rfl O_Graph_Blocks ?_|refine wB E_int ?_|refine wB E_bool ?_|refine wB E_string ?_|refine wB E_s_api_Block ?_|refine zLen rfl (hlen1 _) ?_|refine zLen rfl (hlen2 _) ?_|refine zNeBe rfl rfl ?_)
 refine WP.loopH (σ:=Nat) (fun k=>[(2,.pointer (some ⟨H.next,0,none⟩)),(3,.pointer (some ⟨H1.next,0,none⟩)),(5,.int .i64 k)]) (fun k Hc=>Fr H2 Hc∧k≤g.blocks.length) (fun k=>g.blocks.length - k) 0 ⟨.refl _,Nat.zero_le _⟩ ⟨rfl,rfl,rfl,trivial⟩ ?_
 rintro k Hc ⟨fc,hk⟩
 have b1c:=b1'.fr fc
 have b2c:=b2'.fr fc
 have f1c:=f12.trans fc
 rcases Nat.lt_or_ge k g.blocks.length with h|h
 case inr=>
  have g1:decide ((k:Int) < g.blocks.length)=false:=decide_eq_false (by omega)
  (repeat first|apply zSeq|apply zReg|refine zExt ?_|refine wN ?_|refine wG ?_|refine wA ?_|refine wL ?_|refine wE ?_|refine zFld rfl O_Graph_Blocks ?_|refine wB E_s_api_Block ?_|refine zLen rfl (hlen1 _) ?_)
  exact WP.ret ⟨.inr rfl,_,rfl,rfl,f1c⟩
 have g1:decide ((k:Int) < g.blocks.length)=true:=decide_eq_true (by omega)
 have hbc:=hb.fr BlockR.m f1c
 have hbc':=hb'.fr BlockR.m f1c
 obtain ⟨bb,off,cs,ha1,hrd,vp,vc,vf,vt,rfl,hp,hcc,hf,ht0⟩:=hbc.at E_s_api_Block E_Block te_Block_size (kd:=.i64) h
 have hl1:=hrd.loadN (V:=V) E_Block te_Block_agg te_Block_size
 have hone:=(BlockR.one (A:=A) (H:=Hc) (cs:=[vp,vc,vf,vt]) (a:=g.blocks[k]) ⟨vp,vc,vf,vt,rfl,hp,hcc,hf,ht0⟩).1
 obtain ⟨bb',off',cs',ha1',hrd',vp',vc',vf',vt',rfl,hp',hcc',hf',ht0'⟩:=hbc'.at E_s_api_Block E_Block te_Block_size (kd:=.i64) h
 have hone':=(BlockR.one (A:=A') (H:=Hc) (cs:=[vp',vc',vf',vt']) (a:=g.blocks[k]) ⟨vp',vc',vf',vt',rfl,hp',hcc',hf',ht0'⟩).1
 have hbs:=hsm g.blocks[k] (List.getElem_mem _)
 generalize g.blocks[k]=b at *
 (repeat first|apply zSeq|apply zReg|apply zBlk|apply zSkp|refine wN ?_|refine wG ?_|refine wL ?_|refine wT ?_|refine zFld rfl O_Graph_Blocks ?_|refine wB E_s_api_Block ?_|refine wI ?_|refine zLd rfl ‹_› ?_|refine zLen rfl (hlen1 _) ?_)
 refine zAlc E_Block elBlk0 fun H3 f3 b3 n3=>?_
 refine zStB b3 rfl rfl E_Block (by rw [te_Block_size];rfl) (by simpa [Value.cells] using hone) (by simp [Value.cells]) (by simp [Value.cells]) fun H4 f4 b4 n4=>?_
 have b4':Bx H4 Hc.next 39 [vp,vc,vf,vt]:=b4
 have fc4:Fr Hc H4:=f3.young f4 (by simp) (by simp)
 have b1d:=b1c.fr fc4
 have b2d:=b2c.fr fc4
 have hl1':=(hrd'.fr fc4).loadN (V:=V) E_Block te_Block_agg te_Block_size
 clear b3 b4 f3 f4 hl1
 (repeat first|apply zSeq|apply zReg|refine wN ?_|refine wG ?_|refine zFld rfl O_Graph_Blocks ?_|refine wB E_s_api_Block ?_|refine wI ?_|refine zLd rfl ‹_› ?_)
 refine zAlc E_Block elBlk0 fun H5 f5 b5 n5=>?_
 refine zStB b5 rfl rfl E_Block (by rw [te_Block_size];rfl) (by simpa [Value.cells] using hone') (by simp [Value.cells]) (by simp [Value.cells]) fun H6 f6 b6 n6=>?_
 have b6':Bx H6 H4.next 39 [vp',vc',vf',vt']:=b6
 have f46:Fr H4 H6:=f5.young f6 (by simp) (by simp)
 have b46:=b4'.fr f46
 have fc6:=fc4.trans f46
 have fz:=f1c.trans fc6
 clear b5 b6 f5 f6 hl1' b4'
 have hp6:=(hp.fr PhiR.m fc6)
 have hp6':=(hp'.fr PhiR.m fc6)
 have hlen3:=fun Hz=>hp.len (V:=V) (H2:=Hz) E_s_api_Phi
 have hlen4:=fun Hz=>hp'.len (V:=V) (H2:=Hz) E_s_api_Phi
 have hlen5:aLen V.E H6 37 vc=some (.int .i64 b.code.length):=hcc.len (V:=V) E_s_api_Ins
 have hlen6:aLen V.E H6 37 vc'=some (.int .i64 b.code.length):=hcc'.len (V:=V) E_s_api_Ins
 have e6:((b.phis.length:Int) != b.phis.length)=false:=by simp
 have e7:((b.code.length:Int) != b.code.length)=false:=by simp
 have hi1:=rIntsEq_c (H:=H6) hO (hf.fr fc6) (hf'.fr fc6) (by have:=hbs.frm;omega)
 have hi2:=rIntsEq_c (H:=H6) hO (ht0.fr fc6) (ht0'.fr fc6) (by have:=hbs.to;omega)
 rw [beq_self_eq_true] at hi1 hi2
 have b16:=b1d.fr f46
 have b26:=b2d.fr f46
 (repeat first|apply zSeq|apply zReg|refine wN ?_|refine zFld rfl O_Block_From ?_|refine wB E_s_int ?_)
 refine WL.call rfl rfl is_ref11_ints hi1 ?_
 (repeat first|refine zOn rfl rfl ?_|refine zNot rfl ?_|refine zFld rfl O_Block_To ?_|refine wB E_s_int ?_)
 refine WL.call rfl rfl is_ref11_ints hi2 ?_
 (repeat first|refine zOn rfl rfl ?_|refine wO ?_|refine zPF rfl rfl rfl ?_|refine zNeq rfl rfl ?_|refine zNot rfl ?_|refine zFld rfl O_Block_Phis ?_|refine zFld rfl O_Block_Code ?_|refine wB E_s_api_Ins ?_|refine wB E_s_api_Phi ?_|refine zLen rfl (hlen3 _) ?_|refine zLen rfl (hlen4 _) ?_)
 refine zLen rfl hlen5 ?_
 (repeat first|refine wO ?_|refine zFld rfl O_Block_Code ?_|refine wB E_s_api_Ins ?_)
 refine zLen rfl hlen6 ?_
 (repeat first|apply zSkp|refine wN ?_|refine wO ?_|refine wR ?_|refine zNeq rfl rfl ?_|refine wE ?_)
 refine WP.seqS (σ:=Unit) (fun _=>[(2,.pointer (some ⟨H.next,0,none⟩)),(3,.pointer (some ⟨H1.next,0,none⟩)),(5,.int .i64 k),(6,.pointer (some ⟨Hc.next,0,none⟩)),(7,.pointer (some ⟨H4.next,0,none⟩))]) (fun _ Hd=>Hd=H6) ?_ ?_
 ·(repeat first|apply zSeq|apply zReg|apply zBlk|refine wN ?_|refine wA ?_)
  refine WP.loopH (σ:=Nat) (fun j=>[(2,.pointer (some ⟨H.next,0,none⟩)),(3,.pointer (some ⟨H1.next,0,none⟩)),(5,.int .i64 k),(6,.pointer (some ⟨Hc.next,0,none⟩)),(7,.pointer (some ⟨H4.next,0,none⟩)),(8,.int .i64 j)]) (fun j Hd=>Hd=H6∧j≤b.phis.length) (fun j=>b.phis.length - j) 0 ⟨rfl,Nat.zero_le _⟩ ⟨rfl,rfl,rfl,rfl,rfl,rfl,trivial⟩ ?_
  rintro j Hd ⟨hd,hj⟩
  replace hd:=hd.symm
  subst hd
  have hbp:=hbs.phis
  rcases Nat.lt_or_ge j b.phis.length with hjl|hjl
  ·have g3:decide ((j:Int) < b.phis.length)=true:=decide_eq_true (by omega)
   obtain ⟨bi,offi,va,pa,pr,pV,ht⟩:=elPhi_at hp6 hjl
   obtain ⟨bi',offi',va',pa',pr',pV',ht'⟩:=elPhi_at hp6' hjl
   have e8:(b.phis[j].r != b.phis[j].r)=false:=by simp
   have hi4:=rIntsEq_c (H:=H6) hO ht ht' (by have:=hbs.pargs b.phis[j] (List.getElem_mem _);omega)
   rw [beq_self_eq_true] at hi4
   (repeat first|apply zSeq|apply zReg|apply zBlk|apply zSkp|refine wN ?_|refine wG ?_|refine wO ?_|refine wM ?_|refine wL ?_|refine zNeq rfl rfl ?_|refine wT ?_|refine zFld rfl O_Phi_R ?_|refine zFld rfl O_Phi_Args ?_|refine zFld rfl O_Block_Phis ?_|refine wB E_s_api_Phi ?_|refine wI ?_|refine zLd rfl ‹_› ?_|refine zLen rfl (hlen3 _) ?_)
   refine WL.call rfl rfl is_ref11_ints hi4 ?_
   (repeat first|apply zReg|apply zSkp|refine wN ?_|refine wG ?_|refine wO ?_|refine wR ?_|refine zAdd rfl rfl (by omega) ?_|refine zNot rfl ?_|refine zF rfl rfl ?_)
   exact ⟨j+1,⟨rfl,hjl⟩,by omega,rfl,rfl,rfl,rfl,rfl,rfl,trivial⟩
  ·have g3:decide ((j:Int) < b.phis.length)=false:=decide_eq_false (by omega)
   (repeat first|apply zSeq|apply zReg|refine zExt ?_|refine wN ?_|refine wG ?_|refine wL ?_|refine wE ?_|refine zFld rfl O_Block_Phis ?_|refine wB E_s_api_Phi ?_|refine zLen rfl (hlen3 _) ?_)
   exact ⟨(),rfl,rfl,rfl,rfl,rfl,rfl,trivial⟩
 rintro _ Hd hd
 replace hd:=hd.symm
 subst hd
 (repeat first|apply zSeq|apply zReg|apply zBlk|refine wN ?_|refine wA ?_)
 refine WP.loopH (σ:=Nat) (fun j=>[(2,.pointer (some ⟨H.next,0,none⟩)),(3,.pointer (some ⟨H1.next,0,none⟩)),(5,.int .i64 k),(6,.pointer (some ⟨Hc.next,0,none⟩)),(7,.pointer (some ⟨H4.next,0,none⟩)),(9,.int .i64 j)]) (fun j Hd=>Fr H6 Hd∧j≤b.code.length) (fun j=>b.code.length - j) 0 ⟨.refl _,Nat.zero_le _⟩ ⟨rfl,rfl,rfl,rfl,rfl,rfl,trivial⟩ ?_
 rintro j Hd ⟨fd,hj⟩
 have b4d:=b46.fr fd
 have b6d:=b6'.fr fd
 have hlc5:aLen V.E Hd 37 vc=some (.int .i64 b.code.length):=hcc.len (V:=V) E_s_api_Ins
 have hbc5:=hbs.code
 rcases Nat.lt_or_ge j b.code.length with hjl|hjl
 ·have g3:decide ((j:Int) < b.code.length)=true:=decide_eq_true (by omega)
  obtain ⟨bi,offi,csi,pa,prd,va,rfl,ht⟩:=(hcc.fr InsR.m (fc6.trans fd)).at E_s_api_Ins E_Ins te_Ins_size (kd:=.i64) hjl
  obtain ⟨bi',offi',csi',pa',prd',va',rfl,ht'⟩:=(hcc'.fr InsR.m (fc6.trans fd)).at E_s_api_Ins E_Ins te_Ins_size (kd:=.i64) hjl
  have pl:=prd.loadN (V:=V) E_Ins te_Ins_agg te_Ins_size
  have pl':=prd'.loadN (V:=V) E_Ins te_Ins_agg te_Ins_size
  obtain ⟨_,He,hce,rfl,fe⟩:=rSame_c (H:=Hd) hO ht ht' (by have:=hbs.cargs b.code[j] (List.getElem_mem _);omega)
  rw [sameB_iff.2 rfl] at hce
  (repeat first|apply zSeq|apply zReg|refine wG ?_|refine zFld rfl O_Block_Code ?_|refine wB E_s_api_Ins ?_)
  refine zLen rfl hlc5 ?_
  (repeat first|apply zSeq|apply zReg|apply zBlk|apply zSkp|refine wN ?_|refine wG ?_|refine wL ?_|refine wT ?_|refine zFld rfl O_Block_Code ?_|refine wB E_s_api_Ins ?_|refine wI ?_|refine zLd rfl ‹_› ?_)
  refine WL.call rfl rfl is_ref07_SameIns hce ?_
  (repeat first|apply zReg|apply zSkp|refine wN ?_|refine wG ?_|refine zAdd rfl rfl (by omega) ?_|refine zNot rfl ?_|refine zF rfl rfl ?_)
  exact ⟨j+1,⟨fd.trans fe,hjl⟩,by omega,rfl,rfl,rfl,rfl,rfl,rfl,trivial⟩
 ·have g3:decide ((j:Int) < b.code.length)=false:=decide_eq_false (by omega)
  (repeat first|apply zSeq|apply zReg|refine wG ?_|refine zFld rfl O_Block_Code ?_|refine wB E_s_api_Ins ?_)
  refine zLen rfl hlc5 ?_
  (repeat first|apply zReg|refine zExt ?_|refine wN ?_|refine wG ?_|refine wL ?_|refine zAdd rfl rfl (by omega) ?_|refine wE ?_)
  exact ⟨k+1,⟨fc.trans (fc6.trans fd),h⟩,by omega,rfl,rfl,rfl,trivial⟩
end Go.Proofs.YtogomfblfpfjhaaGreatDoor.U
namespace Go.Proofs.YtogomfblfpfjhaaGreatDoor.U
open Go Go.Ev
attribute [local irreducible] WL WP WH W
attribute [local irreducible] V
variable {O:Orc}{H:AH}
set_option maxHeartbeats 4000000 in
theorem sameProg_c (hO:NoO O) {A A':Av}{ms:List Ev.Mem}{ls:List ByteArray}{vm vl vm' vl':Value} (hm:Els 3 MemR A H vm ms) (hl:Els 1 StrR A H vl ls) (hm':Els 3 MemR A' H vm' ms) (hl':Els 1 StrR A' H vl' ls) (hLm:ms.length≤100000) (hLl:ls.length≤100000) :
  ∃ u H',Lc V O F_ref07_Same [.agg #[vm,vl,.slice none 0 0],.agg #[vm',vl',.slice none 0 0]] H u H'∧(u=.bool true∧Fr H H'):=by
 refine Lc.ref07_Same (R:=fun u H'=>u=.bool true∧Fr H H') (hO _ _ _ (by decide)) (Nat.le_of_ble_eq_true rfl) (by kernel_rfl) ?_
 unfold P_ref07_Same
 apply zSeq
 apply zReg
 refine zBox rfl (fun _=>rfl) fun H1 f1 b1 n1=>?_
 have b1':Bx H1 H.next 56 [vm,vl,.slice none 0 0]:=b1
 refine zBox rfl (fun _=>rfl) fun H2 f2 b2 n2=>?_
 have b2':Bx H2 H1.next 56 [vm',vl',.slice none 0 0]:=b2
 replace b1':=b1'.fr f2
 have f12:=f1.trans f2
 clear b1 b2 f1 f2
 have hlen1:=fun Hz=>hm.len (V:=V) (H2:=Hz) E_s_api_Mem
 have hlen2:=fun Hz=>hm'.len (V:=V) (H2:=Hz) E_s_api_Mem
 have hlen3:=fun Hz=>hl.len (V:=V) (H2:=Hz) E_s_string
 have hlen4:=fun Hz=>hl'.len (V:=V) (H2:=Hz) E_s_string
 have hlenF:aLen V.E H2 54 (.slice none 0 0)=some (.int .i64 0):=(Els.nil (sz:=5) (R:=FunR) (A:=.no) (H:=H2)).len (V:=V) E_s_api_Fun
 have e1:((ms.length:Int) != ms.length)=false:=by simp
 have e2:((ls.length:Int) != ls.length)=false:=by simp
 (repeat first|apply zSeq|apply zReg|refine wN ?_|refine wO ?_|refine wA ?_|refine wR ?_|refine zNeq rfl rfl ?_|refine zFld rfl O_Prog_Mems ?_|refine zFld rfl O_Prog_Locks ?_|refine zFld rfl O_Prog_Funs ?_|refine wB E_s_string ?_|refine wB E_s_api_Mem ?_|refine wB E_s_api_Fun ?_|refine zLen rfl (hlen1 _) ?_|refine zLen rfl (hlen2 _) ?_|refine zLen rfl (hlen3 _) ?_|refine zLen rfl (hlen4 _) ?_)
 refine zLen rfl hlenF ?_
 (repeat first|refine wO ?_|refine zFld rfl O_Prog_Funs ?_|refine wB E_s_api_Fun ?_)
 refine zLen rfl hlenF ?_
 (repeat first|apply zSkp|refine wN ?_|refine wO ?_|refine wR ?_|refine zNeq rfl rfl ?_|refine zF rfl rfl ?_)
 refine WP.seqS (σ:=Unit) (fun _=>[(2,.pointer (some ⟨H.next,0,none⟩)),(3,.pointer (some ⟨H1.next,0,none⟩))]) (fun _ Hd=>Hd=H2) ?_ ?_
 ·(repeat first|apply zSeq|apply zReg|apply zBlk|refine wN ?_|refine wA ?_)
  refine WP.loopH (σ:=Nat) (fun k=>[(2,.pointer (some ⟨H.next,0,none⟩)),(3,.pointer (some ⟨H1.next,0,none⟩)),(5,.int .i64 k)]) (fun k Hc=>Hc=H2∧k≤ms.length) (fun k=>ms.length - k) 0 ⟨rfl,Nat.zero_le _⟩ ⟨rfl,rfl,rfl,trivial⟩ ?_
  rintro k Hc ⟨hd,hk⟩
  replace hd:=hd.symm
  subst hd
  rcases Nat.lt_or_ge k ms.length with h|h
  case inr=>
   have g1:decide ((k:Int) < ms.length)=false:=decide_eq_false (by omega)
   (repeat first|apply zSeq|apply zReg|refine zExt ?_|refine wN ?_|refine wG ?_|refine wL ?_|refine wE ?_|refine zFld rfl O_Prog_Mems ?_|refine wB E_s_api_Mem ?_|refine zLen rfl (hlen1 _) ?_)
   exact ⟨(),rfl,rfl,rfl,trivial⟩
  have g1:decide ((k:Int) < ms.length)=true:=decide_eq_true (by omega)
  obtain ⟨bi,offi,csi,pa,prd,e⟩:=(hm.fr MemR.m f12).at E_s_api_Mem E_Mem te_Mem_size (kd:=.i64) h
  obtain ⟨bi',offi',csi',pa',prd',e'⟩:=(hm'.fr MemR.m f12).at E_s_api_Mem E_Mem te_Mem_size (kd:=.i64) h
  have e:csi=[.string ms[k].name,.int .i64 ms[k].size,.int .i64 ms[k].first]:=e
  have e':csi'=[.string ms[k].name,.int .i64 ms[k].size,.int .i64 ms[k].first]:=e'
  subst e
  subst e'
  have pl:=prd.loadN (V:=V) E_Mem te_Mem_agg te_Mem_size
  have pl':=prd'.loadN (V:=V) E_Mem te_Mem_agg te_Mem_size
  (repeat first|apply zSeq|apply zReg|apply zBlk|apply zSkp|refine wN ?_|refine wG ?_|refine wL ?_|refine wT ?_|refine zFld rfl O_Prog_Mems ?_|refine wB E_s_api_Mem ?_|refine wI ?_|refine zLd rfl ‹_› ?_|refine zLen rfl (hlen1 _) ?_)
  refine zNeM (m:=ms[k]) rfl rfl ?_
  (repeat first|apply zReg|apply zSkp|refine wN ?_|refine wG ?_|refine zAdd rfl rfl (by omega) ?_|refine zF rfl rfl ?_)
  exact ⟨k+1,⟨rfl,h⟩,by omega,rfl,rfl,rfl,trivial⟩
 rintro _ Hd hd
 replace hd:=hd.symm
 subst hd
 refine WP.seqS (σ:=Unit) (fun _=>[(2,.pointer (some ⟨H.next,0,none⟩)),(3,.pointer (some ⟨H1.next,0,none⟩))]) (fun _ Hd=>Hd=H2) ?_ ?_
 ·(repeat first|apply zSeq|apply zReg|apply zBlk|refine wN ?_|refine wA ?_)
  refine WP.loopH (σ:=Nat) (fun k=>[(2,.pointer (some ⟨H.next,0,none⟩)),(3,.pointer (some ⟨H1.next,0,none⟩)),(6,.int .i64 k)]) (fun k Hc=>Hc=H2∧k≤ls.length) (fun k=>ls.length - k) 0 ⟨rfl,Nat.zero_le _⟩ ⟨rfl,rfl,rfl,trivial⟩ ?_
  rintro k Hc ⟨hd,hk⟩
  replace hd:=hd.symm
  subst hd
  rcases Nat.lt_or_ge k ls.length with h|h
  case inr=>
   have g1:decide ((k:Int) < ls.length)=false:=decide_eq_false (by omega)
   (repeat first|apply zSeq|apply zReg|refine zExt ?_|refine wN ?_|refine wG ?_|refine wL ?_|refine wE ?_|refine zFld rfl O_Prog_Locks ?_|refine wB E_s_string ?_|refine zLen rfl (hlen3 _) ?_)
   exact ⟨(),rfl,rfl,rfl,trivial⟩
  have g1:decide ((k:Int) < ls.length)=true:=decide_eq_true (by omega)
  obtain ⟨bi,offi,csi,pa,prd,e⟩:=(hl.fr StrR.m f12).at E_s_string E_string rfl (kd:=.i64) h
  obtain ⟨bi',offi',csi',pa',prd',e'⟩:=(hl'.fr StrR.m f12).at E_s_string E_string rfl (kd:=.i64) h
  have e:csi=[.string ls[k]]:=e
  have e':csi'=[.string ls[k]]:=e'
  subst e
  subst e'
  have pl:=prd.load1 (V:=V) E_string rfl
  have pl':=prd'.load1 (V:=V) E_string rfl
  have e9:(!(ls[k].data.toList==ls[k].data.toList))=false:=by simp
  (repeat first|apply zSeq|apply zReg|apply zBlk|apply zSkp|refine wN ?_|refine wG ?_|refine wL ?_|refine zAdd rfl rfl (by omega) ?_|refine zNeS rfl rfl ?_|refine wT ?_|refine wE ?_|refine zFld rfl O_Prog_Locks ?_|refine wB E_s_string ?_|refine wI ?_|refine zLd rfl ‹_› ?_|refine zLen rfl (hlen3 _) ?_)
  exact ⟨k+1,⟨rfl,h⟩,by omega,rfl,rfl,rfl,trivial⟩
 rintro _ Hd hd
 replace hd:=hd.symm
 subst hd
 (repeat first|apply zSeq|apply zReg|apply zBlk|refine wN ?_|refine wA ?_)
 refine WP.loopH (σ:=Unit) (fun _=>[(2,.pointer (some ⟨H.next,0,none⟩)),(3,.pointer (some ⟨H1.next,0,none⟩)),(7,.int .i64 0)]) (fun _ Hc=>Hc=H2) (fun _=>0) () rfl ⟨rfl,rfl,rfl,trivial⟩ ?_
 rintro _ Hc hd
 replace hd:=hd.symm
 subst hd
 (repeat first|apply zSeq|apply zReg|refine wG ?_|refine zFld rfl O_Prog_Funs ?_|refine wB E_s_api_Fun ?_)
 refine zLen rfl hlenF ?_
 (repeat first|apply zSeq|apply zReg|refine zExt ?_|refine wN ?_|refine wA ?_|refine wL ?_|refine zF rfl rfl ?_)
 exact WP.ret ⟨.inr rfl,_,rfl,rfl,f12⟩
set_option maxHeartbeats 4000000 in
theorem sameForm_c (hO:NoO O) {A A':Av}{f:For.Form}{vm vl vf vm' vl' vf':Value} (hf:FmR A H vm vl vf f) (hf':FmR A' H vm' vl' vf' f) (hse:SmallEl f) :
  ∃ u H',Lc V O F_ref11_Same [.agg #[vm,vl,vf],.agg #[vm',vl',vf']] H u H'∧(u=.bool true∧Fr H H'):=by
 refine Lc.ref11_Same (R:=fun u H'=>u=.bool true∧Fr H H') (hO _ _ _ (by decide)) (Nat.le_of_ble_eq_true rfl) (by kernel_rfl) ?_
 unfold P_ref11_Same
 have hs:=hse.fm
 have hsn:=hs.funs
 have hsl:=hs.locks
 have hsm:=hs.mems
 obtain ⟨am,nm,cm,rfl⟩:∃ a n c,vm=.slice a n c:=let ⟨_,h,_⟩:=hf.m;h.isSl
 obtain ⟨al,nl,cl,rfl⟩:∃ a n c,vl=.slice a n c:=let ⟨_,h,_⟩:=hf.l;h.isSl
 obtain ⟨am',nm',cm',rfl⟩:∃ a n c,vm'=.slice a n c:=let ⟨_,h,_⟩:=hf'.m;h.isSl
 obtain ⟨al',nl',cl',rfl⟩:∃ a n c,vl'=.slice a n c:=let ⟨_,h,_⟩:=hf'.l;h.isSl
 have hlen1:=fun Hz=>hf.f.len (V:=V) (H2:=Hz) E_s_api_Graph
 have hlen2:=fun Hz=>hf'.f.len (V:=V) (H2:=Hz) E_s_api_Graph
 apply zSeq
 apply zReg
 refine zBox rfl (fun _=>rfl) fun H1 f1 b1 n1=>?_
 have b1':Bx H1 H.next 26 [.slice am nm cm,.slice al nl cl,vf]:=b1
 refine zBox rfl (fun _=>rfl) fun H2 f2 b2 n2=>?_
 have b2':Bx H2 H1.next 26 [.slice am' nm' cm',.slice al' nl' cl',vf']:=b2
 replace b1':=b1'.fr f2
 have f12:=f1.trans f2
 clear b1 b2 f1 f2
 obtain ⟨_,H3,hc3,rfl,f3⟩:=sameProg_c (H:=H2) hO (hf.m.fr MemR.m f12) (hf.l.fr StrR.m f12) (hf'.m.fr MemR.m f12) (hf'.l.fr StrR.m f12) (by omega) (by omega)
 have e1:((f.funs.length:Int) != f.funs.length)=false:=by simp
 have b13:=b1'.fr f3
 have b23:=b2'.fr f3
 (repeat first|apply zSeq|apply zReg|refine wN ?_|refine wA ?_|refine zFld rfl O_Form_Mems ?_|refine zFld rfl O_Form_Locks ?_|refine wB E_s_string ?_|refine wB E_s_api_Mem ?_)
 refine WL.op (op_build rfl elBuildPr) ?_
 (repeat first|refine zFld rfl O_Form_Mems ?_|refine zFld rfl O_Form_Locks ?_|refine wB E_s_string ?_|refine wB E_s_api_Mem ?_)
 refine WL.op (op_build rfl elBuildPr) ?_
 refine WL.call rfl rfl is_ref07_Same hc3 ?_
 (repeat first|apply zSeq|apply zReg|apply zBlk|apply zSkp|refine wN ?_|refine zOn rfl rfl ?_|refine wA ?_|refine zPF rfl rfl rfl ?_|refine zNeq rfl rfl ?_|refine zNot rfl ?_|refine wE ?_|refine zFld rfl O_Form_Funs ?_|refine wB E_s_api_Graph ?_|refine zLen rfl (hlen1 _) ?_|refine zLen rfl (hlen2 _) ?_)
 refine WP.loopH (σ:=Nat) (fun k=>[(2,.pointer (some ⟨H.next,0,none⟩)),(3,.pointer (some ⟨H1.next,0,none⟩)),(5,.int .i64 k)]) (fun k Hc=>Fr H3 Hc∧k≤f.funs.length) (fun k=>f.funs.length - k) 0 ⟨.refl _,Nat.zero_le _⟩ ⟨rfl,rfl,rfl,trivial⟩ ?_
 rintro k Hc ⟨fc,hk⟩
 have b1c:=b13.fr fc
 have b2c:=b23.fr fc
 have f0c:=(f12.trans f3).trans fc
 rcases Nat.lt_or_ge k f.funs.length with h|h
 case inr=>
  have g1:decide ((k:Int) < f.funs.length)=false:=decide_eq_false (by omega)
  (repeat first|apply zSeq|apply zReg|refine zExt ?_|refine wN ?_|refine wG ?_|refine wA ?_|refine wL ?_|refine wE ?_|refine zFld rfl O_Form_Funs ?_|refine wB E_s_api_Graph ?_|refine zLen rfl (hlen1 _) ?_)
  exact WP.ret ⟨.inr rfl,_,rfl,rfl,f0c⟩
 have g1:decide ((k:Int) < f.funs.length)=true:=decide_eq_true (by omega)
 obtain ⟨bi,offi,csi,pa,prd,hR⟩:=(hf.f.fr GraphR.m f0c).at E_s_api_Graph E_Graph te_Graph_size (kd:=.i64) h
 obtain ⟨bi',offi',csi',pa',prd',hR'⟩:=(hf'.f.fr GraphR.m f0c).at E_s_api_Graph E_Graph te_Graph_size (kd:=.i64) h
 have pl:=prd.loadN (V:=V) E_Graph te_Graph_agg te_Graph_size
 have pl':=prd'.loadN (V:=V) E_Graph te_Graph_agg te_Graph_size
 have hsg:=(hs.gs f.funs[k] (List.getElem_mem _)).nb
 obtain ⟨_,Hd,hcd,rfl,fd⟩:=sameGraph_c (H:=Hc) hO hR hR' hsg (hse.b f.funs[k] (List.getElem_mem _))
 (repeat first|apply zSeq|apply zReg|apply zBlk|apply zSkp|refine wN ?_|refine wG ?_|refine wL ?_|refine wT ?_|refine zFld rfl O_Form_Funs ?_|refine wB E_s_api_Graph ?_|refine wI ?_|refine zLd rfl ‹_› ?_|refine zLen rfl (hlen1 _) ?_)
 refine WL.call rfl rfl is_ref11_SameGraph hcd ?_
 (repeat first|apply zReg|apply zSkp|refine wN ?_|refine wG ?_|refine zAdd rfl rfl (by omega) ?_|refine zNot rfl ?_|refine zF rfl rfl ?_)
 exact ⟨k+1,⟨fc.trans fd,h⟩,by omega,rfl,rfl,rfl,trivial⟩
end Go.Proofs.YtogomfblfpfjhaaGreatDoor.U
namespace Go.Eli
open Go.Ev
structure BulkB (b:Block):Prop where
 code:b.code.length≤140737488351232
 phis:b.phis.length≤140737488351232
 frm:b.frm.length≤140737488351232
 to:b.to.length≤140737488351232
 pargs:∀ p∈b.phis,p.args.length≤140737488351232
 cargs:∀ i∈b.code,i.args.length≤140737488351232
 op:∀ i∈b.code,0≤i.op∧i.op < 256
structure BulkF (f:For.Form):Prop where
 mems:f.mems.length≤140737488351232
 locks:f.locks.length≤140737488351232
 funs:f.funs.length≤140737488351232
 nb:∀ g∈f.funs,g.blocks.length≤140737488351232
 b:∀ g∈f.funs,∀ b∈g.blocks,BulkB b
end Go.Eli
namespace Go.Proofs.YtogomfblfpfjhaaGreatDoor.U
open Go Go.Ev
attribute [local irreducible] WL WP WH W
def GoodG (g:Graph):Prop:=g.blocks.length≤1000∧∀ b∈g.blocks,SmallE b
theorem mem_take_succ {α:Type}{P:α→Prop}{l:List α}{k:Nat} (h:k < l.length) (h1:∀ x∈l.take k,P x) (h2:P l[k]):∀ x∈l.take (k+1),P x:=fun x hx=>by
 rw [List.take_succ_eq_append_getElem h] at hx
 rcases List.mem_append.1 hx with hx|hx
 ·exact h1 x hx
 ·rw [List.mem_singleton] at hx;subst hx;exact h2
theorem elIns_args {A:Av}{H:AH}{v:Value}{l:List Ins} (h:Els 6 InsR A H v l) {k:Nat} (hk:k < l.length):∃ b off va,aIndex V.E 37 v (.int .i64 k)=some (.pointer (some ⟨b,off,none⟩))∧aLoad V.E H 27 (.pointer (some ⟨b,off+5,none⟩))=some va∧IntsR A H va l[k].args:=by
 obtain ⟨b,off,cs,h1,hrd,va,rfl,hva⟩:=h.at E_s_api_Ins E_Ins te_Ins_size (kd:=.i64) hk
 exact ⟨b,off,va,h1,(hrd.sub 5 1 (by omega)).load1 E_s_int rfl,hva⟩
attribute [local irreducible] V
variable {O:Orc}{H:AH}
set_option maxHeartbeats 8000000 in
theorem large_c (hO:NoO O) {A:Av}{f:For.Form}{vm vl vf:Value} (hf:FmR A H vm vl vf f) (hB:Eli.BulkF f) :
    ∃ u H',Lc V O F_law25_large [.agg #[vm,vl,vf]] H u H'∧(∃ t,u=.bool t∧Fr H H'∧(t=false→SmallEl f)):=by
  refine Lc.law25_large (R:=fun u H'=>∃ t,u=.bool t∧Fr H H'∧(t=false→SmallEl f)) (hO _ _ _ (by decide)) (Nat.le_of_ble_eq_true rfl) (by kernel_rfl) ?_
  unfold P_law25_large
  have hbf:=hB.funs
  have hbm:=hB.mems
  have hbl:=hB.locks
  have hlen1:=fun Hz=>hf.f.len (V:=V) (H2:=Hz) E_s_api_Graph
  have hlen2:=fun Hz=>hf.m.len (V:=V) (H2:=Hz) E_s_api_Mem
  have hlen3:=fun Hz=>hf.l.len (V:=V) (H2:=Hz) E_s_string
  apply zSeq
  apply zReg
  refine zBox rfl (fun _=>rfl) fun H1 f1 b1 n1=>?_
  have b1':Bx H1 H.next 26 [vm,vl,vf]:=b1
  clear b1
  (repeat first|refine wN ?_|refine wA ?_)
  apply zSeq
  (repeat first|apply zReg|refine wN ?_|refine wA ?_)
  refine WP.seqS (σ:=Int) (fun n=>[(1,.pointer (some ⟨H.next,0,none⟩)),(3,.int .i64 n)]) (fun n Hc=>Fr H1 Hc∧(0≤n∧n≤1000000000000000)∧(n < 1000→∀ g∈f.funs,GoodG g)) ?_ ?_
  · (repeat first|apply zSeq|apply zReg|apply zBlk|refine wN ?_|refine wA ?_)
    refine WP.loopH (σ:=Nat×Int) (fun x=>[(1,.pointer (some ⟨H.next,0,none⟩)),(3,.int .i64 x.2),(4,.int .i64 x.1)]) (fun x Hc=>Fr H1 Hc∧x.1≤f.funs.length∧(0≤x.2∧x.2≤1000000000000000)∧(x.2 < 1000→∀ g∈f.funs.take x.1,GoodG g)) (fun x=>f.funs.length - x.1) (0,0) ⟨.refl _,Nat.zero_le _,by simp,fun _ g hg=>by simp at hg⟩ ⟨rfl,rfl,rfl,trivial⟩ ?_
    rintro ⟨k,n⟩ Hc ⟨fc,hk,hn,hall⟩
    simp only at fc hk hn hall ⊢
    have b1c:=b1'.fr fc
    rcases Nat.lt_or_ge k f.funs.length with h|h
    case inr =>
      have g1:decide ((k:Int) < f.funs.length)=false:=decide_eq_false (by omega)
      rw [List.take_of_length_le h] at hall
      (repeat first|apply zSeq|apply zReg|refine zExt ?_|refine wN ?_|refine wG ?_|refine wF ?_|refine wR ?_|refine wL ?_|refine zF rfl rfl ?_|refine zFld rfl O_Form_Funs ?_|refine wB E_s_api_Graph ?_|refine zLen rfl (hlen1 _) ?_)
      exact ⟨n,⟨fc,hn,hall⟩,rfl,rfl,trivial⟩
    have g1:decide ((k:Int) < f.funs.length)=true:=decide_eq_true (by omega)
    cases g2:decide (n < 1000)
    case false =>
      (repeat first|apply zSeq|apply zReg|refine zExt ?_|refine wN ?_|refine wG ?_|refine wO ?_|refine wM ?_|refine wP ?_|refine wL ?_|refine wE ?_|refine zFld rfl O_Form_Funs ?_|refine wB E_s_api_Graph ?_|refine zLen rfl (hlen1 _) ?_)
      exact ⟨n,⟨fc,hn,fun e=>by simp at g2;omega⟩,rfl,rfl,trivial⟩
    have hn2:n < 1000:=of_decide_eq_true g2
    have hall:=hall hn2
    obtain ⟨bb,off,cs,ha1,hrd,vb,rfl,hbl⟩:=(hf.f.fr GraphR.m (f1.trans fc)).at E_s_api_Graph E_Graph te_Graph_size (kd:=.i64) h
    have hl1:=(hrd.at1 (i:=4) (c:=vb) rfl).load1 (V:=V) E_s_api_Block rfl
    have hgb:=hB.nb f.funs[k] (List.getElem_mem _)
    have hbb:=hB.b f.funs[k] (List.getElem_mem _)
    have hts:GoodG f.funs[k]→∀ g∈f.funs.take (k+1),GoodG g:=fun h2=>mem_take_succ h hall h2
    generalize f.funs[k]=g at *
    have hlen4:=fun Hz=>hbl.len (V:=V) (H2:=Hz) E_s_api_Block
    (repeat first|apply zSeq|apply zReg|apply zBlk|apply zSkp|refine wN ?_|refine wG ?_|refine wO ?_|refine wM ?_|refine wA ?_|refine wP ?_|refine wL ?_|refine wT ?_|refine zFld rfl O_Form_Funs ?_|refine wB E_s_api_Graph ?_|refine zLen rfl (hlen1 _) ?_)
    refine WP.loopH (σ:=Nat×Int) (fun x=>[(1,.pointer (some ⟨H.next,0,none⟩)),(3,.int .i64 x.2),(4,.int .i64 k),(5,.int .i64 x.1)]) (fun x Hd=>Fr Hc Hd∧x.1≤g.blocks.length∧(0≤x.2∧x.2≤1000000000000000)∧(x.2 < 1000→(x.1:Int)≤x.2∧∀ b∈g.blocks.take x.1,SmallE b)) (fun x=>g.blocks.length - x.1) (0,n) ⟨.refl _,Nat.zero_le _,hn,fun _=>⟨hn.1,fun b hb=>by simp at hb⟩⟩ ⟨rfl,rfl,rfl,rfl,trivial⟩ ?_
    rintro ⟨j,m⟩ Hd ⟨fd,hj,hm,halb⟩
    simp only at fd hj hm halb ⊢
    have b1d:=b1c.fr fd
    have hl2:=((hrd.fr fd).at1 (i:=4) (c:=vb) rfl).load1 (V:=V) E_s_api_Block rfl
    clear hl1
    rcases Nat.lt_or_ge j g.blocks.length with h2|h2
    case inr =>
      have g3:decide ((j:Int) < g.blocks.length)=false:=decide_eq_false (by omega)
      rw [List.take_of_length_le h2] at halb
      (repeat first|apply zSeq|apply zReg|refine zExt ?_|refine wN ?_|refine wG ?_|refine wF ?_|refine wR ?_|refine wL ?_|refine zAdd rfl rfl (by omega) ?_|refine zF rfl rfl ?_|refine zFld rfl O_Graph_Blocks ?_|refine zFld rfl O_Form_Funs ?_|refine wB E_s_api_Graph ?_|refine wI ?_|refine zLd rfl ‹_› ?_|refine zLen rfl (hlen4 _) ?_)
      exact ⟨(k+1,m),⟨fc.trans fd,h,hm,fun e=>hts ⟨by have:=(halb e).1;omega,(halb e).2⟩⟩,by simp only;omega,rfl,rfl,rfl,trivial⟩
    have g3:decide ((j:Int) < g.blocks.length)=true:=decide_eq_true (by omega)
    cases g4:decide (m < 1000)
    case false =>
      (repeat first|apply zSeq|apply zReg|refine zExt ?_|refine wN ?_|refine wG ?_|refine wO ?_|refine wM ?_|refine wP ?_|refine wL ?_|refine zAdd rfl rfl (by omega) ?_|refine wE ?_|refine zFld rfl O_Graph_Blocks ?_|refine zFld rfl O_Form_Funs ?_|refine wB E_s_api_Graph ?_|refine wI ?_|refine zLd rfl ‹_› ?_|refine zLen rfl (hlen4 _) ?_)
      exact ⟨(k+1,m),⟨fc.trans fd,h,hm,fun e=>by simp at g4;omega⟩,by simp only;omega,rfl,rfl,rfl,trivial⟩
    have hm2:m < 1000:=of_decide_eq_true g4
    have halb:=halb hm2
    obtain ⟨b3,off3,cs3,ha3,hrd3,hR3⟩:=(hbl.fr BlockR.m fd).at E_s_api_Block E_Block te_Block_size (kd:=.i64) h2
    have hone:=(BlockR.one hR3).1
    obtain ⟨vp,vc,vf2,vt,rfl,hp,hcc,hfr,hto⟩:=hR3
    have hl3:=hrd3.loadN (V:=V) E_Block te_Block_agg te_Block_size
    have hb1:=hbb g.blocks[j] (List.getElem_mem _)
    have htb:SmallE g.blocks[j]→∀ b∈g.blocks.take (j+1),SmallE b:=fun h3=>mem_take_succ h2 halb.2 h3
    generalize g.blocks[j]=b at *
    have q1:=hb1.code
    have q2:=hb1.phis
    have q3:=hb1.frm
    have q4:=hb1.to
    (repeat first|apply zSeq|apply zReg|apply zBlk|apply zSkp|refine wN ?_|refine wG ?_|refine wO ?_|refine wM ?_|refine wP ?_|refine wL ?_|refine wT ?_|refine zFld rfl O_Graph_Blocks ?_|refine zFld rfl O_Form_Funs ?_|refine wB E_s_api_Graph ?_|refine wI ?_|refine zLd rfl ‹_› ?_|refine zLen rfl (hlen4 _) ?_)
    refine zAlc E_Block elBlk0 fun H3 f3 b3 n3=>?_
    refine zStB b3 rfl rfl E_Block (by rw [te_Block_size];rfl) (by simpa [Value.cells] using hone) (by simp [Value.cells]) (by simp [Value.cells]) fun H4 f4 b4 n4=>?_
    have b4':Bx H4 Hd.next 39 [vp,vc,vf2,vt]:=b4
    have fd4:Fr Hd H4:=f3.young f4 (by simp) (by simp)
    have b14:=b1d.fr fd4
    clear b3 b4 f3 f4 hl3
    have hlf:aLen V.E H4 27 vf2=some (.int .i64 b.frm.length):=hfr.len (V:=V) E_s_int
    have hlt:aLen V.E H4 27 vt=some (.int .i64 b.to.length):=hto.len (V:=V) E_s_int
    have hlc:aLen V.E H4 37 vc=some (.int .i64 b.code.length):=hcc.len (V:=V) E_s_api_Ins
    have hlp:aLen V.E H4 36 vp=some (.int .i64 b.phis.length):=hp.len (V:=V) E_s_api_Phi
    have hp4:=hp.fr PhiR.m fd4
    have hc4:=hcc.fr InsR.m fd4
    (repeat first|apply zSeq|apply zReg|refine wN ?_|refine wG ?_|refine zAdd rfl rfl (by omega) ?_|refine zFld rfl O_Block_From ?_|refine wB E_s_int ?_)
    refine zLen rfl hlf ?_
    (repeat first|refine zAdd rfl rfl (by omega) ?_|refine zFld rfl O_Block_To ?_|refine wB E_s_int ?_)
    refine zLen rfl hlt ?_
    (repeat first|refine zAdd rfl rfl (by omega) ?_|refine zFld rfl O_Block_Code ?_|refine wB E_s_api_Ins ?_)
    refine zLen rfl hlc ?_
    (repeat first|refine wN ?_|refine zAdd rfl rfl (by omega) ?_)
    obtain ⟨base,hbase⟩:∃ z:Int,z=m+2+b.frm.length+b.to.length+b.code.length:=⟨_,rfl⟩
    refine WP.seqS (σ:=Int) (fun q=>[(1,.pointer (some ⟨H.next,0,none⟩)),(3,.int .i64 q),(4,.int .i64 k),(5,.int .i64 j),(6,.pointer (some ⟨Hd.next,0,none⟩))]) (fun q Hx=>Hx=H4∧(base≤q∧q≤1000000000000000)∧(q < 1000→b.phis.length≤1000∧∀ p∈b.phis,p.args.length≤100000)) ?_ ?_
    · (repeat first|apply zSeq|apply zReg|apply zBlk|refine wN ?_|refine wA ?_)
      refine WP.loopH (σ:=Nat×Int) (fun x=>[(1,.pointer (some ⟨H.next,0,none⟩)),(3,.int .i64 x.2),(4,.int .i64 k),(5,.int .i64 j),(6,.pointer (some ⟨Hd.next,0,none⟩)),(7,.int .i64 x.1)]) (fun x Hx=>Hx=H4∧x.1≤b.phis.length∧(base≤x.2∧x.2≤1000000000000000)∧(x.2 < 1000→(x.1:Int)≤x.2∧∀ p∈b.phis.take x.1,p.args.length≤100000)) (fun x=>b.phis.length - x.1) (0,base) ⟨rfl,Nat.zero_le _,⟨Int.le_refl _,by omega⟩,fun _=>⟨by simp only;omega,fun p hp=>by simp at hp⟩⟩ ⟨rfl,by rw [hbase];rfl,rfl,rfl,rfl,rfl,trivial⟩ ?_
      rintro ⟨i,q⟩ Hx ⟨hd,hi,hq,hal⟩
      replace hd:=hd.symm
      subst hd
      simp only at hi hq hal ⊢
      rcases Nat.lt_or_ge i b.phis.length with h3|h3
      case inr =>
        have g5:decide ((i:Int) < b.phis.length)=false:=decide_eq_false (by omega)
        rw [List.take_of_length_le h3] at hal
        (repeat first|apply zSeq|apply zReg|refine wG ?_|refine zFld rfl O_Block_Phis ?_|refine wB E_s_api_Phi ?_)
        refine zLen rfl hlp ?_
        (repeat first|refine zExt ?_|refine wN ?_|refine wF ?_|refine wR ?_|refine wL ?_|refine zF rfl rfl ?_)
        exact ⟨q,⟨rfl,hq,fun e=>⟨by have:=(hal e).1;omega,(hal e).2⟩⟩,rfl,rfl,rfl,rfl,rfl,trivial⟩
      have g5:decide ((i:Int) < b.phis.length)=true:=decide_eq_true (by omega)
      cases g6:decide (q < 1000)
      case false =>
        (repeat first|apply zSeq|apply zReg|refine wG ?_|refine zFld rfl O_Block_Phis ?_|refine wB E_s_api_Phi ?_)
        refine zLen rfl hlp ?_
        (repeat first|refine zExt ?_|refine wN ?_|refine wO ?_|refine wM ?_|refine wP ?_|refine wL ?_|refine wE ?_)
        exact ⟨q,⟨rfl,hq,fun e=>by simp at g6;omega⟩,rfl,rfl,rfl,rfl,rfl,trivial⟩
      have hq2:q < 1000:=of_decide_eq_true g6
      have hal:=hal hq2
      obtain ⟨bi,offi,va,pa,pr,pV,hta⟩:=elPhi_at hp4 h3
      have hpa:=hb1.pargs b.phis[i] (List.getElem_mem _)
      have hts:=fun h4=>mem_take_succ (P:=fun p:Ev.Phi=>p.args.length≤100000) h3 hal.2 h4
      generalize b.phis[i]=p at *
      have hla:aLen V.E H4 27 va=some (.int .i64 p.args.length):=hta.len (V:=V) E_s_int
      (repeat first|apply zSeq|apply zReg|refine wG ?_|refine zFld rfl O_Block_Phis ?_|refine wB E_s_api_Phi ?_)
      refine zLen rfl hlp ?_
      (repeat first|apply zSeq|apply zReg|apply zBlk|apply zSkp|refine wN ?_|refine wG ?_|refine wO ?_|refine wM ?_|refine wP ?_|refine wL ?_|refine zAdd rfl rfl (by omega) ?_|refine wT ?_|refine zFld rfl O_Phi_Args ?_|refine zFld rfl O_Block_Phis ?_|refine wB E_s_api_Phi ?_|refine wI ?_|refine zLd rfl ‹_› ?_)
      refine zLen rfl hla ?_
      (repeat first|apply zReg|refine wN ?_|refine wG ?_|refine zAdd rfl rfl (by omega) ?_)
      exact ⟨(i+1,q+1+p.args.length),⟨rfl,h3,⟨by simp only;omega,by simp only;omega⟩,fun e=>⟨by simp only at e ⊢;omega,hts (by simp only at e;omega)⟩⟩,by simp only;omega,rfl,rfl,rfl,rfl,rfl,rfl,trivial⟩
    rintro q0 Hx ⟨hd,hq0,hal0⟩
    replace hd:=hd.symm
    subst hd
    (repeat first|apply zSeq|apply zReg|apply zBlk|refine wN ?_|refine wA ?_)
    refine WP.loopH (σ:=Nat×Int) (fun x=>[(1,.pointer (some ⟨H.next,0,none⟩)),(3,.int .i64 x.2),(4,.int .i64 k),(5,.int .i64 j),(6,.pointer (some ⟨Hd.next,0,none⟩)),(8,.int .i64 x.1)]) (fun x Hx=>Hx=H4∧x.1≤b.code.length∧(q0≤x.2∧x.2≤1000000000000000)∧(x.2 < 1000→∀ p∈b.code.take x.1,p.args.length≤100000)) (fun x=>b.code.length - x.1) (0,q0) ⟨rfl,Nat.zero_le _,⟨Int.le_refl _,hq0.2⟩,fun _ p hp=>by simp at hp⟩ ⟨rfl,rfl,rfl,rfl,rfl,rfl,trivial⟩ ?_
    rintro ⟨i,q⟩ Hx ⟨hd,hi,hq,hal⟩
    replace hd:=hd.symm
    subst hd
    simp only at hi hq hal ⊢
    rcases Nat.lt_or_ge i b.code.length with h3|h3
    case inr =>
      have g5:decide ((i:Int) < b.code.length)=false:=decide_eq_false (by omega)
      rw [List.take_of_length_le h3] at hal
      (repeat first|apply zSeq|apply zReg|refine wG ?_|refine zFld rfl O_Block_Code ?_|refine wB E_s_api_Ins ?_)
      refine zLen rfl hlc ?_
      (repeat first|apply zReg|refine zExt ?_|refine wN ?_|refine wG ?_|refine wF ?_|refine wR ?_|refine wL ?_|refine zAdd rfl rfl (by omega) ?_|refine zF rfl rfl ?_)
      exact ⟨(j+1,q),⟨fd.trans fd4,h2,⟨by simp only;omega,hq.2⟩,fun e=>⟨by simp only at e ⊢;omega,htb ⟨by simp only at e;omega,by have:=(hal0 (by simp only at e;omega)).1;omega,by simp only at e;omega,by simp only at e;omega,(hal0 (by simp only at e;omega)).2,hal e⟩⟩⟩,by simp only;omega,rfl,rfl,rfl,rfl,trivial⟩
    have g5:decide ((i:Int) < b.code.length)=true:=decide_eq_true (by omega)
    cases g6:decide (q < 1000)
    case false =>
      (repeat first|apply zSeq|apply zReg|refine wG ?_|refine zFld rfl O_Block_Code ?_|refine wB E_s_api_Ins ?_)
      refine zLen rfl hlc ?_
      (repeat first|apply zReg|refine zExt ?_|refine wN ?_|refine wG ?_|refine wO ?_|refine wM ?_|refine wP ?_|refine wL ?_|refine zAdd rfl rfl (by omega) ?_|refine wE ?_)
      exact ⟨(j+1,q),⟨fd.trans fd4,h2,⟨by simp only;omega,hq.2⟩,fun e=>by simp at g6 e;omega⟩,by simp only;omega,rfl,rfl,rfl,rfl,trivial⟩
    have hq2:q < 1000:=of_decide_eq_true g6
    have hal:=hal hq2
    obtain ⟨bi,offi,va,pa,pV,hta⟩:=elIns_args hc4 h3
    have hpa:=hb1.cargs b.code[i] (List.getElem_mem _)
    have hts:=fun h4=>mem_take_succ (P:=fun p:Ins=>p.args.length≤100000) h3 hal h4
    generalize b.code[i]=p at *
    have hla:aLen V.E H4 27 va=some (.int .i64 p.args.length):=hta.len (V:=V) E_s_int
    (repeat first|apply zSeq|apply zReg|refine wG ?_|refine zFld rfl O_Block_Code ?_|refine wB E_s_api_Ins ?_)
    refine zLen rfl hlc ?_
    (repeat first|apply zSeq|apply zReg|apply zBlk|apply zSkp|refine wN ?_|refine wG ?_|refine wO ?_|refine wM ?_|refine wP ?_|refine wL ?_|refine wT ?_|refine zFld rfl O_Ins_Args ?_|refine zFld rfl O_Block_Code ?_|refine wB E_s_api_Ins ?_|refine wI ?_|refine zLd rfl ‹_› ?_)
    refine zLen rfl hla ?_
    (repeat first|apply zReg|refine wN ?_|refine wG ?_|refine zAdd rfl rfl (by omega) ?_)
    exact ⟨(i+1,q+p.args.length),⟨rfl,h3,⟨by simp only;omega,by simp only;omega⟩,fun e=>hts (by simp only at e;omega)⟩,by simp only;omega,rfl,rfl,rfl,rfl,rfl,rfl,trivial⟩
  · rintro n Hc ⟨fc,hn,hall⟩
    have b1c:=b1'.fr fc
    have f0c:=f1.trans fc
    cases c1:decide (n≥1000)
    case true =>
      (repeat first|apply zSeq|apply zReg|refine wN ?_|refine wG ?_|refine zOff rfl rfl ?_|refine wF ?_|refine zPT rfl rfl rfl ?_|refine wP ?_|refine zGeq rfl rfl ?_)
      exact WP.ret ⟨.inr rfl,_,rfl,_,rfl,f0c,fun e=>by cases e⟩
    cases c2:decide ((f.funs.length:Int) > 20)
    case true =>
      (repeat first|apply zSeq|apply zReg|refine wN ?_|refine wG ?_|refine wO ?_|refine wF ?_|refine wP ?_|refine wR ?_|refine zGtr rfl rfl ?_|refine zGeq rfl rfl ?_|refine zFld rfl O_Form_Funs ?_|refine wB E_s_api_Graph ?_|refine zLen rfl (hlen1 _) ?_)
      exact WP.ret ⟨.inr rfl,_,rfl,_,rfl,f0c,fun e=>by cases e⟩
    (repeat first|apply zSeq|apply zReg|refine wN ?_|refine wG ?_|refine wO ?_|refine wR ?_|refine zGtr rfl rfl ?_|refine zGeq rfl rfl ?_|refine zAdd rfl rfl (by omega) ?_|refine zFld rfl O_Form_Mems ?_|refine zFld rfl O_Form_Locks ?_|refine zFld rfl O_Form_Funs ?_|refine wB E_s_string ?_|refine wB E_s_api_Mem ?_|refine wB E_s_api_Graph ?_|refine zLen rfl (hlen1 _) ?_|refine zLen rfl (hlen2 _) ?_|refine zLen rfl (hlen3 _) ?_)
    refine WP.ret ⟨.inr rfl,_,rfl,_,rfl,f0c,fun e=>?_⟩
    have c3:¬ ((f.mems.length:Int)+f.locks.length > 100):=of_decide_eq_false e
    have c1':n < 1000:=by simp at c1;omega
    have c2':f.funs.length≤20:=by simp at c2;omega
    have hg:=hall c1'
    refine ⟨⟨by omega,by omega,by omega,fun g hgm=>?_,fun g hgm b hb i hi=>(hg g hgm).2 b hb |>.cargs i hi,fun g hgm b hb i hi=>(hB.b g hgm b hb).op i hi⟩,fun g hgm=>(hg g hgm).2⟩
    have h1:=(hg g hgm)
    exact ⟨by have:=h1.1;omega,fun b hb=>by have:=(h1.2 b hb).code;omega,fun b hb=>by have:=(h1.2 b hb).phis;omega,fun b hb=>by have:=(h1.2 b hb).frm;omega,fun b hb=>by have:=(h1.2 b hb).to;omega,fun b hb p hp=>by have:=(h1.2 b hb).pargs p hp;omega⟩
end Go.Proofs.YtogomfblfpfjhaaGreatDoor.U
namespace Go.Proofs.YtogomfblfpfjhaaGreatDoor.U
open Go Go.Ev
attribute [local irreducible] WL WP WH W
theorem elGr0:te_Graph.zv.cells.toList=[.string ⟨⟨[]⟩⟩,.bool false,.int .i64 0,.int .i64 0,.slice none 0 0]:=by kernel_rfl
theorem elFm0:te_Form.zv.cells.toList=[.slice none 0 0,.slice none 0 0,.slice none 0 0]:=by kernel_rfl
theorem elFillBlk {a0 a1 a2 a3:Value}:afill (fun i=>some (i * te_Block.size,te_Block.size)) (azeros te_Block.zv.cells.toList 1) [(0,.agg #[a0,a1,a2,a3])]=some [a0,a1,a2,a3]:=by kernel_rfl
theorem elFillGr {a0 a1 a2 a3 a4:Value}:afill (fun i=>some (i * te_Graph.size,te_Graph.size)) (azeros te_Graph.zv.cells.toList 1) [(0,.agg #[a0,a1,a2,a3,a4])]=some [a0,a1,a2,a3,a4]:=by kernel_rfl
theorem elBuildFm {a1 a2 b1 b2:Nat}{p q:Option Addr}:aBuild V.E 26 [(0,.slice p a1 a2),(1,.slice q b1 b2)]=some (.agg #[.slice p a1 a2,.slice q b1 b2,.slice none 0 0]):=by kernel_rfl
theorem elBuildFm0:aBuild V.E 26 []=some (.agg #[.slice none 0 0,.slice none 0 0,.slice none 0 0]):=by kernel_rfl
attribute [local irreducible] V
variable {O:Orc}{H:AH}
def AllR (H:AH) (f:For.Form) (locks:List Int) (u:Value) (H':AH):Prop:=
 ∃ vm vl vf,u=.tuple #[.agg #[vm,vl,vf],.int .i64 (Eli.err (For.may mayG mi) f locks)]∧FmR (.old H.next) H' vm vl vf (Eli.out (For.may mayG mi) f locks)∧(∃ os:Ev.Os,Wl 35 5 WG_ H' vf (Eli.out (For.may mayG mi) f locks).funs os∧os.In H.next H'.next∧os.nd)∧Fr H H'
theorem AllR.zero {f:For.Form}{locks:List Int}{H':AH}{e:Int} (he:Eli.err (For.may mayG mi) f locks=e) (h0:e≠0) (k:Fr H H'):AllR H f locks (.tuple #[.agg #[.slice none 0 0,.slice none 0 0,.slice none 0 0],.int .i64 e]) H':=by
 have ho:Eli.out (For.may mayG mi) f locks=Eli.zeroF:=by unfold Eli.out;rw [he,if_neg h0]
 refine ⟨_,_,_,by rw [he],by rw [ho];exact ⟨.nil,.nil,.nil⟩,⟨[],by rw [ho];exact .inl ⟨rfl,rfl,_,_,rfl⟩,.nil,.nil⟩,k⟩
set_option maxHeartbeats 16000000 in
theorem all_c (hO:NoO O) (hK:KnL O) (hgh:GH H) (hgn:GN H) {A A2:Av}{f:For.Form}{vm vl vf:Value} (hf:FmR A H vm vl vf f) (hse:SmallEl f) {locks:List Int}{vk:Value} (hvk:IntsR A2 H vk locks) (hLk:locks.length≤1000000) :
    ∃ u H',Lc V O F_elide_All [.agg #[vm,vl,vf],vk] H u H'∧AllR H f locks u H':=by
  refine Lc.elide_All (R:=fun u H'=>AllR H f locks u H') (hO _ _ _ (by decide)) (Nat.le_of_ble_eq_true rfl) (by kernel_rfl) ?_
  unfold P_elide_All
  have hs:=hse.fm
  have hsn:=hs.funs
  have hsl:=hs.locks
  have hsm:=hs.mems
  have hvlo:=hf.l.oneCell
  have hvmo:=hf.m.oneCell
  have hvfo:=hf.f.oneCell
  obtain ⟨am,nm,cm,rfl⟩:∃ a n c,vm=.slice a n c:=let ⟨_,h,_⟩:=hf.m;h.isSl
  obtain ⟨al,nl,cl,rfl⟩:∃ a n c,vl=.slice a n c:=let ⟨_,h,_⟩:=hf.l;h.isSl
  obtain ⟨af,nf,cf,rfl⟩:∃ a n c,vf=.slice a n c:=let ⟨_,h,_⟩:=hf.f;h.isSl
  obtain ⟨ak,nk,ck,rfl⟩:=hvk.isSl
  have hlen1:=fun Hz=>hf.f.len (V:=V) (H2:=Hz) E_s_api_Graph
  have hlen2:=fun Hz=>hf.l.len (V:=V) (H2:=Hz) E_s_string
  have hlen3:=fun Hz=>hvk.len (V:=V) (H2:=Hz) E_s_int
  apply zSeq
  apply zReg
  refine zBox rfl (fun _=>rfl) fun H1 f1 b1 n1=>?_
  have b1':Bx H1 H.next 26 [.slice am nm cm,.slice al nl cl,.slice af nf cf]:=b1
  refine zBox rfl (fun _=>rfl) fun H2 f2 b2 n2=>?_
  have b2':Bx H2 H1.next 27 [.slice ak nk ck]:=b2
  refine zAlc E_Form elFm0 fun H3 f3 b3 n3=>?_
  have f13:=(f1.trans f2).trans f3
  have b13:=(b1'.fr f2).fr f3
  have b23:=b2'.fr f3
  clear b1 b1' b2 b2'
  obtain ⟨_,H4,hc4,rfl,f4⟩:=mayForm_c (H:=H3) hO hK (hgh.fr f13) (hgn.fr f13) (hf.fr f13) hs
  have f14:=f13.trans f4
  have b14:=b13.fr f4
  have b24:=b23.fr f4
  have b34:=b3.fr f4
  cases hm1:For.may mayG mi f
  · rw [hm1] at hc4
    (repeat first|apply zSeq|apply zReg|refine wN ?_|refine wA ?_)
    refine zLd rfl (b13.ldN E_Form te_Form_agg (by rw [te_Form_size];rfl)) ?_
    refine WL.call rfl rfl is_flow_MayForm hc4 ?_
    (repeat first|apply zSeq|apply zReg|refine wN ?_|refine zNot rfl ?_|refine zT rfl rfl ?_)
    refine WL.op (op_build rfl elBuildFm0) ?_
    refine zStB b34 rfl rfl E_Form (by rw [te_Form_size];rfl) rfl (by simp [Value.cells]) (by simp [Value.cells]) fun H5 f5 b5 n5=>?_
    have b5':Bx H5 H2.next 26 [.slice none 0 0,.slice none 0 0,.slice none 0 0]:=b5
    (repeat first|refine wN ?_|refine wA ?_)
    exact WP.ret ⟨.inr rfl,_,resL_cell rfl (b5'.ldN E_Form te_Form_agg (by rw [te_Form_size];rfl)) rfl,AllR.zero (by unfold Eli.err;rw [if_pos hm1]) (by decide) (f14.young f5 (by simp;omega) (by simp))⟩
  rw [hm1] at hc4
  (repeat first|apply zSeq|apply zReg|refine wN ?_|refine wA ?_)
  refine zLd rfl (b13.ldN E_Form te_Form_agg (by rw [te_Form_size];rfl)) ?_
  refine WL.call rfl rfl is_flow_MayForm hc4 ?_
  (repeat first|apply zSkp|refine wN ?_|refine zNot rfl ?_|refine zF rfl rfl ?_)
  have hbadT:locks.any (Eli.bad f)=true→Eli.err (For.may mayG mi) f locks=1:=fun h=>by unfold Eli.err;rw [if_neg (by rw [hm1];decide),if_pos h]
  refine WP.seqS (σ:=Unit) (fun _=>[(2,.pointer (some ⟨H.next,0,none⟩)),(3,.pointer (some ⟨H1.next,0,none⟩)),(4,.pointer (some ⟨H2.next,0,none⟩))]) (fun _ Hc=>Hc=H4∧locks.any (Eli.bad f)=false) ?_ ?_
  · (repeat first|apply zSeq|apply zReg|apply zBlk|refine wN ?_|refine wM ?_|refine wB E_s_int ?_|refine zLen rfl (hlen3 _) ?_)
    refine WP.loopH (σ:=Nat) (fun i=>[(2,.pointer (some ⟨H.next,0,none⟩)),(3,.pointer (some ⟨H1.next,0,none⟩)),(4,.pointer (some ⟨H2.next,0,none⟩)),(19,.slice ak nk ck),(20,.int .i64 locks.length),(21,.int .i64 i)]) (fun i Hc=>Hc=H4∧i≤locks.length∧∀ j (h:j < locks.length),j < i→Eli.bad f locks[j]=false) (fun i=>locks.length - i) 0 ⟨rfl,by simp,fun j _ h=>absurd h (by omega)⟩ ⟨rfl,rfl,rfl,rfl,rfl,rfl,trivial⟩ ?_
    rintro i Hc ⟨e,hi,hn⟩
    subst e
    rcases Nat.lt_or_ge i locks.length with h|h
    case inr =>
      have g1:decide ((i:Int) < locks.length)=false:=decide_eq_false (by omega)
      (repeat first|apply zSeq|apply zReg|refine zExt ?_|refine wN ?_|refine wL ?_|refine wE ?_)
      refine ⟨(),⟨rfl,?_⟩,rfl,rfl,rfl,trivial⟩
      rw [List.any_eq_false]
      intro x hx
      obtain ⟨j,hj,rfl⟩:=List.mem_iff_getElem.1 hx
      rw [hn j hj (by omega)];decide
    have g1:decide ((i:Int) < locks.length)=true:=decide_eq_true (by omega)
    obtain ⟨b,off,ha1,hl1⟩:=IntsR.at (hvk.fr f14) E_s_int E_int (kd:=.i64) h
    have hbad:Eli.bad f locks[i]=true→Eli.err (For.may mayG mi) f locks=1:=fun hb=>hbadT (List.any_eq_true.2 ⟨_,List.getElem_mem h,hb⟩)
    cases c1:decide (locks[i] < 0)
    · cases c2:decide (locks[i]≥(f.locks.length:Int))
      · (repeat first|apply zSeq|apply zReg|apply zBlk|apply zSkp|refine wN ?_|refine wG ?_|refine wO ?_|refine wM ?_|refine wR ?_|refine wL ?_|refine zGeq rfl rfl ?_|refine zAdd rfl rfl (by omega) ?_|refine wT ?_|refine wE ?_|refine zFld rfl O_Form_Locks ?_|refine wB E_s_string ?_|refine wI ?_|refine zLd rfl ‹_› ?_|refine zLen rfl (hlen2 _) ?_)
        refine ⟨i+1,⟨rfl,h,fun j hj hji=>?_⟩,by omega,rfl,rfl,rfl,rfl,rfl,rfl,trivial⟩
        by_cases e:j=i
        · subst e
          unfold Eli.bad;rw [c1,c2];rfl
        · exact hn j hj (by omega)
      · (repeat first|apply zSeq|apply zReg|apply zBlk|apply zSkp|refine wN ?_|refine wG ?_|refine wO ?_|refine wM ?_|refine wR ?_|refine wL ?_|refine zGeq rfl rfl ?_|refine wT ?_|refine zFld rfl O_Form_Locks ?_|refine wB E_s_string ?_|refine wI ?_|refine zLd rfl ‹_› ?_|refine zLen rfl (hlen2 _) ?_)
        refine WL.op (op_build rfl elBuildFm0) ?_
        refine zStB b34 rfl rfl E_Form (by rw [te_Form_size];rfl) rfl (by simp [Value.cells]) (by simp [Value.cells]) fun H5 f5 b5 n5=>?_
        have b5':Bx H5 H2.next 26 [.slice none 0 0,.slice none 0 0,.slice none 0 0]:=b5
        (repeat first|refine wN ?_|refine wA ?_)
        exact WP.ret ⟨.inr rfl,_,resL_cell rfl (b5'.ldN E_Form te_Form_agg (by rw [te_Form_size];rfl)) rfl,AllR.zero (hbad (by unfold Eli.bad;rw [c1,c2];rfl)) (by decide) (f14.young f5 (by simp;omega) (by simp))⟩
    · (repeat first|apply zSeq|apply zReg|apply zBlk|apply zSkp|refine wN ?_|refine wG ?_|refine wF ?_|refine wP ?_|refine wL ?_|refine zT rfl rfl ?_|refine wT ?_|refine wI ?_|refine zLd rfl ‹_› ?_)
      refine WL.op (op_build rfl elBuildFm0) ?_
      refine zStB b34 rfl rfl E_Form (by rw [te_Form_size];rfl) rfl (by simp [Value.cells]) (by simp [Value.cells]) fun H5 f5 b5 n5=>?_
      have b5':Bx H5 H2.next 26 [.slice none 0 0,.slice none 0 0,.slice none 0 0]:=b5
      (repeat first|refine wN ?_|refine wA ?_)
      exact WP.ret ⟨.inr rfl,_,resL_cell rfl (b5'.ldN E_Form te_Form_agg (by rw [te_Form_size];rfl)) rfl,AllR.zero (hbad (by unfold Eli.bad;rw [c1];rfl)) (by decide) (f14.young f5 (by simp;omega) (by simp))⟩
  rintro _ Hc0 ⟨e0,hbad0⟩
  have e0':=e0.symm
  subst e0'
  clear e0
  skip
  apply zSeq
  apply zReg
  refine WL.op (v:=.func (.func F_elide_All_q1) #[] #[.pointer (some ⟨H1.next,0,none⟩)]) (H1:=H4) rfl ?_
  (repeat first|refine wN ?_)
  apply zSeq
  refine WP.rega ?_
  refine yFld rfl O_Form_Mems ?_
  refine yLd rfl (b14.ld (off:=0) rfl E_s_api_Mem rfl) ?_
  refine yFld rfl O_Form_Locks ?_
  refine yLd rfl (b14.ld (off:=1) rfl E_s_string rfl) ?_
  refine yAlc E_Form elFm0 fun H5 f5 b5 n5=>?_
  have f15:=f14.trans f5
  obtain ⟨_,H6,hc6,f6,a6,n6,c6,rfl,hm6⟩:=cloneMem_c (H:=H5) hO (hf.m.fr MemR.m f15) (by omega)
  have f16:=f15.trans f6
  obtain ⟨_,H7,hc7,f7,a7,n7,c7,rfl,hl7⟩:=cloneStrE_c (H:=H6) hO (hf.l.fr StrR.m f16) (by omega)
  have f17:=f16.trans f7
  refine WH.call rfl rfl is_slices_Clone_s_api_Mem_api_Mem hc6 ?_
  refine WH.call rfl rfl is_slices_Clone_s_string_string hc7 ?_
  refine WH.op (op_build rfl elBuildFm) ?_
  refine yStB ((b5.fr f6).fr f7) rfl rfl E_Form (by rw [te_Form_size];rfl) rfl (by simp [Value.cells]) (by simp [Value.cells]) fun H8 f8 b8 n8=>?_
  have b8':Bx H8 H4.next 26 [.slice a6 n6 c6,.slice a7 n7 c7,.slice none 0 0]:=b8
  refine WH.nil ⟨?_,_,rfl,?_⟩
  · intro x hx
    rw [List.mem_singleton] at hx
    subst hx
    exact .inr ⟨rfl,_,_,_,rfl,rfl,op_load rfl (((b14.fr f5).fr f6).ld (off:=1) rfl E_s_string rfl),sameV_sl⟩
  have hn02:H.next < H1.next:=by omega
  have hn12:H1.next < H2.next:=by omega
  have hn34:H3.next≤H4.next:=f4.1
  have hn45:H5.next=H4.next+1:=n5
  have hn56:H5.next≤H6.next:=f6.1
  have hn67:H6.next≤H7.next:=f7.1
  have f18:Fr H H8:=f17.young f8 (by simp;omega) (by simp)
  have f48:Fr H4 H8:=((f5.trans f6).trans f7).young f8 (by simp) (by simp)
  have b18:=b14.fr f48
  have b28:=b24.fr f48
  have b38:=b34.fr f48
  have hB0:(Av.old H5.next).Lt H5.next:=Av.old_lt
  have hBsub:∀ {Hx Hy:AH}{c:Nat},c≤H4.next→FrX [c] [] Hx Hy→FrX (Av.old H5.next).bs (Av.old H5.next).gs Hx Hy:=fun hc h=>h.sub (fun b hb=>by simp [Av.old] at hb ⊢;omega) (by simp)
  have hBG:∀ {n:Nat},(Av.old H5.next).Gr (.old H.next) n:=Av.old_gr (Av.old_lt.mono (by omega))
  have hm8:Els 3 MemR (.old H5.next) H8 (.slice a6 n6 c6) f.mems:=((hm6 _ hB0).fr MemR.m f7).frX MemR.m (hBsub (Nat.le_refl _) f8)
  have hl8:Els 1 StrR (.old H5.next) H8 (.slice a7 n7 c7) f.locks:=(hl7 _ (hB0.mono (by omega))).frX StrR.m (hBsub (Nat.le_refl _) f8)
  generalize hB:Av.old H5.next=B at *
  have hn8:H4.next < H8.next:=b8'.1
  have hBlt:B.Lt H8.next:=hB0.mono (by omega)
  clear b5 b8 f5 f6 f7 f8 f15 f16 f17 hc4 hc6 hc7 hm6 hl7 b13 b23 b3 f13
  refine WP.seqS (σ:=Value×Option (Nat×Nat)) (fun x=>[(4,.pointer (some ⟨H2.next,0,none⟩)),(9,.pointer (some ⟨H4.next,0,none⟩))]) (fun x Hc=>FrX [H4.next] [] H8 Hc∧Bx Hc H4.next 26 [.slice a6 n6 c6,.slice a7 n7 c7,x.1]∧Bd 35 5 GraphR WG_ B Hc H8.next x.1 (f.funs.map (Eli.graph locks)) x.2) ?_ ?_
  · (repeat first|apply zSeq|apply zReg|apply zBlk|refine wN ?_|refine wM ?_|refine zFld rfl O_Form_Funs ?_|refine wB E_s_api_Graph ?_|refine zLen rfl (hlen1 _) ?_)
    refine WP.loopH (σ:=Nat×Value×Option (Nat×Nat)) (fun x=>[(4,.pointer (some ⟨H2.next,0,none⟩)),(8,.func (.func F_elide_All_q1) #[] #[.pointer (some ⟨H1.next,0,none⟩)]),(9,.pointer (some ⟨H4.next,0,none⟩)),(45,.slice af nf cf),(46,.int .i64 f.funs.length),(47,.int .i64 x.1)]) (fun x Hc=>FrX [H4.next] [] H8 Hc∧Bx Hc H4.next 26 [.slice a6 n6 c6,.slice a7 n7 c7,x.2.1]∧Bd 35 5 GraphR WG_ B Hc H8.next x.2.1 ((f.funs.take x.1).map (Eli.graph locks)) x.2.2∧x.1≤f.funs.length) (fun x=>f.funs.length - x.1) (0,.slice none 0 0,none) ⟨.refl _ _ _,b8',.nil,Nat.zero_le _⟩ ⟨rfl,rfl,rfl,rfl,rfl,rfl,trivial⟩ ?_
    rintro ⟨k,gv,o⟩ Hc ⟨hfr,hbx,how,hk⟩
    simp only at hfr hbx how hk ⊢
    rcases Nat.lt_or_ge k f.funs.length with h|h
    case inr =>
      have g1:decide ((k:Int) < f.funs.length)=false:=decide_eq_false (by omega)
      rw [List.take_of_length_le h] at how
      (repeat first|apply zSeq|apply zReg|refine zExt ?_|refine wN ?_|refine wL ?_|refine wE ?_)
      exact ⟨(gv,o),⟨hfr,hbx,how⟩,rfl,rfl,trivial⟩
    have g1:decide ((k:Int) < f.funs.length)=true:=decide_eq_true (by omega)
    have frH:Fr H Hc:=f18.young hfr (by simp;omega) (by simp)
    have hbc2:=b28.frX hfr (by simp;omega)
    obtain ⟨bb,off,cs,ha1,hrd,vb,rfl,hbl⟩:=(hf.f.fr GraphR.m frH).at E_s_api_Graph E_Graph te_Graph_size (kd:=.i64) h
    have hl1:=hrd.loadN (V:=V) E_Graph te_Graph_agg te_Graph_size
    have hv1:=hbl.oneCell
    have hsg:=hs.gs f.funs[k] (List.getElem_mem _)
    have hsb:=hse.b f.funs[k] (List.getElem_mem _)
    have htk:(f.funs.take (k+1)).map (Eli.graph locks)=(f.funs.take k).map (Eli.graph locks)++[Eli.graph locks f.funs[k]]:=by rw [List.take_succ_eq_append_getElem h,List.map_append];rfl
    generalize hg0:f.funs[k]=g at *
    have hngb:=hsg.nb
    obtain ⟨ab,nb,cb,rfl⟩:∃ a n c,vb=.slice a n c:=let ⟨_,h,_⟩:=hbl;h.isSl
    have hlen4:=fun Hz=>hbl.len (V:=V) (H2:=Hz) E_s_api_Block
    (repeat first|apply zSeq|apply zReg|apply zBlk|apply zSkp|refine wN ?_|refine wL ?_|refine wT ?_|refine wI ?_|refine zLd rfl ‹_› ?_)
    refine zAlc E_Graph elGr0 fun H9 f9 b9 n9=>?_
    refine zStB b9 rfl rfl E_Graph (by rw [te_Graph_size];rfl) rfl (by simp [Value.cells]) (by simp [Value.cells]) fun Ha fa ba na=>?_
    have ba':Bx Ha Hc.next 35 (graphC g (.slice ab nb cb)):=ba
    have fca:Fr Hc Ha:=f9.young fa (by simp) (by simp)
    (repeat first|apply zSeq|apply zReg|refine wN ?_|refine zFld rfl O_Graph_Blocks ?_|refine wB E_s_api_Block ?_)
    refine zStB ba' rfl rfl E_s_api_Block rfl rfl (by simp [Value.cells]) (by simp [Value.cells,graphC]) fun Hb fb bb2 nb2=>?_
    have bb':Bx Hb Hc.next 35 (graphC g (.slice none 0 0)):=bb2
    have fcb:Fr Hc Hb:=fca.young fb (by simp) (by simp)
    have hbxb:=hbx.fr fcb
    have frb:Fr H Hb:=frH.trans fcb
    have hn8c:=hfr.1
    have hncb:=bb'.1
    have how0:=how.fr GraphR.m WGr.m (Fr.refl Hc)
    have hCG:∀ {n:Nat},(Av.old Hb.next).Gr (B.and (.of o)) n:=Av.old_gr (((hBlt.mono (by omega)).and how.lt).mono (by omega))
    have hClt:(Av.old Hb.next).Lt Hb.next:=Av.old_lt
    have hCsub:∀ {Hx Hy:AH},FrX [Hc.next] [] Hx Hy→FrX (Av.old Hb.next).bs (Av.old Hb.next).gs Hx Hy:=fun h=>h.sub (fun b hb=>by simp [Av.old] at hb ⊢;omega) (by simp)
    generalize hC:Av.old Hb.next=C at *
    clear b9 ba ba' bb2 f9 fa fb fca
    (repeat first|refine wN ?_)
    refine WP.seqS (σ:=Value×Option (Nat×Nat)) (fun x=>[(4,.pointer (some ⟨H2.next,0,none⟩)),(8,.func (.func F_elide_All_q1) #[] #[.pointer (some ⟨H1.next,0,none⟩)]),(9,.pointer (some ⟨H4.next,0,none⟩)),(11,.pointer (some ⟨Hc.next,0,none⟩)),(45,.slice af nf cf),(46,.int .i64 f.funs.length),(47,.int .i64 k)]) (fun x Hd=>FrX [Hc.next] [] Hb Hd∧Bx Hd Hc.next 35 (graphC g x.1)∧Bd 39 4 BlockR WB_ C Hd Hb.next x.1 (g.blocks.map (Eli.block locks)) x.2) ?_ ?_
    · (repeat first|apply zSeq|apply zReg|apply zBlk|refine wN ?_|refine wG ?_|refine wM ?_|refine zLen rfl (hlen4 _) ?_)
      refine WP.loopH (σ:=Nat×Value×Option (Nat×Nat)) (fun x=>[(4,.pointer (some ⟨H2.next,0,none⟩)),(8,.func (.func F_elide_All_q1) #[] #[.pointer (some ⟨H1.next,0,none⟩)]),(9,.pointer (some ⟨H4.next,0,none⟩)),(11,.pointer (some ⟨Hc.next,0,none⟩)),(45,.slice af nf cf),(46,.int .i64 f.funs.length),(47,.int .i64 k),(54,.slice ab nb cb),(55,.int .i64 g.blocks.length),(56,.int .i64 x.1)]) (fun x Hd=>FrX [Hc.next] [] Hb Hd∧Bx Hd Hc.next 35 (graphC g x.2.1)∧Bd 39 4 BlockR WB_ C Hd Hb.next x.2.1 ((g.blocks.take x.1).map (Eli.block locks)) x.2.2∧x.1≤g.blocks.length) (fun x=>g.blocks.length - x.1) (0,.slice none 0 0,none) ⟨.refl _ _ _,bb',.nil,Nat.zero_le _⟩ ⟨rfl,rfl,rfl,rfl,rfl,rfl,rfl,rfl,rfl,rfl,trivial⟩ ?_
      rintro ⟨j,bv,o2⟩ Hd ⟨hfrd,hbxd,howd,hj⟩
      simp only at hfrd hbxd howd hj ⊢
      rcases Nat.lt_or_ge j g.blocks.length with h2|h2
      case inr =>
        have g2:decide ((j:Int) < g.blocks.length)=false:=decide_eq_false (by omega)
        rw [List.take_of_length_le h2] at howd
        (repeat first|apply zSeq|apply zReg|refine zExt ?_|refine wN ?_|refine wL ?_|refine wE ?_)
        exact ⟨(bv,o2),⟨hfrd,hbxd,howd⟩,rfl,rfl,rfl,rfl,rfl,rfl,rfl,trivial⟩
      have g2:decide ((j:Int) < g.blocks.length)=true:=decide_eq_true (by omega)
      have frHd:Fr H Hd:=frb.young hfrd (by simp;have:=frH.1;omega) (by simp)
      have frHcd:Fr Hc Hd:=fcb.young hfrd (by simp) (by simp)
      obtain ⟨b3,off3,cs3,ha3,hrd3,hR3⟩:=(hbl.fr BlockR.m (fcb.young hfrd (by simp) (by simp))).at E_s_api_Block E_Block te_Block_size (kd:=.i64) h2
      have hl3:=hrd3.loadN (V:=V) E_Block te_Block_agg te_Block_size
      have hsb1:=hsb g.blocks[j] (List.getElem_mem _)
      have htk2:(g.blocks.take (j+1)).map (Eli.block locks)=(g.blocks.take j).map (Eli.block locks)++[Eli.block locks g.blocks[j]]:=by rw [List.take_succ_eq_append_getElem h2,List.map_append];rfl
      generalize hx0:g.blocks[j]=x at *
      obtain ⟨hone,hlen⟩:=BlockR.one hR3
      (repeat first|apply zSeq|apply zReg|apply zBlk|apply zSkp|refine wN ?_|refine wL ?_|refine wT ?_|refine wI ?_|refine zLd rfl ‹_› ?_)
      refine zAlc E_Block elBlk0 fun He fe be ne=>?_
      refine zStB be rfl rfl E_Block (by rw [te_Block_size];simpa [Value.cells] using hlen) (by simpa [Value.cells] using hone) (by intro e;simp [Value.cells] at e;rw [e] at hlen;simp at hlen) (by simp [Value.cells,hlen]) fun Hg fg bg ng=>?_
      have bg':Bx Hg Hd.next 39 cs3:=by
        have e:splice (List.replicate 4 (Value.slice none 0 0)) 0 (Value.agg cs3.toArray).cells.toList=cs3:=by
          unfold splice;simp [Value.cells,hlen]
        rw [← e];exact bg
      have fdg:Fr Hd Hg:=fe.young fg (by simp) (by simp)
      have hbxg:=hbxd.fr fdg
      have howg:=howd.fr BlockR.m WBlk.m fdg
      have frHg:Fr H Hg:=frHd.trans fdg
      have b2g:Bx Hg H1.next 27 [.slice ak nk ck]:=(hbc2.fr frHcd).fr fdg
      obtain ⟨_,Hi,hci,csi,osi,rfl,hRi,hWi,hini,hndi,fgi⟩:=own_c (H:=Hg) hO (BlockR.m.fr hR3 fdg) hsb1 (hvk.fr frHg) b2g hLk
      have hni:=fgi.1
      have hng:=fdg.1
      have hnd:=hfrd.1
      have hbxi:=hbxg.fr fgi
      obtain ⟨bv',Hj,o',k1,k2,k3,k4⟩:=howg.app1 (V:=V) (x:=Eli.block locks x) (cx:=csi) BlockR.m WBlk.m fgi (hClt.mono (by omega)) (BlockR.m.gr (Av.old_gr ((hClt.mono (by omega)).and howg.lt)) hRi) hWi hini hndi BlockR.one (by decide) (bytes:=96) (by rw [List.length_map,List.length_take];omega) (by rw [List.length_map,List.length_take];omega) (by omega) E_s_api_Block E_s_api_Block E_Block te_Block_size te_Block_bytes
      have hfill:afill (fun i=>some (i * te_Block.size,te_Block.size)) (azeros te_Block.zv.cells.toList 1) [(0,.agg csi.toArray)]=some csi:=by
        obtain ⟨vp,vc,vf,vt,rfl,_⟩:=hRi
        exact elFillBlk
      refine wN ?_
      refine WP.rega ?_
      refine yFld rfl O_Graph_Blocks ?_
      refine yLd rfl (hbxg.ld (off:=4) rfl E_s_api_Block rfl) ?_
      refine yLd rfl (bg'.ldN E_Block te_Block_agg (by rw [te_Block_size];exact hlen.symm)) ?_
      refine yGet rfl ?_
      refine WH.call rfl rfl is_elide_own hci ?_
      refine WH.op (op_buildSlice rfl E_s_api_Block E_Block (by rw [te_Block_size];decide) hfill) ?_
      refine WH.op (k1 rfl rfl) ?_
      have hyc:=howd.young
      have hbxj:=hbxi.frX k3 (fun hb=>by have:=hyc.1 _ hb;omega)
      obtain ⟨h1v,h2v⟩:=k2.oneCell
      refine yFld rfl O_Graph_Blocks ?_
      refine yStB hbxj rfl rfl E_s_api_Block (by rw [← Array.length_toList,h2v];rfl) (by rw [h2v];simp [h1v]) (by rw [h2v];simp) (by rw [h2v];simp [graphC]) fun Hl fl bl nl=>?_
      rw [h2v] at bl
      have bl':Bx Hl Hc.next 35 (graphC g bv'):=bl
      refine WH.nil ⟨?_,_,rfl,?_⟩
      · intro y hy
        rw [List.mem_singleton] at hy
        subst hy
        obtain ⟨q1,q2,q3,rfl⟩:=howd.isSl
        exact .inr ⟨rfl,_,_,_,rfl,rfl,op_load rfl ((hbxi.fr (.alloc _ _)).ld (off:=4) rfl E_s_api_Block rfl),sameV_sl⟩
      (repeat first|apply zReg|refine wN ?_|refine zAdd rfl rfl (by omega) ?_)
      have hfin:FrX [Hc.next] [] Hb Hl:=((hfrd.trans ((fdg.trans fgi).x [] []) (by simp) (by simp)).trans k3 (fun b hb hlt=>absurd (hyc.1 b hb) (by omega)) (fun b hb hlt=>absurd (hyc.2.1 b hb) (by omega))).trans fl (fun b hb _=>hb) (by simp)
      have hy2:=k2.young
      exact ⟨(j+1,bv',o'),⟨hfin,bl',by rw [htk2];exact k2.frX BlockR.m WBlk.m (hCsub fl) (fun b hb h2=>by have:=hy2.1 b hb;have:=hClt.1 b h2;omega) (fun b hb h2=>by have:=hy2.2.1 b hb;have:=hClt.2 b h2;omega),h2⟩,by simp only;omega,rfl,rfl,rfl,rfl,rfl,rfl,rfl,rfl,rfl,rfl,trivial⟩
    rintro ⟨bv,o2⟩ Hd ⟨hfrd,hbxd,howd⟩
    simp only at hfrd hbxd howd ⊢
    have frHd:Fr H Hd:=frb.young hfrd (by simp;have:=frH.1;omega) (by simp)
    have frHcd:Fr Hc Hd:=fcb.young hfrd (by simp) (by simp)
    have hnd:=hfrd.1
    have hbxf:=hbx.fr frHcd
    have hels:=howd.elsY BlockR.m WBlk.m hClt
    obtain ⟨osd,hWd,hind,hndd⟩:=howd.wl BlockR.m WBlk.m
    obtain ⟨ad,nd,cd,rfl⟩:=howd.isSl
    obtain ⟨gv',He,o',k1,k2,k3,k4⟩:=how0.app1 (V:=V) (x:=Eli.graph locks g) (cx:=graphC g (.slice ad nd cd)) GraphR.m WGr.m frHcd (hBlt.mono (by omega)) ⟨_,rfl,hels.gr BlockR.m hCG⟩ ⟨_,rfl,hWd⟩ (hind.mono (by omega) (Nat.le_refl _)) hndd GraphR.one (by decide) (bytes:=64) (by rw [List.length_map,List.length_take];omega) (by rw [List.length_map,List.length_take];omega) (by omega) E_s_api_Graph E_s_api_Graph E_Graph te_Graph_size te_Graph_bytes
    have hyc:=how.young
    (repeat first|apply zReg|refine zFld rfl O_Form_Funs ?_|refine wB E_s_api_Graph ?_)
    refine zLd rfl (hbxd.ldN E_Graph te_Graph_agg (by rw [te_Graph_size];rfl)) ?_
    refine WL.op (op_buildSlice rfl E_s_api_Graph E_Graph (by rw [te_Graph_size];decide) elFillGr) ?_
    refine WL.op (k1 rfl rfl) ?_
    have hbxe:=hbxf.frX k3 (fun hb=>by have:=hyc.1 _ hb;omega)
    obtain ⟨h1v,h2v⟩:=k2.oneCell
    (repeat first|refine zFld rfl O_Form_Funs ?_)
    refine zStB hbxe rfl rfl E_s_api_Graph (by rw [← Array.length_toList,h2v];rfl) (by rw [h2v];simp [h1v]) (by rw [h2v];simp) (by rw [h2v];simp) fun Hg fg bg ng=>?_
    rw [h2v] at bg
    have bg':Bx Hg H4.next 26 [.slice a6 n6 c6,.slice a7 n7 c7,gv']:=bg
    (repeat first|apply zReg|refine wN ?_|refine zAdd rfl rfl (by omega) ?_)
    have hfin:FrX [H4.next] [] H8 Hg:=((hfr.trans (frHcd.x [] []) (by simp) (by simp)).trans k3 (fun b hb hlt=>absurd (hyc.1 b hb) (by omega)) (fun b hb hlt=>absurd (hyc.2.1 b hb) (by omega))).trans fg (fun b hb _=>hb) (by simp)
    have hy2:=k2.young
    exact ⟨(k+1,gv',o'),⟨hfin,bg',by rw [htk];exact k2.frX GraphR.m WGr.m (hBsub (Nat.le_refl _) fg) (fun b hb h2=>by have:=hy2.1 b hb;have:=hBlt.1 b h2;omega) (fun b hb h2=>by have:=hy2.2.1 b hb;have:=hBlt.2 b h2;omega),h⟩,by simp only;omega,rfl,rfl,rfl,rfl,rfl,rfl,trivial⟩
  · rintro ⟨gv,o⟩ Hp ⟨hfrp,hbxp,howp⟩
    simp only at hfrp hbxp howp ⊢
    have f0p:Fr H Hp:=f18.young hfrp (by simp;omega) (by simp)
    have b3p:=b38.frX hfrp (by simp;omega)
    have hels:=howp.elsY GraphR.m WGr.m hBlt
    obtain ⟨osp,hWp,hinp,hndp⟩:=howp.wl GraphR.m WGr.m
    obtain ⟨ag,ng,cg,rfl⟩:=howp.isSl
    have hFp:FmR B Hp (.slice a6 n6 c6) (.slice a7 n7 c7) (.slice ag ng cg) (Eli.form locks f):=⟨hm8.frX MemR.m (hBsub (Nat.le_refl _) hfrp),hl8.frX StrR.m (hBsub (Nat.le_refl _) hfrp),hels⟩
    obtain ⟨_,Hq,hcq,rfl,fq⟩:=mayForm_c (H:=Hp) hO hK (hgh.fr f0p) (hgn.fr f0p) hFp (hse.el locks)
    have b3q:=b3p.fr fq
    have hbxq:=hbxp.fr fq
    have hn8p:=hfrp.1
    have hnpq:=fq.1
    cases hm2:For.may mayG mi (Eli.form locks f)
    · rw [hm2] at hcq
      (repeat first|apply zSeq|apply zReg)
      refine zLd rfl (hbxp.ldN E_Form te_Form_agg (by rw [te_Form_size];rfl)) ?_
      refine WL.call rfl rfl is_flow_MayForm hcq ?_
      (repeat first|apply zSeq|apply zReg|refine wN ?_|refine zNot rfl ?_|refine zT rfl rfl ?_)
      refine WL.op (op_build rfl elBuildFm0) ?_
      refine zStB b3q rfl rfl E_Form (by rw [te_Form_size];rfl) rfl (by simp [Value.cells]) (by simp [Value.cells]) fun Hr fr br nr=>?_
      have br':Bx Hr H2.next 26 [.slice none 0 0,.slice none 0 0,.slice none 0 0]:=br
      (repeat first|refine wN ?_|refine wA ?_)
      exact WP.ret ⟨.inr rfl,_,resL_cell rfl (br'.ldN E_Form te_Form_agg (by rw [te_Form_size];rfl)) rfl,AllR.zero (by unfold Eli.err;rw [if_neg (by rw [hm1];decide),if_neg (by rw [hbad0];decide),if_pos hm2]) (by decide) ((f0p.trans fq).young fr (by simp;omega) (by simp))⟩
    · rw [hm2] at hcq
      (repeat first|apply zSeq|apply zReg)
      refine zLd rfl (hbxp.ldN E_Form te_Form_agg (by rw [te_Form_size];rfl)) ?_
      refine WL.call rfl rfl is_flow_MayForm hcq ?_
      (repeat first|apply zSeq|apply zReg|apply zSkp|refine wN ?_|refine zNot rfl ?_|refine zF rfl rfl ?_)
      refine zLd rfl (hbxq.ldN E_Form te_Form_agg (by rw [te_Form_size];rfl)) ?_
      refine zStB b3q rfl rfl E_Form (by rw [te_Form_size];rfl) rfl (by simp [Value.cells]) (by simp [Value.cells]) fun Hr fr br nr=>?_
      have br':Bx Hr H2.next 26 [.slice a6 n6 c6,.slice a7 n7 c7,.slice ag ng cg]:=br
      (repeat first|refine wN ?_|refine wA ?_)
      have he:Eli.err (For.may mayG mi) f locks=0:=by unfold Eli.err;rw [if_neg (by rw [hm1];decide),if_neg (by rw [hbad0];decide),if_neg (by rw [hm2];decide)]
      have ho:Eli.out (For.may mayG mi) f locks=Eli.form locks f:=by unfold Eli.out;rw [if_pos he]
      have fpr:FrX [H2.next] [] Hp Hr:=(fq.x [H2.next] []).trans fr (fun b hb _=>hb) (by simp)
      refine WP.ret ⟨.inr rfl,_,resL_cell rfl (br'.ldN E_Form te_Form_agg (by rw [te_Form_size];rfl)) rfl,_,_,_,by rw [he];rfl,by rw [ho];exact (hFp.frX (hBsub (by omega) fpr)).gr hBG,⟨osp,?_,hinp.mono (by have:=f18.1;omega) (by have:=fr.1;omega),hndp⟩,(f0p.trans fq).young fr (by simp;omega) (by simp)⟩
      rw [ho]
      exact hWp.frX WGr.m fpr (fun p hp=>⟨by have:=hinp p hp;simp;omega,by simp⟩)
end Go.Proofs.YtogomfblfpfjhaaGreatDoor.U
namespace Go.Ev
def BlkH:Rq (Block ⊕ (Block×Value)):=fun A H cs x=>match x with
 | .inl b=>BlockR A H cs b
 | .inr (b,cv)=>∃ vp vf vt,cs=[vp,cv,vf,vt]∧Value.oneCell' cv=true∧Els 2 PhiR A H vp b.phis∧IntsR A H vf b.frm∧IntsR A H vt b.to
theorem BlkH.m:MonoF BlkH:=by
 refine ⟨fun {A H H' cs a} k h=>?_,fun {A B H cs a} k h=>?_⟩
 ·cases a with
  | inl b=>exact BlockR.m.frX k h
  | inr p=>obtain ⟨vp,vf,vt,h1,h2,h3,h4,h5⟩:=h;exact ⟨vp,vf,vt,h1,h2,h3.frX PhiR.m k,h4.frX k,h5.frX k⟩
 ·cases a with
  | inl b=>exact BlockR.m.gr k h
  | inr p=>obtain ⟨vp,vf,vt,h1,h2,h3,h4,h5⟩:=h;exact ⟨vp,vf,vt,h1,h2,h3.gr PhiR.m k,h4.gr k,h5.gr k⟩
theorem BlkH.hole {A:Av}{H:AH}{cs:List Value}{b:Block}{cv:Value} (hc:Value.oneCell' cv=true):(BlkH A H cs (.inl b)∨∃ w,BlkH A H cs (.inr (b,w)))→BlkH A H (splice cs 1 [cv]) (.inr (b,cv)):=by
 rintro (⟨vp,vc,vf,vt,rfl,h1,h2,h3,h4⟩|⟨w,vp,vf,vt,rfl,_,h1,h3,h4⟩)
 ·exact ⟨vp,vf,vt,rfl,hc,h1,h3,h4⟩
 ·exact ⟨vp,vf,vt,rfl,hc,h1,h3,h4⟩
section
variable {α:Type}{e:TypeId}{sz:Nat}{R:Rq α}{A B:Av}{H H':AH}{n0:Nat}{v:Value}{xs:List α}{o oc oc':Option (Nat×Nat)}
theorem OwR.upd (h:OwR e sz R B H n0 v xs o) {i:Nat} (hi:i < xs.length) {x':α} (hx:∀ cs,R (B.and (.of o)) H cs xs[i]→R (B.and (.of o)) H cs x'):OwR e sz R B H n0 v (xs.set i x') o:=by
 obtain ⟨cs,h1,h2⟩:=h
 refine ⟨cs,by rw [List.length_set];exact h1,fun j hj=>?_⟩
 have hj':j < xs.length:=by rwa [List.length_set] at hj
 rw [List.getElem_set]
 by_cases e:i=j
 ·subst e
  rw [if_pos rfl]
  exact hx _ (h2 i hj')
 ·rw [if_neg e]
  exact h2 j hj'
theorem OwR.at (h:OwR e sz R B H n0 v xs o) {V:Env}{t:TypeId}{s b:Nat}{z:Value}{te:TI} (ht:V.E t=some ⟨.slice e,s,b,z⟩) (he:V.E e=some te) (hz:te.size=sz) {kd:IntKind}{i:Nat} (hi:i < xs.length) :
  ∃ b off cs,aIndex V.E t v (.int kd i)=some (.pointer (some ⟨b,off,none⟩))∧Rd H b off sz cs∧R (B.and (.of o)) H cs xs[i]:=by
 obtain ⟨cs,h1,h2⟩:=h
 obtain ⟨b,off,k1,k2⟩:=h1.sl.at ht he hz (kd:=kd) (i:=(i:Int)) (by omega) (by omega)
 exact ⟨b,off,_,k1,k2,h2 i hi⟩
theorem OwR.isSl (h:OwR e sz R B H n0 v xs o):∃ a n c,v=.slice a n c:=by
 obtain ⟨cs,⟨_,_,⟨rfl,_⟩|⟨b,g,_,_,_,_,_,rfl,_⟩⟩,_⟩:=h <;> exact ⟨_,_,_,rfl⟩
theorem OwR.other (hm:MonoF R) (h:OwR e sz R (B.and (.of oc)) H n0 v xs o) (k3:FrX (obs oc) (ogs oc) H H') (k4:(Av.of oc).Gr (.of oc') H.next) (hb:∀ b∈obs o,b∉obs oc) (hg:∀ g∈ogs o,g∉ogs oc):OwR e sz R (B.and (.of oc')) H' n0 v xs o:=by
 obtain ⟨cs,h1,h2⟩:=h
 refine ⟨cs,h1.frX k3 hb hg,fun i hi=>?_⟩
 have r1:R (((B.and (.of oc)).and (.of o)).and (.of oc')) H _ _:=hm.gr (B:=((B.and (.of oc)).and (.of o)).and (.of oc')) ⟨fun b hb=>(List.mem_append.1 hb).elim .inl fun hb=>(k4.1 b hb).imp (fun h=>List.mem_append_left _ (List.mem_append_right _ h)) id,fun b hb=>(List.mem_append.1 hb).elim .inl fun hb=>(k4.2 b hb).imp (fun h=>List.mem_append_left _ (List.mem_append_right _ h)) id⟩ (h2 i hi)
 have r2:=hm.frX (k3.sub (fun b hb=>List.mem_append_left _ (List.mem_append_left _ (List.mem_append_right _ hb))) (fun b hb=>List.mem_append_left _ (List.mem_append_left _ (List.mem_append_right _ hb)))) r1
 refine hm.gr (B:=(B.and (.of oc')).and (.of o)) ⟨fun b hb=>.inl ?_,fun b hb=>.inl ?_⟩ r2
 ·rcases List.mem_append.1 hb with hb|hb
  ·rcases List.mem_append.1 hb with hb|hb
   ·exact List.mem_append_left _ (List.mem_append_left _ (List.mem_append_left _ hb))
   ·exact List.mem_append_right _ hb
  ·exact List.mem_append_left _ (List.mem_append_right _ hb)
 ·rcases List.mem_append.1 hb with hb|hb
  ·rcases List.mem_append.1 hb with hb|hb
   ·exact List.mem_append_left _ (List.mem_append_left _ (List.mem_append_left _ hb))
   ·exact List.mem_append_right _ hb
  ·exact List.mem_append_left _ (List.mem_append_right _ hb)
end
end Go.Ev
namespace Go.Eli
open Go.Ev
def part (locks:List Int) (l:List Block) (j:Nat):List (Block ⊕ (Block×Value)):=(l.take j).map (fun b=>.inl (block locks b))++(l.drop j).map .inl
theorem part_len (locks:List Int) (l:List Block) (j:Nat):(part locks l j).length=l.length:=by
 simp [part];omega
theorem part_at {locks:List Int}{l:List Block}{j:Nat} (h:j < l.length):(part locks l j)[j]'(by rw [part_len];exact h)=.inl l[j]:=by
 unfold part
 have hl:((l.take j).map (fun b=>(.inl (block locks b):Block ⊕ (Block×Value)))).length=j:=by simp;omega
 rw [List.getElem_append_right (by omega),List.getElem_map,List.getElem_drop]
 congr 2;omega
theorem part_get (locks:List Int) (l:List Block) (m i:Nat) (hi:i < l.length):(part locks l m)[i]?=some (if i < m then .inl (block locks l[i]) else .inl l[i]):=by
 unfold part
 have hlm:((l.take m).map (fun b=>(.inl (block locks b):Block ⊕ (Block×Value)))).length=min m l.length:=by simp
 rw [List.getElem?_append,hlm]
 by_cases h3:i < m
 ·rw [if_pos (by omega),if_pos h3,List.getElem?_map,List.getElem?_take,if_pos h3,List.getElem?_eq_getElem hi];rfl
 ·rw [if_neg (by omega),if_neg h3,List.getElem?_map,List.getElem?_drop]
  by_cases h4:m≤l.length
  ·rw [show m+(i - min m l.length)=i by omega,List.getElem?_eq_getElem hi];rfl
  ·omega
theorem part_set {locks:List Int}{l:List Block}{j:Nat} (h:j < l.length) {y:Block ⊕ (Block×Value)}:((part locks l j).set j y).set j (.inl (block locks l[j]))=part locks l (j+1):=by
 rw [List.set_set]
 apply List.ext_getElem?
 intro i
 rw [List.getElem?_set]
 by_cases hi:i < l.length
 ·rw [part_get locks l (j+1) i hi]
  by_cases e:j=i
  ·subst e
   rw [if_pos rfl,if_pos (by rw [part_len];exact h),if_pos (by omega)]
  ·rw [if_neg e,part_get locks l j i hi]
   by_cases h3:i < j
   ·rw [if_pos h3,if_pos (by omega)]
   ·rw [if_neg h3,if_neg (by omega)]
 ·rw [if_neg (by omega),List.getElem?_eq_none (by rw [part_len];omega),List.getElem?_eq_none (by rw [part_len];omega)]
theorem part_zero (locks:List Int) (l:List Block):part locks l 0=l.map .inl:=by simp [part]
theorem part_all (locks:List Int) (l:List Block):part locks l l.length=l.map (fun b=>.inl (block locks b)):=by simp [part]
end Go.Eli
namespace Go.Ev
theorem Av.Gr.young {A B:Av}{n:Nat} (hb:∀ b∈B.bs,n≤b) (hg:∀ b∈B.gs,n≤b):A.Gr B n:=⟨fun b h=>.inr (hb b h),fun b h=>.inr (hg b h)⟩
end Go.Ev
namespace Go.Proofs.YtogomfblfpfjhaaGreatDoor.U
open Go Go.Ev
attribute [local irreducible] WL WP WH W
theorem elFillBlk0:afill (fun i=>some (i * te_Block.size,te_Block.size)) (azeros te_Block.zv.cells.toList 0) []=some []:=by simp [afill,azeros]
theorem may_some {f:For.Form} (h:For.may mayG mi f=true):∀ g∈f.funs,0 < g.blocks.length:=fun g hg=>by
 unfold For.may at h
 rw [Bool.and_eq_true] at h
 have h2:=List.all_eq_true.1 h.2 g hg
 unfold For.funOk at h2
 rw [Bool.and_eq_true] at h2
 have h3:=h2.1
 unfold Flo.may at h3
 rw [Bool.and_eq_true,Bool.not_eq_true'] at h3
 have h4:=h3.1
 unfold Flo.odd at h4
 simp only [Bool.or_eq_false_iff,decide_eq_false_iff_not] at h4
 omega
attribute [local irreducible] V
variable {O:Orc}{H:AH}
def RAllR (H:AH) (f:For.Form) (locks:List Int) (u:Value) (H':AH):Prop:=
 ∃ vm vl vf,u=.tuple #[.agg #[vm,vl,vf],.int .i64 (Eli.err (For.may mayG mi) f locks)]∧FmR .no H' vm vl vf (Eli.out (For.may mayG mi) f locks)∧Fr H H'
theorem RAllR.zero {f:For.Form}{locks:List Int}{H':AH}{e:Int} (he:Eli.err (For.may mayG mi) f locks=e) (h0:e≠0) (k:Fr H H'):RAllR H f locks (.tuple #[.agg #[.slice none 0 0,.slice none 0 0,.slice none 0 0],.int .i64 e]) H':=by
 have ho:Eli.out (For.may mayG mi) f locks=Eli.zeroF:=by unfold Eli.out;rw [he,if_neg h0]
 exact ⟨_,_,_,by rw [he],by rw [ho];exact ⟨.nil,.nil,.nil⟩,k⟩
set_option maxHeartbeats 16000000 in
theorem rAll_c (hO:NoO O) {A A2:Av}{f:For.Form}{vm vl vf:Value} (hf:FmR A H vm vl vf f) (hse:SmallEl f) {locks:List Int}{vk:Value} (hvk:IntsR A2 H vk locks) (hLk:locks.length≤1000000) :
    ∃ u H',Lc V O F_ref25_All [.agg #[vm,vl,vf],vk] H u H'∧RAllR H f locks u H':=by
  refine Lc.ref25_All (R:=fun u H'=>RAllR H f locks u H') (hO _ _ _ (by decide)) (Nat.le_of_ble_eq_true rfl) (by kernel_rfl) ?_
  unfold P_ref25_All
  have hs:=hse.fm
  have hsn:=hs.funs
  have hsl:=hs.locks
  obtain ⟨am,nm,cm,rfl⟩:∃ a n c,vm=.slice a n c:=let ⟨_,h,_⟩:=hf.m;h.isSl
  obtain ⟨al,nl,cl,rfl⟩:∃ a n c,vl=.slice a n c:=let ⟨_,h,_⟩:=hf.l;h.isSl
  obtain ⟨af,nf,cf,rfl⟩:∃ a n c,vf=.slice a n c:=let ⟨_,h,_⟩:=hf.f;h.isSl
  obtain ⟨ak,nk,ck,rfl⟩:=hvk.isSl
  have hlen1:=fun Hz=>hf.f.len (V:=V) (H2:=Hz) E_s_api_Graph
  have hlen2:=fun Hz=>hf.l.len (V:=V) (H2:=Hz) E_s_string
  have hlen3:=fun Hz=>hvk.len (V:=V) (H2:=Hz) E_s_int
  apply zSeq
  apply zReg
  refine zBox rfl (fun _=>rfl) fun H1 f1 b1 n1=>?_
  have b1':Bx H1 H.next 26 [.slice am nm cm,.slice al nl cl,.slice af nf cf]:=b1
  refine zAlc E_Form elFm0 fun H2 f2 b2 n2=>?_
  have f12:=f1.trans f2
  have b12:=b1'.fr f2
  obtain ⟨_,H3,hc3,rfl,f3⟩:=rMayForm_c (H:=H2) hO (hf.fr f12) hs
  have f13:=f12.trans f3
  have b13:=b12.fr f3
  have b23:=b2.fr f3
  clear b1 b1'
  cases hm1:For.may mayG mi f
  · rw [hm1] at hc3
    (repeat first|apply zSeq|apply zReg|refine wN ?_|refine wA ?_)
    refine zLd rfl (b12.ldN E_Form te_Form_agg (by rw [te_Form_size];rfl)) ?_
    refine WL.call rfl rfl is_ref11_MayForm hc3 ?_
    (repeat first|apply zSeq|apply zReg|refine wN ?_|refine zNot rfl ?_|refine zT rfl rfl ?_)
    refine WL.op (op_build rfl elBuildFm0) ?_
    refine zStB b23 rfl rfl E_Form (by rw [te_Form_size];rfl) rfl (by simp [Value.cells]) (by simp [Value.cells]) fun H5 f5 b5 n5=>?_
    have b5':Bx H5 H1.next 26 [.slice none 0 0,.slice none 0 0,.slice none 0 0]:=b5
    (repeat first|refine wN ?_|refine wA ?_)
    exact WP.ret ⟨.inr rfl,_,resL_cell rfl (b5'.ldN E_Form te_Form_agg (by rw [te_Form_size];rfl)) rfl,RAllR.zero (by unfold Eli.err;rw [if_pos hm1]) (by decide) (f13.young f5 (by simp;omega) (by simp))⟩
  rw [hm1] at hc3
  (repeat first|apply zSeq|apply zReg|refine wN ?_|refine wA ?_)
  refine zLd rfl (b12.ldN E_Form te_Form_agg (by rw [te_Form_size];rfl)) ?_
  refine WL.call rfl rfl is_ref11_MayForm hc3 ?_
  (repeat first|apply zSkp|refine wN ?_|refine zNot rfl ?_|refine zF rfl rfl ?_)
  have hbadT:locks.any (Eli.bad f)=true→Eli.err (For.may mayG mi) f locks=1:=fun h=>by unfold Eli.err;rw [if_neg (by rw [hm1];decide),if_pos h]
  refine WP.seqS (σ:=Unit) (fun _=>[(1,.slice ak nk ck),(2,.pointer (some ⟨H.next,0,none⟩)),(4,.pointer (some ⟨H1.next,0,none⟩))]) (fun _ Hc=>Hc=H3∧locks.any (Eli.bad f)=false) ?_ ?_
  · (repeat first|apply zSeq|apply zReg|apply zBlk|refine wN ?_|refine wA ?_)
    refine WP.loopH (σ:=Nat) (fun i=>[(1,.slice ak nk ck),(2,.pointer (some ⟨H.next,0,none⟩)),(4,.pointer (some ⟨H1.next,0,none⟩)),(6,.int .i64 i)]) (fun i Hc=>Hc=H3∧i≤locks.length∧∀ j (h:j < locks.length),j < i→Eli.bad f locks[j]=false) (fun i=>locks.length - i) 0 ⟨rfl,by simp,fun j _ h=>absurd h (by omega)⟩ ⟨rfl,rfl,rfl,rfl,trivial⟩ ?_
    rintro i Hc ⟨e,hi,hn⟩
    subst e
    rcases Nat.lt_or_ge i locks.length with h|h
    case inr =>
      have g1:decide ((i:Int) < locks.length)=false:=decide_eq_false (by omega)
      (repeat first|apply zSeq|apply zReg|refine zExt ?_|refine wN ?_|refine wG ?_|refine wL ?_|refine wE ?_|refine zLen rfl (hlen3 _) ?_)
      refine ⟨(),⟨rfl,?_⟩,rfl,rfl,rfl,trivial⟩
      rw [List.any_eq_false]
      intro x hx
      obtain ⟨j,hj,rfl⟩:=List.mem_iff_getElem.1 hx
      rw [hn j hj (by omega)];decide
    have g1:decide ((i:Int) < locks.length)=true:=decide_eq_true (by omega)
    obtain ⟨b,off,ha1,hl1⟩:=IntsR.at (hvk.fr f13) E_s_int E_int (kd:=.i64) h
    have hbad:Eli.bad f locks[i]=true→Eli.err (For.may mayG mi) f locks=1:=fun hb=>hbadT (List.any_eq_true.2 ⟨_,List.getElem_mem h,hb⟩)
    cases c1:decide (locks[i] < 0)
    · cases c2:decide (locks[i]≥(f.locks.length:Int))
      · (repeat first|apply zSeq|apply zReg|apply zBlk|apply zSkp|refine wN ?_|refine wG ?_|refine wO ?_|refine wM ?_|refine wR ?_|refine wL ?_|refine zGeq rfl rfl ?_|refine zAdd rfl rfl (by omega) ?_|refine wT ?_|refine wE ?_|refine zFld rfl O_Form_Locks ?_|refine wB E_s_string ?_|refine wI ?_|refine zLd rfl ‹_› ?_|refine zLen rfl (hlen2 _) ?_|refine zLen rfl (hlen3 _) ?_)
        refine ⟨i+1,⟨rfl,h,fun j hj hji=>?_⟩,by omega,rfl,rfl,rfl,rfl,trivial⟩
        by_cases e:j=i
        · subst e
          unfold Eli.bad;rw [c1,c2];rfl
        · exact hn j hj (by omega)
      · (repeat first|apply zSeq|apply zReg|apply zBlk|apply zSkp|refine wN ?_|refine wG ?_|refine wO ?_|refine wM ?_|refine wR ?_|refine wL ?_|refine zGeq rfl rfl ?_|refine wT ?_|refine zFld rfl O_Form_Locks ?_|refine wB E_s_string ?_|refine wI ?_|refine zLd rfl ‹_› ?_|refine zLen rfl (hlen2 _) ?_|refine zLen rfl (hlen3 _) ?_)
        refine WL.op (op_build rfl elBuildFm0) ?_
        refine zStB b23 rfl rfl E_Form (by rw [te_Form_size];rfl) rfl (by simp [Value.cells]) (by simp [Value.cells]) fun H5 f5 b5 n5=>?_
        have b5':Bx H5 H1.next 26 [.slice none 0 0,.slice none 0 0,.slice none 0 0]:=b5
        (repeat first|refine wN ?_|refine wA ?_)
        exact WP.ret ⟨.inr rfl,_,resL_cell rfl (b5'.ldN E_Form te_Form_agg (by rw [te_Form_size];rfl)) rfl,RAllR.zero (hbad (by unfold Eli.bad;rw [c1,c2];rfl)) (by decide) (f13.young f5 (by simp;omega) (by simp))⟩
    · (repeat first|apply zSeq|apply zReg|apply zBlk|apply zSkp|refine wN ?_|refine wG ?_|refine wF ?_|refine wP ?_|refine wL ?_|refine zT rfl rfl ?_|refine wT ?_|refine wI ?_|refine zLd rfl ‹_› ?_|refine zLen rfl (hlen3 _) ?_)
      refine WL.op (op_build rfl elBuildFm0) ?_
      refine zStB b23 rfl rfl E_Form (by rw [te_Form_size];rfl) rfl (by simp [Value.cells]) (by simp [Value.cells]) fun H5 f5 b5 n5=>?_
      have b5':Bx H5 H1.next 26 [.slice none 0 0,.slice none 0 0,.slice none 0 0]:=b5
      (repeat first|refine wN ?_|refine wA ?_)
      exact WP.ret ⟨.inr rfl,_,resL_cell rfl (b5'.ldN E_Form te_Form_agg (by rw [te_Form_size];rfl)) rfl,RAllR.zero (hbad (by unfold Eli.bad;rw [c1];rfl)) (by decide) (f13.young f5 (by simp;omega) (by simp))⟩
  rintro _ Hc0 ⟨e0,hbad0⟩
  have e0':=e0.symm
  subst e0'
  clear e0
  have hsome:=may_some hm1
  (repeat first|apply zSeq|apply zReg)
  refine zLd rfl (b13.ldN E_Form te_Form_agg (by rw [te_Form_size];rfl)) ?_
  refine zAlc E_Form elFm0 fun H4 f4 b4 n4=>?_
  refine zStB b4 rfl rfl E_Form (by rw [te_Form_size];rfl) rfl (by simp [Value.cells]) (by simp [Value.cells]) fun H5 f5 b5 n5=>?_
  have b5':Bx H5 H3.next 26 [.slice am nm cm,.slice al nl cl,.slice af nf cf]:=b5
  (repeat first|apply zSeq|apply zReg|refine wN ?_|refine zFld rfl O_Form_Funs ?_)
  refine zStB b5' rfl rfl E_s_api_Graph rfl rfl (by simp [Value.cells]) (by simp [Value.cells]) fun H6 f6 b6 n6=>?_
  have b6':Bx H6 H3.next 26 [.slice am nm cm,.slice al nl cl,.slice none 0 0]:=b6
  have f36:Fr H3 H6:=(f4.young f5 (by simp) (by simp)).young f6 (by simp) (by simp)
  have f06:=f13.trans f36
  have b16:=b13.fr f36
  have b26:=b23.fr f36
  have hn6:H3.next < H6.next:=b6'.1
  have hn03:=f13.1
  have hn12:H.next < H1.next:=by omega
  have hn13:H1.next < H3.next:=b23.1
  obtain ⟨G3,hG3⟩:∃ G,G=(Av.box H3.next).and (.box H1.next):=⟨_,rfl⟩
  have hG3b:∀ b∈G3.bs,b=H3.next∨b=H1.next:=fun b hb=>by rw [hG3] at hb;simpa [Av.box,Av.and] using hb
  have hG3g:∀ b∈G3.gs,False:=fun b hb=>by rw [hG3] at hb;simp [Av.box,Av.and] at hb
  have hG3l:G3.Lt H6.next:=by rw [hG3];exact (Av.Lt.box (by omega)).and (.box (by omega))
  have hG3s:∀ {Hx Hy:AH}{c:Nat},(c=H3.next∨c=H1.next)→FrX [c] [] Hx Hy→FrX G3.bs G3.gs Hx Hy:=fun hc h=>h.sub (fun b hb=>by rw [List.mem_singleton] at hb;subst hb;rw [hG3];simpa [Av.box,Av.and] using hc) (by simp)
  clear b4 b5 b5' b6 f4 f5 f6 b12 b2
  (repeat first|refine wN ?_)
  refine WP.seqS (σ:=Value×Option (Nat×Nat)) (fun x=>[(4,.pointer (some ⟨H1.next,0,none⟩)),(7,.pointer (some ⟨H3.next,0,none⟩))]) (fun x Hc=>FrX [H3.next] [] H6 Hc∧Bx Hc H3.next 26 [.slice am nm cm,.slice al nl cl,x.1]∧OwR 35 5 GraphR G3 Hc H6.next x.1 (f.funs.map (Eli.graph locks)) x.2) ?_ ?_
  · (repeat first|apply zSeq|apply zReg|apply zBlk|refine wN ?_|refine wA ?_)
    refine WP.loopH (σ:=Nat×Value×Option (Nat×Nat)) (fun x=>[(1,.slice ak nk ck),(2,.pointer (some ⟨H.next,0,none⟩)),(4,.pointer (some ⟨H1.next,0,none⟩)),(7,.pointer (some ⟨H3.next,0,none⟩)),(8,.int .i64 x.1)]) (fun x Hc=>FrX [H3.next] [] H6 Hc∧Bx Hc H3.next 26 [.slice am nm cm,.slice al nl cl,x.2.1]∧OwR 35 5 GraphR G3 Hc H6.next x.2.1 ((f.funs.take x.1).map (Eli.graph locks)) x.2.2∧x.1≤f.funs.length) (fun x=>f.funs.length - x.1) (0,.slice none 0 0,none) ⟨.refl _ _ _,b6',.nil,Nat.zero_le _⟩ ⟨rfl,rfl,rfl,rfl,rfl,trivial⟩ ?_
    rintro ⟨k,gv,o⟩ Hc ⟨hfr,hbx,how,hk⟩
    simp only at hfr hbx how hk ⊢
    have b1c:=b16.frX hfr (by simp;omega)
    rcases Nat.lt_or_ge k f.funs.length with h|h
    case inr =>
      have g1:decide ((k:Int) < f.funs.length)=false:=decide_eq_false (by omega)
      rw [List.take_of_length_le h] at how
      (repeat first|apply zSeq|apply zReg|refine zExt ?_|refine wN ?_|refine wG ?_|refine wL ?_|refine wE ?_|refine zFld rfl O_Form_Funs ?_|refine wB E_s_api_Graph ?_|refine zLen rfl (hlen1 _) ?_)
      exact ⟨(gv,o),⟨hfr,hbx,how⟩,rfl,rfl,trivial⟩
    have g1:decide ((k:Int) < f.funs.length)=true:=decide_eq_true (by omega)
    have frH:Fr H Hc:=f06.young hfr (by simp;omega) (by simp)
    have hyo:=how.young
    have hn6c:=hfr.1
    have hn06:=f06.1
    obtain ⟨Bm,hBm⟩:∃ B,B=(G3.and (.of o)).and (.box Hc.next):=⟨_,rfl⟩
    have hBy:A.Gr Bm H.next:=by
      rw [hBm]
      refine .young (fun b hb=>?_) (fun b hb=>?_)
      · rcases List.mem_append.1 hb with hb|hb
        · rcases List.mem_append.1 hb with hb|hb
          · rcases hG3b b hb with e|e <;> omega
          · have:=hyo.1 b hb;omega
        · simp [Av.box] at hb;omega
      · rcases List.mem_append.1 hb with hb|hb
        · rcases List.mem_append.1 hb with hb|hb
          · exact (hG3g b hb).elim
          · have:=hyo.2.1 b hb;omega
        · simp [Av.box] at hb
    have hBlt:Bm.Lt (Hc.next+1):=by
      rw [hBm]
      exact (((hG3l.mono (by omega)).and (how.lt.mono (by omega))).and (.box (by omega)))
    have hBfb:Hc.next∈Bm.bs:=by rw [hBm];exact List.mem_append_right _ (by simp [Av.box])
    have hBl:∀ {n:Nat},Bm.Gr (G3.and (.of o)) n:=by rw [hBm];exact .left
    obtain ⟨bb,off,cs,ha1,hrd,vb,rfl,hbl⟩:=((hf.f.gr GraphR.m hBy).fr GraphR.m frH).at E_s_api_Graph E_Graph te_Graph_size (kd:=.i64) h
    have hl1:=hrd.loadN (V:=V) E_Graph te_Graph_agg te_Graph_size
    have hsg:=hs.gs f.funs[k] (List.getElem_mem _)
    have hsb:=hse.b f.funs[k] (List.getElem_mem _)
    have hpos:=hsome f.funs[k] (List.getElem_mem _)
    have htk:(f.funs.take (k+1)).map (Eli.graph locks)=(f.funs.take k).map (Eli.graph locks)++[Eli.graph locks f.funs[k]]:=by rw [List.take_succ_eq_append_getElem h,List.map_append];rfl
    generalize hg0:f.funs[k]=g at *
    have hngb:=hsg.nb
    obtain ⟨ab,nb,cb,rfl⟩:∃ a n c,vb=.slice a n c:=let ⟨_,h,_⟩:=hbl;h.isSl
    (repeat first|apply zSeq|apply zReg|apply zBlk|apply zSkp|refine wN ?_|refine wG ?_|refine wL ?_|refine wT ?_|refine zFld rfl O_Form_Funs ?_|refine wB E_s_api_Graph ?_|refine wI ?_|refine zLd rfl ‹_› ?_|refine zLen rfl (hlen1 _) ?_)
    refine zAlc E_Graph elGr0 fun H7 f7 b7 n7=>?_
    refine zStB b7 rfl rfl E_Graph (by rw [te_Graph_size];rfl) rfl (by simp [Value.cells]) (by simp [Value.cells]) fun H8 f8 b8 n8=>?_
    have b8':Bx H8 Hc.next 35 (graphC g (.slice ab nb cb)):=b8
    have fc8:Fr Hc H8:=f7.young f8 (by simp) (by simp)
    clear b7 b8 f7 f8
    have hn8:Hc.next < H8.next:=b8'.1
    obtain ⟨csb,hsr,hRb⟩:=hbl
    have f9:=Fr.alloc H8 (.row 39 [] .exact 0 0)
    have w9:OwE (H8.alloc (.row 39 [] .exact 0 0)) H8.next 39 4 (.slice (some ⟨H8.next,0,none⟩) 0 0) 0 [] (some (H8.next,H8.next)):=.new (Nat.le_refl _)
    have hone:=all_chunks hsr.1 (by decide) fun i hi=>(BlockR.one (hRb i hi)).1
    obtain ⟨v9,Ha,oa,k1,k2,k3,k4,k5⟩:=w9.appSl (V:=V) (((hsr.fr fc8).fr f9).sl (by omega)) (by decide) (bytes:=96) (by omega) (by omega) f9.1 hone E_s_api_Block E_s_api_Block E_Block te_Block_size te_Block_bytes
    rw [Nat.zero_add,List.nil_append] at k2
    have f8a:Fr H8 Ha:=f9.young k3 (by simp [obs]) (by simp [ogs])
    have how9:OwR 39 4 BlkH Bm Ha H8.next v9 (Eli.part locks g.blocks 0) oa:=by
      rw [Eli.part_zero]
      refine ⟨csb,by rw [List.length_map];exact k2.ow hpos,fun i hi=>?_⟩
      rw [List.length_map] at hi
      rw [List.getElem_map]
      have hya:=(k2.ow hpos).young
      exact BlockR.m.fr (BlockR.m.gr (B:=Bm.and (.of oa)) ⟨fun b hb=>(List.mem_append.1 hb).imp id (fun hb=>hya.1 b hb),fun b hb=>(List.mem_append.1 hb).imp id (fun hb=>hya.2.1 b hb)⟩ (BlockR.m.fr (hRb i hi) fc8)) f8a
    obtain ⟨a9,n9',c9,rfl⟩:=how9.isSl
    have b8a:=b8'.fr f8a
    have hlb:Els 4 BlockR Bm Hc (.slice ab nb cb) g.blocks:=⟨csb,hsr,hRb⟩
    (repeat first|apply zSeq|apply zReg|refine wN ?_)
    refine WL.op (op_buildSlice rfl E_s_api_Block E_Block (by rw [te_Block_size];decide) elFillBlk0) ?_
    have b89:=b8'.fr f9
    (repeat first|refine zFld rfl O_Graph_Blocks ?_|refine wB E_s_api_Block ?_)
    refine WL.op (k1 rfl rfl) ?_
    (repeat first|refine zFld rfl O_Graph_Blocks ?_)
    refine zStB b8a rfl rfl E_s_api_Block rfl rfl (by simp [Value.cells]) (by simp [Value.cells,graphC]) fun Hb fb bb2 nb2=>?_
    have bbb:Bx Hb Hc.next 35 (graphC g (.slice a9 n9' c9)):=bb2
    have hya:=how9.young
    have hnb0:∀ b∈obs oa,b∉Bm.bs:=fun b hb hb2=>by have:=hya.1 b hb;have:=hBlt.1 b hb2;omega
    have hng0:∀ b∈ogs oa,b∉Bm.gs:=fun b hb hb2=>by have:=hya.2.1 b hb;have:=hBlt.2 b hb2;omega
    have howb:=how9.frX BlkH.m (fb.sub (fun b hb=>by simp at hb;subst hb;exact hBfb) (by simp)) hnb0 hng0
    have fcb:Fr Hc Hb:=(fc8.trans f8a).young fb (by simp) (by simp)
    have hnb8:H8.next≤Hb.next:=by have:=f8a.1;have:=fb.1;omega
    have hfbo:Hc.next∉obs oa:=fun hb=>by have:=hya.1 _ hb;omega
    clear w9 k1 k2 k3 k4 k5 b8' b8a b89 bb2 f9 how9 hone hsr hRb fc8 f8a fb
    (repeat first|refine wN ?_)
    refine WP.seqS (σ:=Unit) (fun _=>[(1,.slice ak nk ck),(2,.pointer (some ⟨H.next,0,none⟩)),(4,.pointer (some ⟨H1.next,0,none⟩)),(7,.pointer (some ⟨H3.next,0,none⟩)),(8,.int .i64 k),(9,.pointer (some ⟨Hc.next,0,none⟩))]) (fun _ Hd=>FrX (obs oa) (ogs oa) Hb Hd∧OwR 39 4 BlkH Bm Hd H8.next (.slice a9 n9' c9) (Eli.part locks g.blocks g.blocks.length) oa) ?_ ?_
    · (repeat first|apply zSeq|apply zReg|apply zBlk|refine wN ?_|refine wA ?_)
      refine WP.loopH (σ:=Nat) (fun j=>[(1,.slice ak nk ck),(2,.pointer (some ⟨H.next,0,none⟩)),(4,.pointer (some ⟨H1.next,0,none⟩)),(7,.pointer (some ⟨H3.next,0,none⟩)),(8,.int .i64 k),(9,.pointer (some ⟨Hc.next,0,none⟩)),(10,.int .i64 j)]) (fun j Hd=>FrX (obs oa) (ogs oa) Hb Hd∧OwR 39 4 BlkH Bm Hd H8.next (.slice a9 n9' c9) (Eli.part locks g.blocks j) oa∧j≤g.blocks.length) (fun j=>g.blocks.length - j) 0 ⟨.refl _ _ _,howb,Nat.zero_le _⟩ ⟨rfl,rfl,rfl,rfl,rfl,rfl,rfl,trivial⟩ ?_
      rintro j Hd ⟨hfrd,howd,hj⟩
      have bbd:=bbb.frX hfrd hfbo
      have hlen4:∀ Hz,aLen V.E Hz 33 (.slice a9 n9' c9)=some (.int .i64 g.blocks.length):=fun Hz=>by
        have:=(howd.els BlkH.m hnb0 hng0).len (V:=V) (H2:=Hz) E_s_api_Block
        rwa [Eli.part_len] at this
      rcases Nat.lt_or_ge j g.blocks.length with h2|h2
      case inr =>
        have g2:decide ((j:Int) < g.blocks.length)=false:=decide_eq_false (by omega)
        have e:j=g.blocks.length:=by omega
        subst e
        (repeat first|apply zSeq|apply zReg|refine zExt ?_|refine wN ?_|refine wG ?_|refine wL ?_|refine wE ?_|refine zFld rfl O_Graph_Blocks ?_|refine wB E_s_api_Block ?_|refine zLen rfl (hlen4 _) ?_)
        exact ⟨(),⟨hfrd,howd⟩,rfl,rfl,rfl,rfl,rfl,rfl,trivial⟩
      have g2:decide ((j:Int) < g.blocks.length)=true:=decide_eq_true (by omega)
      have hlj:j < (Eli.part locks g.blocks j).length:=by rw [Eli.part_len];exact h2
      obtain ⟨b3,off3,cs3,ha3,hrd3,hR3⟩:=howd.at E_s_api_Block E_Block te_Block_size (kd:=.i64) hlj
      rw [Eli.part_at h2] at hR3
      obtain ⟨vp,vc,vf,vt,rfl,hp3,hc3',hf3,ht3⟩:=hR3
      have hl3:=(hrd3.at1 (i:=1) (c:=vc) rfl).load1 (V:=V) E_s_api_Ins rfl
      obtain ⟨bw,ow,He,w1,w2,w3,w4,w5⟩:=howd.set (V:=V) (i:=j) (x':=.inr (g.blocks[j],.slice none 0 0)) (off:=1) (vs:=[.slice none 0 0]) BlkH.m hlj (by simp) (by simp) (fun {A H cs} hR=>by
        rw [Eli.part_at h2] at hR
        exact BlkH.hole rfl (.inl hR)) E_s_api_Block E_Block te_Block_size (kd:=.i64)
      cases ha3.symm.trans w1
      have bbe:=bbd.frX w4 hfbo
      have hsb1:=hsb g.blocks[j] (List.getElem_mem _)
      obtain ⟨a4,n4',c4,rfl⟩:∃ a n c,vc=.slice a n c:=let ⟨_,h,_⟩:=hc3';h.isSl
      (repeat first|apply zSeq|apply zReg|apply zBlk|apply zSkp|refine wN ?_|refine wG ?_|refine wL ?_|refine wT ?_|refine zFld rfl O_Block_Code ?_|refine zFld rfl O_Graph_Blocks ?_|refine wB E_s_api_Block ?_|refine wI ?_|refine zLd rfl ‹_› ?_|refine zLen rfl (hlen4 _) ?_)
      refine WL.op (op_store rfl rfl E_s_api_Ins rfl rfl w2) ?_
      have hlen1:=fun Hz=>hc3'.len (V:=V) (H2:=Hz) E_s_api_Ins
      have hoa:∀ {Hx Hy:AH},FrX (obs oa) (ogs oa) Hx Hy→FrX (Bm.and (.of oa)).bs (Bm.and (.of oa)).gs Hx Hy:=fun h=>h.sub (fun b hb=>List.mem_append_right _ hb) (fun b hb=>List.mem_append_right _ hb)
      have hcE:Els 6 InsR (Bm.and (.of oa)) He (.slice a4 n4' c4) g.blocks[j].code:=hc3'.frX InsR.m (hoa w4)
      have hps:=fun y=>Eli.part_set (locks:=locks) h2 (y:=y)
      have hnbd:=hfrd.1
      have hyd:=howd.young
      have w3':OwR 39 4 BlkH (Bm.and (.of none)) He H8.next (.slice a9 n9' c9) ((Eli.part locks g.blocks j).set j (.inr (g.blocks[j],.slice none 0 0))) oa:=w3.gr BlkH.m ⟨fun b hb=>.inl (by simpa [Av.and,Av.of,obs] using hb),fun b hb=>.inl (by simpa [Av.and,Av.of,ogs] using hb)⟩
      have hLoa:(Av.of oa).Lt He.next:=⟨fun b hb=>by have:=hyd.2.2.1 b hb;omega,fun b hb=>by have:=hyd.2.2.2 b hb;omega⟩
      have hLA:(Bm.and (.of oa)).Lt He.next:=(hBlt.mono (by omega)).and hLoa
      have hda:∀ {oc:Option (Nat×Nat)},((∀ b∈obs oc,He.next≤b)∧∀ b∈ogs oc,He.next≤b)→(∀ b∈obs oc,b∉(Bm.and (.of oa)).bs)∧(∀ b∈ogs oc,b∉(Bm.and (.of oa)).gs):=fun h=>⟨fun b hb h2=>by have:=h.1 b hb;have:=hLA.1 b h2;omega,fun b hb h2=>by have:=h.2 b hb;have:=hLA.2 b h2;omega⟩
      generalize hx0:g.blocks[j]=x at *
      have hxc:=hsb1.code
      have hlj':∀ y,j < ((Eli.part locks g.blocks j).set j y).length:=fun y=>by rw [List.length_set];exact hlj
      clear w1 w2 w3 hc3' hp3 hf3 ht3 hrd3 hl3 howd
      (repeat first|apply zSeq|apply zReg|apply zBlk|refine wN ?_|refine wA ?_)
      refine WP.loopH (σ:=Nat×Value×Option (Nat×Nat)) (fun y=>[(1,.slice ak nk ck),(2,.pointer (some ⟨H.next,0,none⟩)),(4,.pointer (some ⟨H1.next,0,none⟩)),(7,.pointer (some ⟨H3.next,0,none⟩)),(8,.int .i64 k),(9,.pointer (some ⟨Hc.next,0,none⟩)),(10,.int .i64 j),(11,.slice a4 n4' c4),(12,.int .i64 y.1)]) (fun y Hf=>FrX (obs oa) (ogs oa) He Hf∧OwR 39 4 BlkH (Bm.and (.of y.2.2)) Hf H8.next (.slice a9 n9' c9) ((Eli.part locks g.blocks j).set j (.inr (x,y.2.1))) oa∧OwR 41 6 InsR (Bm.and (.of oa)) Hf He.next y.2.1 ((x.code.take y.1).filter fun i=>!Eli.goes locks i) y.2.2∧y.1≤x.code.length) (fun y=>x.code.length - y.1) (0,.slice none 0 0,none) ⟨.refl _ _ _,w3',.nil,Nat.zero_le _⟩ ⟨rfl,rfl,rfl,rfl,rfl,rfl,rfl,rfl,rfl,trivial⟩ ?_
      rintro ⟨k2,cv,oc⟩ Hf ⟨hfrf,howf,hcof,hk2⟩
      simp only at hfrf howf hcof hk2 ⊢
      have hyc:=hcof.young
      have hdc:=hda ⟨hyc.1,hyc.2.1⟩
      have hnef:=hfrf.1
      rcases Nat.lt_or_ge k2 x.code.length with h3|h3
      case inr =>
        have g3:decide ((k2:Int) < x.code.length)=false:=decide_eq_false (by omega)
        rw [List.take_of_length_le h3] at hcof
        have hels:=hcof.els InsR.m hdc.1 hdc.2
        have hfin:=(howf.gr (B:=Bm) BlkH.m .left).upd (hlj' _) (x':=.inl (Eli.block locks x)) (fun cs hR=>by
          rw [List.getElem_set_self] at hR
          obtain ⟨vp,vf,vt,rfl,_,q1,q2,q3⟩:=hR
          exact ⟨vp,cv,vf,vt,rfl,q1,hels,q2,q3⟩)
        rw [hps] at hfin
        (repeat first|apply zSeq|apply zReg|refine zExt ?_|refine wN ?_|refine wG ?_|refine wL ?_|refine zAdd rfl rfl (by omega) ?_|refine wE ?_|refine zLen rfl (hlen1 _) ?_)
        exact ⟨j+1,⟨(hfrd.trans w4 (fun b hb _=>hb) (fun b hb _=>hb)).trans hfrf (fun b hb _=>hb) (fun b hb _=>hb),hfin,h2⟩,by omega,rfl,rfl,rfl,rfl,rfl,rfl,rfl,trivial⟩
      have g3:decide ((k2:Int) < x.code.length)=true:=decide_eq_true (by omega)
      have hcg:Els 6 InsR ((Bm.and (.of oa)).and (.of oc)) He (.slice a4 n4' c4) x.code:=hcE.gr InsR.m ⟨fun b hb=>(List.mem_append.1 hb).imp id (fun hb=>hyc.1 b hb),fun b hb=>(List.mem_append.1 hb).imp id (fun hb=>hyc.2.1 b hb)⟩
      have hcf:=hcg.frX InsR.m (hfrf.sub (fun b hb=>List.mem_append_left _ (List.mem_append_right _ hb)) (fun b hb=>List.mem_append_left _ (List.mem_append_right _ hb)))
      obtain ⟨b5,off5,cs5,ha5,hrd5,va,rfl,hva⟩:=hcf.at E_s_api_Ins E_Ins te_Ins_size (kd:=.i64) h3
      have hl5:=hrd5.loadN (V:=V) E_Ins te_Ins_agg te_Ins_size
      have hft:=filter_take (p:=fun i=>!Eli.goes locks i) h3
      have hfl:((x.code.take k2).filter fun i=>!Eli.goes locks i).length≤k2:=by
        have:=List.length_filter_le (fun i=>!Eli.goes locks i) (x.code.take k2)
        rw [List.length_take] at this;omega
      generalize hi0:x.code[k2]=i at *
      have f0f:Fr H Hf:=(frH.trans fcb).young (hfrd.trans (w4.trans hfrf (fun b hb _=>hb) (fun b hb _=>hb)) (fun b hb _=>hb) (fun b hb _=>hb)) (fun b hb=>by have:=hyd.1 b hb;have:=frH.1;omega) (fun b hb=>by have:=hyd.2.1 b hb;have:=frH.1;omega)
      obtain ⟨_,Hg,hcg',rfl,fg⟩:=rGoes_c (H:=Hf) (i:=i) (va:=va) hO (hvk.fr f0f) hLk
      have bbf:=bbe.frX hfrf hfbo
      have bbg:=bbf.fr fg
      cases hgo:Eli.goes locks i
      case true =>
        rw [hgo] at hcg' hft
        (repeat first|apply zSeq|apply zReg|apply zBlk|apply zSkp|refine wN ?_|refine wG ?_|refine wL ?_|refine wT ?_|refine wI ?_|refine zLd rfl ‹_› ?_|refine zLen rfl (hlen1 _) ?_)
        refine WL.call rfl rfl is_ref25_Goes hcg' ?_
        (repeat first|apply zReg|apply zSkp|refine wN ?_|refine wG ?_|refine zAdd rfl rfl (by omega) ?_|refine zNot rfl ?_|refine zF rfl rfl ?_)
        exact ⟨(k2+1,cv,oc),⟨hfrf.trans (fg.x _ _) (fun b hb _=>hb) (fun b hb _=>hb),howf.fr BlkH.m fg,by rw [hft];simpa using hcof.fr InsR.m fg,h3⟩,by simp only;omega,rfl,rfl,rfl,rfl,rfl,rfl,rfl,rfl,rfl,trivial⟩
      rw [hgo] at hcg' hft
      have howg:=howf.fr BlkH.m fg
      have hcog:=hcof.fr InsR.m fg
      have hng:=fg.1
      obtain ⟨cv',Hi,oc',k1,k2',k3,k4,k5⟩:=hcog.app1 (V:=V) (x:=i) (cx:=i.cells va) InsR.m (hLA.mono (by omega)) ⟨_,rfl,hva.fr fg⟩ InsR.one (by decide) (bytes:=64) (by omega) (by omega) (by omega) E_s_api_Ins E_s_api_Ins E_Ins te_Ins_size te_Ins_bytes
      obtain ⟨a6,n6',c6,rfl⟩:=k2'.isSl
      have hdo:(∀ b∈obs oa,b∉obs oc)∧∀ b∈ogs oa,b∉ogs oc:=⟨fun b hb h2=>by have:=hyc.1 b h2;have:=hLoa.1 b hb;omega,fun b hb h2=>by have:=hyc.2.1 b h2;have:=hLoa.2 b hb;omega⟩
      have howi:=howg.other BlkH.m k3 k4 hdo.1 hdo.2
      obtain ⟨bs,os,Hj,s1,s2,s3,s4,s5⟩:=howi.set (V:=V) (i:=j) (x':=.inr (x,.slice a6 n6' c6)) (off:=1) (vs:=[.slice a6 n6' c6]) BlkH.m (hlj' _) (by simp) (by simp) (fun {A H cs} hR=>by
        rw [List.getElem_set_self] at hR
        exact BlkH.hole rfl (.inr ⟨_,hR⟩)) E_s_api_Block E_Block te_Block_size (kd:=.i64)
      rw [List.set_set] at s3
      obtain ⟨b7,off7,cs7,ha7,hrd7,hR7⟩:=howg.at E_s_api_Block E_Block te_Block_size (kd:=.i64) (hlj' _)
      rw [List.getElem_set_self] at hR7
      obtain ⟨vp7,vf7,vt7,rfl,_⟩:=hR7
      cases ha7.symm.trans s1
      have hl7:=(hrd7.at1 (i:=1) (c:=cv) rfl).load1 (V:=V) E_s_api_Ins rfl
      have hl5g:=(hrd5.fr fg).loadN (V:=V) E_Ins te_Ins_agg te_Ins_size
      have hyc2:=k2'.young
      have hdc2:=hda ⟨hyc2.1,hyc2.2.1⟩
      have bbi:=bbg.frX k3 (fun hb=>hdc.1 _ hb (List.mem_append_left _ hBfb))
      (repeat first|apply zSeq|apply zReg|apply zBlk|apply zSkp|refine wN ?_|refine wG ?_|refine wL ?_|refine wT ?_|refine wI ?_|refine zLd rfl ‹_› ?_|refine zLen rfl (hlen1 _) ?_)
      refine WL.call rfl rfl is_ref25_Goes hcg' ?_
      (repeat first|refine wN ?_|refine zNot rfl ?_|refine zT rfl rfl ?_)
      refine WP.rega ?_
      refine yFld rfl O_Graph_Blocks ?_
      refine yLd rfl (bbg.ld (off:=4) rfl E_s_api_Block rfl) ?_
      refine yGet rfl ?_
      refine yFld rfl O_Graph_Blocks ?_
      refine yLd rfl (bbg.ld (off:=4) rfl E_s_api_Block rfl) ?_
      refine yGet rfl ?_
      refine yIdx rfl rfl ha7 ?_
      refine yFld rfl O_Block_Code ?_
      refine yLd rfl hl7 ?_
      refine yGet rfl ?_
      refine yGet rfl ?_
      refine yIdx rfl rfl ha5 ?_
      refine yLd rfl hl5g ?_
      refine WH.op (op_buildSlice rfl E_s_api_Ins E_Ins (by rw [te_Ins_size];decide) elFillIns) ?_
      refine WH.op (k1 rfl rfl) ?_
      refine yIdx rfl rfl ha7 ?_
      refine yFld rfl O_Block_Code ?_
      refine WH.op (op_store rfl rfl E_s_api_Ins rfl rfl s2) ?_
      refine WH.nil ⟨?_,_,rfl,?_⟩
      · intro y hy
        rw [List.mem_singleton] at hy
        subst hy
        exact .inr ⟨rfl,_,_,_,rfl,rfl,op_load rfl (bbi.ld (off:=4) rfl E_s_api_Block rfl),sameV_sl⟩
      (repeat first|apply zReg|refine wN ?_|refine wG ?_|refine zAdd rfl rfl (by omega) ?_)
      have hfin:FrX (obs oa) (ogs oa) He Hj:=((hfrf.trans (fg.x _ _) (fun b hb _=>hb) (fun b hb _=>hb)).trans k3 (fun b hb hlt=>absurd (hyc.1 b hb) (by omega)) (fun b hb hlt=>absurd (hyc.2.1 b hb) (by omega))).trans s4 (fun b hb _=>hb) (fun b hb _=>hb)
      exact ⟨(k2+1,_,oc'),⟨hfin,s3,by rw [hft];exact k2'.frX InsR.m (hoa s4) hdc2.1 hdc2.2,h3⟩,by simp only;omega,rfl,rfl,rfl,rfl,rfl,rfl,rfl,rfl,rfl,trivial⟩
    rintro _ Hd ⟨hfrd,howd⟩
    have hyd:=howd.young
    have frcd:Fr Hc Hd:=fcb.young hfrd (fun b hb=>by have:=hyd.1 b hb;omega) (fun b hb=>by have:=hyd.2.1 b hb;omega)
    have bbd:=bbb.frX hfrd hfbo
    have hbxd:=hbx.fr frcd
    have hels:Els 4 BlockR Bm Hd (.slice a9 n9' c9) (g.blocks.map (Eli.block locks)):=by
      obtain ⟨cs,q1,q2⟩:=howd.els BlkH.m hnb0 hng0
      rw [Eli.part_len] at q1
      refine ⟨cs,by rw [List.length_map];exact q1,fun i hi=>?_⟩
      rw [List.length_map] at hi
      have:=q2 i (by rw [Eli.part_len];exact hi)
      simp only [Eli.part_all,List.getElem_map] at this
      rw [List.getElem_map]
      exact this
    have hnd:=frcd.1
    obtain ⟨gv',He,o',k1,k2,k3,k4,k5⟩:=(how.fr GraphR.m frcd).app1 (V:=V) (x:=Eli.graph locks g) (cx:=graphC g (.slice a9 n9' c9)) GraphR.m (hG3l.mono (by omega)) ⟨_,rfl,hels.gr BlockR.m hBl⟩ GraphR.one (by decide) (bytes:=64) (by rw [List.length_map,List.length_take];omega) (by rw [List.length_map,List.length_take];omega) (by omega) E_s_api_Graph E_s_api_Graph E_Graph te_Graph_size te_Graph_bytes
    (repeat first|apply zReg|refine zFld rfl O_Form_Funs ?_|refine wB E_s_api_Graph ?_)
    refine zLd rfl (bbd.ldN E_Graph te_Graph_agg (by rw [te_Graph_size];rfl)) ?_
    refine WL.op (op_buildSlice rfl E_s_api_Graph E_Graph (by rw [te_Graph_size];decide) elFillGr) ?_
    refine WL.op (k1 rfl rfl) ?_
    have hbxe:=hbxd.frX k3 (fun hb=>by have:=hyo.1 _ hb;omega)
    obtain ⟨a8,n8',c8,rfl⟩:=k2.isSl
    (repeat first|refine zFld rfl O_Form_Funs ?_)
    refine zStB hbxe rfl rfl E_s_api_Graph rfl rfl (by simp [Value.cells]) (by simp [Value.cells]) fun Hg fg bg ng=>?_
    have bg':Bx Hg H3.next 26 [.slice am nm cm,.slice al nl cl,.slice a8 n8' c8]:=bg
    (repeat first|apply zReg|refine wN ?_|refine wG ?_|refine zAdd rfl rfl (by omega) ?_)
    have hfin:FrX [H3.next] [] H6 Hg:=((hfr.trans (frcd.x _ _) (fun b hb _=>hb) (fun b hb _=>hb)).trans k3 (fun b hb hlt=>absurd (hyo.1 b hb) (by omega)) (fun b hb hlt=>absurd (hyo.2.1 b hb) (by omega))).trans fg (fun b hb _=>hb) (by simp)
    have hy2:=k2.young
    exact ⟨(k+1,_,o'),⟨hfin,bg',by rw [htk];exact k2.frX GraphR.m (hG3s (.inl rfl) fg) (fun b hb h2=>by have:=hy2.1 b hb;rcases hG3b b h2 with e|e <;> omega) (fun b hb h2=>(hG3g b h2).elim),h⟩,by simp only;omega,rfl,rfl,rfl,rfl,rfl,trivial⟩
  · rintro ⟨gv,o⟩ Hp ⟨hfrp,hbxp,howp⟩
    simp only at hfrp hbxp howp ⊢
    have f0p:Fr H Hp:=f06.young hfrp (by simp;omega) (by simp)
    have b2p:=b26.frX hfrp (by simp;omega)
    have hyp:=howp.young
    have hels:=howp.els GraphR.m (fun b hb h2=>by have:=hyp.1 b hb;rcases hG3b b h2 with e|e <;> omega) (fun b hb h2=>(hG3g b h2).elim)
    obtain ⟨ag,ng,cg,rfl⟩:=howp.isSl
    have hFp:FmR .no Hp (.slice am nm cm) (.slice al nl cl) (.slice ag ng cg) (Eli.form locks f):=⟨(hf.m.fr MemR.m f0p).gr MemR.m .no,(hf.l.fr StrR.m f0p).gr StrR.m .no,hels.gr GraphR.m .no⟩
    obtain ⟨_,Hq,hcq,rfl,fq⟩:=rMayForm_c (H:=Hp) hO hFp (hse.el locks)
    have b2q:=b2p.fr fq
    have hbxq:=hbxp.fr fq
    cases hm2:For.may mayG mi (Eli.form locks f)
    · rw [hm2] at hcq
      (repeat first|apply zSeq|apply zReg)
      refine zLd rfl (hbxp.ldN E_Form te_Form_agg (by rw [te_Form_size];rfl)) ?_
      refine WL.call rfl rfl is_ref11_MayForm hcq ?_
      (repeat first|apply zSeq|apply zReg|refine wN ?_|refine zNot rfl ?_|refine zT rfl rfl ?_)
      refine WL.op (op_build rfl elBuildFm0) ?_
      refine zStB b2q rfl rfl E_Form (by rw [te_Form_size];rfl) rfl (by simp [Value.cells]) (by simp [Value.cells]) fun Hr fr br nr=>?_
      have br':Bx Hr H1.next 26 [.slice none 0 0,.slice none 0 0,.slice none 0 0]:=br
      (repeat first|refine wN ?_|refine wA ?_)
      exact WP.ret ⟨.inr rfl,_,resL_cell rfl (br'.ldN E_Form te_Form_agg (by rw [te_Form_size];rfl)) rfl,RAllR.zero (by unfold Eli.err;rw [if_neg (by rw [hm1];decide),if_neg (by rw [hbad0];decide),if_pos hm2]) (by decide) ((f0p.trans fq).young fr (by simp;omega) (by simp))⟩
    · rw [hm2] at hcq
      (repeat first|apply zSeq|apply zReg)
      refine zLd rfl (hbxp.ldN E_Form te_Form_agg (by rw [te_Form_size];rfl)) ?_
      refine WL.call rfl rfl is_ref11_MayForm hcq ?_
      (repeat first|apply zSeq|apply zReg|apply zSkp|refine wN ?_|refine zNot rfl ?_|refine zF rfl rfl ?_)
      refine zLd rfl (hbxq.ldN E_Form te_Form_agg (by rw [te_Form_size];rfl)) ?_
      refine zStB b2q rfl rfl E_Form (by rw [te_Form_size];rfl) rfl (by simp [Value.cells]) (by simp [Value.cells]) fun Hr fr br nr=>?_
      have br':Bx Hr H1.next 26 [.slice am nm cm,.slice al nl cl,.slice ag ng cg]:=br
      (repeat first|refine wN ?_|refine wA ?_)
      have he:Eli.err (For.may mayG mi) f locks=0:=by unfold Eli.err;rw [if_neg (by rw [hm1];decide),if_neg (by rw [hbad0];decide),if_neg (by rw [hm2];decide)]
      have ho:Eli.out (For.may mayG mi) f locks=Eli.form locks f:=by unfold Eli.out;rw [if_pos he]
      have f0r:Fr H Hr:=(f0p.trans fq).young fr (by simp;omega) (by simp)
      have helr:Els 5 GraphR .no Hr (.slice ag ng cg) (f.funs.map (Eli.graph locks)):=((hels.fr GraphR.m fq).frX GraphR.m (hG3s (.inr rfl) fr)).gr GraphR.m .no
      exact WP.ret ⟨.inr rfl,_,resL_cell rfl (br'.ldN E_Form te_Form_agg (by rw [te_Form_size];rfl)) rfl,_,_,_,by rw [he];rfl,by rw [ho];exact ⟨(hf.m.fr MemR.m f0r).gr MemR.m .no,(hf.l.fr StrR.m f0r).gr StrR.m .no,helr⟩,f0r⟩
end Go.Proofs.YtogomfblfpfjhaaGreatDoor.U
