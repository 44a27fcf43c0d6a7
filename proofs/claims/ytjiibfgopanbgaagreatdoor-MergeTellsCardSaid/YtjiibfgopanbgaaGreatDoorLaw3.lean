/-
  Contracts of merge: a block of one's own.
-/
import Derived.Test.YtjiibfgopanbgaaGreatDoorLaw2
import Derived.Test.YtjiibfgopanbgaaGreatDoorEv6
import Derived.Test.YtjiibfgopanbgaaGreatDoorLaw1
import Derived.Test.YtjiibfgopanbgaaGreatDoorProg
import Derived.KernelRfl
set_option linter.all false
namespace Go.Proofs.YtjiibfgopanbgaaGreatDoor.U
open Go Go.Ev
section
attribute [local irreducible] WL WP WH W
attribute [local irreducible] V
variable {O:Orc}{H:AH}
abbrev WPN_:=WPhiN 3
abbrev WBR_:=WBlkR 3 49 47
set_option maxHeartbeats 8000000 in
theorem mblockW_c (hO:NoO O) {A:Av}{b:Block}{cs:List Value} (hb:BlockR A H cs b) (hsm:SmallB b) (hg:GM H) (hop:∀ i∈b.code,0≤i.op∧i.op<14) :
 ∃ u H',Lc V O F_merge_block [.agg cs.toArray] H u H'∧(∃ (cs':List Value) (os:Ev.Os),u=.agg cs'.toArray∧BlockR (.old H.next) H' cs' (Mer.block b)∧WBR_ H' cs' (Mer.block b) os∧os.In H.next H'.next∧os.nd∧Fr H H'):=by
 obtain ⟨vp,vc,vf,vt,rfl,hp,hc,hf,ht⟩:=hb
 refine Lc.merge_block (hO _ _ _ (by decide)) ?_
 unfold P_merge_block
 apply zSeq
 apply zReg
 refine zBox rfl (fun _=>rfl) fun H1 f1 b1 n1=>?_
 refine zAlc E_Block elBlk0 fun H2 f2 b2 n2=>?_
 replace b1:=b1.fr f2
 have b1':Bx H2 H.next 45 [vp,vc,vf,vt]:=b1
 have f12:=f1.trans f2
 clear b1 f1 f2
 refine wN ?_
 apply zSeq
 refine WP.rega ?_
 refine yFld rfl O_Block_From ?_
 refine yLd rfl (b1'.ld rfl E_s_int rfl) ?_
 refine yFld rfl O_Block_To ?_
 refine yLd rfl (b1'.ld rfl E_s_int rfl) ?_
 refine yAlc E_Block elBlk0 fun H3 f3 b3 n3=>?_
 have f13:=f12.trans f3
 obtain ⟨_,H4,hc4,f4,of,wf4⟩:=cloneO_c (H:=H3) hO (hf.fr f13) hsm.frm
 obtain ⟨fa,fn,fc,rfl⟩:=wf4.isSl
 have f14:=f13.trans f4
 obtain ⟨_,H5,hc5,f5,ot,wt5⟩:=cloneO_c (H:=H4) hO (ht.fr f14) hsm.to
 obtain ⟨ta,tn,tc,rfl⟩:=wt5.isSl
 have f15:=f14.trans f5
 refine WH.call rfl rfl fp_slices_Clone_s_int_int.is hc4 ?_
 refine WH.call rfl rfl fp_slices_Clone_s_int_int.is hc5 ?_
 refine WH.op (op_build rfl elBuildBlk) ?_
 have b35:=(b3.fr f4).fr f5
 refine yStB b35 rfl rfl E_Block (by rw [te_Block_size];rfl) rfl (by simp [Value.cells]) (by simp [Value.cells]) fun H6 f6 b6 n6=>?_
 have b6':Bx H6 H2.next 45 [.slice none 0 0,.slice none 0 0,.slice fa fn fc,.slice ta tn tc]:=b6
 have hn34:H3.next≤H4.next:=f4.1
 have hn45:H4.next≤H5.next:=f5.1
 have hn23:H3.next=H2.next+1:=n3
 have hbo:H.next≤H2.next:=f12.1
 have b16:=(((b1'.fr f3).fr f4).fr f5).frX f6 (by simp;omega)
 have b26:=(((b2.fr f3).fr f4).fr f5).frX f6 (by simp;omega)
 have f16:Fr H H6:=f15.young f6 (by simp;omega) (by simp)
 have wf6:OwI 3 H6 H3.next (.slice fa fn fc) b.frm of:=(wf4.fr f5).frX f6 (fun b hb=>by have:=wf4.young.1 b hb;simp;omega) (by simp)
 have wt6:OwI 3 H6 H4.next (.slice ta tn tc) b.to ot:=wt5.frX f6 (fun b hb=>by have:=wt5.young.1 b hb;simp;omega) (by simp)
 refine WH.nil ⟨?_,_,rfl,?_⟩
 ·intro x hx
  rw [List.mem_singleton] at hx
  subst hx
  obtain ⟨q1,q2,q3,rfl⟩:=ht.isSl
  exact .inr ⟨rfl,_,_,_,rfl,rfl,op_load rfl (((b1'.fr f3).fr f4).ld (off:=3) rfl E_s_int rfl),sameV_sl⟩
 have hpH:=hp
 have hcH:=hc
 have hn6:H2.next<H6.next:=b6'.1
 have hBG:∀ {n:Nat},(Av.old H6.next).Gr (.old H.next) n:=Av.old_gr (Av.old_lt.mono (by have:=f16.1;omega))
 have hBlt:(Av.old H6.next).Lt H6.next:=Av.old_lt
 have hBsub:∀ {Hx Hy:AH},FrX [H2.next] [] Hx Hy→FrX (Av.old H6.next).bs (Av.old H6.next).gs Hx Hy:=fun h=>h.sub (fun b hb=>by simp [Av.old] at hb ⊢;omega) (by simp)
 generalize hB:Av.old H6.next=B at *
 clear b1' b2 b3 b35 b6 f3 f4 f5 f6 f12 f13 f14 f15 hc4 hc5 wf4 wt5 hf ht hp hc
 refine WP.seqS (σ:=Value×Option (Nat×Nat)) (fun x=>[(1,.pointer (some ⟨H.next,0,none⟩)),(2,.pointer (some ⟨H1.next,0,none⟩)),(3,.pointer (some ⟨H2.next,0,none⟩))]) (fun x Hc=>FrX [H2.next] [] H6 Hc∧Bx Hc H2.next 45 [x.1,.slice none 0 0,.slice fa fn fc,.slice ta tn tc]∧Bd 49 2 PhiR WPN_ B Hc H6.next x.1 b.phis x.2) ?_ ?_
 ·have hpl:=hpH.len (V:=V) (H2:=H6) E_s_api_Phi
  have hlen1:=fun Hz=>hpH.len (V:=V) (H2:=Hz) E_s_api_Phi
  repeat first|apply zSeq|apply zReg|apply zBlk|refine wN ?_|refine wM ?_|refine wD O_Block_Phis ?_|refine wB E_s_api_Phi ?_|refine wK (hlen1 _) ?_
  refine WP.loopH (σ:=Nat×Value×Option (Nat×Nat)) (fun x=>[(1,.pointer (some ⟨H.next,0,none⟩)),(2,.pointer (some ⟨H1.next,0,none⟩)),(3,.pointer (some ⟨H2.next,0,none⟩)),(17,vp),(18,.int .i64 b.phis.length),(19,.int .i64 x.1)]) (fun x Hc=>FrX [H2.next] [] H6 Hc∧Bx Hc H2.next 45 [x.2.1,.slice none 0 0,.slice fa fn fc,.slice ta tn tc]∧Bd 49 2 PhiR WPN_ B Hc H6.next x.2.1 (b.phis.take x.1) x.2.2∧x.1≤b.phis.length) (fun x=>b.phis.length-x.1) (0,.slice none 0 0,none) ⟨.refl _ _ _,b6',.nil,Nat.zero_le _⟩ ⟨rfl,rfl,rfl,rfl,rfl,rfl,trivial⟩ ?_
  rintro ⟨k,pv,o⟩ Hc ⟨hfr,hbx,how,hk⟩
  simp only at hfr hbx how hk ⊢
  rcases Nat.lt_or_ge k b.phis.length with h|h
  case inr =>
   have g1:decide ((k:Int)<b.phis.length)=false:=dF
   rw [List.take_of_length_le h] at how
   repeat first|apply zSeq|apply zReg|apply zExt|refine wN ?_|refine wL ?_|refine wE ?_
   exact ⟨(pv,o),⟨hfr,hbx,how⟩,rfl,rfl,rfl,trivial⟩
  have g1:decide ((k:Int)<b.phis.length)=true:=dT
  have frH:Fr H Hc:=f16.young hfr (by simp;omega) (by simp)
  have hpc:Els 2 PhiR A Hc vp b.phis:=hpH.fr PhiR.m frH
  obtain ⟨bb,off,cs,ha1,hrd,va,rfl,hva⟩:=hpc.at E_s_api_Phi E_Phi te_Phi_size (kd:=.i64) h
  have hl1:=hrd.loadN (V:=V) E_Phi te_Phi_agg te_Phi_size
  have hLa:=hsm.pargs b.phis[k] (List.getElem_mem _)
  have hLp:=hsm.phis
  generalize hp0:b.phis[k]=p at *
  repeat first|apply zSeq|apply zReg|apply zBlk|apply zSkp|refine wN ?_|refine wL ?_|refine wT ?_|refine wI ?_|refine wY ?_
  refine zAlc E_Phi elPhi0 fun H7 f7 b7 n7=>?_
  refine zStB b7 rfl rfl E_Phi (by rw [te_Phi_size];rfl) (by have:=hva.oneCell;simp [Value.cells,Value.oneCell'] at this ⊢;exact this) (by simp [Value.cells]) (by simp [Value.cells]) fun H8 f8 b8 n8=>?_
  have b8':Bx H8 Hc.next 49 [.int .i64 p.r,va]:=b8
  have f78:Fr Hc H8:=f7.young f8 (by simp) (by simp)
  have hbx8:=hbx.fr f78
  have how8:=how.fr PhiR.m WPhiN.m f78
  obtain ⟨_,H9,hc9,f9,o9,wl9⟩:=cloneO_c (H:=H8) hO (hva.fr f78) hLa
  obtain ⟨ca,cn,cc,rfl⟩:=wl9.isSl
  obtain ⟨os9,wi9,in9,nd9⟩:=wl9.wi
  have hbx9:=hbx8.fr f9
  have b9':=b8'.fr f9
  have hn8:=f78.1
  have hn9:=f9.1
  have hn6c:=hfr.1
  have hyo:=how8.young
  obtain ⟨pv',H10,o',k1,k2,k3,k4⟩:=how8.app1 (V:=V) (x:=⟨p.r,p.args⟩) (cx:=[.int .i64 p.r,.slice ca cn cc]) PhiR.m WPhiN.m f9 (hBlt.mono (by omega)) ⟨_,rfl,wl9.rYoung ((hBlt.mono (by omega)).and how8.lt)⟩ ⟨⟨_,rfl,wi9⟩,_,rfl,rfl⟩ in9 nd9 PhiR.one (by decide) (bytes:=32) (by rw [List.length_take];have:=hsm.phis;omega) (by rw [List.length_take];have:=hsm.phis;omega) (by omega) E_s_api_Phi E_s_api_Phi E_Phi te_Phi_size te_Phi_bytes
  refine wN ?_
  refine WP.rega ?_
  refine yFld rfl O_Block_Phis ?_
  refine yLd rfl (hbx8.ld (off:=0) rfl E_s_api_Phi rfl) ?_
  refine yFld rfl O_Phi_R ?_
  refine yLd rfl (b8'.ld (off:=0) rfl E_int rfl) ?_
  refine yFld rfl O_Phi_Args ?_
  refine yLd rfl (b8'.ld (off:=1) rfl E_s_int rfl) ?_
  refine WH.call rfl rfl fp_slices_Clone_s_int_int.is hc9 ?_
  refine WH.op (op_build rfl elBuildPhi) ?_
  refine WH.op (op_buildSlice rfl E_s_api_Phi E_Phi (by rw [te_Phi_size];decide) elFillPhi) ?_
  refine WH.op (k1 rfl rfl) ?_
  have hyc:=how.young
  have hbx10:=hbx9.frX k3 (fun hb=>by have:=hyc.1 _ hb;omega)
  have b10:=b9'.frX k3 (fun hb=>by have:=hyc.2.2.1 _ hb;omega)
  obtain ⟨h1v,h2v⟩:=k2.oneCell
  refine yFld rfl O_Block_Phis ?_
  refine yStB hbx10 rfl rfl E_s_api_Phi (by rw [←Array.length_toList,h2v];rfl) (by rw [h2v];simp [h1v]) (by rw [h2v];simp) (by rw [h2v];simp) fun H11 f11 b11 n11=>?_
  rw [h2v] at b11
  have b11':Bx H11 H2.next 45 [pv',.slice none 0 0,.slice fa fn fc,.slice ta tn tc]:=b11
  refine WH.nil ⟨?_,_,rfl,?_⟩
  ·intro x hx
   simp only [List.mem_cons,List.not_mem_nil,or_false] at hx
   rcases hx with rfl|rfl
   ·obtain ⟨q1,q2,q3,rfl⟩:=how.isSl
    exact .inr ⟨rfl,_,_,_,rfl,rfl,op_load rfl ((hbx9.fr (.alloc _ _)).ld (off:=0) rfl E_s_api_Phi rfl),sameV_sl⟩
   ·exact .inr ⟨rfl,_,_,_,rfl,rfl,op_load rfl ((b9'.fr (.alloc _ _)).ld (off:=0) rfl E_int rfl),sameV_int⟩
  repeat first|apply zReg|refine wN ?_|refine wS ?_
  have hfin:FrX [H2.next] [] H6 H11:=((hfr.trans ((f78.trans f9).x [] []) (by simp) (by simp)).trans k3 (fun b hb hlt=>absurd (hyc.1 b hb) (by omega)) (fun b hb hlt=>absurd (hyc.2.1 b hb) (by omega))).trans f11 (fun b hb _=>hb) (by simp)
  have hy2:=k2.young
  exact ⟨(k+1,pv',o'),⟨hfin,b11',by rw [List.take_succ_eq_append_getElem h,hp0];exact k2.frX PhiR.m WPhiN.m (hBsub f11) (ap1 hy2.1 hBlt.1) (ap1 hy2.2.1 hBlt.2),h⟩,by simp only;omega,rfl,rfl,rfl,rfl,rfl,rfl,trivial⟩
 ·rintro ⟨pv,o⟩ Hp ⟨hfrp,hbxp,howp⟩
  simp only at hfrp hbxp howp ⊢
  have hlc:=hsm.code
  have f1p:Fr H Hp:=f16.young hfrp (by simp;omega) (by simp)
  have b1p:=b16.frX hfrp (by simp;omega)
  have b2p:=b26.frX hfrp (by simp;omega)
  have hnp:=hfrp.1
  have hCG:∀ {n:Nat},(Av.old Hp.next).Gr (.old H.next) n:=Av.old_gr (Av.old_lt.mono (by have:=f1p.1;omega))
  have hClt:(Av.old Hp.next).Lt Hp.next:=Av.old_lt
  have hCsub:∀ {Hx Hy:AH},FrX [H2.next] [] Hx Hy→FrX (Av.old Hp.next).bs (Av.old Hp.next).gs Hx Hy:=fun h=>h.sub (fun b hb=>by simp [Av.old] at hb ⊢;omega) (by simp)
  generalize hC:Av.old Hp.next=C at *
  refine WP.seqS (σ:=Value×Option (Nat×Nat)) (fun x=>[(2,.pointer (some ⟨H1.next,0,none⟩)),(3,.pointer (some ⟨H2.next,0,none⟩))]) (fun x Hc=>FrX [H2.next] [] Hp Hc∧Bx Hc H2.next 45 [pv,x.1,.slice fa fn fc,.slice ta tn tc]∧BdV 47 6 InsR WI_ C Hc Hp.next x.1 (Mer.code b.code) x.2) ?_ ?_
  ·have hlen1:=fun Hz=>hcH.len (V:=V) (H2:=Hz) E_s_api_Ins
   repeat first|apply zSeq|apply zReg|apply zBlk|refine wN ?_|refine wM ?_|refine wD O_Block_Code ?_|refine wB E_s_api_Ins ?_|refine wK (hlen1 _) ?_
   refine WP.loopH (σ:=Nat×Value×Option (Nat×Nat)) (fun x=>[(1,.pointer (some ⟨H.next,0,none⟩)),(2,.pointer (some ⟨H1.next,0,none⟩)),(3,.pointer (some ⟨H2.next,0,none⟩)),(36,vc),(37,.int .i64 b.code.length),(38,.int .i64 x.1)]) (fun x Hc=>FrX [H2.next] [] Hp Hc∧Bx Hc H2.next 45 [pv,x.2.1,.slice fa fn fc,.slice ta tn tc]∧BdV 47 6 InsR WI_ C Hc Hp.next x.2.1 ((b.code.take x.1).foldl Mer.step []) x.2.2∧x.1≤b.code.length) (fun x=>b.code.length-x.1) (0,.slice none 0 0,none) ⟨.refl _ _ _,hbxp,.nil,Nat.zero_le _⟩ ⟨rfl,rfl,rfl,rfl,rfl,rfl,trivial⟩ ?_
   rintro ⟨k,cv,o2⟩ Hc ⟨hfr,hbx,how,hk⟩
   simp only at hfr hbx how hk ⊢
   rcases Nat.lt_or_ge k b.code.length with h|h
   case inr =>
    have g1:decide ((k:Int)<b.code.length)=false:=dF
    rw [List.take_of_length_le h] at how
    repeat first|apply zSeq|apply zReg|apply zExt|refine wN ?_|refine wL ?_|refine wE ?_
    exact ⟨(cv,o2),⟨hfr,hbx,how⟩,rfl,rfl,trivial⟩
   have g1:decide ((k:Int)<b.code.length)=true:=dT
   have frH:Fr H Hc:=f1p.young hfr (by simp;omega) (by simp)
   have hpc:Els 6 InsR A Hc vc b.code:=hcH.fr InsR.m frH
   obtain ⟨bb,off,cs,ha1,hrd,va,rfl,hva⟩:=hpc.at E_s_api_Ins E_Ins te_Ins_size (kd:=.i64) h
   have hl1:=hrd.loadN (V:=V) E_Ins te_Ins_agg te_Ins_size
   have hLa:=hsm.cargs b.code[k] (List.getElem_mem _)
   have hst:(b.code.take (k+1)).foldl Mer.step []=Mer.step ((b.code.take k).foldl Mer.step []) b.code[k]:=by
    rw [List.take_succ_eq_append_getElem h,List.foldl_append];rfl
   have hal:((b.code.take k).foldl Mer.step []).length≤100000:=by
    have:=foldl_step_len (b.code.take k) []
    rw [List.length_take] at this
    simp only [List.length_nil] at this;omega
   have hao:∀ i∈(b.code.take k).foldl Mer.step [],0≤i.op∧i.op<14:=fun i hi=>(foldl_step_mem _ _ i hi).elim (fun h=>by cases h) (fun h=>hop i (List.mem_of_mem_take h))
   have hopi:=hop b.code[k] (List.getElem_mem _)
   generalize (b.code.take k).foldl Mer.step []=acc at *
   generalize hi0:b.code[k]=i at *
   repeat first|apply zSeq|apply zReg|apply zBlk|apply zSkp|refine wN ?_|refine wL ?_|refine wT ?_|refine wI ?_|refine wY ?_
   refine zAlc E_Ins elIns0 fun H7 f7 b7 n7=>?_
   refine zStB b7 rfl rfl E_Ins (by rw [te_Ins_size];rfl) (by have:=hva.oneCell;simp [Ins.cells,Value.cells,Value.oneCell'] at this ⊢;exact this) (by simp [Ins.cells,Value.cells]) (by simp [Ins.cells,Value.cells]) fun H8 f8 b8 n8=>?_
   have b8':Bx H8 Hc.next 47 (i.cells va):=b8
   have f78:Fr Hc H8:=f7.young f8 (by simp) (by simp)
   refine wN ?_
   refine WP.seqS (σ:=Unit) (fun x=>[(1,.pointer (some ⟨H.next,0,none⟩)),(2,.pointer (some ⟨H1.next,0,none⟩)),(3,.pointer (some ⟨H2.next,0,none⟩)),(36,vc),(37,.int .i64 b.code.length),(38,.int .i64 k),(7,.pointer (some ⟨Hc.next,0,none⟩))]) (fun _ Ht=>Fr H8 Ht∧Mer.step acc i=acc++[i]) ?_ ?_
   ·unfold Ins.cells at b8'
    by_cases h7:i.op=7
    ·have g7:decide (i.op=7)=true:=decide_eq_true h7
     have hbx8:=hbx.fr f78
     have how8:=how.fr InsR.m WIns.m f78
     obtain ⟨_,H9,hc9,rfl,f9⟩:=gives_c (H:=H8) hO (hg.fr (frH.trans f78)) (how8.els InsR.m WIns.m) (by omega) hao i.n
     by_cases h0:Mer.givesI acc i.n<0
     ·have g8:decide (0≤Mer.givesI acc i.n)=false:=dF
      repeat first|apply zSeq|apply zReg|refine wN ?_|refine wQ ?_|refine wT ?_|refine wD O_Ins_Op ?_|refine wD O_Ins_N ?_|refine wD O_Block_Code ?_|refine wB E_int64 ?_|refine wB E_uint8 ?_|refine wB E_s_api_Ins ?_
      refine WL.call rfl rfl fp_merge_gives.is hc9 ?_
      repeat first|apply zSeq|apply zReg|apply zSkp|refine wN ?_|refine wG ?_|refine wW ?_|refine wE ?_
      exact ⟨(),⟨f9,step_no h0⟩,rfl,rfl,rfl,rfl,rfl,rfl,rfl,trivial⟩
     ·have g8:decide (0≤Mer.givesI acc i.n)=true:=dT
      obtain ⟨at_,hat,hgi,hst2⟩:=step_yes h7 (Int.not_lt.1 h0)
      rw [hgi] at hc9 g8
      have hn9:=f9.1
      have hn8:=f78.1
      have hnc:=hfr.1
      have hyc:=how.young
      have hbx9:=hbx8.fr f9
      obtain ⟨s1,s2,cv',H10,o',q1,q2,q3,q4,q5⟩:=(how8.fr InsR.m WIns.m f9).erase (V:=V) InsR.m WIns.m (hClt.mono (by omega)) (fun h=>(InsR.one h).1) hat (by decide) (bytes:=64) (by omega) (by omega) (by omega) E_s_api_Ins E_Ins te_Ins_size te_Ins_bytes
      obtain ⟨h1v,h2v⟩:=q4.oneCell
      have hbx10:=hbx9.fr q5
      repeat first|apply zSeq|apply zReg|refine wN ?_|refine wQ ?_|refine wT ?_|refine wD O_Ins_Op ?_|refine wD O_Ins_N ?_|refine wD O_Block_Code ?_|refine wB E_int64 ?_|refine wB E_uint8 ?_|refine wB E_s_api_Ins ?_
      refine WL.call rfl rfl fp_merge_gives.is hc9 ?_
      repeat first|apply zSeq|apply zReg|refine wN ?_|refine wG ?_|refine wW ?_|refine wt ?_|refine wD O_Block_Code ?_|refine wB E_s_api_Ins ?_
      refine WL.op (op_slice rfl rfl rfl rfl q1) ?_
      repeat first|refine wG ?_|refine wS ?_|refine wD O_Block_Code ?_|refine wB E_s_api_Ins ?_
      refine WL.op (op_slice rfl rfl rfl rfl q2) ?_
      refine WL.op (q3 rfl rfl) ?_
      repeat first|refine wD O_Block_Code ?_
      refine zStB hbx10 rfl rfl E_s_api_Ins (by rw [←Array.length_toList,h2v];rfl) (by rw [h2v];simp [h1v]) (by rw [h2v];simp) (by rw [h2v];simp) fun H12 f12 b12 n12=>?_
      rw [h2v] at b12
      have b12':Bx H12 H2.next 45 [pv,cv',.slice fa fn fc,.slice ta tn tc]:=b12
      have hfin:FrX [H2.next] [] Hp H12:=(hfr.trans (((f78.trans f9).trans q5).x [] []) (by simp) (by simp)).trans f12 (fun b hb _=>hb) (by simp)
      repeat first|apply zReg|apply zExt|refine wN ?_|refine wS ?_
      exact ⟨(k+1,cv',o'),⟨hfin,b12',by simp only;rw [hst,hst2];exact q4.frX InsR.m WIns.m (hCsub f12),h⟩,by simp only;omega,rfl,rfl,rfl,rfl,rfl,rfl,trivial⟩
    ·have g7:decide (i.op=7)=false:=decide_eq_false h7
     repeat first|apply zSeq|apply zReg|apply zSkp|refine wN ?_|refine wQ ?_|refine wE ?_|refine wD O_Ins_Op ?_|refine wB E_uint8 ?_
     exact ⟨(),⟨.refl _,step_ne h7⟩,rfl,rfl,rfl,rfl,rfl,rfl,rfl,trivial⟩
   ·rintro _ Ht ⟨f8t,hsa⟩
    have hbxt:=(hbx.fr f78).fr f8t
    have bt:=b8'.fr f8t
    have fct:=f78.trans f8t
    obtain ⟨_,H9,hc9,f9,oa,wla⟩:=cloneO_c (H:=Ht) hO (hva.fr fct) hLa
    obtain ⟨ca,cn,cc,rfl⟩:=wla.isSl
    obtain ⟨osa,wia,ina,nda⟩:=wla.wi
    unfold Ins.cells at bt
    repeat first|apply zSeq|apply zReg|refine wD O_Ins_Args ?_|refine wB E_s_int ?_
    refine WL.call rfl rfl fp_slices_Clone_s_int_int.is hc9 ?_
    repeat first|refine wD O_Ins_Args ?_
    refine zStB (bt.fr f9) rfl rfl E_s_int (by simp [Value.cells]) (by simp [Value.cells,Value.oneCell']) (by simp [Value.cells]) (by simp [Value.cells]) fun H10 f10 b10 n10=>?_
    have b10':Bx H10 Hc.next 47 (i.cells (.slice ca cn cc)):=b10
    have hnc:=fct.1
    have hbt:=bt.1
    have hn9:=f9.1
    have fc10:Fr Hc H10:=(fct.trans f9).young f10 (by simp) (by simp)
    have hbx10:=hbx.fr fc10
    have hyc:=how.young
    have hnpc:=hfr.1
    have hncx:Hc.next<H10.next:=b10'.1
    have hbc8:=b8'.1
    have hn8t:=f8t.1
    have wlad:OwI 3 H10 Ht.next (.slice ca cn cc) i.args oa:=wla.frX f10 (fun b hb=>by have:=wla.young.1 b hb;simp;omega) (by simp)
    have wiad:WI 3 H10 (.slice ca cn cc) i.args.length osa:=wia.frX WN.m f10 (fun p hp=>⟨by have:=ina p hp;simp;omega,by simp⟩)
    have inad:osa.In Hc.next H10.next:=ina.mono (by omega) (by have:=f10.1;omega)
    obtain ⟨cv',H11,o',k1,k2,k3,k4⟩:=how.app1 (V:=V) (x:=i) (cx:=i.cells (.slice ca cn cc)) InsR.m WIns.m fc10 (hClt.mono (by omega)) ⟨_,rfl,wlad.rYoung (((hClt.mono (by omega)).and how.lt).mono (by omega))⟩ ⟨⟨_,rfl,wiad⟩,_,rfl,rfl⟩ inad nda InsR.one (by decide) (bytes:=64) (by omega) (by omega) (by omega) E_s_api_Ins E_s_api_Ins E_Ins te_Ins_size te_Ins_bytes
    have hnc':H2.next<Hc.next:=by omega
    have hbx11:=hbx10.frX k3 (fun hb=>by have:=hyc.1 _ hb;omega)
    obtain ⟨h1v,h2v⟩:=k2.oneCell
    repeat first|apply zReg|refine wN ?_|refine wD O_Block_Code ?_|refine wB E_s_api_Ins ?_
    refine zLd rfl (b10'.lN E_Ins te_Ins_agg te_Ins_size) ?_
    refine WL.op (op_buildSlice rfl E_s_api_Ins E_Ins (by rw [te_Ins_size];decide) elFillIns) ?_
    refine WL.op (k1 rfl rfl) ?_
    repeat first|refine wD O_Block_Code ?_
    refine zStB hbx11 rfl rfl E_s_api_Ins (by rw [←Array.length_toList,h2v];rfl) (by rw [h2v];simp [h1v]) (by rw [h2v];simp) (by rw [h2v];simp) fun H12 f12 b12 n12=>?_
    rw [h2v] at b12
    have b12':Bx H12 H2.next 45 [pv,cv',.slice fa fn fc,.slice ta tn tc]:=b12
    have hfin:FrX [H2.next] [] Hp H12:=((hfr.trans (fc10.x [] []) (by simp) (by simp)).trans k3 (fun b hb hlt=>absurd (hyc.1 b hb) (by omega)) (fun b hb hlt=>absurd (hyc.2.1 b hb) (by omega))).trans f12 (fun b hb _=>hb) (by simp)
    repeat first|apply zReg|refine wN ?_|refine wS ?_
    exact ⟨(k+1,cv',o'),⟨hfin,b12',by simp only;rw [hst,hsa];exact k2.frX InsR.m WIns.m (hCsub f12),h⟩,by simp only;omega,rfl,rfl,rfl,rfl,rfl,rfl,trivial⟩
  ·rintro ⟨cv,o2⟩ Hq ⟨hfrq,hbxq,howq⟩
   simp only at hfrq hbxq howq ⊢
   have hyp:=howp.young
   have hyq:=howq.young
   have hnq:=hfrq.1
   have b2q:=b2p.frX hfrq (by simp;omega)
   have f1q:Fr H Hq:=f1p.young hfrq (by simp;omega) (by simp)
   have howpq:=howp.frX PhiR.m WPhiN.m (hBsub hfrq) (ap1 hyp.1 hBlt.1) (ap1 hyp.2.1 hBlt.2)
   have hf6q:FrX [H2.next] [] H6 Hq:=hfrp.trans hfrq (fun b hb _=>hb) (by simp)
   have wfq:=wf6.frX hf6q (fun b hb=>by have:=wf6.young.1 b hb;simp;omega) (by simp)
   have wtq:=wt6.frX hf6q (fun b hb=>by have:=wt6.young.1 b hb;simp;omega) (by simp)
   obtain ⟨pa,pn,pc,rfl⟩:=howp.isSl
   obtain ⟨qa,qn,qc,rfl⟩:=howq.isSl
   repeat first|apply zSeq|apply zReg
   refine zLd rfl (hbxq.lN E_Block te_Block_agg te_Block_size) ?_
   refine zStB b2q rfl rfl E_Block (by rw [te_Block_size];rfl) rfl (by simp [Value.cells]) (by simp [Value.cells]) fun H7 f7 b7 n7=>?_
   have b7':Bx H7 H1.next 45 [.slice pa pn pc,.slice qa qn qc,.slice fa fn fc,.slice ta tn tc]:=b7
   have hn12:H1.next<H6.next:=b26.1
   have fxB:FrX B.bs B.gs Hq H7:=f7.sub (fun b hb=>by rw [←hB];simp [Av.old] at hb ⊢;omega) (by simp)
   have fxC:FrX C.bs C.gs Hq H7:=f7.sub (fun b hb=>by rw [←hC];simp [Av.old] at hb ⊢;omega) (by simp)
   have how7:=howpq.frX PhiR.m WPhiN.m fxB (ap1 hyp.1 hBlt.1) (ap1 hyp.2.1 hBlt.2)
   have how7q:=howq.frX InsR.m WIns.m fxC
   have hn1:H.next≤H1.next:=by omega
   have hn13:H1.next<H3.next:=by omega
   have wf7:=wfq.frX f7 (fun b hb=>by have:=wf6.young.1 b hb;simp;omega) (by simp)
   have wt7:=wtq.frX f7 (fun b hb=>by have:=wt6.young.1 b hb;simp;omega) (by simp)
   obtain ⟨osp,wp0,inp0,ndp⟩:=howp.wl PhiR.m WPhiN.m
   have inp:=inp0.mono (Nat.le_refl _) (show Hp.next≤H7.next by have:=f7.1;omega)
   have wp:=(wp0.frX WPhiN.m hfrq (fun p hp=>⟨by have:=inp0 p hp;simp;omega,by simp⟩)).frX WPhiN.m f7 (fun p hp=>⟨by have:=inp0 p hp;simp;omega,by simp⟩)
   obtain ⟨osc,wc,inc,ndc⟩:=how7q.wr InsR.m WIns.m
   obtain ⟨ost,wt,int_,ndt⟩:=wt6.wi
   have hsub6:∀ {Hx Hy:AH}{c:Nat},c<H4.next→FrX [c] [] Hx Hy→∀ p∈ost,p.1∉[c]∧p.2∉([]:List Nat):=fun hc _ p hp=>⟨by have:=int_ p hp;simp;omega,by simp⟩
   have wt7':=(wt.frX WN.m hf6q (hsub6 (by omega) hf6q)).frX WN.m f7 (hsub6 (by omega) f7)
   repeat first|refine wN ?_
   have hn07:H.next≤Hp.next:=f1p.1
   have hnq7:Hq.next≤H7.next:=f7.1
   refine WP.ret ⟨.inr rfl,_,resL_cell rfl (b7'.lN E_Block te_Block_agg te_Block_size) rfl,_,_,rfl,⟨_,_,_,_,rfl,(how7.elsY PhiR.m WPhiN.m hBlt).gr PhiR.m hBG,(how7q.els InsR.m WIns.m).gr InsR.m hCG,wf7.rYoung (Av.old_lt.mono (by omega)),wt7.rYoung (Av.old_lt.mono (by omega))⟩,⟨_,_,_,_,_,_,rfl,rfl,rfl,rfl,⟨_,rfl,rfl⟩,wp,wc,wt7'⟩,?_,?_,f1q.young f7 (by simp;omega) (by simp)⟩
   ·exact (int_.mono (by omega) (by omega)).app ((inp.mono (by omega) (Nat.le_refl _)).app (inc.mono (by omega) (Nat.le_refl _)))
   ·have inp6:osp.In H6.next Hp.next:=inp0
    exact ndt.app (ndp.app ndc inp6 inc) int_ ((inp6.mono (Nat.le_refl _) (by omega)).app (inc.mono (by omega) (Nat.le_refl _)))
end
end Go.Proofs.YtjiibfgopanbgaaGreatDoor.U
namespace Go.Mer
open Go.Ev
def graph (g:Graph):Graph:={ g with blocks:=g.blocks.map block }
def zero:Graph:=⟨⟨⟨[]⟩⟩,false,0,0,[]⟩
end Go.Mer
namespace Go.Proofs.YtjiibfgopanbgaaGreatDoor.U
open Go Go.Ev
section
attribute [local irreducible] WL WP WH W
structure SmallG (g:Graph):Prop where
 nb:g.blocks.length≤1000
 b:∀ b∈g.blocks,SmallB b
theorem SmallG.small {g:Graph} (h:SmallG g):Small g:=⟨by have:=h.nb;omega,fun b hb=>by have:=(h.b b hb).code;omega,fun b hb=>by have:=(h.b b hb).phis;omega,fun b hb=>by have:=(h.b b hb).frm;omega,fun b hb=>by have:=(h.b b hb).to;omega,fun b hb p hp=>by have:=(h.b b hb).pargs p hp;omega⟩
theorem SmallB.mer {b:Block} (h:SmallB b):SmallB (Mer.block b):=⟨by have:=(Mer.code_sub b.code).length_le;have:=h.code;simp only [Mer.block];omega,h.phis,h.frm,h.to,h.pargs,fun i hi=>h.cargs i ((Mer.code_sub b.code).subset hi)⟩
theorem SmallG.mer {g:Graph} (h:SmallG g):SmallG (Mer.graph g):=⟨by simp only [Mer.graph,List.length_map];exact h.nb,fun b hb=>by
 simp only [Mer.graph,List.mem_map] at hb
 obtain ⟨b',hb',rfl⟩:=hb
 exact (h.b b' hb').mer⟩
def okG (g:Graph):Bool:=Flo.may mi g&&Flo.may mi (Mer.graph g)
def outG (g:Graph):Graph:=bif okG g then Mer.graph g else Mer.zero
def errG (g:Graph):Int:=bif okG g then 0 else 4
theorem ops_mer {g:Graph}{p:Int→Prop} (h:∀ b∈g.blocks,∀ i∈b.code,p i.op):∀ b∈(Mer.graph g).blocks,∀ i∈b.code,p i.op:=fun b hb i hi=>by
 simp only [Mer.graph,List.mem_map] at hb
 obtain ⟨b',hb',rfl⟩:=hb
 exact h b' hb' i ((Mer.code_sub b'.code).subset hi)
end
section
attribute [local irreducible] WL WP WH W
theorem zero24:te_Graph.zv.cells.toList=[.string ⟨⟨[]⟩⟩,.bool false,.int .i64 0,.int .i64 0,.slice none 0 0]:=by kernel_rfl
theorem build24:aBuild V.E 24 []=some (.agg #[.string ⟨⟨[]⟩⟩,.bool false,.int .i64 0,.int .i64 0,.slice none 0 0]):=by kernel_rfl
theorem te_Block_bytes':te_Block.bytes=96:=by kernel_rfl
theorem fill34 {a0 a1 a2 a3:Value}:afill (fun i=>some (i*te_Block.size,te_Block.size)) (azeros te_Block.zv.cells.toList 1) [(0,.agg #[a0,a1,a2,a3])]=some [a0,a1,a2,a3]:=by kernel_rfl
attribute [local irreducible] V
variable {O:Orc}{H:AH}
abbrev WGR_:=WGrR 3 49 47 45
theorem zeroG_R0 {A:Av}{H:AH}:GraphR A H [.string ⟨⟨[]⟩⟩,.bool false,.int .i64 0,.int .i64 0,.slice none 0 0] Mer.zero:=⟨.slice none 0 0,rfl,.nil⟩
theorem zeroG_W {H:AH}:WGR_ H [.string ⟨⟨[]⟩⟩,.bool false,.int .i64 0,.int .i64 0,.slice none 0 0] Mer.zero []:=⟨.slice none 0 0,rfl,.inl ⟨rfl,rfl,_,_,rfl⟩⟩
set_option maxHeartbeats 4000000 in
theorem mofW_c (hO:NoO O) (hgh:GH H) (hg:GM H) {A:Av}{g:Graph}{cs:List Value} (hR:GraphR A H cs g) (hsm:SmallG g) (hop:∀ b∈g.blocks,∀ i∈b.code,0≤i.op∧i.op<256) :
 ∃ u H',Lc V O F_merge_Of [.agg cs.toArray] H u H'∧(∃ (cs':List Value) (os:Ev.Os),u=.tuple #[.agg cs'.toArray,.int .i64 (errG g)]∧GraphR (.old H.next) H' cs' (outG g)∧WGR_ H' cs' (outG g) os∧os.In H.next H'.next∧os.nd∧Fr H H'):=by
 have hR0:=hR
 obtain ⟨vb,rfl,hb⟩:=hR
 have hlb:=hsm.nb
 refine Lc.merge_Of (hO _ _ _ (by decide)) ?_
 unfold P_merge_Of
 apply zSeq
 apply zReg
 refine zBox rfl (fun _=>rfl) fun H1 f1 b1 n1=>?_
 have b1':Bx H1 H.next 24 (graphC g vb):=b1
 refine zAlc E_Graph zero24 fun H2 f2 b2 n2=>?_
 replace b1':=b1'.fr f2
 have f12:=f1.trans f2
 clear b1 f1 f2
 obtain ⟨_,H3,hc3,rfl,f3⟩:=may_c (H:=H2) hO (hgh.fr f12) (GraphR.m.fr hR0 f12) hsm.small hop
 have b13:=b1'.fr f3
 have b23:=b2.fr f3
 cases hm1:Flo.may mi g
 ·rw [hm1] at hc3
  repeat first|apply zSeq|apply zReg|refine wN ?_|refine wA ?_
  refine zLd rfl (b1'.lN E_Graph te_Graph_agg te_Graph_size) ?_
  refine WL.call rfl rfl fp_flow_May.is hc3 ?_
  repeat first|apply zSeq|apply zReg|refine wN ?_|refine wZ ?_|refine wt ?_
  refine WL.op (op_build rfl build24) ?_
  refine zStB b23 rfl rfl E_Graph (by rw [te_Graph_size];rfl) rfl (by simp [Value.cells]) (by simp [Value.cells]) fun H4 f4 b4 n4=>?_
  have b4':Bx H4 H1.next 24 [.string ⟨⟨[]⟩⟩,.bool false,.int .i64 0,.int .i64 0,.slice none 0 0]:=b4
  repeat first|refine wN ?_|refine wA ?_
  have ho:okG g=false:=by unfold okG;rw [hm1];rfl
  refine WP.ret ⟨.inr rfl,_,resL_cell rfl (b4'.lN E_Graph te_Graph_agg te_Graph_size) rfl,_,[],by rw [errG,ho];rfl,by rw [outG,ho];exact zeroG_R0,by rw [outG,ho];exact zeroG_W,.nil,.nil,(f12.trans f3).young f4 (by simp;omega) (by simp)⟩
 rw [hm1] at hc3
 have hop2:∀ b∈g.blocks,∀ i∈b.code,0≤i.op∧i.op<14:=fun b hb i hi=>by have:=Flo.may_op mi_op hm1 b hb i hi;omega
 repeat first|apply zSeq|apply zReg|refine wN ?_|refine wA ?_
 refine zLd rfl (b1'.lN E_Graph te_Graph_agg te_Graph_size) ?_
 refine WL.call rfl rfl fp_flow_May.is hc3 ?_
 repeat first|apply zSeq|apply zReg|apply zSkp|refine wN ?_|refine wZ ?_|refine wf ?_
 refine zLd rfl (b13.lN E_Graph te_Graph_agg te_Graph_size) ?_
 refine zAlc E_Graph zero24 fun H4 f4 b4 n4=>?_
 have hv1:Value.oneCell' vb=true:=hb.oneCell
 refine zStB b4 rfl rfl E_Graph (by rw [te_Graph_size];rfl) (by simp [Value.cells,Value.oneCell',graphC] at hv1 ⊢;exact hv1) (by simp [Value.cells,graphC]) (by simp [Value.cells,graphC]) fun H5 f5 b5 n5=>?_
 have b5':Bx H5 H3.next 24 (graphC g vb):=b5
 have f35:Fr H3 H5:=f4.young f5 (by simp) (by simp)
 have b15:=b13.fr f35
 have b25:=b23.fr f35
 repeat first|apply zSeq|apply zReg|refine wN ?_|refine wD O_Graph_Blocks ?_
 refine zStB b5' rfl rfl E_s_api_Block rfl rfl (by simp [Value.cells]) (by simp [Value.cells,graphC]) fun H6 f6 b6 n6=>?_
 have b6':Bx H6 H3.next 24 (graphC g (.slice none 0 0)):=b6
 have f36:Fr H3 H6:=f35.young f6 (by simp) (by simp)
 have b16:=b13.fr f36
 have b26:=b23.fr f36
 have f16:Fr H H6:=(f12.trans f3).trans f36
 have hn6:H3.next<H6.next:=b6'.1
 have hn23:=f3.1
 have hn02:=f12.1
 have hn3:H4.next=H3.next+1:=n4
 have hBG:∀ {n:Nat},(Av.old H4.next).Gr (.old H.next) n:=Av.old_gr (Av.old_lt.mono (by omega))
 generalize hB:Av.old H4.next=B at *
 have hBsub:∀ {Hx Hy:AH}{c:Nat},c≤H3.next→FrX [c] [] Hx Hy→FrX B.bs B.gs Hx Hy:=fun hc h=>h.sub (fun b hb=>by rw [←hB];simp [Av.old] at hb ⊢;omega) (by simp)
 have hBlt:B.Lt H6.next:=by
  rw [←hB];exact Av.old_lt.mono (by omega)
 clear b1' b2 b13 b23 b4 b5 b5' b15 b25 b6 f3 f4 f5 f6 f12 f35 hc3
 refine wN ?_
 refine WP.seqS (σ:=Value×Option (Nat×Nat)) (fun x=>[(2,.pointer (some ⟨H1.next,0,none⟩)),(4,.pointer (some ⟨H3.next,0,none⟩))]) (fun x Hc=>FrX [H3.next] [] H6 Hc∧Bx Hc H3.next 24 (graphC g x.1)∧Bd 45 4 BlockR WBR_ B Hc H6.next x.1 (g.blocks.map Mer.block) x.2) ?_ ?_
 ·have hbl:=hb
  repeat first|apply zSeq|apply zReg|apply zBlk|refine wN ?_|refine wM ?_|refine wD O_Graph_Blocks ?_|refine wB E_s_api_Block ?_|refine wK (hbl.len E_s_api_Block) ?_
  refine WP.loopH (σ:=Nat×Value×Option (Nat×Nat)) (fun x=>[(2,.pointer (some ⟨H1.next,0,none⟩)),(4,.pointer (some ⟨H3.next,0,none⟩)),(14,vb),(15,.int .i64 g.blocks.length),(16,.int .i64 x.1)]) (fun x Hc=>FrX [H3.next] [] H6 Hc∧Bx Hc H3.next 24 (graphC g x.2.1)∧Bd 45 4 BlockR WBR_ B Hc H6.next x.2.1 ((g.blocks.take x.1).map Mer.block) x.2.2∧x.1≤g.blocks.length) (fun x=>g.blocks.length-x.1) (0,.slice none 0 0,none) ⟨.refl _ _ _,b6',.nil,Nat.zero_le _⟩ ⟨rfl,rfl,rfl,rfl,rfl,trivial⟩ ?_
  rintro ⟨k,bv,o⟩ Hc ⟨hfr,hbx,how,hk⟩
  simp only at hfr hbx how hk ⊢
  rcases Nat.lt_or_ge k g.blocks.length with h|h
  case inr =>
   have g1:decide ((k:Int)<g.blocks.length)=false:=dF
   rw [List.take_of_length_le h] at how
   repeat first|apply zSeq|apply zReg|apply zExt|refine wN ?_|refine wL ?_|refine wE ?_
   exact ⟨(bv,o),⟨hfr,hbx,how⟩,rfl,rfl,trivial⟩
  have g1:decide ((k:Int)<g.blocks.length)=true:=dT
  have frH:Fr H Hc:=f16.young hfr (by simp;omega) (by simp)
  have hpc:Els 4 BlockR A Hc vb g.blocks:=hb.fr BlockR.m frH
  obtain ⟨bb,off,cs,ha1,hrd,hR⟩:=hpc.at E_s_api_Block E_Block te_Block_size (kd:=.i64) h
  have hl1:=hrd.loadN (V:=V) E_Block te_Block_agg te_Block_size
  have hsb:=hsm.b g.blocks[k] (List.getElem_mem _)
  have hopb:=hop2 g.blocks[k] (List.getElem_mem _)
  generalize hb0:g.blocks[k]=x at *
  have hone:=(BlockR.one hR).1
  have hlen:=(BlockR.one hR).2
  repeat first|apply zSeq|apply zReg|apply zBlk|apply zSkp|refine wN ?_|refine wL ?_|refine wT ?_|refine zIdx rfl rfl ha1 ?_|refine zLd rfl hl1 ?_
  refine zAlc E_Block elBlk0 fun H7 f7 b7 n7=>?_
  refine zStB b7 rfl rfl E_Block (by rw [te_Block_size];simpa [Value.cells] using hlen) (by simpa [Value.cells] using hone) (by intro e;simp [Value.cells] at e;rw [e] at hlen;simp at hlen) (by simp [Value.cells,hlen]) fun H8 f8 b8 n8=>?_
  have b8':Bx H8 Hc.next 45 cs:=by
   have e:splice (List.replicate 4 (Value.slice none 0 0)) 0 (Value.agg cs.toArray).cells.toList=cs:=by
    unfold splice;simp [Value.cells,hlen]
   rw [←e];exact b8
  have f78:Fr Hc H8:=f7.young f8 (by simp) (by simp)
  have hbx8:=hbx.fr f78
  have how8:=how.fr BlockR.m WBlkR.m f78
  obtain ⟨_,H9,hc9,cs',os9,rfl,hR9,wb9,in9,nd9,f9⟩:=mblockW_c (H:=H8) hO (BlockR.m.fr hR f78) hsb (hg.fr (frH.trans f78)) hopb
  have hbx9:=hbx8.fr f9
  have hn8:=f78.1
  have hn9:=f9.1
  have hn6c:=hfr.1
  have hyo:=how8.young
  obtain ⟨bv',H10,o',k1,k2,k3,k4⟩:=how8.app1 (V:=V) (x:=Mer.block x) (cx:=cs') BlockR.m WBlkR.m f9 (hBlt.mono (by omega)) (BlockR.m.gr (Av.old_gr ((hBlt.mono (by omega)).and ⟨hyo.2.2.1,hyo.2.2.2⟩)) hR9) wb9 in9 nd9 BlockR.one (by decide) (bytes:=96) (by rw [List.length_map,List.length_take];omega) (by rw [List.length_map,List.length_take];omega) (by omega) E_s_api_Block E_s_api_Block E_Block te_Block_size te_Block_bytes'
  have hfill:afill (fun i=>some (i*te_Block.size,te_Block.size)) (azeros te_Block.zv.cells.toList 1) [(0,.agg cs'.toArray)]=some cs':=by
   obtain ⟨vp,vc,vf,vt,rfl,_⟩:=hR9
   exact fill34
  refine wN ?_
  refine WP.rega ?_
  refine yFld rfl O_Graph_Blocks ?_
  refine yLd rfl (hbx8.ld (off:=4) rfl E_s_api_Block rfl) ?_
  refine yLd rfl (b8'.ldN E_Block te_Block_agg (by rw [te_Block_size];exact hlen.symm)) ?_
  refine WH.call rfl rfl fp_merge_block.is hc9 ?_
  refine WH.op (op_buildSlice rfl E_s_api_Block E_Block (by rw [te_Block_size];decide) hfill) ?_
  refine WH.op (k1 rfl rfl) ?_
  have hyc:=how.young
  have hbx10:=hbx9.frX k3 (fun hb=>by have:=hyc.1 _ hb;omega)
  obtain ⟨h1v,h2v⟩:=k2.oneCell
  refine yFld rfl O_Graph_Blocks ?_
  refine yStB hbx10 rfl rfl E_s_api_Block (by rw [←Array.length_toList,h2v];rfl) (by rw [h2v];simp [h1v]) (by rw [h2v];simp) (by rw [h2v];simp [graphC]) fun H11 f11 b11 n11=>?_
  rw [h2v] at b11
  have b11':Bx H11 H3.next 24 (graphC g bv'):=b11
  refine WH.nil ⟨?_,_,rfl,?_⟩
  ·intro y hy
   rw [List.mem_singleton] at hy
   subst hy
   obtain ⟨q1,q2,q3,rfl⟩:=how.isSl
   exact .inr ⟨rfl,_,_,_,rfl,rfl,op_load rfl ((hbx9.fr (.alloc _ _)).ld (off:=4) rfl E_s_api_Block rfl),sameV_sl⟩
  repeat first|apply zReg|refine wN ?_|refine wS ?_
  have hfin:FrX [H3.next] [] H6 H11:=((hfr.trans ((f78.trans f9).x [] []) (by simp) (by simp)).trans k3 (fun b hb hlt=>absurd (hyc.1 b hb) (by omega)) (fun b hb hlt=>absurd (hyc.2.1 b hb) (by omega))).trans f11 (fun b hb _=>hb) (by simp)
  exact ⟨(k+1,bv',o'),⟨hfin,b11',by rw [List.take_succ_eq_append_getElem h,hb0,List.map_append];exact k2.frX BlockR.m WBlkR.m (hBsub (by omega) f11) (ap1 k2.young.1 hBlt.1) (ap1 k2.young.2.1 hBlt.2),h⟩,by simp only;omega,rfl,rfl,rfl,rfl,rfl,trivial⟩
 ·rintro ⟨bv,o⟩ Hp ⟨hfrp,hbxp,howp⟩
  simp only at hfrp hbxp howp ⊢
  have f1p:Fr H Hp:=f16.young hfrp (by simp;omega) (by simp)
  have b2p:=b26.frX hfrp (by simp;omega)
  have hRp:GraphR B Hp (graphC g bv) (Mer.graph g):=⟨bv,rfl,howp.elsY BlockR.m WBlkR.m hBlt⟩
  obtain ⟨_,Hq,hcq,rfl,fq⟩:=may_c (H:=Hp) hO (hgh.fr f1p) hRp hsm.mer.small (ops_mer (p:=fun x=>0≤x∧x<256) hop)
  have b2q:=b2p.fr fq
  have hbxq:=hbxp.fr fq
  cases hm2:Flo.may mi (Mer.graph g)
  ·rw [hm2] at hcq
   repeat first|apply zSeq|apply zReg
   refine zLd rfl (hbxp.lN E_Graph te_Graph_agg te_Graph_size) ?_
   refine WL.call rfl rfl fp_flow_May.is hcq ?_
   repeat first|apply zSeq|apply zReg|refine wN ?_|refine wZ ?_|refine wt ?_
   refine WL.op (op_build rfl build24) ?_
   refine zStB b2q rfl rfl E_Graph (by rw [te_Graph_size];rfl) rfl (by simp [Value.cells]) (by simp [Value.cells]) fun H7 f7 b7 n7=>?_
   have b7':Bx H7 H1.next 24 [.string ⟨⟨[]⟩⟩,.bool false,.int .i64 0,.int .i64 0,.slice none 0 0]:=b7
   repeat first|refine wN ?_|refine wA ?_
   have ho:okG g=false:=by unfold okG;rw [hm1,hm2];rfl
   refine WP.ret ⟨.inr rfl,_,resL_cell rfl (b7'.lN E_Graph te_Graph_agg te_Graph_size) rfl,_,[],by rw [errG,ho];rfl,by rw [outG,ho];exact zeroG_R0,by rw [outG,ho];exact zeroG_W,.nil,.nil,(f1p.trans fq).young f7 (by simp;omega) (by simp)⟩
  ·rw [hm2] at hcq
   repeat first|apply zSeq|apply zReg
   refine zLd rfl (hbxp.lN E_Graph te_Graph_agg te_Graph_size) ?_
   refine WL.call rfl rfl fp_flow_May.is hcq ?_
   repeat first|apply zSeq|apply zReg|apply zSkp|refine wN ?_|refine wZ ?_|refine wf ?_
   refine zLd rfl (hbxq.lN E_Graph te_Graph_agg te_Graph_size) ?_
   have hv1:=howp.oneCell.1
   refine zStB b2q rfl rfl E_Graph (by rw [te_Graph_size];rfl) (by simp [Value.cells,Value.oneCell',graphC] at hv1 ⊢;exact hv1) (by simp [Value.cells,graphC]) (by simp [Value.cells,graphC]) fun H7 f7 b7 n7=>?_
   have b7':Bx H7 H1.next 24 (graphC g bv):=b7
   repeat first|refine wN ?_|refine wA ?_
   have ho:okG g=true:=by unfold okG;rw [hm1,hm2];rfl
   have how7:=(howp.fr BlockR.m WBlkR.m fq).frX BlockR.m WBlkR.m (hBsub (by omega) f7) (ap1 howp.young.1 hBlt.1) (ap1 howp.young.2.1 hBlt.2)
   obtain ⟨os,wl7,in7,nd7⟩:=how7.wl BlockR.m WBlkR.m
   have hn06:H.next≤H6.next:=f16.1
   refine WP.ret ⟨.inr rfl,_,resL_cell rfl (b7'.lN E_Graph te_Graph_agg te_Graph_size) rfl,_,os,by rw [errG,ho];rfl,by rw [outG,ho];exact ⟨bv,rfl,(how7.elsY BlockR.m WBlkR.m hBlt).gr BlockR.m hBG⟩,by rw [outG,ho];exact ⟨bv,rfl,wl7⟩,in7.mono hn06 (Nat.le_refl _),nd7,(f1p.trans fq).young f7 (by simp;omega) (by simp)⟩
end
section
attribute [local irreducible] WL WP WH W
attribute [local irreducible] V
variable {O:Orc}{H:AH}
theorem indexFunc_mem_c (hO:NoO O) {A:Av}{v:Value}{l:List Ev.Mem} (hv:Els 3 MemR A H v l) (hL:l.length≤1000000) {f:FuncId}{cap:Array Value}{p:Ev.Mem→Bool} (hf:(V.F f).isSome=true) (hp:∀ x∈l,∀ cs H1,Fr H H1→MemR A H1 cs x→∃ H2,Lc V O f ([.agg cs.toArray]++cap.toList) H1 (.bool (p x)) H2∧Fr H1 H2) :
 ∃ H',Lc V O F_slices_IndexFunc_s_api_Mem_api_Mem [v,.func (.func f) #[] cap] H (.int .i64 (idxI p l)) H'∧Fr H H':=by
 have key:∃ u H',Lc V O F_slices_IndexFunc_s_api_Mem_api_Mem [v,.func (.func f) #[] cap] H u H'∧(u=.int .i64 (idxI p l)∧Fr H H'):=by
  refine Lc.slices_IndexFunc_s_api_Mem_api_Mem (hO _ _ _ (by decide)) ?_
  unfold P_slices_IndexFunc_s_api_Mem_api_Mem
  repeat first|apply zSeq|apply zReg|apply zBlk|refine wN ?_|refine wG ?_|refine wM ?_|refine wA ?_|refine wK (hv.len E_s_api_Mem) ?_
  refine WP.loopH (σ:=Nat) (fun i=>[(0,v),(1,.func (.func f) #[] cap),(7,.int .i64 l.length),(8,.int .i64 i)]) (fun i H'=>Fr H H'∧i≤l.length∧∀ j (h:j<l.length),j<i→p l[j]=false) (fun i=>l.length-i) 0 ⟨.refl _,by simp,fun j _ h=>absurd h (by omega)⟩ ⟨rfl,rfl,rfl,rfl,trivial⟩ ?_
  rintro i H1 ⟨hfr,hi,hn⟩
  rcases Nat.lt_or_ge i l.length with h|h
  ·have hd:decide ((i:Int)<l.length)=true:=dT
   obtain ⟨b,off,cs,ha1,hrd,hR⟩:=(hv.fr MemR.m hfr).at E_s_api_Mem E_Mem te_Mem_size (kd:=.i64) h
   have hl1:=hrd.loadN (V:=V) E_Mem te_Mem_agg te_Mem_size
   obtain ⟨H2,hc,hf2⟩:=hp l[i] (List.getElem_mem _) cs H1 hfr hR
   repeat first|apply zSeq|apply zReg|apply zBlk|apply zSkp|refine wN ?_|refine wG ?_|refine wL ?_|refine wT ?_|refine wI ?_|refine wY ?_
   refine WL.call rfl rfl hf hc ?_
   cases he:p l[i]
   ·repeat first|apply zReg|apply zSkp|refine wN ?_|refine wS ?_|refine wf ?_
    refine ⟨i+1,⟨hfr.trans hf2,by omega,fun j hj hji=>?_⟩,by omega,rfl,rfl,rfl,rfl,trivial⟩
    by_cases e:j=i
    ·subst e;exact he
    ·exact hn j hj (by omega)
   ·repeat first|apply zSeq|apply zReg|refine wN ?_|refine wG ?_|refine wt ?_
    refine WP.ret ⟨.inr rfl,_,rfl,?_,hfr.trans hf2⟩
    rw [idxI_some h he fun j hj=>hn j (by omega) hj];rfl
  ·have hd:decide ((i:Int)<l.length)=false:=dF
   repeat first|apply zSeq|apply zReg|apply zExt|refine wN ?_|refine wA ?_|refine wL ?_|refine wE ?_
   refine WP.ret ⟨.inr rfl,_,rfl,?_,hfr⟩
   rw [idxI_none fun j hj=>hn j hj (by omega)];rfl
 obtain ⟨u,H',h,rfl,hk⟩:=key
 exact ⟨H',h,hk⟩
theorem containsFunc_mem_c (hO:NoO O) {A:Av}{v:Value}{l:List Ev.Mem} (hv:Els 3 MemR A H v l) (hL:l.length≤1000000) {f:FuncId}{cap:Array Value}{p:Ev.Mem→Bool} (hf:(V.F f).isSome=true) (hp:∀ x∈l,∀ cs H1,Fr H H1→MemR A H1 cs x→∃ H2,Lc V O f ([.agg cs.toArray]++cap.toList) H1 (.bool (p x)) H2∧Fr H1 H2) :
  ∃ H',Lc V O F_slices_ContainsFunc_s_api_Mem_api_Mem [v,.func (.func f) #[] cap] H (.bool (l.any p)) H'∧Fr H H':=by
 have key:∃ u H',Lc V O F_slices_ContainsFunc_s_api_Mem_api_Mem [v,.func (.func f) #[] cap] H u H'∧(u=.bool (l.any p)∧Fr H H'):=by
  refine Lc.slices_ContainsFunc_s_api_Mem_api_Mem (hO _ _ _ (by decide)) ?_
  unfold P_slices_ContainsFunc_s_api_Mem_api_Mem
  obtain ⟨H1,hc,f1⟩:=indexFunc_mem_c (p:=p) hO hv hL hf hp
  repeat first|apply zSeq|apply zReg|refine wN ?_|refine wG ?_|refine wA ?_
  refine WL.call rfl rfl fp_slices_IndexFunc_s_api_Mem_api_Mem.is hc ?_
  repeat first|refine wN ?_|refine wW ?_
  refine WP.ret ⟨.inr rfl,_,rfl,?_,f1⟩
  rw [←idxI_any];rfl
 obtain ⟨u,H',h,rfl,hk⟩:=key
 exact ⟨H',h,hk⟩
theorem indexFunc_fun_c (hO:NoO O) {A:Av}{v:Value}{l:List Ev.Fun} (hv:Els 5 FunR A H v l) (hL:l.length≤1000000) {f:FuncId}{cap:Array Value}{p:Ev.Fun→Bool} (hf:(V.F f).isSome=true) (hp:∀ x∈l,∀ cs H1,Fr H H1→FunR A H1 cs x→∃ H2,Lc V O f ([.agg cs.toArray]++cap.toList) H1 (.bool (p x)) H2∧Fr H1 H2) :
 ∃ H',Lc V O F_slices_IndexFunc_s_api_Fun_api_Fun [v,.func (.func f) #[] cap] H (.int .i64 (idxI p l)) H'∧Fr H H':=by
 have key:∃ u H',Lc V O F_slices_IndexFunc_s_api_Fun_api_Fun [v,.func (.func f) #[] cap] H u H'∧(u=.int .i64 (idxI p l)∧Fr H H'):=by
  refine Lc.slices_IndexFunc_s_api_Fun_api_Fun (hO _ _ _ (by decide)) ?_
  unfold P_slices_IndexFunc_s_api_Fun_api_Fun
  repeat first|apply zSeq|apply zReg|apply zBlk|refine wN ?_|refine wG ?_|refine wM ?_|refine wA ?_|refine wK (hv.len E_s_api_Fun) ?_
  refine WP.loopH (σ:=Nat) (fun i=>[(0,v),(1,.func (.func f) #[] cap),(7,.int .i64 l.length),(8,.int .i64 i)]) (fun i H'=>Fr H H'∧i≤l.length∧∀ j (h:j<l.length),j<i→p l[j]=false) (fun i=>l.length-i) 0 ⟨.refl _,by simp,fun j _ h=>absurd h (by omega)⟩ ⟨rfl,rfl,rfl,rfl,trivial⟩ ?_
  rintro i H1 ⟨hfr,hi,hn⟩
  rcases Nat.lt_or_ge i l.length with h|h
  ·have hd:decide ((i:Int)<l.length)=true:=dT
   obtain ⟨b,off,cs,ha1,hrd,hR⟩:=(hv.fr FunR.m hfr).at E_s_api_Fun E_Fun te_Fun_size (kd:=.i64) h
   have hl1:=hrd.loadN (V:=V) E_Fun te_Fun_agg te_Fun_size
   obtain ⟨H2,hc,hf2⟩:=hp l[i] (List.getElem_mem _) cs H1 hfr hR
   repeat first|apply zSeq|apply zReg|apply zBlk|apply zSkp|refine wN ?_|refine wG ?_|refine wL ?_|refine wT ?_|refine wI ?_|refine wY ?_
   refine WL.call rfl rfl hf hc ?_
   cases he:p l[i]
   ·repeat first|apply zReg|apply zSkp|refine wN ?_|refine wS ?_|refine wf ?_
    refine ⟨i+1,⟨hfr.trans hf2,by omega,fun j hj hji=>?_⟩,by omega,rfl,rfl,rfl,rfl,trivial⟩
    by_cases e:j=i
    ·subst e;exact he
    ·exact hn j hj (by omega)
   ·repeat first|apply zSeq|apply zReg|refine wN ?_|refine wG ?_|refine wt ?_
    refine WP.ret ⟨.inr rfl,_,rfl,?_,hfr.trans hf2⟩
    rw [idxI_some h he fun j hj=>hn j (by omega) hj];rfl
  ·have hd:decide ((i:Int)<l.length)=false:=dF
   repeat first|apply zSeq|apply zReg|apply zExt|refine wN ?_|refine wA ?_|refine wL ?_|refine wE ?_
   refine WP.ret ⟨.inr rfl,_,rfl,?_,hfr⟩
   rw [idxI_none fun j hj=>hn j hj (by omega)];rfl
 obtain ⟨u,H',h,rfl,hk⟩:=key
 exact ⟨H',h,hk⟩
theorem containsFunc_fun_c (hO:NoO O) {A:Av}{v:Value}{l:List Ev.Fun} (hv:Els 5 FunR A H v l) (hL:l.length≤1000000) {f:FuncId}{cap:Array Value}{p:Ev.Fun→Bool} (hf:(V.F f).isSome=true) (hp:∀ x∈l,∀ cs H1,Fr H H1→FunR A H1 cs x→∃ H2,Lc V O f ([.agg cs.toArray]++cap.toList) H1 (.bool (p x)) H2∧Fr H1 H2) :
  ∃ H',Lc V O F_slices_ContainsFunc_s_api_Fun_api_Fun [v,.func (.func f) #[] cap] H (.bool (l.any p)) H'∧Fr H H':=by
 have key:∃ u H',Lc V O F_slices_ContainsFunc_s_api_Fun_api_Fun [v,.func (.func f) #[] cap] H u H'∧(u=.bool (l.any p)∧Fr H H'):=by
  refine Lc.slices_ContainsFunc_s_api_Fun_api_Fun (hO _ _ _ (by decide)) ?_
  unfold P_slices_ContainsFunc_s_api_Fun_api_Fun
  obtain ⟨H1,hc,f1⟩:=indexFunc_fun_c (p:=p) hO hv hL hf hp
  repeat first|apply zSeq|apply zReg|refine wN ?_|refine wG ?_|refine wA ?_
  refine WL.call rfl rfl fp_slices_IndexFunc_s_api_Fun_api_Fun.is hc ?_
  repeat first|refine wN ?_|refine wW ?_
  refine WP.ret ⟨.inr rfl,_,rfl,?_,f1⟩
  rw [←idxI_any];rfl
 obtain ⟨u,H',h,rfl,hk⟩:=key
 exact ⟨H',h,hk⟩
theorem indexFunc_ins_c (hO:NoO O) {A:Av}{v:Value}{l:List Ev.Ins} (hv:Els 6 InsR A H v l) (hL:l.length≤1000000) {f:FuncId}{cap:Array Value}{p:Ev.Ins→Bool} (hf:(V.F f).isSome=true) (hp:∀ x∈l,∀ cs H1,Fr H H1→InsR A H1 cs x→∃ H2,Lc V O f ([.agg cs.toArray]++cap.toList) H1 (.bool (p x)) H2∧Fr H1 H2) :
 ∃ H',Lc V O F_slices_IndexFunc_s_api_Ins_api_Ins [v,.func (.func f) #[] cap] H (.int .i64 (idxI p l)) H'∧Fr H H':=by
 have key:∃ u H',Lc V O F_slices_IndexFunc_s_api_Ins_api_Ins [v,.func (.func f) #[] cap] H u H'∧(u=.int .i64 (idxI p l)∧Fr H H'):=by
  refine Lc.slices_IndexFunc_s_api_Ins_api_Ins (hO _ _ _ (by decide)) ?_
  unfold P_slices_IndexFunc_s_api_Ins_api_Ins
  repeat first|apply zSeq|apply zReg|apply zBlk|refine wN ?_|refine wG ?_|refine wM ?_|refine wA ?_|refine wK (hv.len E_s_api_Ins) ?_
  refine WP.loopH (σ:=Nat) (fun i=>[(0,v),(1,.func (.func f) #[] cap),(7,.int .i64 l.length),(8,.int .i64 i)]) (fun i H'=>Fr H H'∧i≤l.length∧∀ j (h:j<l.length),j<i→p l[j]=false) (fun i=>l.length-i) 0 ⟨.refl _,by simp,fun j _ h=>absurd h (by omega)⟩ ⟨rfl,rfl,rfl,rfl,trivial⟩ ?_
  rintro i H1 ⟨hfr,hi,hn⟩
  rcases Nat.lt_or_ge i l.length with h|h
  ·have hd:decide ((i:Int)<l.length)=true:=dT
   obtain ⟨b,off,cs,ha1,hrd,hR⟩:=(hv.fr InsR.m hfr).at E_s_api_Ins E_Ins te_Ins_size (kd:=.i64) h
   have hl1:=hrd.loadN (V:=V) E_Ins te_Ins_agg te_Ins_size
   obtain ⟨H2,hc,hf2⟩:=hp l[i] (List.getElem_mem _) cs H1 hfr hR
   repeat first|apply zSeq|apply zReg|apply zBlk|apply zSkp|refine wN ?_|refine wG ?_|refine wL ?_|refine wT ?_|refine wI ?_|refine wY ?_
   refine WL.call rfl rfl hf hc ?_
   cases he:p l[i]
   ·repeat first|apply zReg|apply zSkp|refine wN ?_|refine wS ?_|refine wf ?_
    refine ⟨i+1,⟨hfr.trans hf2,by omega,fun j hj hji=>?_⟩,by omega,rfl,rfl,rfl,rfl,trivial⟩
    by_cases e:j=i
    ·subst e;exact he
    ·exact hn j hj (by omega)
   ·repeat first|apply zSeq|apply zReg|refine wN ?_|refine wG ?_|refine wt ?_
    refine WP.ret ⟨.inr rfl,_,rfl,?_,hfr.trans hf2⟩
    rw [idxI_some h he fun j hj=>hn j (by omega) hj];rfl
  ·have hd:decide ((i:Int)<l.length)=false:=dF
   repeat first|apply zSeq|apply zReg|apply zExt|refine wN ?_|refine wA ?_|refine wL ?_|refine wE ?_
   refine WP.ret ⟨.inr rfl,_,rfl,?_,hfr⟩
   rw [idxI_none fun j hj=>hn j hj (by omega)];rfl
 obtain ⟨u,H',h,rfl,hk⟩:=key
 exact ⟨H',h,hk⟩
theorem containsFunc_ins_c (hO:NoO O) {A:Av}{v:Value}{l:List Ev.Ins} (hv:Els 6 InsR A H v l) (hL:l.length≤1000000) {f:FuncId}{cap:Array Value}{p:Ev.Ins→Bool} (hf:(V.F f).isSome=true) (hp:∀ x∈l,∀ cs H1,Fr H H1→InsR A H1 cs x→∃ H2,Lc V O f ([.agg cs.toArray]++cap.toList) H1 (.bool (p x)) H2∧Fr H1 H2) :
  ∃ H',Lc V O F_slices_ContainsFunc_s_api_Ins_api_Ins [v,.func (.func f) #[] cap] H (.bool (l.any p)) H'∧Fr H H':=by
 have key:∃ u H',Lc V O F_slices_ContainsFunc_s_api_Ins_api_Ins [v,.func (.func f) #[] cap] H u H'∧(u=.bool (l.any p)∧Fr H H'):=by
  refine Lc.slices_ContainsFunc_s_api_Ins_api_Ins (hO _ _ _ (by decide)) ?_
  unfold P_slices_ContainsFunc_s_api_Ins_api_Ins
  obtain ⟨H1,hc,f1⟩:=indexFunc_ins_c (p:=p) hO hv hL hf hp
  repeat first|apply zSeq|apply zReg|refine wN ?_|refine wG ?_|refine wA ?_
  refine WL.call rfl rfl fp_slices_IndexFunc_s_api_Ins_api_Ins.is hc ?_
  repeat first|refine wN ?_|refine wW ?_
  refine WP.ret ⟨.inr rfl,_,rfl,?_,f1⟩
  rw [←idxI_any];rfl
 obtain ⟨u,H',h,rfl,hk⟩:=key
 exact ⟨H',h,hk⟩
theorem indexFunc_str_c (hO:NoO O) {A:Av}{v:Value}{l:List ByteArray} (hv:Els 1 StrR A H v l) (hL:l.length≤1000000) {f:FuncId}{cap:Array Value}{p:ByteArray→Bool} (hf:(V.F f).isSome=true) (hp:∀ x∈l,∀ H1,Fr H H1→∃ H2,Lc V O f ([.string x]++cap.toList) H1 (.bool (p x)) H2∧Fr H1 H2) :
 ∃ H',Lc V O F_slices_IndexFunc_s_string_string [v,.func (.func f) #[] cap] H (.int .i64 (idxI p l)) H'∧Fr H H':=by
 have key:∃ u H',Lc V O F_slices_IndexFunc_s_string_string [v,.func (.func f) #[] cap] H u H'∧(u=.int .i64 (idxI p l)∧Fr H H'):=by
  refine Lc.slices_IndexFunc_s_string_string (hO _ _ _ (by decide)) ?_
  unfold P_slices_IndexFunc_s_string_string
  repeat first|apply zSeq|apply zReg|apply zBlk|refine wN ?_|refine wG ?_|refine wM ?_|refine wA ?_|refine wK (hv.len E_s_string) ?_
  refine WP.loopH (σ:=Nat) (fun i=>[(0,v),(1,.func (.func f) #[] cap),(7,.int .i64 l.length),(8,.int .i64 i)]) (fun i H'=>Fr H H'∧i≤l.length∧∀ j (h:j<l.length),j<i→p l[j]=false) (fun i=>l.length-i) 0 ⟨.refl _,by simp,fun j _ h=>absurd h (by omega)⟩ ⟨rfl,rfl,rfl,rfl,trivial⟩ ?_
  rintro i H1 ⟨hfr,hi,hn⟩
  rcases Nat.lt_or_ge i l.length with h|h
  ·have hd:decide ((i:Int)<l.length)=true:=dT
   obtain ⟨b,off,cs,ha1,hrd,hR⟩:=(hv.fr StrR.m hfr).at E_s_string E_string rfl (kd:=.i64) h
   have hR:cs=[.string l[i]]:=hR
   subst hR
   have hl1:=hrd.load1 (V:=V) E_string rfl
   obtain ⟨H2,hc,hf2⟩:=hp l[i] (List.getElem_mem _) H1 hfr
   repeat first|apply zSeq|apply zReg|apply zBlk|apply zSkp|refine wN ?_|refine wG ?_|refine wL ?_|refine wT ?_|refine wI ?_|refine wY ?_
   refine WL.call rfl rfl hf hc ?_
   cases he:p l[i]
   ·repeat first|apply zReg|apply zSkp|refine wN ?_|refine wS ?_|refine wf ?_
    refine ⟨i+1,⟨hfr.trans hf2,by omega,fun j hj hji=>?_⟩,by omega,rfl,rfl,rfl,rfl,trivial⟩
    by_cases e:j=i
    ·subst e;exact he
    ·exact hn j hj (by omega)
   ·repeat first|apply zSeq|apply zReg|refine wN ?_|refine wG ?_|refine wt ?_
    refine WP.ret ⟨.inr rfl,_,rfl,?_,hfr.trans hf2⟩
    rw [idxI_some h he fun j hj=>hn j (by omega) hj];rfl
  ·have hd:decide ((i:Int)<l.length)=false:=dF
   repeat first|apply zSeq|apply zReg|apply zExt|refine wN ?_|refine wA ?_|refine wL ?_|refine wE ?_
   refine WP.ret ⟨.inr rfl,_,rfl,?_,hfr⟩
   rw [idxI_none fun j hj=>hn j hj (by omega)];rfl
 obtain ⟨u,H',h,rfl,hk⟩:=key
 exact ⟨H',h,hk⟩
theorem containsFunc_str_c (hO:NoO O) {A:Av}{v:Value}{l:List ByteArray} (hv:Els 1 StrR A H v l) (hL:l.length≤1000000) {f:FuncId}{cap:Array Value}{p:ByteArray→Bool} (hf:(V.F f).isSome=true) (hp:∀ x∈l,∀ H1,Fr H H1→∃ H2,Lc V O f ([.string x]++cap.toList) H1 (.bool (p x)) H2∧Fr H1 H2) :
  ∃ H',Lc V O F_slices_ContainsFunc_s_string_string [v,.func (.func f) #[] cap] H (.bool (l.any p)) H'∧Fr H H':=by
 have key:∃ u H',Lc V O F_slices_ContainsFunc_s_string_string [v,.func (.func f) #[] cap] H u H'∧(u=.bool (l.any p)∧Fr H H'):=by
  refine Lc.slices_ContainsFunc_s_string_string (hO _ _ _ (by decide)) ?_
  unfold P_slices_ContainsFunc_s_string_string
  obtain ⟨H1,hc,f1⟩:=indexFunc_str_c (p:=p) hO hv hL hf hp
  repeat first|apply zSeq|apply zReg|refine wN ?_|refine wG ?_|refine wA ?_
  refine WL.call rfl rfl fp_slices_IndexFunc_s_string_string.is hc ?_
  repeat first|refine wN ?_|refine wW ?_
  refine WP.ret ⟨.inr rfl,_,rfl,?_,f1⟩
  rw [←idxI_any];rfl
 obtain ⟨u,H',h,rfl,hk⟩:=key
 exact ⟨H',h,hk⟩
end
section
open Go.Ev.Sh
abbrev F_ref11_May:FuncId:=17
def P_ref11_May:PC :=
.seq (.reg [r (.box 24 g0),r (.assign kF)] [(2,0),(1,1)]) (.seq (.reg [r (fa 24 g1 4),r (ld 22 t0),r (ln t0 22)] [(3,0)]) (.seq (.seq (.reg [r (fa 24 g1 2),r (ld 3 t0),r (bo .lss 3 t0 (k 0) 3),rF 0 (fa 24 g1 2),rF 1 (ld 3 t0),rF 2 (bo .gtr 3 t0 (k 8) 3),r (pk t3 kT t0),rF 0 (fa 24 g1 1),rF 1 (ld 4 t0),rF 2 (.move t0),rT 0 (fa 24 g1 2),rT 1 (ld 3 t0),rT 2 (bo .neq 3 t0 (k 0) 3),rF 6 (pk t3 t0 kF),r (pk t7 kT t0),rF 0 (fa 24 g1 3),rF 1 (ld 3 t0),rF 2 (fa 24 g1 2),rF 3 (ld 3 t0),rF 4 (bo .lss 3 t2 t0 3),r (pk t5 kT t0),rF 0 (fa 24 g1 3),rF 1 (ld 3 t0),rF 2 (bo .gtr 3 t0 (k 65536) 3),r (pk t3 kT t0),rF 0 (.move g3),rF 1 (bo .lss 3 t0 (k 1) 3),r (pk t2 kT t0),rF 0 (.move g3),rF 1 (bo .gtr 3 t0 (k 32768) 3),r (pk t2 kT t0)] [(47,0)]) (.cond t47 (.seq (.reg [r (.assign kF)] [(2,0)]) (.ret)) (.skip))) (.seq (.seq (.reg [r (.assign (k 0))] [(4,
 0)]) (.block 0 (.loop (.seq (.seq (.reg [.get 4,.get 3,r (bo .lss 3 t1 t0 3)] [(50,0)]) (.cond t50 (.skip) (.exit 0))) (.seq (.block 1 (.seq (.reg [r (fa 24 g1 4),r (ld 22 t0),.get 4,r (fa 24 g1 3),r (ld 3 t0),r (cf 35 #[t3,t2,t0] #[22,3,3]),r (.unOp .not 4 t0)] [(59,0)]) (.cond t59 (.seq (.reg [r (.assign kF)] [(2,0)]) (.ret)) (.skip)))) (.reg [.get 4,r (bo .add 3 t0 (k 1) 3)] [(4,0)])))))) (.seq (.seq (.reg [r (fa 24 g1 4),r (ld 22 t0),r (ia 22 t0 (k 0)),r (fa 45 t0 2),r (ld 43 t0),r (ln t0 43),r (bo .gtr 3 t0 (k 0) 3)] [(66,0)]) (.cond t66 (.seq (.reg [r (.assign kF)] [(2,0)]) (.ret)) (.skip))) (.seq (.seq (.reg [r (.assign (k 0))] [(5,0)]) (.block 2 (.loop (.seq (.seq (.reg [.get 5,.get 3,r (bo .lss 3 t1 t0 3)] [(69,0)]) (.cond t69 (.skip) (.exit 2))) (.seq (.block 3 (.seq (.seq (.rega [r (fa 24 g1 4),r (ld 22 t0),.get 5,r (ia 22 t1 t0),r (fa 45 t0 2),r (ld 43 t0),
 r (fa 24 g1 4),r (ld 22 t0),.get 5,r (cf 37 #[t1,t0] #[22,3]),r (cf 36 #[t4,t0] #[43,43]),r (.unOp .not 4 t0)] [(83,0)] 12 [⟨.load 22 t11,none,1,10⟩,⟨.load 43 t7,none,5,10⟩]) (.cond t83 (.seq (.reg [r (.assign kF)] [(2,0)]) (.ret)) (.skip))) (.seq (.reg [.get 5] [(6,0)]) (.seq (.reg [r (.assign (k 0))] [(7,0)]) (.block 4 (.loop (.seq (.seq (.reg [.get 7,.get 3,r (bo .lss 3 t1 t0 3),rT 0 (fa 24 g1 4),rT 1 (ld 22 t0),rT 2 (.move g6),rT 3 (ia 22 t1 t0),rT 4 (fa 45 t0 1),rT 5 (ld 42 t0),rT 6 (ln t0 42),rT 7 (bo .eql 3 t0 (k 0) 3),r (pk t8 t0 kF)] [(97,0)]) (.cond t97 (.skip) (.exit 4))) (.seq (.block 5 (.seq (.reg [r (fa 24 g1 4),r (ld 22 t0),.get 6,r (ia 22 t1 t0),r (fa 45 t0 3),r (ld 43 t0),r (ia 43 t0 (k 0)),r (ld 3 t0)] [(6,0)]) (.seq (.reg [.get 6,.get 5,r (bo .eql 3 t1 t0 3)] [(110,0)]) (.cond (t 110) (.seq (.reg [r (.assign kF)] [(2,
 0)]) (.ret)) (.skip))))) (.reg [.get 7,r (bo .add 3 t0 (k 1) 3)] [(7,0)]))))))))) (.reg [.get 5,r (bo .add 3 t0 (k 1) 3)] [(5,0)])))))) (.seq (.reg [r (.assign kT)] [(2,0)]) (.ret)))))))
theorem fp_ref11_May:Fp V 17 Tryz.f17 P_ref11_May:=.of
noncomputable def Lc.ref11_May {O vs H R}:=@Fp.lq V O 17 Tryz.f17 P_ref11_May vs H R fp_ref11_May
abbrev F_ref11_MayForm:FuncId:=27
def P_ref11_MayForm:PC :=
.seq (.reg [r (.box 29 g0),r (.assign kF)] [(2,0),(1,1)]) (.seq (.reg [r (fa 29 g1 0),r (ld 25 t0),r (fa 29 g1 1),r (ld 26 t0),r (.build 74 #[(0,t2),(1,t0)]),r (.alloc 74),r (.store 74 t0 t1)] [(3,1)]) (.seq (.seq (.reg [r (.assign (k 0))] [(4,0)]) (.block 0 (.loop (.seq (.seq (.reg [.get 4,r (fa 29 g1 2),r (ld 27 t0),r (ln t0 27),r (bo .lss 3 t3 t0 3)] [(19,0)]) (.cond t19 (.skip) (.exit 0))) (.seq (.block 1 (.seq (.reg [r (fa 29 g1 2),r (ld 27 t0),.get 4,r (ia 27 t1 t0),r (ld 24 t0),r (.alloc 24),r (.store 24 t0 t1)] [(5,1)]) (.reg [r (fa 74 g3 2),r (ld 72 t0),r (fa 24 g5 0),r (ld 9 t0),r (fa 24 g5 1),r (ld 4 t0),r (fa 24 g5 2),r (ld 3 t0),r (fa 24 g5 2),r (ld 3 t0),r (.build 47 #[(0,(k8 11))]),r (.buildSlice 42 1 #[(0,t0)]),r (.build 78 #[(0,t8),(1,t6),(2,t4),(3,t2),(4,t0)]),r (.buildSlice 72 1 #[(0,t0)]),r (ap t12 t0 72 72),r (fa 74 g3 2),
 r (.store 72 t0 t1)] []))) (.reg [.get 4,r (bo .add 3 t0 (k 1) 3)] [(4,0)])))))) (.seq (.seq (.reg [r (ld 74 g3),r (cf 44 #[t0] #[74]),r (.unOp .not 4 t0)] [(45,0)]) (.cond t45 (.seq (.reg [r (.assign kF)] [(2,0)]) (.ret)) (.skip))) (.seq (.seq (.reg [r (.assign (k 0))] [(6,0)]) (.block 2 (.loop (.seq (.seq (.reg [.get 6,r (fa 29 g1 2),r (ld 27 t0),r (ln t0 27),r (bo .lss 3 t3 t0 3)] [(50,0)]) (.cond t50 (.skip) (.exit 2))) (.seq (.block 3 (.seq (.seq (.reg [r (fa 29 g1 2),r (ld 27 t0),.get 6,r (ia 27 t1 t0),r (ld 24 t0),r (cf 17 #[t0] #[24]),r (.unOp .not 4 t0)] [(59,0)]) (.cond t59 (.seq (.reg [r (.assign kF)] [(2,0)]) (.ret)) (.skip))) (.seq (.reg [r (fa 74 g3 2),r (ld 72 t0),.get 6,r (fa 29 g1 2),r (ld 27 t0),.get 6,r (ia 27 t1 t0),r (fa 24 t0 3),r (ld 3 t0),r (ia 72 t7 t6),r (fa 78 t0 3),r (.store 3 t0 t2)] []) (.seq (.reg [r (.assign (k 0))] [(7,
 0)]) (.block 4 (.loop (.seq (.seq (.reg [.get 7,r (fa 29 g1 2),r (ld 27 t0),.get 6,r (ia 27 t1 t0),r (fa 24 t0 4),r (ld 22 t0),r (ln t0 22),r (bo .lss 3 t7 t0 3)] [(79,0)]) (.cond t79 (.skip) (.exit 4))) (.seq (.block 5 (.seq (.reg [r (fa 29 g1 2),r (ld 27 t0),.get 6,r (ia 27 t1 t0),r (fa 24 t0 4),r (ld 22 t0),.get 7,r (ia 22 t1 t0),r (fa 45 t0 1),r (ld 42 t0)] [(8,0)]) (.seq (.reg [r (.assign (k 0))] [(9,0)]) (.block 6 (.loop (.seq (.seq (.reg [.get 9,.get 8,r (ln t0 42),r (bo .lss 3 t2 t0 3)] [(95,0)]) (.cond t95 (.skip) (.exit 6))) (.seq (.block 7 (.seq (.reg [r (ld 74 g3),.get 6,.get 8,.get 9,r (ia 42 t1 t0),r (ld 47 t0),r (cf 45 #[t5,t4,t0] #[74,3,47]),r (.unOp .not 4 t0)] [(105,0)]) (.cond (t 105) (.seq (.reg [r (.assign kF)] [(2,0)]) (.ret)) (.skip)))) (.reg [.get 9,r (bo .add 3 t0 (k 1) 3)] [(9,0)])))))))) (.reg [.get 7,r (bo .add 3 t0 (k 1) 3)] [(7,
 0)]))))))))) (.reg [.get 6,r (bo .add 3 t0 (k 1) 3)] [(6,0)])))))) (.seq (.reg [r (.assign kT)] [(2,0)]) (.ret))))))
theorem fp_ref11_MayForm:Fp V 27 Tryz.f27 P_ref11_MayForm:=.of
noncomputable def Lc.ref11_MayForm {O vs H R}:=@Fp.lq V O 27 Tryz.f27 P_ref11_MayForm vs H R fp_ref11_MayForm
abbrev F_ref11_block:FuncId:=35
def P_ref11_block:PC :=
.seq (.reg [r (.assign kF)] [(6,0)]) (.seq (.reg [.get 0,.get 1,r (ia 22 t1 t0),r (ld 45 t0),r (.alloc 45),r (.store 45 t0 t1)] [(7,1)]) (.seq (.seq (.reg [r (.assign (k 0))] [(8,0)]) (.block 0 (.loop (.seq (.seq (.reg [.get 8,r (fa 45 g7 1),r (ld 42 t0),r (ln t0 42),r (bo .lss 3 t3 t0 3)] [(19,0)]) (.cond t19 (.skip) (.exit 0))) (.seq (.block 1 (.seq (.reg [r (fa 45 g7 1),r (ld 42 t0),.get 8,r (ia 42 t1 t0),r (ld 47 t0),.get 2,r (cf 56 #[t1,t0] #[47,3]),r (.unOp .not 4 t0),rF 0 (.move g8),rF 1 (fa 45 g7 1),rF 2 (ld 42 t0),rF 3 (ln t0 42),rF 4 (bo .sub 3 t0 (k 1) 3),rF 5 (bo .lss 3 t4 t0 3),rF 6 (.move t0),rT 0 (fa 45 g7 1),rT 1 (ld 42 t0),rT 2 (.move g8),rT 3 (ia 42 t1 t0),rT 4 (fa 47 t0 0),rT 5 (ld 5 t0),rT 6 (cf 57 #[t0] #[5]),rF 14 (pk t7 t0 kF),r (pk t15 kT t0)] [(46,0)]) (.cond t46 (.seq (.reg [r (.assign kF)] [(6,0)]) (.ret)) (.skip)))) (.reg [.get 8,
 r (bo .add 3 t0 (k 1) 3)] [(8,0)])))))) (.seq (.reg [r (.assign (k 1))] [(9,0)]) (.seq (.seq (.reg [r (ld 45 g7),r (cf 58 #[t0] #[45]),r (bo .eql 5 t0 (k8 12) 5)] [(49,0)]) (.cond t49 (.reg [r (.assign (k 2))] [(9,0)]) (.skip))) (.seq (.seq (.reg [r (ld 45 g7),r (cf 58 #[t0] #[45]),r (bo .eql 5 t0 (k8 13) 5)] [(52,0)]) (.cond t52 (.reg [r (.assign (k 0))] [(9,0)]) (.skip))) (.seq (.seq (.reg [r (fa 45 g7 3),r (ld 43 t0),r (ln t0 43),.get 9,r (bo .neq 3 t1 t0 3),rF 0 (fa 45 g7 3),rF 1 (ld 43 t0),rF 2 (.move g0),rF 3 (ln t0 22),rF 4 (cf 59 #[t2,t0] #[43,3]),rF 5 (.unOp .not 4 t0),r (pk t6 kT t0)] [(65,0)]) (.cond t65 (.seq (.reg [r (.assign kF)] [(6,0)]) (.ret)) (.skip))) (.seq (.seq (.reg [r (.assign (k 0))] [(10,0)]) (.block 2 (.loop (.seq (.seq (.reg [.get 10,r (fa 45 g7 0),r (ld 41 t0),r (ln t0 41),r (bo .lss 3 t3 t0 3)] [(70,
 0)]) (.cond t70 (.skip) (.exit 2))) (.seq (.block 3 (.seq (.reg [.get 1,r (bo .eql 3 t0 (k 0) 3),rF 0 (fa 45 g7 0),rF 1 (ld 41 t0),rF 2 (.move g10),rF 3 (ia 41 t1 t0),rF 4 (fa 49 t0 0),rF 5 (ld 3 t0),rF 6 (.buildSlice 43 1 #[(0,t0)]),rF 7 (.move g2),rF 8 (cf 59 #[t1,t0] #[43,3]),rF 9 (.unOp .not 4 t0),r (pk t10 kT t0),rF 0 (fa 45 g7 0),rF 1 (ld 41 t0),rF 2 (.move g10),rF 3 (ia 41 t1 t0),rF 4 (fa 49 t0 1),rF 5 (ld 43 t0),rF 6 (.move g2),rF 7 (cf 59 #[t1,t0] #[43,3]),rF 8 (.unOp .not 4 t0),r (pk t9 kT t0),rF 0 (fa 45 g7 0),rF 1 (ld 41 t0),rF 2 (.move g10),rF 3 (ia 41 t1 t0),rF 4 (fa 49 t0 1),rF 5 (ld 43 t0),rF 6 (ln t0 43),rF 7 (fa 45 g7 2),rF 8 (ld 43 t0),rF 9 (ln t0 43),rF 10 (bo .neq 3 t3 t0 3),r (pk t11 kT t0)] [(110,0)]) (.cond (t 110) (.seq (.reg [r (.assign kF)] [(6,0)]) (.ret)) (.skip)))) (.reg [.get 10,r (bo .add 3 t0 (k 1) 3)] [(10,
 0)])))))) (.seq (.reg [r (.assign kT)] [(6,0)]) (.ret)))))))))
theorem fp_ref11_block:Fp V 35 Tryz.f35 P_ref11_block:=.of
noncomputable def Lc.ref11_block {O vs H R}:=@Fp.lq V O 35 Tryz.f35 P_ref11_block vs H R fp_ref11_block
abbrev F_ref11_ints:FuncId:=36
def P_ref11_ints:PC :=
.seq (.reg [r (.assign kF)] [(4,0)]) (.seq (.seq (.reg [.get 0,r (ln t0 43),.get 1,r (ln t0 43),r (bo .neq 3 t2 t0 3)] [(10,0)]) (.cond t10 (.seq (.reg [r (.assign kF)] [(4,0)]) (.ret)) (.skip))) (.seq (.seq (.reg [r (.assign (k 0))] [(5,0)]) (.block 0 (.loop (.seq (.seq (.reg [.get 5,.get 0,r (ln t0 43),r (bo .lss 3 t2 t0 3)] [(14,0)]) (.cond t14 (.skip) (.exit 0))) (.seq (.block 1 (.seq (.reg [.get 0,.get 5,r (ia 43 t1 t0),r (ld 3 t0),.get 1,.get 5,r (ia 43 t1 t0),r (ld 3 t0),r (bo .neq 3 t4 t0 3)] [(25,0)]) (.cond t25 (.seq (.reg [r (.assign kF)] [(4,0)]) (.ret)) (.skip)))) (.reg [.get 5,r (bo .add 3 t0 (k 1) 3)] [(5,0)])))))) (.seq (.reg [r (.assign kT)] [(4,0)]) (.ret))))
theorem fp_ref11_ints:Fp V 36 Tryz.f36 P_ref11_ints:=.of
noncomputable def Lc.ref11_ints {O vs H R}:=@Fp.lq V O 36 Tryz.f36 P_ref11_ints vs H R fp_ref11_ints
abbrev F_ref11_Froms:FuncId:=37
def P_ref11_Froms:PC :=
.seq (.reg [r (.assign (.const (.slice none 0 0)))] [(4,0)]) (.seq (.reg [r (.assign (.const (.slice none 0 0)))] [(5,0)]) (.seq (.seq (.reg [r (.assign (k 0))] [(6,0)]) (.block 0 (.loop (.seq (.seq (.reg [.get 6,.get 0,r (ln t0 22),r (bo .lss 3 t2 t0 3)] [(10,0)]) (.cond t10 (.skip) (.exit 0))) (.seq (.block 1 (.seq (.reg [.get 0,.get 6,r (ia 22 t1 t0),r (fa 45 t0 3),r (ld 43 t0),.get 1,r (cf 60 #[t1,t0] #[43,3])] [(19,0)]) (.cond t19 (.reg [.get 5,.get 6,r (.buildSlice 43 1 #[(0,t0)]),r (ap t2 t0 43 43)] [(5,0)]) (.skip)))) (.reg [.get 6,r (bo .add 3 t0 (k 1) 3)] [(6,0)])))))) (.seq (.reg [.get 5] [(4,0)]) (.ret))))
theorem fp_ref11_Froms:Fp V 37 Tryz.f37 P_ref11_Froms:=.of
noncomputable def Lc.ref11_Froms {O vs H R}:=@Fp.lq V O 37 Tryz.f37 P_ref11_Froms vs H R fp_ref11_Froms
abbrev F_ref07_May:FuncId:=44
def P_ref07_May:PC :=
.seq (.reg [r (.box 74 g0),r (.assign kF)] [(2,0),(1,1)]) (.seq (.reg [r (.assign (.const (.slice none 0 0)))] [(3,0)]) (.seq (.seq (.reg [r (.assign (k 0))] [(4,0)]) (.block 0 (.loop (.seq (.seq (.reg [.get 4,r (fa 74 g1 0),r (ld 25 t0),r (ln t0 25),r (bo .lss 3 t3 t0 3)] [(15,0)]) (.cond t15 (.skip) (.exit 0))) (.seq (.block 1 (.seq (.seq (.reg [r (fa 74 g1 0),r (ld 25 t0),.get 4,r (ia 25 t1 t0),r (fa 60 t0 1),r (ld 3 t0),r (bo .lss 3 t0 (k 1) 3),rF 0 (fa 74 g1 0),rF 1 (ld 25 t0),rF 2 (.move g4),rF 3 (ia 25 t1 t0),rF 4 (fa 60 t0 1),rF 5 (ld 3 t0),rF 6 (bo .gtr 3 t0 (k 1024) 3),r (pk t7 kT t0)] [(33,0)]) (.cond t33 (.seq (.reg [r (.assign kF)] [(2,0)]) (.ret)) (.skip))) (.reg [.get 3,r (fa 74 g1 0),r (ld 25 t0),.get 4,r (ia 25 t1 t0),r (fa 60 t0 0),r (ld 9 t0),r (.buildSlice 26 1 #[(0,t0)]),r (ap t7 t0 26 26)] [(3,0)]))) (.reg [.get 4,r (bo .add 3 t0 (k 1) 3)] [(4,
 0)])))))) (.seq (.reg [.get 3,r (fa 74 g1 1),r (ld 26 t0),r (ap t2 t0 26 26)] [(3,0)]) (.seq (.seq (.reg [r (.assign (k 0))] [(5,0)]) (.block 2 (.loop (.seq (.seq (.reg [.get 5,r (fa 74 g1 2),r (ld 72 t0),r (ln t0 72),r (bo .lss 3 t3 t0 3)] [(51,0)]) (.cond t51 (.skip) (.exit 2))) (.seq (.block 3 (.seq (.reg [r (fa 74 g1 2),r (ld 72 t0),.get 5,r (ia 72 t1 t0),r (ld 78 t0),r (.alloc 78),r (.store 78 t0 t1)] [(6,1)]) (.seq (.reg [.get 3,r (fa 78 g6 0),r (ld 9 t0),r (.buildSlice 26 1 #[(0,t0)]),r (ap t3 t0 26 26)] [(3,0)]) (.seq (.seq (.reg [r (fa 78 g6 2),r (ld 3 t0),r (bo .lss 3 t0 (k 0) 3),rF 0 (fa 78 g6 2),rF 1 (ld 3 t0),rF 2 (bo .gtr 3 t0 (k 8) 3),r (pk t3 kT t0),rF 0 (fa 78 g6 1),rF 1 (ld 4 t0),rF 2 (.move t0),rT 0 (fa 78 g6 2),rT 1 (ld 3 t0),rT 2 (bo .neq 3 t0 (k 0) 3),rF 6 (pk t3 t0 kF),r (pk t7 kT t0),rF 0 (fa 78 g6 3),rF 1 (ld 3 t0),rF 2 (fa 78 g6 2),rF 3 (ld 3 t0),
 rF 4 (bo .lss 3 t2 t0 3),r (pk t5 kT t0),rF 0 (fa 78 g6 3),rF 1 (ld 3 t0),rF 2 (bo .gtr 3 t0 (k 4096) 3),r (pk t3 kT t0),rF 0 (fa 78 g6 4),rF 1 (ld 42 t0),rF 2 (ln t0 42),rF 3 (bo .lss 3 t0 (k 1) 3),r (pk t4 kT t0),rF 0 (fa 78 g6 4),rF 1 (ld 42 t0),rF 2 (ln t0 42),rF 3 (bo .gtr 3 t0 (k 16384) 3),r (pk t4 kT t0)] [(104,0)]) (.cond (t 104) (.seq (.reg [r (.assign kF)] [(2,0)]) (.ret)) (.skip))) (.seq (.reg [r (fa 78 g6 4),r (ld 42 t0),r (fa 78 g6 4),r (ld 42 t0),r (ln t0 42),r (bo .sub 3 t0 (k 1) 3),r (ia 42 t4 t0),r (fa 47 t0 0),r (ld 5 t0)] [(7,0)]) (.seq (.seq (.reg [.get 7,r (bo .neq 5 t0 (k8 11) 5),rT 0 (.move g7),rT 1 (bo .neq 5 t0 (k8 13) 5),r (pk t2 t0 kF)] [(119,0)]) (.cond (t 119) (.seq (.reg [r (.assign kF)] [(2,0)]) (.ret)) (.skip))) (.seq (.reg [r (.assign (k 0))] [(8,0)]) (.block 4 (.loop (.seq (.seq (.reg [.get 8,r (fa 78 g6 4),r (ld 42 t0),r (ln t0 42),
 r (bo .lss 3 t3 t0 3)] [(124,0)]) (.cond (t 124) (.skip) (.exit 4))) (.seq (.block 5 (.seq (.reg [r (ld 74 g1),r (ld 78 g6),r (fa 78 g6 4),r (ld 42 t0),.get 8,r (ia 42 t1 t0),r (ld 47 t0),r (cf 70 #[t6,t5,t0] #[74,78,47]),r (.unOp .not 4 t0)] [(135,0)]) (.cond (t 135) (.seq (.reg [r (.assign kF)] [(2,0)]) (.ret)) (.skip)))) (.reg [.get 8,r (bo .add 3 t0 (k 1) 3)] [(8,0)])))))))))))) (.reg [.get 5,r (bo .add 3 t0 (k 1) 3)] [(5,0)])))))) (.seq (.seq (.reg [.get 3,r (ln t0 26),r (bo .gtr 3 t0 (k 256) 3),rF 0 (ld 74 g1),rF 1 (cf 71 #[t0] #[74]),rF 2 (ln t0 43),rF 3 (bo .gtr 3 t0 (k 16) 3),r (pk t4 kT t0)] [(144,0)]) (.cond (t 144) (.seq (.reg [r (.assign kF)] [(2,0)]) (.ret)) (.skip))) (.seq (.seq (.reg [r (.assign (k 0))] [(9,0)]) (.block 6 (.loop (.seq (.seq (.reg [.get 9,.get 3,r (ln t0 26),r (bo .lss 3 t2 t0 3)] [(148,
 0)]) (.cond (t 148) (.skip) (.exit 6))) (.seq (.block 7 (.seq (.seq (.reg [.get 3,.get 9,r (ia 26 t1 t0),r (ld 9 t0),r (cf 72 #[t0] #[9]),r (.unOp .not 4 t0)] [(156,0)]) (.cond (t 156) (.seq (.reg [r (.assign kF)] [(2,0)]) (.ret)) (.skip))) (.seq (.reg [r (.assign (k 0))] [(10,0)]) (.block 8 (.loop (.seq (.seq (.reg [.get 10,.get 9,r (bo .lss 3 t1 t0 3)] [(159,0)]) (.cond (t 159) (.skip) (.exit 8))) (.seq (.block 9 (.seq (.reg [.get 3,.get 10,r (ia 26 t1 t0),r (ld 9 t0),.get 3,.get 9,r (ia 26 t1 t0),r (ld 9 t0),r (bo .eql 9 t4 t0 9)] [(170,0)]) (.cond (t 170) (.seq (.reg [r (.assign kF)] [(2,0)]) (.ret)) (.skip)))) (.reg [.get 10,r (bo .add 3 t0 (k 1) 3)] [(10,0)])))))))) (.reg [.get 9,r (bo .add 3 t0 (k 1) 3)] [(9,0)])))))) (.seq (.reg [r (.assign kT)] [(2,0)]) (.ret))))))))
theorem fp_ref07_May:Fp V 44 Tryz.f44 P_ref07_May:=.of
noncomputable def Lc.ref07_May {O vs H R}:=@Fp.lq V O 44 Tryz.f44 P_ref07_May vs H R fp_ref07_May
abbrev F_ref07_MayIns:FuncId:=45
def P_ref07_MayIns:PC :=
.seq (.reg [r (.box 74 g0),r (.box 47 g2),r (.assign kF)] [(6,0),(5,1),(3,2)]) (.seq (.reg [.get 1,r (fa 74 g3 2),r (ld 72 t0),r (ln t0 72),r (cf 73 #[t3,t0] #[2,3]),rT 0 (ld 74 g3),rT 1 (fa 74 g3 2),rT 2 (ld 72 t0),rT 3 (.move g1),rT 4 (ia 72 t1 t0),rT 5 (ld 78 t0),rT 6 (ld 47 g5),rT 7 (cf 70 #[t6,t1,t0] #[74,78,47]),r (pk t8 t0 kF)] [(6,0)]) (.ret))
theorem fp_ref07_MayIns:Fp V 45 Tryz.f45 P_ref07_MayIns:=.of
noncomputable def Lc.ref07_MayIns {O vs H R}:=@Fp.lq V O 45 Tryz.f45 P_ref07_MayIns vs H R fp_ref07_MayIns
abbrev F_ref11_mayIns:FuncId:=56
def P_ref11_mayIns:PC :=
.seq (.reg [r (.box 47 g0),r (.assign kF)] [(4,0),(2,1)]) (.seq (.reg [.get 1,r (.build 47 #[]),r (.buildSlice 42 1 #[(0,t0)]),r (.build 78 #[(3,t2),(4,t0)]),r (.alloc 78),r (.store 78 t0 t1)] [(5,1)]) (.seq (.reg [r (.build 60 #[]),r (.buildSlice 25 1 #[(0,t0)]),r (.buildSlice 26 1 #[(0,(.const (.string ⟨⟨[]⟩⟩)))]),r (ld 78 g5),r (fa 47 g2 5),r (ld 43 t0),r (ln t0 43),r (.build 78 #[(2,t0)]),r (.buildSlice 72 2 #[(0,t4),(1,t0)]),r (.build 74 #[(0,t7),(1,t6),(2,t0)]),r (.alloc 74),r (.store 74 t0 t1)] [(6,1)]) (.seq (.seq (.reg [r (fa 47 g2 0),r (ld 5 t0),r (bo .eql 5 t0 (k8 10) 5)] [(23,0)]) (.cond t23 (.seq (.seq (.reg [r (fa 47 g2 4),r (ld 2 t0),r (bo .lss 2 t0 (k 0) 2),rF 0 (fa 47 g2 5),rF 1 (ld 43 t0),rF 2 (ln t0 43),rF 3 (bo .gtr 3 t0 (k 8) 3),r (pk t4 kT t0)] [(32,0)]) (.cond t32 (.seq (.reg [r (.assign kF)] [(4,0)]) (.ret)) (.skip))) (.reg [r (fa 47 g2 4),
 r (.store 2 t0 (k 1))] [])) (.skip))) (.seq (.seq (.reg [r (fa 47 g2 0),r (ld 5 t0),r (bo .geq 5 t0 (k8 5) 5),rT 0 (fa 47 g2 0),rT 1 (ld 5 t0),rT 2 (bo .leq 5 t0 (k8 8) 5),r (pk t3 t0 kF)] [(41,0)]) (.cond t41 (.seq (.seq (.reg [r (fa 47 g2 4),r (ld 2 t0),r (bo .lss 2 t0 (k 0) 2)] [(44,0)]) (.cond t44 (.seq (.reg [r (.assign kF)] [(4,0)]) (.ret)) (.skip))) (.reg [r (fa 47 g2 4),r (.store 2 t0 (k 0))] [])) (.skip))) (.seq (.reg [r (ld 74 g6),r (ld 47 g2),r (cf 45 #[t1,(k 0),t0] #[74,3,47])] [(4,0)]) (.ret))))))
theorem fp_ref11_mayIns:Fp V 56 Tryz.f56 P_ref11_mayIns:=.of
noncomputable def Lc.ref11_mayIns {O vs H R}:=@Fp.lq V O 56 Tryz.f56 P_ref11_mayIns vs H R fp_ref11_mayIns
abbrev F_ref11_ends:FuncId:=57
def P_ref11_ends:PC :=
.seq (.reg [r (.assign kF)] [(2,0)]) (.seq (.reg [.get 0,r (bo .eql 5 t0 (k8 11) 5),rF 0 (.move g0),rF 1 (bo .eql 5 t0 (k8 12) 5),r (pk t2 kT t0),rF 0 (.move g0),rF 1 (bo .eql 5 t0 (k8 13) 5),r (pk t2 kT t0)] [(2,0)]) (.ret))
theorem fp_ref11_ends:Fp V 57 Tryz.f57 P_ref11_ends:=.of
noncomputable def Lc.ref11_ends {O vs H R}:=@Fp.lq V O 57 Tryz.f57 P_ref11_ends vs H R fp_ref11_ends
abbrev F_ref11_last:FuncId:=58
def P_ref11_last:PC :=
.seq (.reg [r (.box 45 g0),r (.assign (k8 0))] [(2,0),(1,1)]) (.seq (.seq (.reg [r (fa 45 g1 1),r (ld 42 t0),r (ln t0 42),r (bo .eql 3 t0 (k 0) 3)] [(6,0)]) (.cond t6 (.seq (.reg [r (.assign (k8 0))] [(2,0)]) (.ret)) (.skip))) (.seq (.reg [r (fa 45 g1 1),r (ld 42 t0),r (fa 45 g1 1),r (ld 42 t0),r (ln t0 42),r (bo .sub 3 t0 (k 1) 3),r (ia 42 t4 t0),r (fa 47 t0 0),r (ld 5 t0)] [(2,0)]) (.ret)))
theorem fp_ref11_last:Fp V 58 Tryz.f58 P_ref11_last:=.of
noncomputable def Lc.ref11_last {O vs H R}:=@Fp.lq V O 58 Tryz.f58 P_ref11_last vs H R fp_ref11_last
abbrev F_ref11_within:FuncId:=59
def P_ref11_within:PC :=
.seq (.reg [r (.assign kF)] [(4,0)]) (.seq (.seq (.reg [r (.assign (k 0))] [(5,0)]) (.block 0 (.loop (.seq (.seq (.reg [.get 5,.get 0,r (ln t0 43),r (bo .lss 3 t2 t0 3)] [(9,0)]) (.cond t9 (.skip) (.exit 0))) (.seq (.block 1 (.seq (.reg [.get 0,.get 5,r (ia 43 t1 t0),r (ld 3 t0),r (bo .lss 3 t0 (k 0) 3),rF 0 (.move g0),rF 1 (.move g5),rF 2 (ia 43 t1 t0),rF 3 (ld 3 t0),rF 4 (.move g1),rF 5 (bo .geq 3 t1 t0 3),r (pk t6 kT t0)] [(24,0)]) (.cond t24 (.seq (.reg [r (.assign kF)] [(4,0)]) (.ret)) (.skip)))) (.reg [.get 5,r (bo .add 3 t0 (k 1) 3)] [(5,0)])))))) (.seq (.reg [r (.assign kT)] [(4,0)]) (.ret)))
theorem fp_ref11_within:Fp V 59 Tryz.f59 P_ref11_within:=.of
noncomputable def Lc.ref11_within {O vs H R}:=@Fp.lq V O 59 Tryz.f59 P_ref11_within vs H R fp_ref11_within
abbrev F_ref11_has:FuncId:=60
def P_ref11_has:PC :=
.seq (.reg [r (.assign kF)] [(4,0)]) (.seq (.seq (.reg [r (.assign (k 0))] [(5,0)]) (.block 0 (.loop (.seq (.seq (.reg [.get 5,.get 0,r (ln t0 43),r (bo .lss 3 t2 t0 3)] [(9,0)]) (.cond t9 (.skip) (.exit 0))) (.seq (.block 1 (.seq (.reg [.get 0,.get 5,r (ia 43 t1 t0),r (ld 3 t0),.get 1,r (bo .eql 3 t1 t0 3)] [(17,0)]) (.cond t17 (.seq (.reg [r (.assign kT)] [(4,0)]) (.ret)) (.skip)))) (.reg [.get 5,r (bo .add 3 t0 (k 1) 3)] [(5,0)])))))) (.seq (.reg [r (.assign kF)] [(4,0)]) (.ret)))
theorem fp_ref11_has:Fp V 60 Tryz.f60 P_ref11_has:=.of
noncomputable def Lc.ref11_has {O vs H R}:=@Fp.lq V O 60 Tryz.f60 P_ref11_has vs H R fp_ref11_has
abbrev F_ref07_mayIns:FuncId:=70
def P_ref07_mayIns:PC :=
.seq (.reg [r (.box 74 g0),r (.box 78 g1),r (.box 47 g2),r (.assign kF)] [(6,0),(5,1),(4,2),(3,3)]) (.seq (.seq (.rega [r (fa 47 g5 0),r (ld 5 t0),r (bo .lss 5 t0 (k8 1) 5),rF 0 (fa 47 g5 0),rF 1 (ld 5 t0),rF 2 (bo .gtr 5 t0 (k8 13) 5),r (pk t3 kT t0),rF 0 (ld 47 g5),rF 1 (ld 47 g5),rF 2 (cf 92 #[t0] #[47]),rF 3 (cf 91 #[t2,t0] #[47,47]),rF 4 (.unOp .not 4 t0),r (pk t5 kT t0)] [(25,0)] 13 [⟨.load 47 g5,(some (t6,false)),7,10⟩]) (.cond t25 (.seq (.reg [r (.assign kF)] [(6,0)]) (.ret)) (.skip))) (.seq (.reg [r (ld 47 g5),r (cf 93 #[t0] #[47])] [(7,0)]) (.seq (.reg [r (ld 47 g5),r (cf 94 #[t0] #[47]),r (.extract t0 0),r (.extract t1 1)] [(9,0),(8,1)]) (.seq (.seq (.reg [.get 9] [(33,0)]) (.cond t33 (.reg [r (.buildSlice 43 0 #[]),.get 7,r (ap t1 t0 43 43),.get 8,r (.buildSlice 43 1 #[(0,t0)]),r (ap t2 t0 43 43)] [(7,
 0)]) (.skip))) (.seq (.seq (.reg [r (.assign (k 0))] [(10,0)]) (.block 0 (.loop (.seq (.seq (.reg [.get 10,.get 7,r (ln t0 43),r (bo .lss 3 t2 t0 3)] [(43,0)]) (.cond t43 (.skip) (.exit 0))) (.seq (.block 1 (.seq (.reg [.get 7,.get 10,r (ia 43 t1 t0),r (ld 3 t0),r (fa 78 g4 3),r (ld 3 t0),r (cf 73 #[t2,t0] #[2,3]),r (.unOp .not 4 t0)] [(53,0)]) (.cond t53 (.seq (.reg [r (.assign kF)] [(6,0)]) (.ret)) (.skip)))) (.reg [.get 10,r (bo .add 3 t0 (k 1) 3)] [(10,0)])))))) (.seq (.seq (.reg [r (fa 47 g5 0),r (ld 5 t0)] [(55,0)]) (.block 2 (.seq (.reg [r (bo .eql 5 g55 (k8 3) 5)] [(56,0)]) (.cond t56 (.seq (.reg [r (fa 47 g5 4),r (ld 2 t0),r (bo .eql 2 t0 (k 5) 2),rF 0 (fa 47 g5 4),rF 1 (ld 2 t0),rF 2 (bo .eql 2 t0 (k 6) 2),r (pk t3 kT t0)] [(6,0)]) (.ret)) (.seq (.reg [r (bo .eql 5 g55 (k8 4) 5)] [(66,0)]) (.cond t66 (.seq (.reg [r (fa 47 g5 4),r (ld 2 t0),r (bo .geq 2 t0 (k 7) 2),
 rT 0 (fa 47 g5 4),rT 1 (ld 2 t0),rT 2 (bo .leq 2 t0 (k 17) 2),r (pk t3 t0 kF)] [(6,0)]) (.ret)) (.seq (.seq (.reg [r (bo .eql 5 g55 (k8 5) 5)] [(76,0)]) (.cond t76 (.skip) (.reg [r (bo .eql 5 g55 (k8 6) 5)] [(76,0)]))) (.cond t76 (.seq (.reg [r (fa 47 g5 4),r (ld 2 t0),r (fa 74 g3 0),r (ld 25 t0),r (ln t0 25),r (cf 73 #[t3,t0] #[2,3])] [(6,0)]) (.ret)) (.seq (.seq (.reg [r (bo .eql 5 g55 (k8 7) 5)] [(85,0)]) (.cond t85 (.skip) (.reg [r (bo .eql 5 g55 (k8 8) 5)] [(85,0)]))) (.cond t85 (.seq (.reg [r (fa 47 g5 4),r (ld 2 t0),r (fa 74 g3 1),r (ld 26 t0),r (ln t0 26),r (cf 73 #[t3,t0] #[2,3])] [(6,0)]) (.ret)) (.seq (.seq (.reg [r (bo .eql 5 g55 (k8 11) 5)] [(94,0)]) (.cond t94 (.skip) (.reg [r (bo .eql 5 g55 (k8 12) 5)] [(94,0)]))) (.cond t94 (.seq (.reg [r (fa 47 g5 4),r (ld 2 t0),r (fa 78 g4 4),r (ld 42 t0),r (ln t0 42),r (cf 73 #[t3,t0] #[2,3])] [(6,
 0)]) (.ret)) (.seq (.reg [r (bo .eql 5 g55 (k8 10) 5)] [(103,0)]) (.cond (t 103) (.seq (.reg [r (fa 47 g5 4),r (ld 2 t0),r (fa 74 g3 2),r (ld 72 t0),r (ln t0 72),r (cf 73 #[t3,t0] #[2,3]),rT 0 (fa 74 g3 2),rT 1 (ld 72 t0),rT 2 (fa 47 g5 4),rT 3 (ld 2 t0),rT 4 (ia 72 t2 t0),rT 5 (fa 78 t0 1),rT 6 (ld 4 t0),rT 7 (.unOp .not 4 t0),r (pk t8 t0 kF),rT 0 (fa 47 g5 5),rT 1 (ld 43 t0),rT 2 (ln t0 43),rT 3 (fa 74 g3 2),rT 4 (ld 72 t0),rT 5 (fa 47 g5 4),rT 6 (ld 2 t0),rT 7 (ia 72 t2 t0),rT 8 (fa 78 t0 2),rT 9 (ld 3 t0),rT 10 (bo .eql 3 t7 t0 3),r (pk t11 t0 kF)] [(6,0)]) (.ret)) (.skip))))))))))))))) (.seq (.reg [r (.assign kT)] [(6,0)]) (.ret))))))))
theorem fp_ref07_mayIns:Fp V 70 Tryz.f70 P_ref07_mayIns:=.of
noncomputable def Lc.ref07_mayIns {O vs H R}:=@Fp.lq V O 70 Tryz.f70 P_ref07_mayIns vs H R fp_ref07_mayIns
abbrev F_ref07_Threads:FuncId:=71
def P_ref07_Threads:PC :=
.seq (.reg [r (.box 74 g0),r (.assign (.const (.slice none 0 0)))] [(2,0),(1,1)]) (.seq (.reg [r (.assign (.const (.slice none 0 0)))] [(3,0)]) (.seq (.seq (.reg [r (.assign (k 0))] [(4,0)]) (.block 0 (.loop (.seq (.seq (.reg [.get 4,r (fa 74 g1 2),r (ld 72 t0),r (ln t0 72),r (bo .lss 3 t3 t0 3)] [(9,0)]) (.cond t9 (.skip) (.exit 0))) (.seq (.block 1 (.seq (.reg [r (fa 74 g1 2),r (ld 72 t0),.get 4,r (ia 72 t1 t0),r (fa 78 t0 1),r (ld 4 t0)] [(17,0)]) (.cond t17 (.reg [.get 3,.get 4,r (.buildSlice 43 1 #[(0,t0)]),r (ap t2 t0 43 43)] [(3,0)]) (.skip)))) (.reg [.get 4,r (bo .add 3 t0 (k 1) 3)] [(4,0)])))))) (.seq (.reg [.get 3] [(2,0)]) (.ret))))
theorem fp_ref07_Threads:Fp V 71 Tryz.f71 P_ref07_Threads:=.of
noncomputable def Lc.ref07_Threads {O vs H R}:=@Fp.lq V O 71 Tryz.f71 P_ref07_Threads vs H R fp_ref07_Threads
abbrev F_ref02_Name:FuncId:=72
def P_ref02_Name:PC :=
.seq (.reg [r (.assign kF)] [(2,0)]) (.seq (.seq (.reg [.get 0,r (bo .eql 9 t0 (.const (.string ⟨⟨[]⟩⟩)) 9),rF 0 (.move g0),rF 1 (ln t0 9),rF 2 (bo .gtr 3 t0 (k 32) 3),r (pk t3 kT t0),rF 0 (.move g0),rF 1 (cf 95 #[t0] #[9]),r (pk t2 kT t0)] [(16,0)]) (.cond t16 (.seq (.reg [r (.assign kF)] [(2,0)]) (.ret)) (.skip))) (.seq (.seq (.reg [r (.assign (k 0))] [(3,0)]) (.block 0 (.loop (.seq (.seq (.reg [.get 3,.get 0,r (ln t0 9),r (bo .lss 3 t2 t0 3)] [(20,0)]) (.cond t20 (.skip) (.exit 0))) (.seq (.block 1 (.seq (.reg [.get 0,.get 3,r (.index 9 t1 t0)] [(4,0)]) (.seq (.reg [.get 4,r (bo .geq 5 t0 (k8 97) 5),rT 0 (.move g4),rT 1 (bo .leq 5 t0 (k8 122) 5),r (pk t2 t0 kF),rF 0 (.move g4),rF 1 (bo .geq 5 t0 (k8 65) 5),rF 2 (.move t0),rT 0 (.move g4),rT 1 (bo .leq 5 t0 (k8 90) 5),rF 5 (pk t2 t0 kF),r (pk t6 kT t0),rF 0 (.move g4),rF 1 (bo .eql 5 t0 (k8 95) 5),r (pk t2 kT t0)] [(5,
 0)]) (.seq (.reg [.get 5,r (.unOp .not 4 t0),rT 0 (.move g3),rT 1 (bo .eql 3 t0 (k 0) 3),rT 2 (.move t0),rF 0 (.move g4),rF 1 (bo .lss 5 t0 (k8 48) 5),rT 5 (pk t2 kT t0),rT 6 (.move t0),rF 0 (.move g4),rF 1 (bo .gtr 5 t0 (k8 57) 5),rT 9 (pk t2 kT t0),r (pk t10 t0 kF)] [(57,0)]) (.cond t57 (.seq (.reg [r (.assign kF)] [(2,0)]) (.ret)) (.skip)))))) (.reg [.get 3,r (bo .add 3 t0 (k 1) 3)] [(3,0)])))))) (.seq (.reg [r (.assign kT)] [(2,0)]) (.ret))))
theorem fp_ref02_Name:Fp V 72 Tryz.f72 P_ref02_Name:=.of
noncomputable def Lc.ref02_Name {O vs H R}:=@Fp.lq V O 72 Tryz.f72 P_ref02_Name vs H R fp_ref02_Name
abbrev F_ref07_within:FuncId:=73
def P_ref07_within:PC :=
.seq (.reg [r (.assign kF)] [(4,0)]) (.seq (.reg [.get 0,r (bo .geq 2 t0 (k 0) 2),rT 0 (.move g0),rT 1 (.move g1),rT 2 (bo .lss 2 t1 t0 2),r (pk t3 t0 kF)] [(4,0)]) (.ret))
theorem fp_ref07_within:Fp V 73 Tryz.f73 P_ref07_within:=.of
noncomputable def Lc.ref07_within {O vs H R}:=@Fp.lq V O 73 Tryz.f73 P_ref07_within vs H R fp_ref07_within
abbrev F_tree_Name:FuncId:=81
def P_tree_Name:PC :=
.seq (.reg [r (.assign kF)] [(2,0)]) (.seq (.seq (.reg [.get 0,r (bo .eql 9 t0 (.const (.string ⟨⟨[]⟩⟩)) 9),rF 0 (.move g0),rF 1 (ln t0 9),rF 2 (bo .gtr 3 t0 (k 32) 3),r (pk t3 kT t0),rF 0 (.slice 131 (.global 1) none none none),rF 1 (.move g0),rF 2 (cf 99 #[t1,t0] #[26,9]),r (pk t3 kT t0),rF 0 (.move g0),rF 1 (.index 9 t0 (k 0)),rF 2 (bo .geq 5 t0 (k8 48) 5),rF 3 (.move t0),rT 0 (.move g0),rT 1 (.index 9 t0 (k 0)),rT 2 (bo .leq 5 t0 (k8 57) 5),rF 7 (pk t3 t0 kF),r (pk t8 kT t0)] [(24,0)]) (.cond t24 (.seq (.reg [r (.assign kF)] [(2,0)]) (.ret)) (.skip))) (.seq (.reg [.get 0,r (.call ⟨.value (.func 100),#[t0,(.const (.string ⟨⟨[97,98,99,100,101,102,103,104,105,106,107,108,109,110,111,112,113,114,115,116,117,118,119,120,121,122,65,66,67,68,69,70,71,72,73,74,75,76,77,78,79,80,81,82,83,84,85,86,87,88,89,90,95,48,49,50,51,52,
 53,54,55,56,57]⟩⟩))],#[9,9]⟩),r (bo .eql 9 t0 (.const (.string ⟨⟨[]⟩⟩)) 9)] [(2,0)]) (.ret)))
theorem fp_tree_Name:Fp V 81 Tryz.f81 P_tree_Name:=.of
noncomputable def Lc.tree_Name {O vs H R}:=@Fp.lq V O 81 Tryz.f81 P_tree_Name vs H R fp_tree_Name
abbrev F_ref07_SameIns:FuncId:=91
def P_ref07_SameIns:PC :=
.seq (.reg [r (.box 47 g0),r (.box 47 g1),r (.assign kF)] [(4,0),(3,1),(2,2)]) (.seq (.seq (.reg [r (fa 47 g2 0),r (ld 5 t0),r (fa 47 g3 0),r (ld 5 t0),r (bo .neq 5 t2 t0 5),rF 0 (fa 47 g2 1),rF 1 (ld 3 t0),rF 2 (fa 47 g3 1),rF 3 (ld 3 t0),rF 4 (bo .neq 3 t2 t0 3),r (pk t5 kT t0),rF 0 (fa 47 g2 2),rF 1 (ld 3 t0),rF 2 (fa 47 g3 2),rF 3 (ld 3 t0),rF 4 (bo .neq 3 t2 t0 3),r (pk t5 kT t0),rF 0 (fa 47 g2 3),rF 1 (ld 3 t0),rF 2 (fa 47 g3 3),rF 3 (ld 3 t0),rF 4 (bo .neq 3 t2 t0 3),r (pk t5 kT t0),rF 0 (fa 47 g2 4),rF 1 (ld 2 t0),rF 2 (fa 47 g3 4),rF 3 (ld 2 t0),rF 4 (bo .neq 2 t2 t0 2),r (pk t5 kT t0),rF 0 (fa 47 g2 5),rF 1 (ld 43 t0),rF 2 (ln t0 43),rF 3 (fa 47 g3 5),rF 4 (ld 43 t0),rF 5 (ln t0 43),rF 6 (bo .neq 3 t3 t0 3),r (pk t7 kT t0)] [(47,0)]) (.cond t47 (.seq (.reg [r (.assign kF)] [(4,0)]) (.ret)) (.skip))) (.seq (.seq (.reg [r (.assign (k 0))] [(5,
 0)]) (.block 0 (.loop (.seq (.seq (.reg [.get 5,r (fa 47 g2 5),r (ld 43 t0),r (ln t0 43),r (bo .lss 3 t3 t0 3)] [(52,0)]) (.cond t52 (.skip) (.exit 0))) (.seq (.block 1 (.seq (.reg [r (fa 47 g2 5),r (ld 43 t0),.get 5,r (ia 43 t1 t0),r (ld 3 t0),r (fa 47 g3 5),r (ld 43 t0),.get 5,r (ia 43 t1 t0),r (ld 3 t0),r (bo .neq 3 t5 t0 3)] [(65,0)]) (.cond t65 (.seq (.reg [r (.assign kF)] [(4,0)]) (.ret)) (.skip)))) (.reg [.get 5,r (bo .add 3 t0 (k 1) 3)] [(5,0)])))))) (.seq (.reg [r (.assign kT)] [(4,0)]) (.ret))))
theorem fp_ref07_SameIns:Fp V 91 Tryz.f91 P_ref07_SameIns:=.of
noncomputable def Lc.ref07_SameIns {O vs H R}:=@Fp.lq V O 91 Tryz.f91 P_ref07_SameIns vs H R fp_ref07_SameIns
abbrev F_ref07_kept:FuncId:=92
def P_ref07_kept:PC :=
.seq (.reg [r (.box 47 g0),r (.alloc 47)] [(2,0),(1,1)]) (.seq (.reg [r (fa 47 g1 0),r (ld 5 t0),r (.build 47 #[(0,t0)]),r (.alloc 47),r (.store 47 t0 t1)] [(3,1)]) (.seq (.reg [r (ld 47 g1),r (cf 94 #[t0] #[47]),r (.extract t0 0),r (.extract t1 1)] [(5,0)]) (.seq (.seq (.reg [.get 5] [(14,0)]) (.cond t14 (.reg [r (fa 47 g1 1),r (ld 3 t0),r (fa 47 g3 1),r (.store 3 t0 t1)] []) (.skip))) (.seq (.seq (.reg [r (fa 47 g1 0),r (ld 5 t0)] [(19,0)]) (.block 0 (.seq (.seq (.reg [r (bo .eql 5 g19 (k8 2) 5)] [(20,0)]) (.cond t20 (.skip) (.seq (.reg [r (bo .eql 5 g19 (k8 3) 5)] [(20,0)]) (.cond t20 (.skip) (.seq (.reg [r (bo .eql 5 g19 (k8 4) 5)] [(20,0)]) (.cond t20 (.skip) (.seq (.reg [r (bo .eql 5 g19 (k8 5) 5)] [(20,0)]) (.cond t20 (.skip) (.seq (.reg [r (bo .eql 5 g19 (k8 6) 5)] [(20,0)]) (.cond t20 (.skip) (.seq (.reg [r (bo .eql 5 g19 (k8 9) 5)] [(20,
 0)]) (.cond t20 (.skip) (.seq (.reg [r (bo .eql 5 g19 (k8 12) 5)] [(20,0)]) (.cond t20 (.skip) (.reg [r (bo .eql 5 g19 (k8 13) 5)] [(20,0)]))))))))))))))) (.cond t20 (.reg [r (fa 47 g1 2),r (ld 3 t0),r (fa 47 g3 2),r (.store 3 t0 t1)] []) (.skip))))) (.seq (.seq (.reg [r (fa 47 g1 0),r (ld 5 t0),r (bo .eql 5 t0 (k8 4) 5),rF 0 (fa 47 g1 0),rF 1 (ld 5 t0),rF 2 (bo .eql 5 t0 (k8 6) 5),r (pk t3 kT t0)] [(39,0)]) (.cond t39 (.reg [r (fa 47 g1 3),r (ld 3 t0),r (fa 47 g3 3),r (.store 3 t0 t1)] []) (.skip))) (.seq (.seq (.reg [r (fa 47 g1 0),r (ld 5 t0),r (bo .neq 5 t0 (k8 2) 5),rT 0 (fa 47 g1 0),rT 1 (ld 5 t0),rT 2 (bo .neq 5 t0 (k8 9) 5),r (pk t3 t0 kF),rT 0 (fa 47 g1 0),rT 1 (ld 5 t0),rT 2 (bo .neq 5 t0 (k8 13) 5),r (pk t3 t0 kF)] [(55,0)]) (.cond t55 (.reg [r (fa 47 g1 4),r (ld 2 t0),r (fa 47 g3 4),r (.store 2 t0 t1)] []) (.skip))) (.seq (.seq (.reg [r (fa 47 g1 0),r (ld 5 t0),
 r (bo .eql 5 t0 (k8 10) 5)] [(61,0)]) (.cond t61 (.reg [r (fa 47 g1 5),r (ld 43 t0),r (fa 47 g3 5),r (.store 43 t0 t1)] []) (.skip))) (.seq (.reg [r (ld 47 g3),r (.store 47 g2 t0)] []) (.ret)))))))))
theorem fp_ref07_kept:Fp V 92 Tryz.f92 P_ref07_kept:=.of
noncomputable def Lc.ref07_kept {O vs H R}:=@Fp.lq V O 92 Tryz.f92 P_ref07_kept vs H R fp_ref07_kept
abbrev F_ref07_Reads:FuncId:=93
def P_ref07_Reads:PC :=
.seq (.reg [r (.box 47 g0),r (.assign (.const (.slice none 0 0)))] [(2,0),(1,1)]) (.seq (.reg [r (.assign (.const (.slice none 0 0)))] [(3,0)]) (.seq (.seq (.reg [r (fa 47 g1 0),r (ld 5 t0)] [(5,0)]) (.block 0 (.seq (.seq (.reg [r (bo .eql 5 g5 (k8 2) 5)] [(6,0)]) (.cond t6 (.skip) (.seq (.reg [r (bo .eql 5 g5 (k8 3) 5)] [(6,0)]) (.cond t6 (.skip) (.seq (.reg [r (bo .eql 5 g5 (k8 9) 5)] [(6,0)]) (.cond t6 (.skip) (.seq (.reg [r (bo .eql 5 g5 (k8 12) 5)] [(6,0)]) (.cond t6 (.skip) (.reg [r (bo .eql 5 g5 (k8 13) 5)] [(6,0)]))))))))) (.cond t6 (.reg [.get 3,r (fa 47 g1 2),r (ld 3 t0),r (.buildSlice 43 1 #[(0,t0)]),r (ap t3 t0 43 43)] [(3,0)]) (.seq (.reg [r (bo .eql 5 g5 (k8 4) 5)] [(17,0)]) (.cond t17 (.reg [.get 3,r (fa 47 g1 2),r (ld 3 t0),r (fa 47 g1 3),r (ld 3 t0),r (.buildSlice 43 2 #[(0,t2),(1,t0)]),r (ap t5 t0 43 43)] [(3,
 0)]) (.seq (.reg [r (bo .eql 5 g5 (k8 5) 5)] [(26,0)]) (.cond t26 (.seq (.reg [r (fa 47 g1 2),r (ld 3 t0),r (bo .neq 3 t0 (k (-1)) 3)] [(30,0)]) (.cond t30 (.reg [.get 3,r (fa 47 g1 2),r (ld 3 t0),r (.buildSlice 43 1 #[(0,t0)]),r (ap t3 t0 43 43)] [(3,0)]) (.skip))) (.seq (.reg [r (bo .eql 5 g5 (k8 6) 5)] [(36,0)]) (.cond t36 (.seq (.seq (.reg [r (fa 47 g1 2),r (ld 3 t0),r (bo .neq 3 t0 (k (-1)) 3)] [(40,0)]) (.cond t40 (.reg [.get 3,r (fa 47 g1 2),r (ld 3 t0),r (.buildSlice 43 1 #[(0,t0)]),r (ap t3 t0 43 43)] [(3,0)]) (.skip))) (.reg [.get 3,r (fa 47 g1 3),r (ld 3 t0),r (.buildSlice 43 1 #[(0,t0)]),r (ap t3 t0 43 43)] [(3,0)])) (.seq (.reg [r (bo .eql 5 g5 (k8 10) 5)] [(51,0)]) (.cond t51 (.reg [.get 3,r (fa 47 g1 5),r (ld 43 t0),r (ap t2 t0 43 43)] [(3,0)]) (.skip))))))))))))) (.seq (.reg [.get 3] [(2,0)]) (.ret))))
theorem fp_ref07_Reads:Fp V 93 Tryz.f93 P_ref07_Reads:=.of
noncomputable def Lc.ref07_Reads {O vs H R}:=@Fp.lq V O 93 Tryz.f93 P_ref07_Reads vs H R fp_ref07_Reads
abbrev F_ref07_Writes:FuncId:=94
def P_ref07_Writes:PC :=
.seq (.reg [r (.box 47 g0),r (.assign (k 0)),r (.assign kF)] [(3,0),(2,1),(1,2)]) (.seq (.seq (.reg [r (fa 47 g1 0),r (ld 5 t0)] [(5,0)]) (.block 0 (.seq (.seq (.reg [r (bo .eql 5 g5 (k8 1) 5)] [(6,0)]) (.cond t6 (.skip) (.seq (.reg [r (bo .eql 5 g5 (k8 2) 5)] [(6,0)]) (.cond t6 (.skip) (.seq (.reg [r (bo .eql 5 g5 (k8 3) 5)] [(6,0)]) (.cond t6 (.skip) (.seq (.reg [r (bo .eql 5 g5 (k8 4) 5)] [(6,0)]) (.cond t6 (.skip) (.seq (.reg [r (bo .eql 5 g5 (k8 5) 5)] [(6,0)]) (.cond t6 (.skip) (.reg [r (bo .eql 5 g5 (k8 10) 5)] [(6,0)]))))))))))) (.cond t6 (.seq (.reg [r (fa 47 g1 1),r (ld 3 t0),r (.assign kT)] [(3,0),(2,1)]) (.ret)) (.skip))))) (.seq (.reg [r (.assign (k 0)),r (.assign kF)] [(3,0),(2,1)]) (.ret)))
theorem fp_ref07_Writes:Fp V 94 Tryz.f94 P_ref07_Writes:=.of
noncomputable def Lc.ref07_Writes {O vs H R}:=@Fp.lq V O 94 Tryz.f94 P_ref07_Writes vs H R fp_ref07_Writes
abbrev F_ref02_Reserved:FuncId:=95
def P_ref02_Reserved:PC :=
.seq (.reg [r (.assign kF)] [(2,0)]) (.seq (.seq (.reg [r (.buildSlice 26 15 #[(0,(.const (.string ⟨⟨[103,108,111,98,97,108]⟩⟩))),(1,(.const (.string ⟨⟨[97,114,114,97,121]⟩⟩))),(2,(.const (.string ⟨⟨[108,111,99,107]⟩⟩))),(3,(.const (.string ⟨⟨[102,117,110,99]⟩⟩))),(4,(.const (.string ⟨⟨[116,104,114,101,97,100]⟩⟩))),(5,(.const (.string ⟨⟨[118,97,114]⟩⟩))),(6,(.const (.string ⟨⟨[105,102]⟩⟩))),(7,(.const (.string ⟨⟨[101,108,115,101]⟩⟩))),(8,(.const (.string ⟨⟨[119,104,105,108,101]⟩⟩))),(9,(.const (.string ⟨⟨[119,105,116,104]⟩⟩))),(10,(.const (.string ⟨⟨[112,114,105,110,116]⟩⟩))),(11,(.const (.string ⟨⟨[99,97,108,108]⟩⟩))),(12,(.const (.string ⟨⟨[114,101,116,117,114,110]⟩⟩))),(13,(.const (.string ⟨⟨[116,114,117,101]⟩⟩))),(14,(.const (.string ⟨⟨[102,97,108,115,101]⟩⟩)))]),r (ln t0 26),r (.move (k 0))] [(7,0),
 (6,1),(5,2)]) (.block 0 (.loop (.seq (.reg [r (bo .lss 3 g7 g6 3)] [(8,0)]) (.seq (.cond t8 (.skip) (.exit 0)) (.seq (.block 1 (.seq (.reg [r (ia 26 g5 g7),r (ld 9 t0)] [(4,0)]) (.seq (.reg [.get 0,.get 4,r (bo .eql 9 t1 t0 9)] [(13,0)]) (.cond t13 (.seq (.reg [r (.assign kT)] [(2,0)]) (.ret)) (.skip))))) (.reg [r (bo .add 3 g7 (k 1) 3)] [(7,0)]))))))) (.seq (.reg [r (.assign kF)] [(2,0)]) (.ret)))
theorem fp_ref02_Reserved:Fp V 95 Tryz.f95 P_ref02_Reserved:=.of
noncomputable def Lc.ref02_Reserved {O vs H R}:=@Fp.lq V O 95 Tryz.f95 P_ref02_Reserved vs H R fp_ref02_Reserved
abbrev F_slices_Contains_s_string_string:FuncId:=99
def P_slices_Contains_s_string_string:PC :=
.seq (.reg [r (.assign kF)] [(4,0)]) (.seq (.reg [.get 0,.get 1,r (cf 113 #[t1,t0] #[26,9]),r (bo .geq 3 t0 (k 0) 3)] [(4,0)]) (.ret))
theorem fp_slices_Contains_s_string_string:Fp V 99 Tryz.f99 P_slices_Contains_s_string_string:=.of
noncomputable def Lc.slices_Contains_s_string_string {O vs H R}:=@Fp.lq V O 99 Tryz.f99 P_slices_Contains_s_string_string vs H R fp_slices_Contains_s_string_string
abbrev F_slices_Index_s_string_string:FuncId:=113
def P_slices_Index_s_string_string:PC :=
.seq (.reg [r (.assign (k 0))] [(4,0)]) (.seq (.seq (.reg [.get 0,r (ln t0 26),r (.move (k 0))] [(8,0),(7,1)]) (.block 0 (.loop (.seq (.reg [r (bo .lss 3 g8 g7 3)] [(9,0)]) (.seq (.cond t9 (.skip) (.exit 0)) (.seq (.block 1 (.seq (.reg [.get 8] [(5,0)]) (.seq (.reg [.get 1,.get 0,.get 5,r (ia 26 t1 t0),r (ld 9 t0),r (bo .eql 9 t4 t0 9)] [(16,0)]) (.cond t16 (.seq (.reg [.get 5] [(4,0)]) (.ret)) (.skip))))) (.reg [r (bo .add 3 g8 (k 1) 3)] [(8,0)]))))))) (.seq (.reg [r (.assign (k (-1)))] [(4,0)]) (.ret)))
theorem fp_slices_Index_s_string_string:Fp V 113 Tryz.f113 P_slices_Index_s_string_string:=.of
noncomputable def Lc.slices_Index_s_string_string {O vs H R}:=@Fp.lq V O 113 Tryz.f113 P_slices_Index_s_string_string vs H R fp_slices_Index_s_string_string
end
section
attribute [local irreducible] WL WP WH W
structure KnL (O:Orc):Prop where
 sort:∀ {vs H r},SortRel vs H r→O F_slices_Sort_s_string_string vs H=some r
 comp:∀ {vs H r},CompRel vs H r→O F_slices_Compact_s_string_string vs H=some r
 trim:∀ {vs H r},TrimRel vs H r→O 100 vs H=some r
theorem fn_Trim:V.F 100=some Tryz.f100:=by kernel_rfl
def GN (H:AH):Prop:=1<H.next∧H.obj 1=.row 131 (strs For.resv) .ro 0 0
theorem GN.fr {H H':AH} (h:GN H) (k:Fr H H'):GN H':=⟨Nat.lt_of_lt_of_le h.1 k.1,(k.2.1 1 h.1).trans h.2⟩
theorem strs_at {l:List ByteArray}{i:Nat} (h:i<l.length):((strs l).drop (i*1)).take 1=[.string l[i]]:=by
 unfold strs
 rw [Nat.mul_one,←List.map_drop,List.drop_eq_getElem_cons h];rfl
theorem strs_els {A:Av}{H:AH}{v:Value}{l:List ByteArray} (h:Sr A H v 1 l.length (strs l)):Els 1 StrR A H v l:=⟨strs l,h,fun i hi=>strs_at hi⟩
theorem GN.els {H:AH} (h:GN H):Els 1 StrR .no H (.slice (some ⟨1,0,none⟩) 15 15) For.resv:=
 strs_els ⟨rfl,.inr ⟨1,0,15,rfl,fun _=>(Rd.ro h.1 h.2).a⟩⟩
theorem slice_resv {l:SL}{E:List Value}{H:AH}:aopG V (gS V.nG E l) H (.slice 131 (.global 1) none none none)=some (.slice (some ⟨1,0,none⟩) 15 15,H):=by kernel_rfl
theorem marks_ascii:(For.marks.data.toList.all fun b=>decide (b.toNat<128))=true:=by decide +kernel
attribute [local irreducible] V
variable {O:Orc}{H:AH}
theorem indexStr_c (hO:NoO O) {A:Av}{v:Value}{l:List ByteArray} (hv:Els 1 StrR A H v l) (hL:l.length≤1000000) (s:ByteArray) :
  Lc V O F_slices_Index_s_string_string [v,.string s] H (.int .i64 (idxI (fun x=>s.data.toList==x.data.toList) l)) H:=by
 refine Lc.of_eq (Lc.slices_Index_s_string_string (R:=fun u H'=>u=.int .i64 (idxI (fun x=>s.data.toList==x.data.toList) l)∧H'=H) (hO _ _ _ (by decide)) ?_)
 unfold P_slices_Index_s_string_string
 repeat first|apply zSeq|apply zReg|apply zBlk|refine wN ?_|refine wG ?_|refine wM ?_|refine wA ?_|refine wK (hv.len E_s_string) ?_
 refine WP.loopH (σ:=Nat) (fun i=>[(0,v),(1,.string s),(7,.int .i64 l.length),(8,.int .i64 i)]) (fun i H'=>H'=H∧i≤l.length∧∀ j (h:j<l.length),j<i→(s.data.toList==l[j].data.toList)=false) (fun i=>l.length-i) 0 ⟨rfl,by simp,fun j _ h=>absurd h (by omega)⟩ ⟨rfl,rfl,rfl,rfl,trivial⟩ ?_
 rintro i H1 ⟨e1,hi,hn⟩
 subst e1
 rcases Nat.lt_or_ge i l.length with h|h
 ·have hd:decide ((i:Int)<l.length)=true:=dT
  obtain ⟨b,off,cs,ha1,hrd,hR⟩:=hv.at E_s_string E_string rfl (kd:=.i64) h
  have hR:cs=[.string l[i]]:=hR
  subst hR
  have hl1:=hrd.load1 (V:=V) E_string rfl
  cases he:s.data.toList==l[i].data.toList
  ·repeat first|apply zSeq|apply zReg|apply zBlk|apply zSkp|refine wN ?_|refine wG ?_|refine wL ?_|refine wS ?_|refine zEqS rfl rfl ?_|refine wT ?_|refine wE ?_|refine wI ?_|refine wY ?_
   refine ⟨i+1,⟨rfl,by omega,fun j hj hji=>?_⟩,by omega,rfl,rfl,rfl,rfl,trivial⟩
   by_cases e:j=i
   ·subst e;exact he
   ·exact hn j hj (by omega)
  ·repeat first|apply zSeq|apply zReg|apply zBlk|apply zSkp|refine wN ?_|refine wG ?_|refine wL ?_|refine zEqS rfl rfl ?_|refine wT ?_|refine wI ?_|refine wY ?_
   refine WP.ret ⟨.inr rfl,_,rfl,?_,rfl⟩
   rw [idxI_some (p:=fun x:ByteArray=>s.data.toList==x.data.toList) h he fun j hj=>hn j (by omega) hj];rfl
 ·have hd:decide ((i:Int)<l.length)=false:=dF
  repeat first|apply zSeq|apply zReg|apply zExt|refine wN ?_|refine wA ?_|refine wL ?_|refine wE ?_
  refine WP.ret ⟨.inr rfl,_,rfl,?_,rfl⟩
  rw [idxI_none (p:=fun x:ByteArray=>s.data.toList==x.data.toList) fun j hj=>hn j hj (by omega)];rfl
theorem containsStr_c (hO:NoO O) {A:Av}{v:Value}{l:List ByteArray} (hv:Els 1 StrR A H v l) (hL:l.length≤1000000) (s:ByteArray) :
  Lc V O F_slices_Contains_s_string_string [v,.string s] H (.bool (For.has l s)) H:=by
 refine Lc.of_eq (Lc.slices_Contains_s_string_string (R:=fun u H'=>u=.bool (For.has l s)∧H'=H) (hO _ _ _ (by decide)) ?_)
 unfold P_slices_Contains_s_string_string
 have hc:=indexStr_c hO hv hL s
 repeat first|apply zSeq|apply zReg|refine wN ?_|refine wG ?_|refine wA ?_
 refine WL.call rfl rfl fp_slices_Index_s_string_string.is hc ?_
 repeat first|refine wN ?_|refine wW ?_
 refine WP.ret ⟨.inr rfl,_,rfl,?_,rfl⟩
 rw [For.has,←idxI_any];rfl
theorem name_c (hO:NoO O) (hK:KnL O) (hg:GN H) (s:ByteArray):Lc V O F_tree_Name [.string s] H (.bool (For.nameB s)) H:=by
 refine Lc.of_eq (Lc.tree_Name (R:=fun u H'=>u=.bool (For.nameB s)∧H'=H) (hO _ _ _ (by decide)) ?_)
 unfold P_tree_Name
 have hc:=containsStr_c hO hg.els (by decide) s
 cases c1:s.data.toList==[]
 case true=>
  repeat first|apply zSeq|apply zReg|refine wN ?_|refine wG ?_|refine wx ?_|refine zU rfl ?_|refine wF ?_|refine wA ?_|refine wp ?_|refine wP ?_|refine zEqS rfl rfl ?_|refine wt ?_
  exact WP.ret ⟨.inr rfl,_,rfl,by unfold For.nameB;rw [c1];rfl,rfl⟩
 cases c2:decide ((s.size:Int)>32)
 case true=>
  repeat first|apply zSeq|apply zReg|refine wN ?_|refine wG ?_|refine wx ?_|refine zU rfl ?_|refine wO ?_|refine wF ?_|refine wM ?_|refine wA ?_|refine wp ?_|refine wP ?_|refine wR ?_|refine wV ?_|refine zLenS rfl E_string ?_|refine zEqS rfl rfl ?_|refine wt ?_
  exact WP.ret ⟨.inr rfl,_,rfl,by unfold For.nameB;rw [c1,c2];rfl,rfl⟩
 cases c3:For.has For.resv s
 case true=>
  rw [c3] at hc
  repeat first|apply zSeq|apply zReg|refine wN ?_|refine wG ?_|refine wO ?_|refine wM ?_|refine wA ?_|refine wR ?_|refine wV ?_|refine zLenS rfl E_string ?_|refine zEqS rfl rfl ?_
  refine WL.op slice_resv ?_
  repeat first|refine wO ?_|refine wM ?_
  refine WL.call rfl rfl fp_slices_Contains_s_string_string.is hc ?_
  repeat first|apply zSeq|apply zReg|refine wN ?_|refine wx ?_|refine zU rfl ?_|refine wA ?_|refine wp ?_|refine wR ?_|refine wt ?_
  exact WP.ret ⟨.inr rfl,_,rfl,by unfold For.nameB;rw [c1,c2,c3];rfl,rfl⟩
 rw [c3] at hc
 obtain ⟨b0,t,hbt⟩:∃ b t,s.data.toList=b::t:=by
  cases e:s.data.toList with
  | nil=>rw [e] at c1;cases c1
  | cons b t=>exact ⟨b,t,rfl⟩
 have hx:s.data.toList[(0:Int).toNat]?=some b0:=by rw [hbt];rfl
 have hd:For.byte0 s=(b0.toNat:Int):=by unfold For.byte0;rw [hbt];rfl
 have fin:For.digit (For.byte0 s)=false→For.nameB s=s.data.toList.all (For.marks.data.toList.contains ·):=fun h=>by unfold For.nameB;rw [c1,c2,c3,h];rfl
 have out:For.digit (For.byte0 s)=true→For.nameB s=false:=fun h=>by unfold For.nameB;rw [c1,c2,c3,h];rfl
 have hs:s.size≤32:=by have:=of_decide_eq_false c2;omega
 have ht:Lc V O 100 [.string s,.string For.marks] H (.string ⟨(Lib.trimS s.data.toList For.marks.data.toList).toArray⟩) H:=.orc (hK.trim (.made (by omega) (by decide) marks_ascii))
 have he:((⟨(Lib.trimS s.data.toList For.marks.data.toList).toArray⟩:ByteArray).data.toList==[])=s.data.toList.all (For.marks.data.toList.contains ·):=by
  have h1:=trimS_nil s.data.toList For.marks.data.toList
  rw [Bool.eq_iff_iff,←h1]
  simp
 rw [hd] at fin out
 cases c4:decide ((b0.toNat:Int)≥48)
 ·repeat first|apply zSeq|apply zReg|refine wN ?_|refine wG ?_|refine wO ?_|refine wM ?_|refine wA ?_|refine wR ?_|refine wV ?_|refine zLenS rfl E_string ?_|refine zEqS rfl rfl ?_
  refine WL.op slice_resv ?_
  repeat first|refine wO ?_|refine wM ?_
  refine WL.call rfl rfl fp_slices_Contains_s_string_string.is hc ?_
  repeat first|refine wo ?_|refine wM ?_|refine wR ?_
  refine WL.op (op_indexS rfl rfl E_string (by decide) hx) ?_
  repeat first|apply zSeq|apply zReg|apply zSkp|refine wN ?_|refine wG ?_|refine wo ?_|refine wF ?_|refine wM ?_|refine wq ?_|refine wR ?_|refine wW ?_|refine wf ?_
  refine WL.call rfl rfl (by rw [fn_Trim];rfl) ht ?_
  repeat first|refine wN ?_|refine zEqS rfl rfl ?_
  exact WP.ret ⟨.inr rfl,_,rfl,by rw [fin (by unfold For.digit;rw [c4];rfl),←he];rfl,rfl⟩
 cases c5:decide ((b0.toNat:Int)≤57)
 ·repeat first|apply zSeq|apply zReg|refine wN ?_|refine wG ?_|refine wO ?_|refine wM ?_|refine wA ?_|refine wR ?_|refine wV ?_|refine zLenS rfl E_string ?_|refine zEqS rfl rfl ?_
  refine WL.op slice_resv ?_
  repeat first|refine wO ?_|refine wM ?_
  refine WL.call rfl rfl fp_slices_Contains_s_string_string.is hc ?_
  repeat first|refine wo ?_|refine wM ?_|refine wR ?_
  refine WL.op (op_indexS rfl rfl E_string (by decide) hx) ?_
  repeat first|refine wo ?_|refine wO ?_|refine wM ?_|refine wW ?_
  refine WL.op (op_indexS rfl rfl E_string (by decide) hx) ?_
  repeat first|apply zSeq|apply zReg|apply zSkp|refine wN ?_|refine wG ?_|refine wo ?_|refine wO ?_|refine wq ?_|refine wP ?_|refine zLeq rfl rfl ?_|refine wE ?_
  refine WL.call rfl rfl (by rw [fn_Trim];rfl) ht ?_
  repeat first|refine wN ?_|refine zEqS rfl rfl ?_
  exact WP.ret ⟨.inr rfl,_,rfl,by rw [fin (by unfold For.digit;rw [c4,c5];rfl),←he];rfl,rfl⟩
 ·repeat first|apply zSeq|apply zReg|refine wN ?_|refine wG ?_|refine wO ?_|refine wM ?_|refine wA ?_|refine wR ?_|refine wV ?_|refine zLenS rfl E_string ?_|refine zEqS rfl rfl ?_
  refine WL.op slice_resv ?_
  repeat first|refine wO ?_|refine wM ?_
  refine WL.call rfl rfl fp_slices_Contains_s_string_string.is hc ?_
  repeat first|refine wo ?_|refine wM ?_|refine wR ?_
  refine WL.op (op_indexS rfl rfl E_string (by decide) hx) ?_
  repeat first|refine wo ?_|refine wO ?_|refine wM ?_|refine wW ?_
  refine WL.op (op_indexS rfl rfl E_string (by decide) hx) ?_
  repeat first|apply zSeq|apply zReg|refine wN ?_|refine wo ?_|refine wO ?_|refine wA ?_|refine wq ?_|refine wP ?_|refine zLeq rfl rfl ?_|refine wT ?_
  exact WP.ret ⟨.inr rfl,_,rfl,by rw [out (by unfold For.digit;rw [c4,c5];rfl)];rfl,rfl⟩
theorem namedQ1_c (hO:NoO O) (hK:KnL O) (hg:GN H) (s:ByteArray):Lc V O F_code_named_q1 [.string s] H (.bool (!For.nameB s)) H:=by
 refine Lc.of_eq (Lc.code_named_q1 (R:=fun u H'=>u=.bool (!For.nameB s)∧H'=H) (hO _ _ _ (by decide)) ?_)
 unfold P_code_named_q1
 have hc:=name_c hO hK hg s
 repeat first|apply zSeq|apply zReg|refine wN ?_|refine wG ?_|refine wA ?_
 refine WL.call rfl rfl fp_tree_Name.is hc ?_
 repeat first|refine wN ?_|refine wZ ?_
 exact WP.ret ⟨.inr rfl,_,rfl,rfl,rfl⟩
end
end Go.Proofs.YtjiibfgopanbgaaGreatDoor.U
namespace Go.Ev
theorem chunk1 {cs:List Value}{i:Nat}{x:Value} (h:(cs.drop (i*1)).take 1=[x]):cs[i]?=some x:=by
 have:=congrArg (·[0]?) h
 simpa using this
theorem OwR.strs {e:TypeId}{B:Av}{H:AH}{n0:Nat}{v:Value}{xs:List ByteArray}{o:Option (Nat×Nat)} (h:OwR e 1 StrR B H n0 v xs o):Ow H n0 e 1 v xs.length (strs xs) o:=by
 obtain ⟨cs,h1,h2⟩:=h
 have hl:=h1.1
 have:cs=Ev.strs xs:=by
  apply List.ext_getElem?
  intro i
  by_cases hi:i<xs.length
  ·have h3:(cs.drop (i*1)).take 1=[.string xs[i]]:=h2 i hi
   rw [chunk1 h3]
   simp [Ev.strs,hi]
  ·rw [List.getElem?_eq_none (by omega),List.getElem?_eq_none (by simp [Ev.strs];omega)]
 rw [←this];exact h1
theorem bL_lB (l:List (List UInt8)):bL (lB l)=l:=by
 unfold bL lB
 rw [List.map_map]
 have:((fun s:ByteArray=>s.data.toList) ∘ fun z:List UInt8=>(⟨z.toArray⟩:ByteArray))=id:=by funext z;simp
 rw [this,List.map_id]
theorem lB_bL (l:List ByteArray):lB (bL l)=l:=by
 unfold bL lB
 rw [List.map_map]
 have:((fun z:List UInt8=>(⟨z.toArray⟩:ByteArray)) ∘ fun s:ByteArray=>s.data.toList)=id:=by funext s;simp
 rw [this,List.map_id]
theorem srt_all (l:List ByteArray) (p:ByteArray→Bool):(lB (srt (bL l))).any p=l.any p:=by
 have h1:(lB (srt (bL l))).Perm l:=by
  have:=(srt_perm (bL l)).map fun z:List UInt8=>(⟨z.toArray⟩:ByteArray)
  have e:(bL l).map (fun z:List UInt8=>(⟨z.toArray⟩:ByteArray))=l:=lB_bL l
  rw [e] at this;exact this
 rw [Bool.eq_iff_iff,List.any_eq_true,List.any_eq_true]
 exact ⟨fun ⟨x,hx,hp⟩=>⟨x,h1.mem_iff.1 hx,hp⟩,fun ⟨x,hx,hp⟩=>⟨x,h1.mem_iff.2 hx,hp⟩⟩
theorem strs_one (l:List ByteArray):(strs l).all Value.oneCell'=true:=by
 rw [List.all_eq_true];intro x hx
 obtain ⟨m,_,rfl⟩:=List.mem_map.1 hx;rfl
theorem StrR.one {A:Av}{H:AH}{cs:List Value}{a:ByteArray} (h:StrR A H cs a):cs.all Value.oneCell'=true∧cs.length=1:=by
 have h:cs=[.string a]:=h
 subst h;exact ⟨rfl,rfl⟩
theorem MemR.one {A:Av}{H:AH}{cs:List Value}{a:Mem} (h:MemR A H cs a):cs.all Value.oneCell'=true∧cs.length=3:=by
 have h:cs=[.string a.name,.int .i64 a.size,.int .i64 a.first]:=h
 subst h;exact ⟨rfl,rfl⟩
theorem FunR.one {A:Av}{H:AH}{cs:List Value}{a:Fun} (h:FunR A H cs a):cs.all Value.oneCell'=true∧cs.length=5:=by
 obtain ⟨vc,rfl,h⟩:=h
 have:=h.oneCell
 simp [Fun.cells,Value.oneCell'] at this ⊢
 exact this
theorem GraphR.one {A:Av}{H:AH}{cs:List Value}{a:Graph} (h:GraphR A H cs a):cs.all Value.oneCell'=true∧cs.length=5:=by
 obtain ⟨vc,rfl,h⟩:=h
 have:=h.oneCell
 simp [Value.oneCell'] at this ⊢
 exact this
end Go.Ev
namespace Go.Proofs.YtjiibfgopanbgaaGreatDoor.U
open Go Go.Ev
section
attribute [local irreducible] WL WP WH W
theorem nil_nilS:aBin V.P V.E .eql 26 (.tmp 0) (.const (.slice none 0 0)) (.slice none 0 0) (.slice none 0 0)=some (.bool true):=by kernel_rfl
theorem fillStr {s:ByteArray}:afill (fun i=>some (i*TI.size ⟨.string,1,16,.string ⟨⟨[]⟩⟩⟩,TI.size ⟨.string,1,16,.string ⟨⟨[]⟩⟩⟩)) (azeros (TI.zv ⟨.string,1,16,.string ⟨⟨[]⟩⟩⟩).cells.toList 1) [(0,.string s)]=some [.string s]:=by rfl
theorem zeroMem:te_Mem.zv.cells.toList=[.string ⟨⟨[]⟩⟩,.int .i64 0,.int .i64 0]:=by kernel_rfl
theorem zeroFun:te_Fun.zv.cells.toList=[.string ⟨⟨[]⟩⟩,.bool false,.int .i64 0,.int .i64 0,.slice none 0 0]:=by kernel_rfl
attribute [local irreducible] V
variable {O:Orc}{H:AH}
theorem op_eqNilS {g:Ft}{x y:Operand}{b off n c:Nat} (hx:g x=some (.slice (some ⟨b,off,none⟩) n c)) (hy:g y=some (.slice none 0 0)):aopG V g H (.binOp .eql 26 x y 26)=some (.bool false,H):=by
 simp only [aopG,hx,hy,aBin,E_s_string,nilRes,Option.map_some]
theorem op_nilNilS {g:Ft} (hx:g (.tmp 0)=some (.slice none 0 0)) (hy:g (.const (.slice none 0 0))=some (.slice none 0 0)):aopG V g H (.binOp .eql 26 (.tmp 0) (.const (.slice none 0 0)) 26)=some (.bool true,H):=by
 simp only [aopG,hx,hy,nil_nilS,Option.map_some]
theorem cloneStr_c (hO:NoO O) {A:Av}{v:Value}{l:List ByteArray} (hv:Sr A H v 1 l.length (strs l)) (hL:l.length≤100000) :
  ∃ u H',Lc V O F_slices_Clone_s_string_string [v] H u H'∧(Fr H H'∧(v=.slice none 0 0→u=.slice none 0 0)∧∃ o,OwE H' H.next 9 1 u l.length (strs l) o):=by
 refine Lc.slices_Clone_s_string_string (hO _ _ _ (by decide)) ?_
 unfold P_slices_Clone_s_string_string
 obtain ⟨hc,⟨rfl,hn⟩|⟨b,off,cap,rfl,hr⟩⟩:=hv
 ·have hl:l=[]:=List.length_eq_zero_iff.1 hn
  subst hl
  repeat first|apply zSeq|apply zReg|refine wN ?_|refine wG ?_|refine wA ?_
  refine WL.op (op_nilNilS rfl rfl) ?_
  repeat first|apply zSeq|apply zReg|refine wN ?_|refine wA ?_|refine wt ?_
  exact WP.ret ⟨.inr rfl,_,rfl,.refl _,fun _=>rfl,none,.inl .nil⟩
 ·have hv:Sr A H (.slice (some ⟨b,off,none⟩) l.length cap) 1 l.length (strs l):=⟨hc,.inr ⟨b,off,cap,rfl,hr⟩⟩
  have f5:=Fr.alloc H (.row 9 [] .exact 0 0)
  have w5:OwE (H.alloc (.row 9 [] .exact 0 0)) H.next 9 1 (.slice (some ⟨H.next,0,none⟩) 0 0) 0 [] (some (H.next,H.next)):=.new (Nat.le_refl _)
  obtain ⟨v',H',o',k1,k2,k3,k4⟩:=w5.appSl (V:=V) ((hv.fr f5).sl (by omega)) (by decide) (bytes:=16) (by omega) (by omega) f5.1 (strs_one l) E_s_string E_s_string E_string rfl rfl
  rw [Nat.zero_add,List.nil_append] at k2
  repeat first|apply zSeq|apply zReg|refine wN ?_|refine wG ?_|refine wA ?_
  refine WL.op (op_eqNilS rfl rfl) ?_
  repeat first|apply zSeq|apply zReg|apply zSkp|refine wN ?_|refine wf ?_
  refine WL.op (op_buildSlice rfl E_s_string E_string (by decide) rfl) ?_
  repeat first|refine wG ?_
  refine WL.op (k1 rfl rfl) ?_
  repeat first|refine wN ?_
  exact WP.ret ⟨.inr rfl,_,rfl,f5.young k3 w5.young.1 w5.young.2.1,(fun e=>by cases e),o',k2⟩
structure SmallP (p:Prog):Prop where
 mems:p.mems.length≤10000
 locks:p.locks.length≤10000
 funs:p.funs.length≤10000
structure PrR (A:Av) (H:AH) (vm vl vf:Value) (p:Prog):Prop where
 m:Els 3 MemR A H vm p.mems
 l:Els 1 StrR A H vl p.locks
 f:Els 5 FunR A H vf p.funs
theorem PrR.fr {A:Av}{H H':AH}{vm vl vf:Value}{p:Prog} (h:PrR A H vm vl vf p) (k:Fr H H'):PrR A H' vm vl vf p:=⟨h.m.fr MemR.m k,h.l.fr StrR.m k,h.f.fr FunR.m k⟩
theorem PrR.one {A:Av}{H:AH}{vm vl vf:Value}{p:Prog} (h:PrR A H vm vl vf p):(Value.agg #[vm,vl,vf]).cells.toList.all Value.oneCell'=true:=by
 simp [Value.cells,h.m.oneCell,h.l.oneCell,h.f.oneCell]
set_option maxHeartbeats 2000000 in
theorem named_c (hO:NoO O) (hK:KnL O) (hg:GN H) {A:Av}{p:Prog}{vm vl vf:Value} (hp:PrR A H vm vl vf p) (hs:SmallP p) :
  ∃ u H',Lc V O F_code_named [.agg #[vm,vl,vf]] H u H'∧(u=.bool (For.named p)∧Fr H H'):=by
 refine Lc.code_named (hO _ _ _ (by decide)) ?_
 unfold P_code_named
 have hsm:=hs.mems
 have hsl:=hs.locks
 have hsf:=hs.funs
 apply zSeq
 apply zReg
 refine zBox rfl (fun _=>rfl) fun H1 f1 b1 n1=>?_
 have b1':Bx H1 H.next 74 [vm,vl,vf]:=b1
 clear b1
 have hpm:=hp.m.len (V:=V) (H2:=H1) E_s_api_Mem
 repeat first|refine wN ?_|refine wA ?_
 apply zSeq
 repeat first|apply zReg|refine wN ?_|refine wA ?_
 refine WP.seqS (σ:=Value×Option (Nat×Nat)) (fun x=>[(1,.pointer (some ⟨H.next,0,none⟩)),(3,x.1)]) (fun x Hc=>Fr H1 Hc∧OwR 9 1 StrR .no Hc H1.next x.1 (p.mems.map Mem.name) x.2) ?_ ?_
 ·have hlen1:=fun Hz=>hp.m.len (V:=V) (H2:=Hz) E_s_api_Mem
  repeat first|apply zSeq|apply zReg|apply zBlk|refine wN ?_|refine wM ?_|refine wD O_Prog_Mems ?_|refine wB E_s_api_Mem ?_|refine wK (hlen1 _) ?_
  refine WP.loopH (σ:=Nat×Value×Option (Nat×Nat)) (fun x=>[(1,.pointer (some ⟨H.next,0,none⟩)),(3,x.2.1),(9,vm),(10,.int .i64 p.mems.length),(11,.int .i64 x.1)]) (fun x Hc=>Fr H1 Hc∧OwR 9 1 StrR .no Hc H1.next x.2.1 ((p.mems.take x.1).map Mem.name) x.2.2∧x.1≤p.mems.length) (fun x=>p.mems.length-x.1) (0,.slice none 0 0,none) ⟨.refl _,.nil,Nat.zero_le _⟩ ⟨rfl,rfl,rfl,rfl,rfl,trivial⟩ ?_
  rintro ⟨k,bv,o⟩ Hc ⟨hfr,how,hk⟩
  simp only at hfr how hk ⊢
  rcases Nat.lt_or_ge k p.mems.length with h|h
  case inr=>
   have g1:decide ((k:Int)<p.mems.length)=false:=dF
   rw [List.take_of_length_le h] at how
   repeat first|apply zSeq|apply zReg|apply zExt|refine wN ?_|refine wL ?_|refine wE ?_
   exact ⟨(bv,o),⟨hfr,how⟩,rfl,rfl,trivial⟩
  have g1:decide ((k:Int)<p.mems.length)=true:=dT
  obtain ⟨b,off,cs,ha1,hrd,hR⟩:=(hp.m.fr MemR.m (f1.trans hfr)).at E_s_api_Mem E_Mem te_Mem_size (kd:=.i64) h
  have hR:cs=[.string p.mems[k].name,.int .i64 p.mems[k].size,.int .i64 p.mems[k].first]:=hR
  subst hR
  have hl1:=hrd.loadN (V:=V) E_Mem te_Mem_agg te_Mem_size
  repeat first|apply zSeq|apply zReg|apply zBlk|apply zSkp|refine wN ?_|refine wL ?_|refine wT ?_|refine wI ?_|refine wY ?_
  refine zAlc E_Mem zeroMem fun H2 f2 b2 n2=>?_
  refine zStB b2 rfl rfl E_Mem (by rw [te_Mem_size];rfl) rfl (by simp [Value.cells]) (by simp [Value.cells]) fun H3 f3 b3 n3=>?_
  have b3':Bx H3 Hc.next 60 [.string p.mems[k].name,.int .i64 p.mems[k].size,.int .i64 p.mems[k].first]:=b3
  have f23:Fr Hc H3:=f2.young f3 (by simp) (by simp)
  have how3:=how.fr StrR.m f23
  have hn:=hfr.1
  have hn3:=f23.1
  obtain ⟨bv',H4,o',k1,k2,k3,k4,k5⟩:=how3.app1 (V:=V) (x:=p.mems[k].name) (cx:=[.string p.mems[k].name]) StrR.m .no rfl StrR.one (by decide) (bytes:=16) (by rw [List.length_map,List.length_take];omega) (by rw [List.length_map,List.length_take];omega) (by omega) E_s_string E_s_string E_string rfl rfl
  have hyo:=how.young
  repeat first|apply zReg|refine wN ?_|refine wG ?_|refine wD O_Mem_Name ?_|refine wB E_string ?_
  refine WL.op (op_buildSlice rfl E_s_string E_string (by decide) fillStr) ?_
  refine WL.op (k1 rfl rfl) ?_
  repeat first|apply zReg|refine wN ?_|refine wS ?_
  exact ⟨(k+1,bv',o'),⟨(hfr.trans f23).young k3 hyo.1 hyo.2.1,by rw [List.take_succ_eq_append_getElem h,List.map_append];exact k2,h⟩,by simp only;omega,rfl,rfl,rfl,rfl,rfl,trivial⟩
 rintro ⟨bv,o⟩ H2 ⟨f2,how⟩
 simp only at f2 how ⊢
 have hyo:=how.young
 have hn2:=f2.1
 have f02:=f1.trans f2
 have b2':=b1'.fr f2
 have hl2:Els 1 StrR (Av.no.and (.of o)) H2 vl p.locks:=(hp.l.gr StrR.m (B:=Av.no.and (.of o)) ⟨fun b hb=>.inr (by simp [Av.and,Av.no,Av.of] at hb;have:=hyo.1 b hb;omega),fun b hb=>.inr (by simp [Av.and,Av.no,Av.of] at hb;have:=hyo.2.1 b hb;omega)⟩).fr StrR.m f02
 obtain ⟨bv',H3,o',k1,k2,k3,k4⟩:=how.app (V:=V) StrR.m hl2 (fun hr=>(StrR.one hr).1) (by decide) (bytes:=16) (by rw [List.length_map];omega) (by rw [List.length_map];omega) (by omega) E_s_string E_s_string E_string rfl rfl
 have f03:Fr H H3:=f02.young k3 (fun b hb=>by have:=hyo.1 b hb;omega) (fun b hb=>by have:=hyo.2.1 b hb;omega)
 have f13:Fr H1 H3:=f2.young k3 (fun b hb=>by have:=hyo.1 b hb;omega) (fun b hb=>by have:=hyo.2.1 b hb;omega)
 have b3':=b1'.fr f13
 have hn3:=f13.1
 clear k3 k4 how hyo hl2
 repeat first|apply zSeq|apply zReg|refine wG ?_|refine wD O_Prog_Locks ?_|refine wB E_s_string ?_
 refine WL.op (k1 rfl rfl) ?_
 clear k1
 repeat first|refine wN ?_
 refine WP.seqS (σ:=Value×Option (Nat×Nat)) (fun x=>[(1,.pointer (some ⟨H.next,0,none⟩)),(3,x.1)]) (fun x Hc=>Fr H1 Hc∧OwR 9 1 StrR .no Hc H1.next x.1 (For.namesOf p) x.2) ?_ ?_
 ·have hlen1:=fun Hz=>hp.f.len (V:=V) (H2:=Hz) E_s_api_Fun
  repeat first|apply zSeq|apply zReg|apply zBlk|refine wN ?_|refine wM ?_|refine wD O_Prog_Funs ?_|refine wB E_s_api_Fun ?_|refine wK (hlen1 _) ?_
  refine WP.loopH (σ:=Nat×Value×Option (Nat×Nat)) (fun x=>[(1,.pointer (some ⟨H.next,0,none⟩)),(3,x.2.1),(26,vf),(27,.int .i64 p.funs.length),(28,.int .i64 x.1)]) (fun x Hc=>Fr H1 Hc∧OwR 9 1 StrR .no Hc H1.next x.2.1 (p.mems.map Mem.name++p.locks++(p.funs.take x.1).map Fun.name) x.2.2∧x.1≤p.funs.length) (fun x=>p.funs.length-x.1) (0,bv',o') ⟨f13,by rw [List.take_zero,List.map_nil,List.append_nil];exact k2,Nat.zero_le _⟩ ⟨rfl,rfl,rfl,rfl,rfl,trivial⟩ ?_
  clear k2 f13 f03 b3' hn3 bv' o'
  rintro ⟨k,bv,o⟩ Hc ⟨hfr,how,hk⟩
  simp only at hfr how hk ⊢
  rcases Nat.lt_or_ge k p.funs.length with h|h
  case inr=>
   have g1:decide ((k:Int)<p.funs.length)=false:=dF
   rw [List.take_of_length_le h] at how
   repeat first|apply zSeq|apply zReg|apply zExt|refine wN ?_|refine wL ?_|refine wE ?_
   exact ⟨(bv,o),⟨hfr,how⟩,rfl,rfl,trivial⟩
  have g1:decide ((k:Int)<p.funs.length)=true:=dT
  obtain ⟨b,off,cs,ha1,hrd,vc,rfl,hcode⟩:=(hp.f.fr FunR.m (f1.trans hfr)).at E_s_api_Fun E_Fun te_Fun_size (kd:=.i64) h
  have hl1:=hrd.loadN (V:=V) E_Fun te_Fun_agg te_Fun_size
  have hv1:=hcode.oneCell
  repeat first|apply zSeq|apply zReg|apply zBlk|apply zSkp|refine wN ?_|refine wL ?_|refine wT ?_|refine wI ?_|refine wY ?_
  refine zAlc E_Fun zeroFun fun H4 f4 b4 n4=>?_
  refine zStB b4 rfl rfl E_Fun (by rw [te_Fun_size];rfl) (by simp [Value.cells,Fun.cells,Value.oneCell'] at hv1 ⊢;exact hv1) (by simp [Value.cells,Fun.cells]) (by simp [Value.cells,Fun.cells]) fun H5 f5 b5 n5=>?_
  have b5':Bx H5 Hc.next 78 (p.funs[k].cells vc):=b5
  have f45:Fr Hc H5:=f4.young f5 (by simp) (by simp)
  have how5:=how.fr StrR.m f45
  have hn:=hfr.1
  have hn5:=f45.1
  obtain ⟨bv',H6,o',k1,k2,k3,k4,k5⟩:=how5.app1 (V:=V) (x:=p.funs[k].name) (cx:=[.string p.funs[k].name]) StrR.m .no rfl StrR.one (by decide) (bytes:=16) (by simp;omega) (by simp;omega) (by omega) E_s_string E_s_string E_string rfl rfl
  have hyo:=how.young
  repeat first|apply zReg|refine wN ?_|refine wG ?_|refine wD O_Fun_Name ?_|refine wB E_string ?_
  refine WL.op (op_buildSlice rfl E_s_string E_string (by decide) fillStr) ?_
  refine WL.op (k1 rfl rfl) ?_
  repeat first|apply zReg|refine wN ?_|refine wS ?_
  exact ⟨(k+1,bv',o'),⟨(hfr.trans f45).young k3 hyo.1 hyo.2.1,by rw [List.take_succ_eq_append_getElem h,List.map_append,←List.append_assoc];exact k2,h⟩,by simp only;omega,rfl,rfl,rfl,rfl,rfl,trivial⟩
 clear k2 f13 f03 b3' hn3 bv' o' f02 f2 b2' hn2
 rintro ⟨bv,o⟩ H2 ⟨f2,how⟩
 simp only at f2 how ⊢
 have hlen:(For.namesOf p).length≤30000:=by simp [For.namesOf];omega
 have how:=how.strs
 generalize hnm:For.namesOf p=nm at *
 have hyo:=how.young
 have f02:=f1.trans f2
 obtain ⟨H3,r3,how3,f3,n3⟩:=how.sortRel
 have f03:Fr H H3:=f02.young f3 (fun b hb=>by have:=hyo.1 b hb;have:=f1.1;omega) (fun b hb=>by have:=hyo.2.1 b hb;have:=f1.1;omega)
 have hs3:Lc V O F_slices_Sort_s_string_string [bv] H2 (.tuple #[]) H3:=.orc (hK.sort r3)
 clear r3 f3
 have hsl3:=how3.sl
 have hll:(lB (srt (bL nm))).length=nm.length:=by rw [lB_length,srt_length,bL_length]
 rw [←hll] at how3 hsl3
 have hlen1:=fun Hz=>hsl3.sr.len (V:=V) (H2:=Hz) E_s_string
 have hyo3:=how3.young
 repeat first|apply zSeq|apply zReg|refine wG ?_
 refine WL.call rfl rfl fp_slices_Sort_s_string_string.is hs3 ?_
 repeat first|apply zSeq|apply zReg|refine wN ?_|refine wG ?_|refine zLeq rfl rfl ?_|refine wK (hlen1 _) ?_
 cases c1:decide (((lB (srt (bL nm))).length:Int)≤256)
 ·repeat first|refine wN ?_|refine wx ?_|refine wq ?_
  refine WP.ret ⟨.inr rfl,_,rfl,?_,f03⟩
  have:decide (nm.length≤256)=false:=decide_eq_false (by have:=of_decide_eq_false c1;omega)
  unfold For.named;rw [hnm,this];rfl
 have c1':decide (nm.length≤256)=true:=decide_eq_true (by have:=of_decide_eq_true c1;omega)
 obtain ⟨u4,H4,hc4,f4,hu4,o4,how4⟩:=cloneStr_c (H:=H3) hO (hsl3.sr) (by omega)
 have f04:=f03.trans f4
 have how4':Ow H4 H3.next 9 1 u4 (lB (srt (bL nm))).length (strs (lB (srt (bL nm)))) (if (lB (srt (bL nm)))=[] then none else o4):=by
  by_cases e:lB (srt (bL nm))=[]
  ·rw [if_pos e]
   have e0:(lB (srt (bL nm))).length=0:=by rw [e];rfl
   rw [e0] at how3
   rw [hu4 how3.isNil,e]
   exact .nil
  ·rw [if_neg e]
   exact how4.ow (List.length_pos_iff.2 e)
 obtain ⟨a5,c5,H5,r5,f5,n5⟩:=how4'.compRel
 have hy4:=how4'.young
 have f05:Fr H H5:=f04.young f5 (fun b hb=>by have:=hy4.1 b hb;have:=f03.1;omega) (fun b hb=>by have:=hy4.2.1 b hb;have:=f03.1;omega)
 have f35:Fr H3 H5:=f4.young f5 hy4.1 hy4.2.1
 have hs5:Lc V O F_slices_Compact_s_string_string [u4] H4 (.slice a5 (Lib.compact (bL (lB (srt (bL nm))))).length c5) H5:=.orc (hK.comp r5)
 rw [bL_lB] at hs5
 have hlen2:∀ Hz,aLen V.E Hz 26 (.slice a5 (Lib.compact (srt (bL nm))).length c5)=some (.int .i64 (Lib.compact (srt (bL nm))).length):=fun Hz=>by simp only [aLen,E_s_string]
 have hnd:(((Lib.compact (srt (bL nm))).length:Int)==((lB (srt (bL nm))).length:Int))=decide (bL nm).Nodup:=by
  rw [Bool.eq_iff_iff,beq_iff_eq,decide_eq_true_eq,←compact_srt,hll,bL_length]
  omega
 cases c2:((Lib.compact (srt (bL nm))).length:Int)==((lB (srt (bL nm))).length:Int)
 ·repeat first|refine wo ?_|refine wM ?_
  refine WL.call rfl rfl fp_slices_Clone_s_string_string.is hc4 ?_
  repeat first|refine wo ?_
  refine WL.call rfl rfl fp_slices_Compact_s_string_string.is hs5 ?_
  repeat first|refine wN ?_|refine wo ?_|refine wF ?_|refine wM ?_|refine wp ?_|refine wR ?_|refine wQ ?_|refine wK (hlen1 _) ?_|refine wK (hlen2 _) ?_
  refine WP.ret ⟨.inr rfl,_,rfl,?_,f05⟩
  rw [c2] at hnd
  unfold For.named;rw [hnm,c1',←hnd];rfl
 have hel:Els 1 StrR .no H5 bv (lB (srt (bL nm))):=strs_els (hsl3.sr.fr f35)
 obtain ⟨H6,hc6,f6⟩:=containsFunc_str_c (H:=H5) (f:=80) (cap:=#[]) (p:=fun s=>!For.nameB s) hO hel (by omega) (by rw [fn_code_named_q1];rfl) (fun x hx Hx fx=>⟨Hx,namedQ1_c hO hK (hg.fr (f05.trans fx)) x,.refl _⟩)
 repeat first|refine wo ?_|refine wM ?_
 refine WL.call rfl rfl fp_slices_Clone_s_string_string.is hc4 ?_
 repeat first|refine wo ?_
 refine WL.call rfl rfl fp_slices_Compact_s_string_string.is hs5 ?_
 repeat first|refine wo ?_|refine wO ?_|refine wM ?_|refine wp ?_|refine wQ ?_|refine wK (hlen1 _) ?_|refine wK (hlen2 _) ?_
 refine WL.call rfl rfl fp_slices_ContainsFunc_s_string_string.is hc6 ?_
 repeat first|refine wN ?_|refine wO ?_|refine wP ?_|refine wZ ?_
 refine WP.ret ⟨.inr rfl,_,rfl,?_,f05.trans f6⟩
 rw [c2] at hnd
 unfold For.named
 rw [hnm,c1',←hnd,srt_all,any_not,Bool.not_not];rfl
end
end Go.Proofs.YtjiibfgopanbgaaGreatDoor.U
namespace Go.Ev
theorem byTF {P:Prop} (b:Bool) (ht:b=true→P) (hf:b=false→P):P:=by
 cases b
 ·exact hf rfl
 ·exact ht rfl
end Go.Ev
namespace Go.Proofs.YtjiibfgopanbgaaGreatDoor.U
open Go Go.Ev
section
attribute [local irreducible] WL WP WH W
attribute [local irreducible] V
variable {O:Orc}{H:AH}
structure SmallF (f:Fun):Prop where
 code:f.code.length≤1000000
 args:∀ i∈f.code,i.args.length≤100000
 op:∀ i∈f.code,0≤i.op∧i.op<256
theorem threads_c (hO:NoO O) {A:Av}{p:Prog}{vm vl vf:Value} (hp:PrR A H vm vl vf p) (hs:SmallP p) :
  ∃ u H',Lc V O F_code_Threads [.agg #[vm,vl,vf]] H u H'∧((∀ Hz,aLen V.E Hz 43 u=some (.int .i64 (For.threads p).length))∧Fr H H'):=by
 refine Lc.code_Threads (hO _ _ _ (by decide)) ?_
 unfold P_code_Threads
 have hsf:=hs.funs
 apply zSeq
 apply zReg
 refine zBox rfl (fun _=>rfl) fun H1 f1 b1 n1=>?_
 have b1':Bx H1 H.next 74 [vm,vl,vf]:=b1
 clear b1
 have hlen1:=fun Hz=>hp.f.len (V:=V) (H2:=Hz) E_s_api_Fun
 let T:Nat→List Int:=fun k=>((List.range k).filter fun n=>match p.funs[n]? with|some f=>f.thread|none=>false).map fun n:Nat=>(n:Int)
 have T0:T 0=[]:=rfl
 have TL:(T p.funs.length).length=(For.threads p).length:=by simp only [T,List.length_map];rfl
 have Tle:∀ k,(T k).length≤k:=fun k=>by
  simp only [T,List.length_map]
  exact Nat.le_trans (List.length_filter_le _ _) (by simp)
 have TS:∀ k (h:k<p.funs.length),T (k+1)=T k++if p.funs[k].thread=true then [(k:Int)] else []:=fun k h=>by
  simp only [T]
  rw [List.range_succ,List.filter_append,List.map_append]
  congr 1
  rw [List.filter_cons,List.filter_nil,List.getElem?_eq_getElem h]
  simp only
  split<;>rfl
 generalize T=T at *
 repeat first|apply zSeq|apply zReg|apply zBlk|refine wN ?_|refine wM ?_|refine wA ?_|refine wD O_Prog_Funs ?_|refine wB E_s_api_Fun ?_|refine wK (hlen1 _) ?_
 refine WP.loopH (σ:=Nat×Value×Option (Nat×Nat)) (fun x=>[(1,.pointer (some ⟨H.next,0,none⟩)),(3,x.2.1),(7,vf),(8,.int .i64 p.funs.length),(9,.int .i64 x.1)]) (fun x Hc=>Fr H1 Hc∧OwI 3 Hc H1.next x.2.1 (T x.1) x.2.2∧x.1≤p.funs.length) (fun x=>p.funs.length-x.1) (0,.slice none 0 0,none) ⟨.refl _,by simp only;rw [T0];exact .nil,Nat.zero_le _⟩ ⟨rfl,rfl,rfl,rfl,rfl,trivial⟩ ?_
 rintro ⟨k,bv,o⟩ Hc ⟨hfr,how,hk⟩
 simp only at hfr how hk ⊢
 rcases Nat.lt_or_ge k p.funs.length with h|h
 case inr=>
  have g1:decide ((k:Int)<p.funs.length)=false:=dF
  obtain rfl:k=p.funs.length:=by omega
  repeat first|apply zSeq|apply zReg|apply zExt|refine wN ?_|refine wG ?_|refine wL ?_|refine wE ?_
  refine WP.ret ⟨.inr rfl,_,rfl,fun Hz=>?_,f1.trans hfr⟩
  have:=how.sl.sr.len (V:=V) (H2:=Hz) E_s_int
  rw [TL] at this
  exact this
 have g1:decide ((k:Int)<p.funs.length)=true:=dT
 obtain ⟨b,off,cs,ha1,hrd,vc,rfl,hcode⟩:=(hp.f.fr FunR.m (f1.trans hfr)).at E_s_api_Fun E_Fun te_Fun_size (kd:=.i64) h
 have hl1:=hrd.loadN (V:=V) E_Fun te_Fun_agg te_Fun_size
 have hv1:=hcode.oneCell
 have hTS:=TS k h
 have hTl:=Tle k
 repeat first|apply zSeq|apply zReg|apply zBlk|apply zSkp|refine wN ?_|refine wG ?_|refine wL ?_|refine wT ?_|refine wI ?_|refine wY ?_
 refine zAlc E_Fun zeroFun fun H4 f4 b4 n4=>?_
 refine zStB b4 rfl rfl E_Fun (by rw [te_Fun_size];rfl) (by simp [Value.cells,Fun.cells,Value.oneCell'] at hv1 ⊢;exact hv1) (by simp [Value.cells,Fun.cells]) (by simp [Value.cells,Fun.cells]) fun H5 f5 b5 n5=>?_
 have b5':Bx H5 Hc.next 78 (p.funs[k].cells vc):=b5
 have f45:Fr Hc H5:=f4.young f5 (by simp) (by simp)
 have how5:=how.fr f45
 have hn:=hfr.1
 have hn5:=f45.1
 cases t1:p.funs[k].thread
 ·rw [t1] at hTS
  repeat first|apply zSeq|apply zReg|apply zSkp|refine wN ?_|refine wS ?_|refine wE ?_|refine wD O_Fun_Thread ?_|refine wB E_bool ?_
  exact ⟨(k+1,bv,o),⟨hfr.trans f45,by rw [hTS];simp only [Bool.false_eq_true,if_false,List.append_nil];exact how5,h⟩,by simp only;omega,rfl,rfl,rfl,rfl,rfl,trivial⟩
 ·rw [t1] at hTS
  obtain ⟨bv',H6,o',k1,k2,k3,k4⟩:=how5.app1 (V:=V) (k:Int) (by omega) (by omega) E_s_int E_s_int E_int (by decide)
  have hyo:=how.young
  repeat first|apply zSeq|apply zReg|refine wN ?_|refine wG ?_|refine wT ?_|refine wD O_Fun_Thread ?_|refine wB E_bool ?_
  refine WL.op (op_buildSlice rfl E_s_int E_int (by decide) fill_int) ?_
  refine WL.op (k1 rfl rfl) ?_
  repeat first|apply zReg|refine wN ?_|refine wS ?_
  exact ⟨(k+1,bv',o'),⟨(hfr.trans f45).young k3 hyo.1 hyo.2.1,by rw [hTS];simp only [if_true];exact k2,h⟩,by simp only;omega,rfl,rfl,rfl,rfl,rfl,trivial⟩
theorem mayFunQ1_c (hO:NoO O) (hgh:GH H) {A B C:Av}{p:Prog}{f:Fun}{vm vl vf vc:Value}{b1 b2:Nat} (hp:PrR A H vm vl vf p) (hc:Els 6 InsR B H vc f.code) (h1:Bx H b1 74 [vm,vl,vf]) (h2:Bx H b2 78 (f.cells vc)) {i:Ins}{cs:List Value} (hR:InsR C H cs i) (hL:i.args.length≤100000) (hop:0≤i.op∧i.op<256) :
  ∃ u H',Lc V O F_code_mayFun_q1 [.agg cs.toArray,.pointer (some ⟨b1,0,none⟩),.pointer (some ⟨b2,0,none⟩)] H u H'∧(u=.bool (!mayG p f i)∧Fr H H'):=by
 obtain ⟨va,rfl,hva⟩:=hR
 refine Lc.code_mayFun_q1 (hO _ _ _ (by decide)) ?_
 unfold P_code_mayFun_q1
 apply zSeq
 apply zReg
 refine zBox rfl (fun _=>rfl) fun H1 f1 b3 n1=>?_
 have b3':Bx H1 H.next 47 (i.cells va):=b3
 obtain ⟨_,H2,hc2,rfl,f2⟩:=codeMayIns_c (H:=H1) hO (hgh.fr f1) (hp.fr f1).m (hp.fr f1).l (hp.fr f1).f (hc.fr InsR.m f1) (hva.fr f1) hL hop
 repeat first|apply zSeq|apply zReg|refine wN ?_|refine wA ?_
 refine zLd rfl ((h1.fr f1).lN E_Prog te_Prog_agg te_Prog_size) ?_
 refine zLd rfl ((h2.fr f1).lN E_Fun te_Fun_agg te_Fun_size) ?_
 refine zLd rfl (b3'.lN E_Ins te_Ins_agg te_Ins_size) ?_
 refine WL.call rfl rfl fp_code_mayIns.is hc2 ?_
 repeat first|refine wN ?_|refine wZ ?_
 exact WP.ret ⟨.inr rfl,_,rfl,rfl,f1.trans f2⟩
set_option maxHeartbeats 4000000 in
theorem mayFun_c (hO:NoO O) (hgh:GH H) {A B:Av}{p:Prog}{f:Fun}{vm vl vf vc:Value} (hp:PrR A H vm vl vf p) (hc:Els 6 InsR B H vc f.code) (hs:SmallF f) :
 ∃ u H',Lc V O F_code_mayFun [.agg #[vm,vl,vf],.agg (f.cells vc).toArray] H u H'∧(u=.bool (For.mayFun mayG p f)∧Fr H H'):=by
 refine Lc.code_mayFun (hO _ _ _ (by decide)) ?_
 unfold P_code_mayFun
 apply zSeq
 apply zReg
 refine zBox rfl (fun _=>rfl) fun H1 f1 b1 n1=>?_
 refine zBox rfl (fun _=>rfl) fun H2 f2 b2 n2=>?_
 have b1':Bx H2 H.next 74 [vm,vl,vf]:=b1.fr f2
 have b2':Bx H2 H1.next 78 (f.cells vc):=b2
 have b2c:Bx H2 H1.next 78 [.string f.name,.bool f.thread,.int .i64 f.params,.int .i64 f.regs,vc]:=b2
 have f12:=f1.trans f2
 have hc2:=hc.fr InsR.m f12
 have hlen1:=fun Hz=>hc.len (V:=V) (H2:=Hz) E_s_api_Ins
 clear b1 b2
 repeat first|refine wN ?_|refine wA ?_
 apply zSeq
 repeat first|apply zReg|refine wN ?_|refine wD O_Fun_Code ?_|refine wB E_s_api_Ins ?_|refine wK (hlen1 _) ?_
 have bad:For.oddF f=true→For.mayFun mayG p f=false:=fun h=>by unfold For.mayFun;rw [h];rfl
 refine WP.seqS (σ:=Unit) (fun _=>[(2,.pointer (some ⟨H.next,0,none⟩)),(3,.pointer (some ⟨H1.next,0,none⟩)),(5,.int .i64 f.code.length)]) (fun _ Hc=>Hc=H2∧For.oddF f=false) ?_ ?_
 ·cases d1:decide (f.params<0)
  case true =>
   have e:=bad (by unfold For.oddF;rw [d1];rfl)
   repeat first|apply zSeq|apply zReg|refine wN ?_|refine wx ?_|refine zU rfl ?_|refine wF ?_|refine wA ?_|refine wp ?_|refine wP ?_|refine wL ?_|refine wt ?_|refine wD O_Fun_Params ?_|refine wB E_int ?_
   exact WP.ret ⟨.inr rfl,_,rfl,by rw [e];rfl,f12⟩
  cases d2:decide (f.params>8)
  case true =>
   have e:=bad (by unfold For.oddF;rw [d1,d2];rfl)
   repeat first|apply zSeq|apply zReg|refine wN ?_|refine wx ?_|refine zU rfl ?_|refine wO ?_|refine wF ?_|refine wA ?_|refine wp ?_|refine wP ?_|refine wR ?_|refine wL ?_|refine wV ?_|refine wt ?_|refine wD O_Fun_Params ?_|refine wB E_int ?_
   exact WP.ret ⟨.inr rfl,_,rfl,by rw [e];rfl,f12⟩
  have rest:∀ (c3:(f.thread&&decide (f.params>0))=false),For.oddF f=(decide (f.regs<f.params)||(decide (f.regs>4096)||(decide ((f.code.length:Int)<1)||decide ((f.code.length:Int)>16384)))):=fun c3=>by
   unfold For.oddF;rw [d1,d2,c3];rfl
  cases t1:f.thread
  ·have rest:=rest (by rw [t1];rfl)
   refine byTF (decide (f.regs<f.params)) (fun d4=>by (have e:=bad (by rw [rest,d4];rfl);(repeat first|apply zSeq|apply zReg|refine wN ?_|refine wo ?_|refine wx ?_|refine wO ?_|refine wF ?_|refine wM ?_|refine wA ?_|refine wp ?_|refine wq ?_|refine wP ?_|refine wR ?_|refine wL ?_|refine wV ?_|refine wt ?_|refine wD O_Fun_Thread ?_|refine wD O_Fun_Params ?_|refine wD O_Fun_Regs ?_|refine wB E_int ?_|refine wB E_bool ?_);exact WP.ret ⟨.inr rfl,_,rfl,by rw [e];rfl,f12⟩)) (fun d4=>?_);refine byTF (decide (f.regs>4096)) (fun d5=>by (have e:=bad (by rw [rest,d4,d5];rfl);(repeat first|apply zSeq|apply zReg|refine wN ?_|refine wo ?_|refine wx ?_|refine wO ?_|refine wF ?_|refine wM ?_|refine wA ?_|refine wp ?_|refine wq ?_|refine wP ?_|refine wR ?_|refine wL ?_|refine wV ?_|refine wt ?_|refine wD O_Fun_Thread ?_|refine wD O_Fun_Params ?_|refine wD O_Fun_Regs ?_|refine wB E_int ?_|refine wB E_bool ?_);exact WP.ret ⟨.inr rfl,_,rfl,by rw [e];rfl,f12⟩)) (fun d5=>?_);refine byTF (decide ((f.code.length:Int)<1)) (fun d6=>by (have e:=bad (by rw [rest,d4,d5,d6];rfl);(repeat first|apply zSeq|apply zReg|refine wN ?_|refine wo ?_|refine wO ?_|refine wF ?_|refine wM ?_|refine wA ?_|refine wq ?_|refine wP ?_|refine wR ?_|refine wL ?_|refine wV ?_|refine wt ?_|refine wD O_Fun_Thread ?_|refine wD O_Fun_Params ?_|refine wD O_Fun_Regs ?_|refine wB E_int ?_|refine wB E_bool ?_);exact WP.ret ⟨.inr rfl,_,rfl,by rw [e];rfl,f12⟩)) (fun d6=>?_);refine byTF (decide ((f.code.length:Int)>16384)) (fun d7=>by (have e:=bad (by rw [rest,d4,d5,d6,d7];rfl);(repeat first|apply zSeq|apply zReg|refine wN ?_|refine wo ?_|refine wO ?_|refine wF ?_|refine wM ?_|refine wA ?_|refine wq ?_|refine wR ?_|refine wL ?_|refine wV ?_|refine wT ?_|refine wD O_Fun_Thread ?_|refine wD O_Fun_Params ?_|refine wD O_Fun_Regs ?_|refine wB E_int ?_|refine wB E_bool ?_);exact WP.ret ⟨.inr rfl,_,rfl,by rw [e];rfl,f12⟩)) (fun d7=>?_);((repeat first|apply zSeq|apply zReg|apply zSkp|refine wN ?_|refine wo ?_|refine wO ?_|refine wF ?_|refine wM ?_|refine wq ?_|refine wR ?_|refine wL ?_|refine wV ?_|refine wE ?_|refine wD O_Fun_Thread ?_|refine wD O_Fun_Params ?_|refine wD O_Fun_Regs ?_|refine wB E_int ?_|refine wB E_bool ?_);exact ⟨(),⟨rfl,by rw [rest,d4,d5,d6,d7];rfl⟩,rfl,rfl,rfl,trivial⟩)
  ·cases t2:decide (f.params>0)
   ·have rest:=rest (by rw [t2,Bool.and_false])
    refine byTF (decide (f.regs<f.params)) (fun d4=>by (have e:=bad (by rw [rest,d4];rfl);(repeat first|apply zSeq|apply zReg|refine wN ?_|refine wx ?_|refine wO ?_|refine wF ?_|refine wM ?_|refine wA ?_|refine wp ?_|refine wP ?_|refine wR ?_|refine wL ?_|refine wV ?_|refine wt ?_|refine wD O_Fun_Thread ?_|refine wD O_Fun_Params ?_|refine wD O_Fun_Regs ?_|refine wB E_int ?_|refine wB E_bool ?_);exact WP.ret ⟨.inr rfl,_,rfl,by rw [e];rfl,f12⟩)) (fun d4=>?_);refine byTF (decide (f.regs>4096)) (fun d5=>by (have e:=bad (by rw [rest,d4,d5];rfl);(repeat first|apply zSeq|apply zReg|refine wN ?_|refine wx ?_|refine wO ?_|refine wF ?_|refine wM ?_|refine wA ?_|refine wp ?_|refine wP ?_|refine wR ?_|refine wL ?_|refine wV ?_|refine wt ?_|refine wD O_Fun_Thread ?_|refine wD O_Fun_Params ?_|refine wD O_Fun_Regs ?_|refine wB E_int ?_|refine wB E_bool ?_);exact WP.ret ⟨.inr rfl,_,rfl,by rw [e];rfl,f12⟩)) (fun d5=>?_);refine byTF (decide ((f.code.length:Int)<1)) (fun d6=>by (have e:=bad (by rw [rest,d4,d5,d6];rfl);(repeat first|apply zSeq|apply zReg|refine wN ?_|refine wO ?_|refine wF ?_|refine wM ?_|refine wA ?_|refine wP ?_|refine wR ?_|refine wL ?_|refine wV ?_|refine wt ?_|refine wD O_Fun_Thread ?_|refine wD O_Fun_Params ?_|refine wD O_Fun_Regs ?_|refine wB E_int ?_|refine wB E_bool ?_);exact WP.ret ⟨.inr rfl,_,rfl,by rw [e];rfl,f12⟩)) (fun d6=>?_);refine byTF (decide ((f.code.length:Int)>16384)) (fun d7=>by (have e:=bad (by rw [rest,d4,d5,d6,d7];rfl);(repeat first|apply zSeq|apply zReg|refine wN ?_|refine wO ?_|refine wM ?_|refine wA ?_|refine wP ?_|refine wR ?_|refine wL ?_|refine wV ?_|refine wT ?_|refine wD O_Fun_Thread ?_|refine wD O_Fun_Params ?_|refine wD O_Fun_Regs ?_|refine wB E_int ?_|refine wB E_bool ?_);exact WP.ret ⟨.inr rfl,_,rfl,by rw [e];rfl,f12⟩)) (fun d7=>?_);((repeat first|apply zSeq|apply zReg|apply zSkp|refine wN ?_|refine wO ?_|refine wM ?_|refine wP ?_|refine wR ?_|refine wL ?_|refine wV ?_|refine wE ?_|refine wD O_Fun_Thread ?_|refine wD O_Fun_Params ?_|refine wD O_Fun_Regs ?_|refine wB E_int ?_|refine wB E_bool ?_);exact ⟨(),⟨rfl,by rw [rest,d4,d5,d6,d7];rfl⟩,rfl,rfl,rfl,trivial⟩)
   ·have e:=bad (by unfold For.oddF;rw [d1,d2,t1,t2];rfl)
    repeat first|apply zSeq|apply zReg|refine wN ?_|refine wx ?_|refine wO ?_|refine wF ?_|refine wM ?_|refine wA ?_|refine wp ?_|refine wP ?_|refine wR ?_|refine wL ?_|refine wV ?_|refine wt ?_|refine wD O_Fun_Thread ?_|refine wD O_Fun_Params ?_|refine wB E_int ?_|refine wB E_bool ?_
    exact WP.ret ⟨.inr rfl,_,rfl,by rw [e];rfl,f12⟩
 rintro _ Hc ⟨e,hodd⟩
 subst e
 have hpos:0<f.code.length:=by
  unfold For.oddF at hodd
  simp only [Bool.or_eq_false_iff] at hodd
  have:=of_decide_eq_false hodd.2.2.2.2.2.1
  omega
 obtain ⟨b,off,cs,ha1,hrd,va,rfl,hva⟩:=hc2.at E_s_api_Ins E_Ins te_Ins_size (kd:=.i64) (i:=f.code.length-1) (by omega)
 rw [show ((f.code.length-1:Nat):Int)=(f.code.length:Int)-1 by omega] at ha1
 have hl1:=(hrd.at1 (i:=0) rfl).load1 (V:=V) E_uint8 rfl
 have hlo:For.lastOp f=(f.code[f.code.length-1]'(by omega)).op:=by
  unfold For.lastOp
  rw [List.getLast?_eq_getElem?,List.getElem?_eq_getElem (by omega)]
 have hmf:For.mayFun mayG p f=(!((f.code[f.code.length-1]'(by omega)).op != 11&&(f.code[f.code.length-1]'(by omega)).op != 13)&&f.code.all (mayG p f)):=by
  unfold For.mayFun;rw [hodd,hlo];rfl
 rw [hmf]
 generalize (f.code[f.code.length-1]'(by omega)).op=lo at *
 clear hmf bad hlo
 have hp2:=hp.fr f12
 have hsc:=hs.code
 have hg2:=hgh.fr f12
 obtain ⟨H3,hc3,f3⟩:=containsFunc_ins_c (H:=Hc) (f:=84) (cap:=#[.pointer (some ⟨H.next,0,none⟩),.pointer (some ⟨H1.next,0,none⟩)]) (p:=fun i=>!mayG p f i) hO hc2 hs.code (by rw [fn_code_mayFun_q1];rfl) (fun x hx cs Hx fx hR=>by
  obtain ⟨_,Hy,h,rfl,fy⟩:=mayFunQ1_c (H:=Hx) hO (hg2.fr fx) (hp2.fr fx) (hc2.fr InsR.m fx) (b1'.fr fx) (b2'.fr fx) hR (hs.args x hx) (hs.op x hx)
  exact ⟨Hy,h,fy⟩)
 rw [any_not] at hc3
 cases c1:lo != 11
 ·repeat first|apply zSeq|apply zReg|apply zSkp|refine wN ?_|refine wG ?_|refine wF ?_|refine wR ?_|refine wU ?_|refine zSub rfl rfl (by omega) ?_|refine wf ?_|refine wD O_Ins_Op ?_|refine wD O_Fun_Code ?_|refine wB E_s_api_Ins ?_|refine wI ?_|refine wY ?_
  refine WL.op (v:=.func (.func 84) #[] #[.pointer (some ⟨H.next,0,none⟩),.pointer (some ⟨H1.next,0,none⟩)]) (H1:=Hc) rfl ?_
  refine WL.call rfl rfl fp_slices_ContainsFunc_s_api_Ins_api_Ins.is hc3 ?_
  repeat first|refine wN ?_|refine wZ ?_
  refine WP.ret ⟨.inr rfl,_,rfl,?_,f12.trans f3⟩
  rw [Bool.not_not];rfl
 cases c2:lo != 13
 ·repeat first|apply zSeq|apply zReg|apply zSkp|refine wN ?_|refine wG ?_|refine wO ?_|refine wM ?_|refine wP ?_|refine wU ?_|refine zSub rfl rfl (by omega) ?_|refine wE ?_|refine wD O_Ins_Op ?_|refine wD O_Fun_Code ?_|refine wB E_s_api_Ins ?_|refine wI ?_|refine wY ?_
  refine WL.op (v:=.func (.func 84) #[] #[.pointer (some ⟨H.next,0,none⟩),.pointer (some ⟨H1.next,0,none⟩)]) (H1:=Hc) rfl ?_
  refine WL.call rfl rfl fp_slices_ContainsFunc_s_api_Ins_api_Ins.is hc3 ?_
  repeat first|refine wN ?_|refine wZ ?_
  refine WP.ret ⟨.inr rfl,_,rfl,?_,f12.trans f3⟩
  rw [Bool.not_not];rfl
 ·repeat first|apply zSeq|apply zReg|refine wN ?_|refine wG ?_|refine wO ?_|refine wM ?_|refine wA ?_|refine wP ?_|refine wU ?_|refine zSub rfl rfl (by omega) ?_|refine wT ?_|refine wD O_Ins_Op ?_|refine wD O_Fun_Code ?_|refine wB E_s_api_Ins ?_|refine wI ?_|refine wY ?_
  exact WP.ret ⟨.inr rfl,_,rfl,rfl,f12⟩
end
end Go.Proofs.YtjiibfgopanbgaaGreatDoor.U
namespace Go.Ev
structure FmR (A:Av) (H:AH) (vm vl vf:Value) (f:For.Form):Prop where
 m:Els 3 MemR A H vm f.mems
 l:Els 1 StrR A H vl f.locks
 f:Els 5 GraphR A H vf f.funs
theorem FmR.frX {A:Av}{H H':AH}{vm vl vf:Value}{f:For.Form} (h:FmR A H vm vl vf f) (k:FrX A.bs A.gs H H'):FmR A H' vm vl vf f:=⟨h.m.frX MemR.m k,h.l.frX StrR.m k,h.f.frX GraphR.m k⟩
theorem FmR.fr {A:Av}{H H':AH}{vm vl vf:Value}{f:For.Form} (h:FmR A H vm vl vf f) (k:Fr H H'):FmR A H' vm vl vf f:=h.frX (k.x _ _)
theorem FmR.gr {A B:Av}{H:AH}{vm vl vf:Value}{f:For.Form} (h:FmR A H vm vl vf f) (k:A.Gr B H.next):FmR B H vm vl vf f:=⟨h.m.gr MemR.m k,h.l.gr StrR.m k,h.f.gr GraphR.m k⟩
theorem OwR.old {α:Type}{e:TypeId}{sz:Nat}{R:Rq α}{B:Av}{H:AH}{n0 n1:Nat}{v:Value}{xs:List α}{o:Option (Nat×Nat)} (h:OwR e sz R B H n0 v xs o) (hn:n1≤n0):OwR e sz R B H n1 v xs o:=let ⟨cs,h1,h2⟩:=h;⟨cs,h1.old hn,h2⟩
end Go.Ev
namespace Go.Proofs.YtjiibfgopanbgaaGreatDoor.U
open Go Go.Ev
section
attribute [local irreducible] WL WP WH W
theorem zeroGraph:te_Graph.zv.cells.toList=[.string ⟨⟨[]⟩⟩,.bool false,.int .i64 0,.int .i64 0,.slice none 0 0]:=by kernel_rfl
theorem zeroProg:te_Prog.zv.cells.toList=[.slice none 0 0,.slice none 0 0,.slice none 0 0]:=by kernel_rfl
theorem buildProg2 {a1 a2 b1 b2:Nat}{p q:Option Addr}:aBuild V.E 74 [(0,.slice p a1 a2),(1,.slice q b1 b2)]=some (.agg #[.slice p a1 a2,.slice q b1 b2,.slice none 0 0]):=by kernel_rfl
theorem buildJump:aBuild V.E 47 [(0,.int .u8 11)]=some (.agg #[.int .u8 11,.int .i64 0,.int .i64 0,.int .i64 0,.int .i64 0,.slice none 0 0]):=by kernel_rfl
theorem buildFun {s:ByteArray}{t:Bool}{a b:Int}{p:Option Addr}{n c:Nat}:aBuild V.E 78 [(0,.string s),(1,.bool t),(2,.int .i64 a),(3,.int .i64 b),(4,.slice p n c)]=some (.agg #[.string s,.bool t,.int .i64 a,.int .i64 b,.slice p n c]):=by kernel_rfl
theorem fillIns1 {a0 a1 a2 a3 a4 a5:Value}:afill (fun i=>some (i*te_Ins.size,te_Ins.size)) (azeros te_Ins.zv.cells.toList 1) [(0,.agg #[a0,a1,a2,a3,a4,a5])]=some [a0,a1,a2,a3,a4,a5]:=by kernel_rfl
theorem fillFun1 {a0 a1 a2 a3 a4:Value}:afill (fun i=>some (i*te_Fun.size,te_Fun.size)) (azeros te_Fun.zv.cells.toList 1) [(0,.agg #[a0,a1,a2,a3,a4])]=some [a0,a1,a2,a3,a4]:=by kernel_rfl
theorem te_Fun_bytes':te_Fun.bytes=64:=by kernel_rfl
attribute [local irreducible] V
variable {O:Orc}{H:AH}
theorem mayQM_c (hO:NoO O) {m:Mem}{cs:List Value}{A:Av} (hR:MemR A H cs m) :
  ∃ u H',Lc V O F_code_May_q1 [.agg cs.toArray] H u H'∧(u=.bool (!For.memOk m)∧Fr H H'):=by
 have hR:cs=[.string m.name,.int .i64 m.size,.int .i64 m.first]:=hR
 subst hR
 refine Lc.code_May_q1 (hO _ _ _ (by decide)) ?_
 unfold P_code_May_q1
 apply zSeq
 apply zReg
 refine zBox rfl (fun _=>rfl) fun H1 f1 b1 n1=>?_
 have b1':Bx H1 H.next 60 [.string m.name,.int .i64 m.size,.int .i64 m.first]:=b1
 unfold For.memOk
 rw [Bool.not_not]
 cases d1:decide (m.size<1)
 ·repeat first|apply zSeq|apply zReg|refine wN ?_|refine wO ?_|refine wA ?_|refine wR ?_|refine wL ?_|refine wV ?_|refine wD O_Mem_Size ?_|refine wB E_int ?_
  exact WP.ret ⟨.inr rfl,_,rfl,rfl,f1⟩
 ·repeat first|apply zSeq|apply zReg|refine wN ?_|refine wF ?_|refine wA ?_|refine wP ?_|refine wL ?_|refine wD O_Mem_Size ?_|refine wB E_int ?_
  exact WP.ret ⟨.inr rfl,_,rfl,rfl,f1⟩
theorem mayQF_c (hO:NoO O) (hgh:GH H) {A B:Av}{p:Prog}{f:Fun}{vm vl vf:Value}{b1:Nat} (hp:PrR A H vm vl vf p) (h1:Bx H b1 74 [vm,vl,vf]) {cs:List Value} (hR:FunR B H cs f) (hs:SmallF f) :
  ∃ u H',Lc V O F_code_May_q2 [.agg cs.toArray,.pointer (some ⟨b1,0,none⟩)] H u H'∧(u=.bool (!For.mayFun mayG p f)∧Fr H H'):=by
 obtain ⟨vc,rfl,hc⟩:=hR
 refine Lc.code_May_q2 (hO _ _ _ (by decide)) ?_
 unfold P_code_May_q2
 apply zSeq
 apply zReg
 refine zBox rfl (fun _=>rfl) fun H1 f1 b2 n1=>?_
 have b2':Bx H1 H.next 78 (f.cells vc):=b2
 obtain ⟨_,H2,hc2,rfl,f2⟩:=mayFun_c (H:=H1) hO (hgh.fr f1) (hp.fr f1) (hc.fr InsR.m f1) hs
 repeat first|apply zSeq|apply zReg|refine wN ?_|refine wA ?_
 refine zLd rfl ((h1.fr f1).lN E_Prog te_Prog_agg te_Prog_size) ?_
 refine zLd rfl (b2'.lN E_Fun te_Fun_agg te_Fun_size) ?_
 refine WL.call rfl rfl fp_code_mayFun.is hc2 ?_
 repeat first|refine wN ?_|refine wZ ?_
 exact WP.ret ⟨.inr rfl,_,rfl,rfl,f1.trans f2⟩
theorem codeMay_c (hO:NoO O) (hK:KnL O) (hgh:GH H) (hgn:GN H) {A:Av}{p:Prog}{vm vl vf:Value} (hp:PrR A H vm vl vf p) (hs:SmallP p) (hsf:∀ f∈p.funs,SmallF f) :
  ∃ u H',Lc V O F_code_May [.agg #[vm,vl,vf]] H u H'∧(u=.bool (For.mayP mayG p)∧Fr H H'):=by
 refine Lc.code_May (hO _ _ _ (by decide)) ?_
 unfold P_code_May
 have hsm:=hs.mems
 have hsn:=hs.funs
 apply zSeq
 apply zReg
 refine zBox rfl (fun _=>rfl) fun H1 f1 b1 n1=>?_
 have b1':Bx H1 H.next 74 [vm,vl,vf]:=b1
 obtain ⟨_,H2,hc2,rfl,f2⟩:=named_c (H:=H1) hO hK (hgn.fr f1) (hp.fr f1) hs
 have f12:=f1.trans f2
 have b2':=b1'.fr f2
 repeat first|apply zSeq|apply zReg|refine wN ?_|refine wA ?_
 refine zLd rfl (b1'.lN E_Prog te_Prog_agg te_Prog_size) ?_
 refine WL.call rfl rfl fp_code_named.is hc2 ?_
 cases c0:For.named p
 ·repeat first|apply zSeq|apply zReg|refine wN ?_|refine wx ?_|refine wA ?_|refine wp ?_|refine wZ ?_|refine wt ?_
  refine WP.ret ⟨.inr rfl,_,rfl,?_,f12⟩
  unfold For.mayP;rw [c0];rfl
 obtain ⟨vt,H3,hc3,hlt,f3⟩:=threads_c (H:=H2) hO (hp.fr f12) hs
 have f13:=f12.trans f3
 have b3':=b2'.fr f3
 repeat first|refine wo ?_|refine wZ ?_
 refine zLd rfl (b2'.lN E_Prog te_Prog_agg te_Prog_size) ?_
 repeat first|refine wo ?_
 refine WL.call rfl rfl fp_code_Threads.is hc3 ?_
 repeat first|refine wo ?_
 refine wK (hlt _) ?_
 repeat first|refine wo ?_|refine wq ?_|refine wV ?_
 cases c1:decide (((For.threads p).length:Int)>16)
 case true=>
  repeat first|apply zSeq|apply zReg|refine wN ?_|refine wx ?_|refine wA ?_|refine wp ?_|refine wt ?_
  refine WP.ret ⟨.inr rfl,_,rfl,?_,f13⟩
  unfold For.mayP;rw [c0,c1];rfl
 have hp3:=hp.fr f13
 obtain ⟨H4,hc4,f4⟩:=containsFunc_mem_c (H:=H3) (f:=64) (cap:=#[]) (p:=fun m=>!For.memOk m) hO hp3.m (by omega) (by rw [fn_code_May_q1];rfl) (fun x hx cs Hx fx hR=>by
  obtain ⟨_,Hy,h,rfl,fy⟩:=mayQM_c (H:=Hx) hO hR
  exact ⟨Hy,h,fy⟩)
 have f14:=f13.trans f4
 have b4':=b3'.fr f4
 cases c2:p.mems.any (fun m=>!For.memOk m)
 case true=>
  rw [c2] at hc4
  repeat first|refine wo ?_|refine wD O_Prog_Mems ?_|refine wB E_s_api_Mem ?_
  refine WL.call rfl rfl fp_slices_ContainsFunc_s_api_Mem_api_Mem.is hc4 ?_
  repeat first|apply zSeq|apply zReg|refine wN ?_|refine wA ?_|refine wq ?_|refine wt ?_
  refine WP.ret ⟨.inr rfl,_,rfl,?_,f14⟩
  unfold For.mayP;rw [c0,c1,c2];rfl
 rw [c2] at hc4
 have hp4:=hp.fr f14
 obtain ⟨H5,hc5,f5⟩:=containsFunc_fun_c (H:=H4) (f:=66) (cap:=#[.pointer (some ⟨H.next,0,none⟩)]) (p:=fun f=>!For.mayFun mayG p f) hO hp4.f (by omega) (by rw [fn_code_May_q2];rfl) (fun x hx cs Hx fx hR=>by
  obtain ⟨_,Hy,h,rfl,fy⟩:=mayQF_c (H:=Hx) hO (hgh.fr (f14.trans fx)) (hp4.fr fx) (b4'.fr fx) hR (hsf x hx)
  exact ⟨Hy,h,fy⟩)
 rw [any_not] at hc5
 repeat first|refine wo ?_|refine wD O_Prog_Mems ?_|refine wB E_s_api_Mem ?_
 refine WL.call rfl rfl fp_slices_ContainsFunc_s_api_Mem_api_Mem.is hc4 ?_
 repeat first|apply zSeq|apply zReg|apply zSkp|refine wN ?_|refine wq ?_|refine wf ?_|refine wD O_Prog_Funs ?_|refine wB E_s_api_Fun ?_
 refine WL.op (v:=.func (.func 66) #[] #[.pointer (some ⟨H.next,0,none⟩)]) (H1:=H4) rfl ?_
 refine WL.call rfl rfl fp_slices_ContainsFunc_s_api_Fun_api_Fun.is hc5 ?_
 repeat first|refine wN ?_|refine wZ ?_
 refine WP.ret ⟨.inr rfl,_,rfl,?_,f14.trans f5⟩
 unfold For.mayP;rw [c0,c1,c2,Bool.not_not];rfl
structure SmallFm (f:For.Form):Prop where
 mems:f.mems.length≤10000
 locks:f.locks.length≤10000
 funs:f.funs.length≤10000
 gs:∀ g∈f.funs,Small g
 args:∀ g∈f.funs,∀ b∈g.blocks,∀ i∈b.code,i.args.length≤100000
 op:∀ g∈f.funs,∀ b∈g.blocks,∀ i∈b.code,0≤i.op∧i.op<256
theorem SmallFm.p {f:For.Form} (h:SmallFm f):SmallP (For.bareP f):=⟨h.mems,h.locks,by simp only [For.bareP,List.length_map];exact h.funs⟩
theorem jumpC_R {A:Av}{H:AH}:InsR A H [.int .u8 11,.int .i64 0,.int .i64 0,.int .i64 0,.int .i64 0,.slice none 0 0] For.jumpI:=⟨.slice none 0 0,rfl,.nil⟩
set_option maxHeartbeats 4000000 in
theorem flowBare_c (hO:NoO O) {A:Av}{f:For.Form}{vm vl vf:Value} (hf:FmR A H vm vl vf f) (hs:SmallFm f) :
 ∃ u H',Lc V O F_flow_bare [.agg #[vm,vl,vf]] H u H'∧(∃ bv o,u=.agg #[vm,vl,bv]∧OwR 78 5 FunR (.old H.next) H' H.next bv (f.funs.map fun g=>For.bareF g g.params) o∧Fr H H'):=by
 refine Lc.flow_bare (hO _ _ _ (by decide)) ?_
 unfold P_flow_bare
 have hsn:=hs.funs
 have hlen1:=fun Hz=>hf.f.len (V:=V) (H2:=Hz) E_s_api_Graph
 have hvl:=hf.l.oneCell
 have hvm:=hf.m.oneCell
 obtain ⟨am,nm,cm,rfl⟩:∃ a n c,vm=.slice a n c:=let ⟨_,h,_⟩:=hf.m;h.isSl
 obtain ⟨al,nl,cl,rfl⟩:∃ a n c,vl=.slice a n c:=let ⟨_,h,_⟩:=hf.l;h.isSl
 apply zSeq
 apply zReg
 refine zBox rfl (fun _=>rfl) fun H1 f1 b1 n1=>?_
 refine zAlc E_Prog zeroProg fun H2 f2 b2 n2=>?_
 have b1':Bx H2 H.next 29 [.slice am nm cm,.slice al nl cl,vf]:=b1.fr f2
 have f12:=f1.trans f2
 clear b1
 repeat first|refine wN ?_
 apply zSeq
 repeat first|apply zReg|refine wD O_Form_Mems ?_|refine wD O_Form_Locks ?_|refine wB E_s_string ?_|refine wB E_s_api_Mem ?_
 refine WL.op (op_build rfl buildProg2) ?_
 refine zAlc E_Prog zeroProg fun H3 f3 b3 n3=>?_
 refine zStB b3 rfl rfl E_Prog (by rw [te_Prog_size];rfl) rfl (by simp [Value.cells]) (by simp [Value.cells]) fun H4 f4 b4 n4=>?_
 have b4':Bx H4 H2.next 74 [.slice am nm cm,.slice al nl cl,.slice none 0 0]:=b4
 have f24:Fr H2 H4:=f3.young f4 (by simp) (by simp)
 have b14:=b1'.fr f24
 have b24:=b2.fr f24
 have f04:=f12.trans f24
 have hn4:H2.next<H4.next:=b4'.1
 have hn02:=f12.1
 have hBG:∀ {n:Nat},(Av.old H4.next).Gr (.old H.next) n:=Av.old_gr (Av.old_lt.mono (by omega))
 have hBo:∀ b∈(Av.old H4.next).bs,b<H4.next:=fun b hb=>List.mem_range.1 hb
 have hBog:∀ b∈(Av.old H4.next).gs,b<H4.next:=fun b hb=>List.mem_range.1 hb
 have hBlt:(Av.old H4.next).Lt H4.next:=Av.old_lt
 have hBin:∀ {Hx Hy:AH}{c:Nat},c<H4.next→FrX [c] [] Hx Hy→FrX (Av.old H4.next).bs (Av.old H4.next).gs Hx Hy:=fun hc h=>h.sub (fun b hb=>by simp [Av.old] at hb ⊢;omega) (by simp)
 generalize Av.old H4.next=B at *
 clear b1' b2 b3 b4 f3 f4
 repeat first|refine wN ?_
 refine WP.seqS (σ:=Value×Option (Nat×Nat)) (fun x=>[(2,.pointer (some ⟨H1.next,0,none⟩)),(3,.pointer (some ⟨H2.next,0,none⟩))]) (fun x Hc=>FrX [H2.next] [] H4 Hc∧Bx Hc H2.next 74 [.slice am nm cm,.slice al nl cl,x.1]∧OwR 78 5 FunR B Hc H4.next x.1 (f.funs.map fun g=>For.bareF g g.params) x.2) ?_ ?_
 ·repeat first|apply zSeq|apply zReg|apply zBlk|refine wN ?_|refine wM ?_|refine wD O_Form_Funs ?_|refine wB E_s_api_Graph ?_|refine wK (hlen1 _) ?_
  refine WP.loopH (σ:=Nat×Value×Option (Nat×Nat)) (fun x=>[(2,.pointer (some ⟨H1.next,0,none⟩)),(3,.pointer (some ⟨H2.next,0,none⟩)),(12,vf),(13,.int .i64 f.funs.length),(14,.int .i64 x.1)]) (fun x Hc=>FrX [H2.next] [] H4 Hc∧Bx Hc H2.next 74 [.slice am nm cm,.slice al nl cl,x.2.1]∧OwR 78 5 FunR B Hc H4.next x.2.1 ((f.funs.take x.1).map fun g=>For.bareF g g.params) x.2.2∧x.1≤f.funs.length) (fun x=>f.funs.length-x.1) (0,.slice none 0 0,none) ⟨.refl _ _ _,b4',.nil,Nat.zero_le _⟩ ⟨rfl,rfl,rfl,rfl,rfl,trivial⟩ ?_
  rintro ⟨k,bv,o⟩ Hc ⟨hfr,hbx,how,hk⟩
  simp only at hfr hbx how hk ⊢
  rcases Nat.lt_or_ge k f.funs.length with h|h
  case inr =>
   have g1:decide ((k:Int)<f.funs.length)=false:=dF
   rw [List.take_of_length_le h] at how
   repeat first|apply zSeq|apply zReg|apply zExt|refine wN ?_|refine wL ?_|refine wE ?_
   exact ⟨(bv,o),⟨hfr,hbx,how⟩,rfl,rfl,trivial⟩
  have g1:decide ((k:Int)<f.funs.length)=true:=dT
  have frH:Fr H Hc:=f04.young hfr (by simp;omega) (by simp)
  obtain ⟨b,off,cs,ha1,hrd,vb,rfl,hbl⟩:=(hf.f.fr GraphR.m frH).at E_s_api_Graph E_Graph te_Graph_size (kd:=.i64) h
  have hl1:=hrd.loadN (V:=V) E_Graph te_Graph_agg te_Graph_size
  have hv1:=hbl.oneCell
  repeat first|apply zSeq|apply zReg|apply zBlk|apply zSkp|refine wN ?_|refine wL ?_|refine wT ?_|refine wI ?_|refine wY ?_
  refine zAlc E_Graph zeroGraph fun H5 f5 b5 n5=>?_
  refine zStB b5 rfl rfl E_Graph (by rw [te_Graph_size];rfl) (by simp [Value.cells,Value.oneCell'] at hv1 ⊢;exact hv1) (by simp [Value.cells]) (by simp [Value.cells]) fun H6 f6 b6 n6=>?_
  have b6':Bx H6 Hc.next 24 [.string f.funs[k].name,.bool f.funs[k].thread,.int .i64 f.funs[k].params,.int .i64 f.funs[k].regs,vb]:=b6
  have f56:Fr Hc H6:=f5.young f6 (by simp) (by simp)
  have hbx6:=hbx.fr f56
  have how6:=how.fr FunR.m f56
  have hnc:=hfr.1
  have hn6:=f56.1
  repeat first|apply zReg|refine wN ?_|refine wD O_Graph_Name ?_|refine wD O_Graph_Thread ?_|refine wD O_Graph_Params ?_|refine wD O_Prog_Funs ?_|refine wB E_int ?_|refine wB E_bool ?_|refine wB E_string ?_|refine wB E_s_api_Fun ?_
  refine WL.op (op_build rfl buildJump) ?_
  refine zLit rfl E_s_api_Ins E_Ins (by rw [te_Ins_size];decide) fillIns1 (by decide) fun H7 f7 b7 n7=>?_
  have hbx7:=hbx6.fr f7
  have how7:=how6.fr FunR.m f7
  have hy7:=how7.young
  have hjr:Els 6 InsR (B.and (.of o)) H7 (.slice (some ⟨H6.next,0,none⟩) 1 1) [For.jumpI]:=by
   refine ⟨[.int .u8 11,.int .i64 0,.int .i64 0,.int .i64 0,.int .i64 0,.slice none 0 0],⟨rfl,.inr ⟨H6.next,0,1,rfl,fun _=>?_⟩⟩,fun i hi=>?_⟩
   ·exact Rd.aLt (H0:=H6) ((hBlt.mono (by omega)).and (how6.lt)) (Nat.le_refl _) b7.1 b7.2 (.inl rfl) (by simp) (by simp)
   ·have:i=0:=by simp at hi;omega
    subst this
    exact jumpC_R
  refine WL.op (op_build rfl buildFun) ?_
  obtain ⟨bv',H8,o',k1,k2,k3,k4,k5⟩:=how7.app1 (V:=V) (x:=For.bareF f.funs[k] f.funs[k].params) (cx:=[.string f.funs[k].name,.bool f.funs[k].thread,.int .i64 f.funs[k].params,.int .i64 f.funs[k].params,.slice (some ⟨H6.next,0,none⟩) 1 1]) FunR.m (hBlt.mono (by omega)) ⟨_,rfl,hjr⟩ FunR.one (by decide) (bytes:=64) (by simp;omega) (by simp;omega) (by omega) E_s_api_Fun E_s_api_Fun E_Fun te_Fun_size te_Fun_bytes'
  refine WL.op (op_buildSlice rfl E_s_api_Fun E_Fun (by rw [te_Fun_size];decide) fillFun1) ?_
  refine WL.op (k1 rfl rfl) ?_
  have hyc:=how.young
  have hbx8:=hbx7.frX k3 (fun hb=>by have:=hyc.1 _ hb;omega)
  have hyo':=k2.young
  have hk2:=k2.els FunR.m (fun b hb hb2=>by have:=hyo'.1 b hb;have:=hBo b hb2;omega) (fun b hb hb2=>by have:=hyo'.2.1 b hb;have:=hBog b hb2;omega)
  have h1v:=hk2.oneCell
  obtain ⟨a8,n8,c8,rfl⟩:∃ a n c,bv'=.slice a n c:=let ⟨_,h,_⟩:=hk2;h.isSl
  repeat first|refine wD O_Prog_Funs ?_
  refine zStB hbx8 rfl rfl E_s_api_Fun rfl rfl (by simp [Value.cells]) (by simp [Value.cells]) fun H9 f9 b9 n9=>?_
  have b9':Bx H9 H2.next 74 [.slice am nm cm,.slice al nl cl,.slice a8 n8 c8]:=b9
  repeat first|apply zReg|refine wN ?_|refine wS ?_
  have f67:=f56.trans f7
  have hfin:FrX [H2.next] [] H4 H9:=((hfr.trans (f67.x [] []) (by simp) (by simp)).trans k3 (fun b hb hlt=>absurd (hyc.1 b hb) (by omega)) (fun b hb hlt=>absurd (hyc.2.1 b hb) (by omega))).trans f9 (fun b hb _=>hb) (by simp)
  have k2':=k2.frX FunR.m (hBin hn4 f9) (fun b hb hb2=>by have:=hyo'.1 b hb;have:=hBo b hb2;omega) (fun b hb hb2=>by have:=hyo'.2.1 b hb;have:=hBog b hb2;omega)
  exact ⟨(k+1,_,o'),⟨hfin,b9',by rw [List.take_succ_eq_append_getElem h,List.map_append];exact k2',h⟩,by simp only;omega,rfl,rfl,rfl,rfl,rfl,trivial⟩
 ·rintro ⟨bv,o⟩ Hp ⟨hfrp,hbxp,howp⟩
  simp only at hfrp hbxp howp ⊢
  have f1p:Fr H Hp:=f04.young hfrp (by simp;omega) (by simp)
  have b2p:=b24.frX hfrp (by simp;omega)
  have hyp:=howp.young
  have hdj:∀ b∈obs o,b∉B.bs:=fun b hb hb2=>by have:=hyp.1 b hb;have:=hBo b hb2;omega
  have hdg:∀ b∈ogs o,b∉B.gs:=fun b hb hb2=>by have:=hyp.2.1 b hb;have:=hBog b hb2;omega
  have hk2:=howp.els FunR.m hdj hdg
  obtain ⟨a8,n8,c8,rfl⟩:∃ a n c,bv=.slice a n c:=let ⟨_,h,_⟩:=hk2;h.isSl
  repeat first|apply zSeq|apply zReg
  refine zLd rfl (hbxp.lN E_Prog te_Prog_agg te_Prog_size) ?_
  refine zStB b2p rfl rfl E_Prog (by rw [te_Prog_size];rfl) rfl (by simp [Value.cells]) (by simp [Value.cells]) fun H9 f9 b9 n9=>?_
  have b9':Bx H9 H1.next 74 [.slice am nm cm,.slice al nl cl,.slice a8 n8 c8]:=b9
  repeat first|refine wN ?_
  exact WP.ret ⟨.inr rfl,_,resL_cell rfl (b9'.lN E_Prog te_Prog_agg te_Prog_size) rfl,_,o,rfl,((howp.frX FunR.m (hBin (by omega) f9) hdj hdg).old (by omega)).gr FunR.m hBG,f1p.young f9 (by simp;omega) (by simp)⟩
end

end Go.Proofs.YtjiibfgopanbgaaGreatDoor.U