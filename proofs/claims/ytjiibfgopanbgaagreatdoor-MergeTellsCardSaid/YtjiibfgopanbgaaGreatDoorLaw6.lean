/-
  Contracts of ref26: All.
-/
import Derived.Test.YtjiibfgopanbgaaGreatDoorLaw4
import Derived.Test.YtjiibfgopanbgaaGreatDoorLaw5
import Derived.Test.YtjiibfgopanbgaaGreatDoorLaw3
import Derived.Test.YtjiibfgopanbgaaGreatDoorLaw2
import Derived.Test.YtjiibfgopanbgaaGreatDoorEv6
import Derived.Test.YtjiibfgopanbgaaGreatDoorLaw1
import Derived.Test.YtjiibfgopanbgaaGreatDoorRows
import Derived.ProofKit
import Derived.Ground.NamesProg
import Derived.Test.YtjiibfgopanbgaaGreatDoorProg
import Derived.Test.YtjiibfgopanbgaaGreatDoorCards
import Derived.Test.YtjiibfgopanbgaaGreatDoorTie
import Derived.WalkKit
import Derived.OpenShut
import Derived.Deep.DeepHandedRow
set_option linter.all false
namespace Go.Proofs.YtjiibfgopanbgaaGreatDoor.U
open Go Go.Ev
section
attribute [local irreducible] WL WP WH W
attribute [local irreducible] V
variable {O:Orc}{H:AH}
set_option maxHeartbeats 16000000 in
theorem rall_c (hO:NoO O) {A:Av}{f:For.Form}{vm vl vf:Value} (hf:FmR A H vm vl vf f) (hse:SmallA f) :
 ∃ u H',Lc V O F_ref26_All [.agg #[vm,vl,vf]] H u H'∧AllA H f u H':=by
 refine Lc.ref26_All (hO _ _ _ (by decide)) ?_
 unfold P_ref26_All
 have hs:=hse.fm
 have hsn:=hs.funs
 have hsl:=hs.locks
 have hsm:=hs.mems
 obtain⟨am,nm,cm,rfl⟩:∃ a n c,vm=.slice a n c:=let ⟨_,h,_⟩:=hf.m;h.isSl
 obtain⟨al,nl,cl,rfl⟩:∃ a n c,vl=.slice a n c:=let ⟨_,h,_⟩:=hf.l;h.isSl
 obtain⟨af,nf,cf,rfl⟩:∃ a n c,vf=.slice a n c:=let ⟨_,h,_⟩:=hf.f;h.isSl
 have hlen1:=fun Hz=>hf.f.len (V:=V) (H2:=Hz) E_s_api_Graph
 apply zSeq
 apply zReg
 refine zBox rfl (fun _=>rfl) fun H1 f1 b1 n1=>?_
 have b1':Bx H1 H.next 29 [.slice am nm cm,.slice al nl cl,.slice af nf cf]:=b1
 refine zAlc E_Form mgFm0 fun H2 f2 b2 n2=>?_
 have f12:=f1.trans f2
 have b12:=b1'.fr f2
 clear b1 b1'
 obtain⟨_,H3,hc3,rfl,f3⟩:=rMayForm_c (H:=H2) hO (hf.fr f12) hs
 have f13:=f12.trans f3
 have b13:=b12.fr f3
 have b23:=b2.fr f3
 cases hm1:For.may mayG mi f
 ·rw[hm1] at hc3
  repeat first|apply zSeq|apply zReg|refine wN ?_|refine wA ?_
  refine zLd rfl (b12.lN E_Form te_Form_agg te_Form_size) ?_
  refine WL.call rfl rfl fp_ref11_MayForm.is hc3 ?_
  repeat first|apply zSeq|apply zReg|refine wN ?_|refine wZ ?_|refine wt ?_
  refine WL.op (op_build rfl mgBuildFm0) ?_
  refine zStB b23 rfl rfl E_Form (by rw[te_Form_size];rfl) rfl (by simp[Value.cells]) (by simp[Value.cells]) fun H5 f5 b5 n5=>?_
  have b5':Bx H5 H1.next 29 [.slice none 0 0,.slice none 0 0,.slice none 0 0]:=b5
  repeat first|refine wN ?_|refine wA ?_
  exact WP.ret ⟨.inr rfl,_,resL_cell rfl (b5'.lN E_Form te_Form_agg te_Form_size) rfl,AllA.zero (by unfold okA;rw[hm1];rfl) (f13.young f5 (by simp;omega) (by simp))⟩
 rw[hm1] at hc3
 repeat first|apply zSeq|apply zReg|refine wN ?_|refine wA ?_
 refine zLd rfl (b12.lN E_Form te_Form_agg te_Form_size) ?_
 refine WL.call rfl rfl fp_ref11_MayForm.is hc3 ?_
 repeat first|apply zSeq|apply zSkp|refine wN ?_|refine wZ ?_|refine wf ?_
 refine WP.rega ?_
 refine yNew E_s_api_Mem E_Mem fun H4 f4 n4 wA=>?_
 refine yFld rfl O_Form_Mems ?_
 refine yLd rfl ((b13.fr f4).ld (off:=0) rfl E_s_api_Mem rfl) ?_
 refine yNew E_s_string E_string fun H5 f5 n5 wB=>?_
 refine yFld rfl O_Form_Locks ?_
 refine yLd rfl (((b13.fr f4).fr f5).ld (off:=1) rfl E_s_string rfl) ?_
 refine yAlc E_Form mgFm0 fun H6 f6 b6 n6=>?_
 have f36:=(f4.trans f5).trans f6
 have f06:=f13.trans f36
 have hn03:=f13.1
 have hn13:=b23.1
 have wA6:OwE H6 H3.next 60 3 (.slice (some ⟨H3.next,0,none⟩) 0 0) 0 [] (some (H3.next,H3.next)):=((wA 3 H3.next (Nat.le_refl _)).fr f5).fr f6
 have wB6:OwE H6 H4.next 9 1 (.slice (some ⟨H4.next,0,none⟩) 0 0) 0 [] (some (H4.next,H4.next)):=(wB 1 H4.next (Nat.le_refl _)).fr f6
 obtain⟨csM,hsM,hRM⟩:=hf.m
 have honeM:=all_chunks hsM.1 (by decide) fun i hi=>(MemR.one (hRM i hi)).1
 obtain⟨csL,hsL,hRL⟩:=hf.l
 have honeL:=all_chunks hsL.1 (by decide) fun i hi=>(StrR.one (hRL i hi)).1
 obtain⟨vM,H7,oM,kM,wM,xM,gM,gM'⟩:=wA6.appSl (V:=V) ((hsM.fr f06).sl (by omega)) (by decide) (bytes:=32) (by omega) (by omega) (by omega) honeM E_s_api_Mem E_s_api_Mem E_Mem te_Mem_size te_Mem_bytes
 rw[Nat.zero_add,List.nil_append] at wM
 have hn67:=xM.1
 have f07:Fr H H7:=f06.young xM (by simp[obs];omega) (by simp[ogs];omega)
 have wB7:OwE H7 H4.next 9 1 (.slice (some ⟨H4.next,0,none⟩) 0 0) 0 [] (some (H4.next,H4.next)):=wB6.frX xM (by simp[obs];omega) (by simp[ogs];omega)
 obtain⟨vL,H7b,oL,kL,wL,xL,gL,gL'⟩:=wB7.appSl (V:=V) ((hsL.fr f07).sl (by omega)) (by decide) (bytes:=16) (by omega) (by omega) (by omega) honeL E_s_string E_s_string E_string rfl rfl
 rw[Nat.zero_add,List.nil_append] at wL
 have hn77:=xL.1
 have f07b:Fr H H7b:=f07.young xL (by simp[obs];omega) (by simp[ogs];omega)
 obtain⟨a6,n6',c6,rfl⟩:=(wM.sr (A:=.no) .no).isSl
 obtain⟨a7,n7',c7,rfl⟩:=(wL.sr (A:=.no) .no).isSl
 have oM5:∀ b∈obs oM,b≠H5.next∧b≠H4.next∧b≠H1.next:=fun b hb=>by have:=gM b hb;simp[obs] at this;omega
 have oM5':∀ b∈ogs oM,b≠H4.next:=fun b hb=>by have:=gM' b hb;simp[ogs] at this;omega
 have oL5:∀ b∈obs oL,b≠H5.next∧b≠H1.next:=fun b hb=>by have:=gL b hb;simp[obs] at this;omega
 refine WH.op (kM rfl rfl) ?_
 refine WH.op (kL rfl rfl) ?_
 refine WH.op (op_build rfl mgBuildFm) ?_
 have b67:=(b6.frX xM (by simp[obs];omega)).frX xL (by simp[obs];omega)
 refine yStB b67 rfl rfl E_Form (by rw[te_Form_size];rfl) rfl (by simp[Value.cells]) (by simp[Value.cells]) fun H8 f8 b8 n8=>?_
 have b8':Bx H8 H5.next 29 [.slice a6 n6' c6,.slice a7 n7' c7,.slice none 0 0]:=b8
 refine WH.nil ⟨?_,_,rfl,?_⟩
 ·intro x hx
  rw[List.mem_singleton] at hx
  subst hx
  exact .inr ⟨rfl,_,_,_,rfl,rfl,op_load rfl (((b13.fr f36).frX xM (by simp[obs];omega)).ld (off:=1) rfl E_s_string rfl),sameV_sl⟩
 have f18:Fr H H8:=f07b.young f8 (by simp;omega) (by simp)
 have b28:=(((b23.fr f36).frX xM (by simp[obs];omega)).frX xL (by simp[obs];omega)).frX f8 (by simp;omega)
 have b18:=(((b13.fr f36).frX xM (by simp[obs];omega)).frX xL (by simp[obs];omega)).frX f8 (by simp;omega)
 have wM8:=(wM.frX xL (fun b hb=>by have:=oM5 b hb;simp[obs];omega) (fun b hb=>by have:=oM5' b hb;simp[ogs];omega)).frX f8 (fun b hb=>by have:=oM5 b hb;simp;omega) (by simp)
 have wL8:=wL.frX f8 (fun b hb=>by have:=oL5 b hb;simp;omega) (by simp)
 have hn8:H5.next<H8.next:=b8'.1
 have hBG:∀ {n:Nat},(Av.old H8.next).Gr (.old H.next) n:=Av.old_gr (Av.old_lt.mono (by omega))
 have hBlt:(Av.old H8.next).Lt H8.next:=Av.old_lt
 have hBsub:∀ {Hx Hy:AH}{c:Nat},c<H8.next→FrX [c] [] Hx Hy→FrX (Av.old H8.next).bs (Av.old H8.next).gs Hx Hy:=fun hc h=>h.sub (fun b hb=>by simp[Av.old] at hb ⊢;omega) (by simp)
 generalize hB:Av.old H8.next=B at *
 clear b8 b67 b6 f8 f4 f5 f6 f36 f06 f07 f07b wA wB wA6 wB6 wB7 wM wL kM kL b13 b23 b12 b2 f3 f12 f13 hc3
 refine WP.seqS (σ:=Value×Option (Nat×Nat)) (fun x=>[(2,.pointer (some ⟨H1.next,0,none⟩)),(4,.pointer (some ⟨H5.next,0,none⟩))]) (fun x Hc=>FrX [H5.next] [] H8 Hc∧Bx Hc H5.next 29 [.slice a6 n6' c6,.slice a7 n7' c7,x.1]∧OwR 24 5 GraphR B Hc H8.next x.1 (f.funs.map Mer.graph) x.2∧okA f=true) ?_ ?_
 ·repeat first|apply zSeq|apply zReg|apply zBlk|refine wN ?_|refine wA ?_
  refine WP.loopH (σ:=Nat×Value×Option (Nat×Nat)) (fun x=>[(1,.pointer (some ⟨H.next,0,none⟩)),(2,.pointer (some ⟨H1.next,0,none⟩)),(4,.pointer (some ⟨H5.next,0,none⟩)),(5,.int .i64 x.1)]) (fun x Hc=>FrX [H5.next] [] H8 Hc∧Bx Hc H5.next 29 [.slice a6 n6' c6,.slice a7 n7' c7,x.2.1]∧OwR 24 5 GraphR B Hc H8.next x.2.1 ((f.funs.take x.1).map Mer.graph) x.2.2∧x.1≤f.funs.length∧∀ j (h:j<f.funs.length),j<x.1→okG f.funs[j]=true) (fun x=>f.funs.length-x.1) (0,.slice none 0 0,none) ⟨.refl _ _ _,b8',.nil,Nat.zero_le _,fun j _ h=>absurd h (by simp)⟩ ⟨rfl,rfl,rfl,rfl,trivial⟩ ?_
  rintro⟨k,gv,o⟩ Hc ⟨hfr,hbx,how,hk,hokj⟩
  simp only at hfr hbx how hk hokj ⊢
  have hbc2:=b28.frX hfr (by simp;omega)
  have b1c:=b18.frX hfr (by simp;omega)
  rcases Nat.lt_or_ge k f.funs.length with h|h
  case inr =>
   have g1:decide ((k:Int)<f.funs.length)=false:=dF
   rw[List.take_of_length_le h] at how
   repeat first|apply zSeq|apply zReg|apply zExt|refine wN ?_|refine wG ?_|refine wL ?_|refine wE ?_|refine wD O_Form_Funs ?_|refine wB E_s_api_Graph ?_|refine wK (hlen1 _) ?_
   exact⟨(gv,o),⟨hfr,hbx,how,okA_true hm1 fun j hj=>hokj j hj (by omega)⟩,rfl,rfl,trivial⟩
  have g1:decide ((k:Int)<f.funs.length)=true:=dT
  have frH:Fr H Hc:=f18.young hfr (by simp;omega) (by simp)
  obtain⟨bb,off,cs,ha1,hrd,hRg⟩:=(hf.f.fr GraphR.m frH).at E_s_api_Graph E_Graph te_Graph_size (kd:=.i64) h
  have hl1:=hrd.loadN (V:=V) E_Graph te_Graph_agg te_Graph_size
  have hsg:=hse.gs f.funs[k] (List.getElem_mem _)
  have hopg:=hs.op f.funs[k] (List.getElem_mem _)
  have htk:(f.funs.take (k+1)).map Mer.graph=(f.funs.take k).map Mer.graph++[Mer.graph f.funs[k]]:=by rw[List.take_succ_eq_append_getElem h,List.map_append];rfl
  have hokf:=okA_false (f:=f) h
  have hokn:okG f.funs[k]=true→∀ j (h:j<f.funs.length),j<k+1→okG f.funs[j]=true:=fun e j hj hjk=>by
   rcases Nat.lt_or_ge j k with h1|h1
   ·exact hokj j hj h1
   ·have:j=k:=by omega
    subst this;exact e
  generalize hg0:f.funs[k]=g at *
  have hRg0:=hRg
  obtain⟨vb,rfl,hbl⟩:=hRg
  obtain⟨ab,nb,cb,rfl⟩:∃ a n c,vb=.slice a n c:=let ⟨_,h,_⟩:=hbl;h.isSl
  obtain⟨_,Hd,hcd,cs',rfl,⟨vb',rfl,hb'⟩,fcd⟩:=rof_c (H:=Hc) hO hRg0 hsg hopg
  obtain⟨ad,nd,cd,rfl⟩:∃ a n c,vb'=.slice a n c:=let ⟨_,h,_⟩:=hb';h.isSl
  have frD:=frH.trans fcd
  have hncd:=fcd.1
  have hyo:=how.young
  have hn8c:=hfr.1
  have hbc2d:=hbc2.fr fcd
  repeat first|apply zSeq|apply zReg|apply zBlk|apply zSkp|refine wN ?_|refine wG ?_|refine wL ?_|refine wT ?_|refine wD O_Form_Funs ?_|refine wB E_s_api_Graph ?_|refine wI ?_|refine wY ?_|refine wK (hlen1 _) ?_
  refine WL.call rfl rfl fp_ref26_Of.is hcd ?_
  repeat first|refine zXtr rfl ?_
  refine zAlc E_Graph zero24 fun He fe be ne=>?_
  refine zStB be rfl rfl E_Graph (by rw[te_Graph_size];rfl) rfl (by simp[Value.cells]) (by simp[Value.cells]) fun Hg fg bg ng=>?_
  have bg':Bx Hg Hd.next 24 (graphC (outG g) (.slice ad nd cd)):=bg
  have fdg:Fr Hd Hg:=fe.young fg (by simp) (by simp)
  clear be bg fe fg
  have fcg:=fcd.trans fdg
  have hbc2g:=hbc2d.fr fdg
  cases hok:okG g
  ·have e1:errG g=4:=by rw[errG,hok];rfl
   rw[e1]
   have g2:((4:Int) != 0)=true:=by decide
   repeat first|apply zSeq|apply zReg|refine wN ?_|refine wG ?_|refine wU ?_|refine wt ?_
   refine WL.op (op_build rfl mgBuildFm0) ?_
   repeat first|refine wG ?_
   refine zStB hbc2g rfl rfl E_Form (by rw[te_Form_size];rfl) rfl (by simp[Value.cells]) (by simp[Value.cells]) fun Hx fx bx nx=>?_
   have bx':Bx Hx H1.next 29 [.slice none 0 0,.slice none 0 0,.slice none 0 0]:=bx
   repeat first|refine wN ?_
   exact WP.ret ⟨.inr rfl,_,resL_cell rfl (bx'.lN E_Form te_Form_agg te_Form_size) rfl,AllA.zero (hokf hok) ((frH.trans fcg).young fx (by simp;omega) (by simp))⟩
  ·have e1:errG g=0:=by rw[errG,hok];rfl
   have e2:outG g=Mer.graph g:=by rw[outG,hok];rfl
   rw[e1]
   rw[e2] at hb' bg'
   have g2:((0:Int) != 0)=false:=by decide
   have hbxg:=hbx.fr fcg
   obtain⟨gv',Hi,o',k1,k2,k3,k4,_⟩:=(how.fr GraphR.m fcg).app1 (V:=V) (x:=Mer.graph g) (cx:=graphC (Mer.graph g) (.slice ad nd cd)) GraphR.m (hBlt.mono (by have:=fcg.1;omega)) (GraphR.m.fr (GraphR.m.gr (B:=B.and (.of o)) (Av.old_gr (((hBlt.mono (by omega)).and how.lt).mono (by omega))) ⟨_,rfl,hb'⟩) fdg) GraphR.one (by decide) (bytes:=64) (by rw[List.length_map,List.length_take];omega) (by rw[List.length_map,List.length_take];omega) (by have:=fcg.1;omega) E_s_api_Graph E_s_api_Graph E_Graph te_Graph_size te_Graph_bytes
   have hbxi:=hbxg.frX k3 (fun hb=>by have:=hyo.1 _ hb;omega)
   obtain⟨pa',pn',pc',rfl⟩:=OwR.isSl' k2
   repeat first|apply zSeq|apply zReg|apply zSkp|refine wN ?_|refine wG ?_|refine wU ?_|refine wf ?_|refine wD O_Form_Funs ?_|refine wB E_s_api_Graph ?_
   refine zLd rfl (bg'.lN E_Graph te_Graph_agg te_Graph_size) ?_
   refine WL.op (op_buildSlice rfl E_s_api_Graph E_Graph (by rw[te_Graph_size];decide) mgFillGr) ?_
   refine WL.op (k1 rfl rfl) ?_
   repeat first|refine wD O_Form_Funs ?_
   refine zStB hbxi rfl rfl E_s_api_Graph rfl rfl (by simp[Value.cells]) (by simp[Value.cells]) fun Hx fx bx nx=>?_
   have bx':Bx Hx H5.next 29 [.slice a6 n6' c6,.slice a7 n7' c7,.slice pa' pn' pc']:=bx
   repeat first|apply zReg|refine wN ?_|refine wG ?_|refine wS ?_
   have hfin:FrX [H5.next] [] H8 Hx:=((hfr.trans (fcg.x [] []) (by simp) (by simp)).trans k3 (fun b hb hlt=>absurd (hyo.1 b hb) (by omega)) (fun b hb hlt=>absurd (hyo.2.1 b hb) (by omega))).trans fx (fun b hb _=>hb) (by simp)
   have hy2:=k2.young
   exact⟨(k+1,.slice pa' pn' pc',o'),⟨hfin,bx',by rw[htk];exact k2.frX GraphR.m (hBsub (by omega) fx) (fun b hb h2=>by have:=hy2.1 b hb;have:=hBlt.1 b h2;omega) (fun b hb h2=>by have:=hy2.2.1 b hb;have:=hBlt.2 b h2;omega),h,hokn hok⟩,by simp only;omega,rfl,rfl,rfl,rfl,trivial⟩
 ·rintro⟨gv,o⟩ Hp ⟨hfrp,hbxp,howp,hok⟩
  simp only at hfrp hbxp howp ⊢
  have f0p:Fr H Hp:=f18.young hfrp (by simp;omega) (by simp)
  have b2p:=b28.frX hfrp (by simp;omega)
  have hyp:=howp.young
  obtain⟨pa',pn',pc',rfl⟩:=OwR.isSl' howp
  repeat first|apply zSeq|apply zReg
  refine zLd rfl (hbxp.lN E_Form te_Form_agg te_Form_size) ?_
  refine zStB b2p rfl rfl E_Form (by rw[te_Form_size];rfl) rfl (by simp[Value.cells]) (by simp[Value.cells]) fun Hr fr br nr=>?_
  have br':Bx Hr H1.next 29 [.slice a6 n6' c6,.slice a7 n7' c7,.slice pa' pn' pc']:=br
  repeat first|refine wN ?_|refine wA ?_
  have hh1:∀ b∈obs o,b∉B.bs:=fun b hb h2=>by have:=hyp.1 b hb;have:=hBlt.1 b h2;omega
  have hh2:∀ b∈ogs o,b∉B.gs:=fun b hb h2=>by have:=hyp.2.1 b hb;have:=hBlt.2 b h2;omega
  refine WP.ret ⟨.inr rfl,_,resL_cell rfl (br'.lN E_Form te_Form_agg te_Form_size) rfl,_,_,_,by rw[errA,hok];rfl,?_,f0p.young fr (by simp;omega) (by simp)⟩
  rw[outA,hok]
  have k9:FrX [H5.next,H1.next] [] H8 Hr:=(hfrp.sub (bs':=[H5.next,H1.next]) (gs':=[]) (by simp) (by simp)).trans (fr.sub (bs':=[H5.next,H1.next]) (gs':=[]) (by simp) (by simp)) (fun b hb _=>hb) (by simp)
  have wM9:=wM8.frX k9 (fun b hb=>by have:=oM5 b hb;simp;omega) (by simp)
  have wL9:=wL8.frX k9 (fun b hb=>by have:=oL5 b hb;simp;omega) (by simp)
  exact⟨⟨csM,wM9.sr (Av.old_lt.mono (by omega)),fun i hi=>hRM i hi⟩,⟨csL,wL9.sr (Av.old_lt.mono (by omega)),fun i hi=>hRL i hi⟩,((howp.frX GraphR.m (hBsub (by omega) fr) hh1 hh2).els GraphR.m hh1 hh2).gr GraphR.m hBG⟩
end
section
attribute [local irreducible] WL WP WH W
attribute [local irreducible] V
variable {O:Orc}{H:AH}
set_option maxHeartbeats 16000000 in
theorem spoil_c (hO:NoO O) {A:Av}{g:Graph}{cs:List Value}{os:Ev.Os}{n0:Nat} (hR:GraphR A H cs g) (hW:WGR_ H cs g os) (hin:os.In n0 H.next) (hnd:os.nd) (hnb:g.blocks.length≤1000) (hsm:∀ b∈g.blocks,TinyB b) :
 ∃ u H',Lc V O F_law26_spoil [.agg cs.toArray] H u H'∧Ev.Kp os H H':=by
 obtain⟨vb,rfl,hb⟩:=hR
 obtain⟨v,hv,hW⟩:=hW
 obtain rfl:vb=v:=by simpa using hv
 obtain⟨xa,xn,xc,rfl⟩:∃ a n c,vb=.slice a n c:=let ⟨_,h,_⟩:=hb;h.isSl
 refine Lc.law26_spoil (hO _ _ _ (by decide)) ?_
 unfold P_law26_spoil
 apply zSeq
 apply zReg
 refine zBox rfl (fun _=>rfl) fun H1 f1 b1 n1=>?_
 have b1':Bx H1 H.next 24 [.string g.name,.bool g.thread,.int .i64 g.params,.int .i64 g.regs,.slice xa xn xc]:=b1
 clear b1
 have hbo:H.next∉os.bs:=fun hm=>by
  obtain⟨p,hp,e⟩:=List.mem_map.1 hm
  have:=hin p hp;omega
 have k01:Ev.Kp os H H1:=.of_fr f1
 have hW1:=hW.kp WBlkR.m k01 (fun p hp=>hp)
 have hlb:∀ Hz,aLen V.E Hz 22 (.slice xa xn xc)=some (.int .i64 g.blocks.length):=fun Hz=>hW.len (V:=V) E_s_api_Block
 repeat first|apply zSeq|apply zReg|apply zBlk|refine wN ?_|refine wA ?_
 refine WP.loopH (σ:=Nat) (fun k=>[(1,.pointer (some ⟨H.next,0,none⟩)),(2,.int .i64 k)]) (fun k Hc=>Ev.Kp os H1 Hc∧k≤g.blocks.length) (fun k=>g.blocks.length-k) 0 ⟨.refl _ _,Nat.zero_le _⟩ ⟨rfl,rfl,trivial⟩ ?_
 rintro k Hi ⟨ki,hk⟩
 have bgi:=b1'.kp ki hbo
 rcases Nat.lt_or_ge k g.blocks.length with h|h
 case inr =>
  have g1:decide ((k:Int)<g.blocks.length)=false:=dF
  repeat first|apply zSeq|apply zReg|refine wG ?_|refine wD O_Graph_Blocks ?_|refine wB E_s_api_Block ?_
  refine wK (hlb _) ?_
  repeat first|apply zExt|refine wN ?_|refine wL ?_|refine wE ?_
  exact⟨.inl rfl,_,rfl,k01.trans ki⟩
 have g1:decide ((k:Int)<g.blocks.length)=true:=dT
 have hB:∀ Hz,Ev.Kp os H1 Hz→∃ b off vp vc vt op oc ot,aIndex V.E 22 (.slice xa xn xc) (.int .i64 k)=some (.pointer (some ⟨b,off,none⟩))∧aLoad V.E Hz 41 (.pointer (some ⟨b,off+0,none⟩))=some vp∧aLoad V.E Hz 42 (.pointer (some ⟨b,off+1,none⟩))=some vc∧aLoad V.E Hz 43 (.pointer (some ⟨b,off+3,none⟩))=some vt∧Wl 49 2 (WPhiN 3) Hz vp g.blocks[k].phis op∧Wr 47 6 (WIns 3) Hz vc g.blocks[k].code oc∧WI 3 Hz vt g.blocks[k].to.length ot∧(∀ p∈op,p∈os)∧(∀ p∈oc,p∈os)∧∀ p∈ot,p∈os:=fun Hz kz=>by
  obtain⟨bj,gj,celj,osj,hmj,hsj,aj,rwj,lenj,rdj,vp,vc,vt,op,oc,ot,w1,w2,w3,rfl,_,wp,wc,wt⟩:=(hW1.kp WBlkR.m kz (fun p hp=>hp)).at (V:=V) E_s_api_Block E_Block te_Block_size (kd:=.i64) h
  exact⟨_,_,vp,vc,vt,op,oc,ot,aj,(rdj.at1 w1).load1 (V:=V) E_s_api_Phi rfl,(rdj.at1 w2).load1 (V:=V) E_s_api_Ins rfl,(rdj.at1 w3).load1 (V:=V) E_s_int rfl,wp,wc,wt,fun p hp=>hsj p (List.mem_append_right _ (List.mem_append_left _ hp)),fun p hp=>hsj p (List.mem_append_right _ (List.mem_append_right _ hp)),fun p hp=>hsj p (List.mem_append_left _ hp)⟩
 have hsb:=hsm g.blocks[k] (List.getElem_mem _)
 have hq1:=hsb.code
 have hq2:=hsb.phis
 have hq3:=hsb.to
 generalize g.blocks[k]=x at *
 repeat first|apply zSeq|apply zReg|refine wG ?_|refine wD O_Graph_Blocks ?_|refine wB E_s_api_Block ?_
 refine wK (hlb _) ?_
 repeat first|apply zSkp|refine wN ?_|refine wL ?_|refine wT ?_
 apply zSeq
 apply zBlk
 refine WP.seqS (σ:=Unit) (fun _=>[(1,.pointer (some ⟨H.next,0,none⟩)),(2,.int .i64 k)]) (fun _ Hz=>Ev.Kp os H1 Hz) ?_ ?_
 ·repeat first|apply zSeq|apply zReg|apply zBlk|refine wN ?_|refine wA ?_
  refine WP.loopH (σ:=Nat) (fun m=>[(1,.pointer (some ⟨H.next,0,none⟩)),(2,.int .i64 k),(3,.int .i64 m)]) (fun m Hz=>Ev.Kp os H1 Hz∧m≤x.code.length) (fun m=>x.code.length-m) 0 ⟨ki,Nat.zero_le _⟩ ⟨rfl,rfl,rfl,trivial⟩ ?_
  clear bgi
  rintro m Hz ⟨kz,hm⟩
  have bz:=b1'.kp kz hbo
  obtain⟨bb,off,vp,vc,vt,op,oc,ot,ab,lp,lc,lt,wp,wc,wt,sp,sc,st⟩:=hB Hz kz
  have hlc:=fun Hy=>wc.len (V:=V) (H2:=Hy) E_s_api_Ins
  rcases Nat.lt_or_ge m x.code.length with h2|h2
  case inr =>
   have g2:decide ((m:Int)<x.code.length)=false:=dF
   repeat first|apply zSeq|apply zReg|refine wG ?_|refine wD O_Block_Code ?_|refine wD O_Graph_Blocks ?_|refine wB E_s_api_Block ?_|refine wI ?_|refine wY ?_
   refine wK (hlc _) ?_
   repeat first|apply zExt|refine wN ?_|refine wL ?_|refine wE ?_
   exact⟨(),kz,rfl,rfl,trivial⟩
  have g2:decide ((m:Int)<x.code.length)=true:=dT
  have hI:∀ Hy,Ev.Kp os H1 Hy→∃ b off vc b6 g6 cel v oa,aIndex V.E 22 (.slice xa xn xc) (.int .i64 k)=some (.pointer (some ⟨b,off,none⟩))∧aLoad V.E Hy 42 (.pointer (some ⟨b,off+1,none⟩))=some vc∧(b6,g6)∈os∧aIndex V.E 42 vc (.int .i64 m)=some (.pointer (some ⟨b6,0+m*6,none⟩))∧Rw Hy b6 g6 47 cel∧(∃ w,cel[0+m*6+0]?=some w∧isSl w=false)∧aLoad V.E Hy 43 (.pointer (some ⟨b6,0+m*6+5,none⟩))=some v∧WI 3 Hy v x.code[m].args.length oa∧∀ p∈oa,p∈os:=fun Hy ky=>by
   obtain⟨bb,off,vp,vc,vt,op,oc,ot,ab,lp,lc,lt,wp,wc,wt,sp,sc,st⟩:=hB Hy ky
   obtain⟨b6,g6,cel,oi,h61,h62,h63,h64,h65,h66,⟨v,h67,h68⟩,w,h69,h70⟩:=wc.at (V:=V) E_s_api_Ins E_Ins te_Ins_size (kd:=.i64) h2
   exact⟨bb,off,vc,b6,g6,cel,v,oi,ab,lc,sc _ h61,h63,h64,⟨w,chunkG h69,h70⟩,(h66.at1 h67).load1 (V:=V) E_s_int rfl,h68,fun p hp=>sc _ (h62 p hp)⟩
  have hba:=hsb.cargs x.code[m] (List.getElem_mem _)
  generalize x.code[m]=ins at *
  repeat first|apply zSeq|apply zReg|refine wG ?_|refine wD O_Block_Code ?_|refine wD O_Graph_Blocks ?_|refine wB E_s_api_Block ?_|refine wI ?_|refine wY ?_
  refine wK (hlc _) ?_
  repeat first|apply zSkp|refine wN ?_|refine wL ?_|refine wT ?_
  apply zSeq
  apply zBlk
  refine WP.seqS (σ:=Unit) (fun _=>[(1,.pointer (some ⟨H.next,0,none⟩)),(2,.int .i64 k),(3,.int .i64 m)]) (fun _ Hy=>Ev.Kp os H1 Hy) ?_ ?_
  ·repeat first|apply zSeq|apply zReg|apply zBlk|refine wN ?_|refine wA ?_
   refine WP.loopH (σ:=Nat) (fun l=>[(1,.pointer (some ⟨H.next,0,none⟩)),(2,.int .i64 k),(3,.int .i64 m),(4,.int .i64 l)]) (fun l Hy=>Ev.Kp os H1 Hy∧l≤ins.args.length) (fun l=>ins.args.length-l) 0 ⟨kz,Nat.zero_le _⟩ ⟨rfl,rfl,rfl,rfl,trivial⟩ ?_
   clear bz ab lp lc lt
   rintro l Hy ⟨ky,hl⟩
   have bY:=b1'.kp ky hbo
   obtain⟨bb2,off2,vc2,b6,g6,cel,v,oa,ab2,lc2,h61,h63,h64,h65,h66a,h66,h67⟩:=hI Hy ky
   have hla:∀ Hz,aLen V.E Hz 43 v=some (.int .i64 ins.args.length):=fun Hz=>by
    have:=h66.len (V:=V) (H2:=Hz) E_s_int
    rwa [List.length_replicate] at this
   rcases Nat.lt_or_ge l ins.args.length with h5|h5
   case inr =>
    have g5:decide ((l:Int)<ins.args.length)=false:=dF
    repeat first|apply zSeq|apply zReg|refine wG ?_|refine wD O_Ins_Args ?_|refine wD O_Block_Code ?_|refine wD O_Graph_Blocks ?_|refine wB E_s_api_Block ?_|refine wI ?_|refine wY ?_
    refine wK (hla _) ?_
    repeat first|apply zExt|refine wN ?_|refine wL ?_|refine wE ?_
    exact⟨(),ky,rfl,rfl,rfl,trivial⟩
   have g5:decide ((l:Int)<ins.args.length)=true:=dT
   obtain⟨b7,o7,Hw,i7,w7,k7,n7⟩:=h66.set h67 hnd (V:=V) E_s_int E_int rfl (kd:=.i64) h5 (x:=.int .i64 (-7)) rfl
   repeat first|apply zSeq|apply zReg|refine wG ?_|refine wD O_Ins_Args ?_|refine wD O_Block_Code ?_|refine wD O_Graph_Blocks ?_|refine wB E_s_api_Block ?_|refine wI ?_|refine wY ?_
   refine wK (hla _) ?_
   repeat first|apply zSeq|apply zReg|apply zBlk|apply zSkp|refine wN ?_|refine wG ?_|refine wL ?_|refine wT ?_|refine wD O_Ins_Args ?_|refine wD O_Block_Code ?_|refine wD O_Graph_Blocks ?_|refine wB E_s_api_Block ?_|refine wI ?_|refine wY ?_
   refine WL.op (op_store rfl rfl E_int rfl rfl w7) ?_
   repeat first|apply zReg|refine wN ?_|refine wG ?_|refine wS ?_
   exact⟨l+1,⟨ky.trans k7,h5⟩,by omega,rfl,rfl,rfl,rfl,trivial⟩
  clear bz ab lp lc lt
  rintro _ Hy ky
  have bY:=b1'.kp ky hbo
  obtain⟨bb2,off2,vc2,b6,g6,cel,v,oa,ab2,lc2,h61,h63,h64,h65,h66a,h66,h67⟩:=hI Hy ky
  obtain⟨Hw,w7,k7,n7⟩:=h64.set h61 hnd h65 (x:=.int .u8 99) rfl
  repeat first|apply zReg|refine wG ?_|refine wD O_Ins_Op ?_|refine wD O_Block_Code ?_|refine wD O_Graph_Blocks ?_|refine wB E_s_api_Block ?_|refine wI ?_|refine wY ?_
  refine WL.op (op_store rfl rfl E_uint8 rfl rfl w7) ?_
  repeat first|apply zReg|refine wN ?_|refine wG ?_|refine wS ?_
  exact⟨m+1,⟨ky.trans k7,h2⟩,by omega,rfl,rfl,rfl,trivial⟩
 clear bgi
 rintro _ Hz kz
 refine WP.seqS (σ:=Unit) (fun _=>[(1,.pointer (some ⟨H.next,0,none⟩)),(2,.int .i64 k)]) (fun _ Hz=>Ev.Kp os H1 Hz) ?_ ?_
 ·repeat first|apply zSeq|apply zReg|apply zBlk|refine wN ?_|refine wA ?_
  refine WP.loopH (σ:=Nat) (fun m=>[(1,.pointer (some ⟨H.next,0,none⟩)),(2,.int .i64 k),(5,.int .i64 m)]) (fun m Hz=>Ev.Kp os H1 Hz∧m≤x.phis.length) (fun m=>x.phis.length-m) 0 ⟨kz,Nat.zero_le _⟩ ⟨rfl,rfl,rfl,trivial⟩ ?_
  clear kz
  rintro m Hz ⟨kz,hm⟩
  have bz:=b1'.kp kz hbo
  obtain⟨bb,off,vp,vc,vt,op,oc,ot,ab,lp,lc,lt,wp,wc,wt,sp,sc,st⟩:=hB Hz kz
  have hlc:=fun Hy=>wp.len (V:=V) (H2:=Hy) E_s_api_Phi
  rcases Nat.lt_or_ge m x.phis.length with h2|h2
  case inr =>
   have g2:decide ((m:Int)<x.phis.length)=false:=dF
   repeat first|apply zSeq|apply zReg|refine wG ?_|refine wD O_Block_Phis ?_|refine wD O_Graph_Blocks ?_|refine wB E_s_api_Block ?_|refine wI ?_|refine wY ?_
   refine wK (hlc _) ?_
   repeat first|apply zExt|refine wN ?_|refine wL ?_|refine wE ?_
   exact⟨(),kz,rfl,rfl,trivial⟩
  have g2:decide ((m:Int)<x.phis.length)=true:=dT
  obtain⟨b6,g6,cel,oi,h61,h62,h63,h64,h65,h66,_,w,h69,h70⟩:=wp.at (V:=V) E_s_api_Phi E_Phi te_Phi_size (kd:=.i64) h2
  obtain⟨Hw,w7,k7,n7⟩:=h64.set (sp _ h61) hnd ⟨w,chunkG h69,h70⟩ (x:=.int .i64 (-7)) rfl
  repeat first|apply zSeq|apply zReg|refine wG ?_|refine wD O_Block_Phis ?_|refine wD O_Graph_Blocks ?_|refine wB E_s_api_Block ?_|refine wI ?_|refine wY ?_
  refine wK (hlc _) ?_
  repeat first|apply zSeq|apply zReg|apply zBlk|apply zSkp|refine wN ?_|refine wG ?_|refine wL ?_|refine wT ?_|refine wD O_Phi_R ?_|refine wD O_Block_Phis ?_|refine wD O_Graph_Blocks ?_|refine wB E_s_api_Block ?_|refine wI ?_|refine wY ?_
  refine WL.op (op_store rfl rfl E_int rfl rfl w7) ?_
  repeat first|apply zReg|refine wN ?_|refine wG ?_|refine wS ?_
  exact⟨m+1,⟨kz.trans k7,h2⟩,by omega,rfl,rfl,rfl,trivial⟩
 clear kz
 rintro _ Hz kz
 repeat first|apply zSeq|apply zReg|apply zBlk|refine wN ?_|refine wA ?_
 refine WP.loopH (σ:=Nat) (fun m=>[(1,.pointer (some ⟨H.next,0,none⟩)),(2,.int .i64 k),(6,.int .i64 m)]) (fun m Hz=>Ev.Kp os H1 Hz∧m≤x.to.length) (fun m=>x.to.length-m) 0 ⟨kz,Nat.zero_le _⟩ ⟨rfl,rfl,rfl,trivial⟩ ?_
 clear kz
 rintro m Hz ⟨kz,hm⟩
 have bz:=b1'.kp kz hbo
 obtain⟨bb,off,vp,vc,vt,op,oc,ot,ab,lp,lc,lt,wp,wc,wt,sp,sc,st⟩:=hB Hz kz
 have hlt:∀ Hy,aLen V.E Hy 43 vt=some (.int .i64 x.to.length):=fun Hy=>by
  have:=wt.len (V:=V) (H2:=Hy) E_s_int
  rwa [List.length_replicate] at this
 rcases Nat.lt_or_ge m x.to.length with h2|h2
 case inr =>
  have g2:decide ((m:Int)<x.to.length)=false:=dF
  repeat first|apply zSeq|apply zReg|refine wG ?_|refine wD O_Block_To ?_|refine wD O_Graph_Blocks ?_|refine wB E_s_api_Block ?_|refine wI ?_|refine wY ?_
  refine wK (hlt _) ?_
  repeat first|apply zReg|apply zExt|refine wN ?_|refine wG ?_|refine wL ?_|refine wS ?_|refine wE ?_
  exact⟨k+1,⟨kz,h⟩,by omega,rfl,rfl,trivial⟩
 have g2:decide ((m:Int)<x.to.length)=true:=dT
 obtain⟨b7,o7,Hw,i7,w7,k7,n7⟩:=wt.set st hnd (V:=V) E_s_int E_int rfl (kd:=.i64) h2 (x:=.int .i64 (-7)) rfl
 repeat first|apply zSeq|apply zReg|refine wG ?_|refine wD O_Block_To ?_|refine wD O_Graph_Blocks ?_|refine wB E_s_api_Block ?_|refine wI ?_|refine wY ?_
 refine wK (hlt _) ?_
 repeat first|apply zSeq|apply zReg|apply zBlk|apply zSkp|refine wN ?_|refine wG ?_|refine wL ?_|refine wT ?_|refine wD O_Block_To ?_|refine wD O_Graph_Blocks ?_|refine wB E_s_api_Block ?_|refine wI ?_|refine wY ?_
 refine WL.op (op_store rfl rfl E_int rfl rfl w7) ?_
 repeat first|apply zReg|refine wN ?_|refine wG ?_|refine wS ?_
 exact⟨m+1,⟨kz.trans k7,h2⟩,by omega,rfl,rfl,rfl,trivial⟩
end
section
attribute [local irreducible] WL WP WH W
theorem aBin_neB' {P:Program}{E:TypeId→Option TI}{t:TypeId}{ox oy:Operand}{a b:Bool} (e3:pureRun P (binOp .neq t (.bool a) (.bool b))=some (.bool (a != b))):aBin P E .neq t ox oy (.bool a) (.bool b)=some (.bool (a != b)):=by
 have e:aBin P E .neq t ox oy (.bool a) (.bool b)=(if constOk (.bool a)&&constOk (.bool b) then match pureRun P (do eqGuard .neq t ox oy (.bool a) (.bool b);binOp .neq t (.bool a) (.bool b)) with
  | some v=>if constOk v then some v else none
  | none=>none
  else none):=by unfold aBin;rfl
 have e2:(do eqGuard .neq t ox oy (.bool a) (.bool b);binOp .neq t (.bool a) (.bool b))=binOp .neq t (.bool a) (.bool b):=by
  have:=binSem_skip (op:=.neq) (t:=t) (ox:=ox) (oy:=oy) (x:=.bool a) (y:=.bool b) (fun _ h=>nomatch h) (fun h=>nomatch h)
  unfold binSem at this
  rw[this]
 rw[e,e2]
 rw[e3];rfl
theorem neB_run {a b:Bool}:pureRun V.P (binOp .neq 4 (.bool a) (.bool b))=some (.bool (a != b)):=by cases a<;>cases b<;>kernel_rfl
theorem aBin_neB {ox oy:Operand}{a b:Bool}:aBin V.P V.E .neq 4 ox oy (.bool a) (.bool b)=some (.bool (a != b)):=aBin_neB' neB_run
attribute [local irreducible] V
theorem zNeB {O:Orc}{E:List Value}{l:SL}{H:AH}{K:List Value→AH→Prop}{is:List LI}{x y:Operand}{ty2:TypeId}{s r:Bool} (hx:gS V.nG E l x=some (.bool s)) (hy:gS V.nG E l y=some (.bool r)) (h:WL V O is (.bool (s != r)::E) l H K):WL V O (.run (.binOp .neq 4 x y ty2) none::is) E l H K:=.op (by simp only[aopG,hx,hy,aBin_neB,Option.map_some]) h
variable {O:Orc}{H:AH}
set_option maxHeartbeats 4000000 in
theorem same_c (hO:NoO O) {A A':Av}{g:Graph}{cs cs':List Value} (hR:GraphR A H cs g) (hR':GraphR A' H cs' g) (hnb:g.blocks.length≤1000) (hsm:∀ b∈g.blocks,TinyB b) :
  ∃ u H',Lc V O F_law26_same [.agg cs.toArray,.agg cs'.toArray] H u H'∧(u=.bool true∧Fr H H'):=by
 obtain⟨vb,rfl,hb⟩:=hR
 obtain⟨vb',rfl,hb'⟩:=hR'
 refine Lc.law26_same (hO _ _ _ (by decide)) ?_
 unfold P_law26_same
 apply zSeq
 apply zReg
 refine zBox rfl (fun _=>rfl) fun H1 f1 b1 n1=>?_
 have b1':Bx H1 H.next 24 (graphC g vb):=b1
 refine zBox rfl (fun _=>rfl) fun H2 f2 b2 n2=>?_
 have b2':Bx H2 H1.next 24 (graphC g vb'):=b2
 replace b1':=b1'.fr f2
 have f12:=f1.trans f2
 clear b1 b2 f1 f2
 have hbl:=hb
 have hbl':=hb'
 have e1:(!(g.name.data.toList==g.name.data.toList))=false:=by simp
 have e2:(g.thread != g.thread)=false:=by simp
 have e3:(g.params != g.params)=false:=by simp
 have e4:(g.regs != g.regs)=false:=by simp
 have e5:((g.blocks.length:Int) != g.blocks.length)=false:=by simp
 repeat first|apply zSeq|apply zReg|apply zBlk|apply zSkp|refine wN ?_|refine wO ?_|refine wA ?_|refine wR ?_|refine wU ?_|refine zNeS rfl rfl ?_|refine wE ?_|refine wB E_int ?_|refine wB E_bool ?_|refine wD O_Graph_Blocks ?_|refine wD O_Graph_Regs ?_|refine wD O_Graph_Params ?_|refine wD O_Graph_Name ?_|refine wD O_Graph_Thread ?_|refine wB E_s_api_Block ?_|refine wK (hbl.len E_s_api_Block) ?_|refine wB E_string ?_|refine zNeB rfl rfl ?_|refine wK (hbl'.len E_s_api_Block) ?_
 refine WP.loopH (σ:=Nat) (fun k=>[(2,.pointer (some ⟨H.next,0,none⟩)),(3,.pointer (some ⟨H1.next,0,none⟩)),(5,.int .i64 k)]) (fun k Hc=>Fr H2 Hc∧k≤g.blocks.length) (fun k=>g.blocks.length-k) 0 ⟨.refl _,Nat.zero_le _⟩ ⟨rfl,rfl,rfl,trivial⟩ ?_
 rintro k Hc ⟨fc,hk⟩
 have b1c:=b1'.fr fc
 have b2c:=b2'.fr fc
 have f1c:=f12.trans fc
 rcases Nat.lt_or_ge k g.blocks.length with h|h
 case inr=>
  have g1:decide ((k:Int)<g.blocks.length)=false:=dF
  repeat first|apply zSeq|apply zReg|apply zExt|refine wN ?_|refine wG ?_|refine wA ?_|refine wL ?_|refine wE ?_|refine wD O_Graph_Blocks ?_|refine wB E_s_api_Block ?_|refine wK (hbl.len E_s_api_Block) ?_
  exact WP.ret ⟨.inr rfl,_,rfl,rfl,f1c⟩
 have g1:decide ((k:Int)<g.blocks.length)=true:=dT
 have hbc:=hb.fr BlockR.m f1c
 have hbc':=hb'.fr BlockR.m f1c
 obtain⟨bb,off,cs,ha1,hrd,vp,vc,vf,vt,rfl,hp,hcc,hf,ht0⟩:=hbc.at E_s_api_Block E_Block te_Block_size (kd:=.i64) h
 have hl1:=hrd.loadN (V:=V) E_Block te_Block_agg te_Block_size
 have hone:=(BlockR.one (A:=A) (H:=Hc) (cs:=[vp,vc,vf,vt]) (a:=g.blocks[k]) ⟨vp,vc,vf,vt,rfl,hp,hcc,hf,ht0⟩).1
 obtain⟨bb',off',cs',ha1',hrd',vp',vc',vf',vt',rfl,hp',hcc',hf',ht0'⟩:=hbc'.at E_s_api_Block E_Block te_Block_size (kd:=.i64) h
 have hl1':=hrd'.loadN (V:=V) E_Block te_Block_agg te_Block_size
 have hone':=(BlockR.one (A:=A') (H:=Hc) (cs:=[vp',vc',vf',vt']) (a:=g.blocks[k]) ⟨vp',vc',vf',vt',rfl,hp',hcc',hf',ht0'⟩).1
 have hbs:=hsm g.blocks[k] (List.getElem_mem _)
 generalize g.blocks[k]=b at *
 repeat first|apply zSeq|apply zReg|apply zBlk|apply zSkp|refine wN ?_|refine wG ?_|refine wL ?_|refine wT ?_|refine wD O_Graph_Blocks ?_|refine wB E_s_api_Block ?_|refine wK (hbl.len E_s_api_Block) ?_
 refine WP.rega ?_
 refine yFld rfl O_Graph_Blocks ?_
 refine yLd rfl (b1c.ld (off:=4) rfl E_s_api_Block rfl) ?_
 refine WH.get rfl ?_
 refine WH.op (op_indexAddr rfl rfl ha1) ?_
 refine yLd rfl hl1 ?_
 refine yFld rfl O_Graph_Blocks ?_
 refine yLd rfl (b2c.ld (off:=4) rfl E_s_api_Block rfl) ?_
 refine WH.get rfl ?_
 refine WH.op (op_indexAddr rfl rfl ha1') ?_
 refine yLd rfl hl1' ?_
 refine yAlc E_Block zero34 fun H3 f3 b3 n3=>?_
 refine yAlc E_Block zero34 fun H4 f4 b4 n4=>?_
 refine yStB (b3.fr f4) rfl rfl E_Block (by rw[te_Block_size];rfl) (by simpa[Value.cells] using hone) (by simp[Value.cells]) (by simp[Value.cells]) fun H5 f5 b5 n5=>?_
 have b5':Bx H5 Hc.next 45 [vp,vc,vf,vt]:=b5
 have b45:=b4.frX f5 (by simp;omega)
 refine yStB b45 rfl rfl E_Block (by rw[te_Block_size];rfl) (by simpa[Value.cells] using hone') (by simp[Value.cells]) (by simp[Value.cells]) fun H6 f6 b6 n6=>?_
 have b6':Bx H6 H3.next 45 [vp',vc',vf',vt']:=b6
 have b56:=b5'.frX f6 (by simp;omega)
 have fc5:Fr Hc H5:=(f3.trans f4).young f5 (by simp) (by simp)
 have fc6:Fr Hc H6:=fc5.young f6 (by simp;omega) (by simp)
 have fz:=f1c.trans fc6
 refine WH.nil ⟨?_,_,rfl,?_⟩
 ·obtain⟨_,hs1,_⟩:=hp'
  obtain⟨_,hs2,_⟩:=hcc'
  obtain⟨q1,q2,q3,rfl⟩:=hs1.isSl
  obtain⟨r1,r2,r3,rfl⟩:=hs2.isSl
  obtain⟨s1,s2,s3,rfl⟩:=hf'.isSl
  obtain⟨t1,t2,t3,rfl⟩:=ht0'.isSl
  obtain⟨_,hs5,_⟩:=hb'
  obtain⟨u1,u2,u3,rfl⟩:=hs5.isSl
  intro y hy
  simp only[List.mem_cons,List.not_mem_nil,or_false] at hy
  rcases hy with rfl|rfl
  ·exact .inr ⟨rfl,_,_,_,rfl,rfl,op_load rfl ((b2c.fr fc5).ld (off:=4) rfl E_s_api_Block rfl),sameV_sl⟩
  ·exact .inr ⟨rfl,_,_,_,rfl,rfl,op_load rfl ((hrd'.fr fc5).loadN (V:=V) E_Block te_Block_agg te_Block_size),by simp[sameV,sameL,same0]⟩
 have hp6:=(hp.fr PhiR.m fc6)
 have hp6':=(hp'.fr PhiR.m fc6)
 have hpl:=hp6
 have hpl':=hp6'
 have e6:((b.phis.length:Int) != b.phis.length)=false:=by simp
 obtain⟨_,Hx1,hi1,rfl,ex1⟩:=intsEq_c (H:=H6) hO (hf.fr fc6) (hf'.fr fc6) (by have:=hbs.frm;omega)
 rw[ex1] at hi1
 obtain⟨_,Hx2,hi2,rfl,ex2⟩:=intsEq_c (H:=H6) hO (ht0.fr fc6) (ht0'.fr fc6) (by have:=hbs.to;omega)
 rw[ex2] at hi2
 obtain⟨_,Hx3,hi3,rfl,ex3⟩:=sameIns_c (H:=H6) hO (hcc.fr InsR.m fc6) (hcc'.fr InsR.m fc6) (by have:=hbs.code;omega) (by have:=hbs.code;omega) (fun i hi=>by have:=hbs.cargs i hi;omega)
 rw[ex3] at hi3
 rw[decide_eq_true (rfl:b.code=b.code)] at hi3
 repeat first|apply zSeq|apply zReg|refine wB E_s_int ?_|refine wD O_Block_From ?_
 refine WL.call rfl rfl fp_ref12_Ints.is hi1 ?_
 repeat first|refine wo ?_|refine wZ ?_|refine wB E_s_int ?_|refine wD O_Block_To ?_
 refine WL.call rfl rfl fp_ref12_Ints.is hi2 ?_
 repeat first|refine wo ?_|refine wq ?_|refine wZ ?_|refine wB E_s_api_Ins ?_|refine wD O_Block_Code ?_
 refine WL.call rfl rfl fp_ref06_SameIns.is hi3 ?_
 repeat first|apply zSeq|apply zReg|apply zBlk|apply zSkp|refine wN ?_|refine wo ?_|refine wA ?_|refine wq ?_|refine wU ?_|refine wZ ?_|refine wE ?_|refine wD O_Block_Phis ?_|refine wB E_s_api_Phi ?_|refine wK (hpl.len E_s_api_Phi) ?_|refine wK (hpl'.len E_s_api_Phi) ?_
 refine WP.loopH (σ:=Nat) (fun j=>[(2,.pointer (some ⟨H.next,0,none⟩)),(3,.pointer (some ⟨H1.next,0,none⟩)),(5,.int .i64 k),(6,.pointer (some ⟨Hc.next,0,none⟩)),(7,.pointer (some ⟨H3.next,0,none⟩)),(8,.int .i64 j)]) (fun j Hd=>Hd=H6∧j≤b.phis.length) (fun j=>b.phis.length-j) 0 ⟨rfl,Nat.zero_le _⟩ ⟨rfl,rfl,rfl,rfl,rfl,rfl,trivial⟩ ?_
 rintro j Hd ⟨hd,hj⟩
 replace hd:=hd.symm
 subst hd
 have hbp:=hbs.phis
 rcases Nat.lt_or_ge j b.phis.length with hjl|hjl
 ·have g3:decide ((j:Int)<b.phis.length)=true:=dT
  obtain⟨bi,offi,va,pa,pr,pV,ht⟩:=phi_at hp6 hjl
  obtain⟨bi',offi',va',pa',pr',pV',ht'⟩:=phi_at hp6' hjl
  have e7:(b.phis[j].r != b.phis[j].r)=false:=by simp
  obtain⟨_,Hx4,hi4,rfl,ex4⟩:=intsEq_c (H:=H6) hO ht ht' (by have:=hbs.pargs b.phis[j] (List.getElem_mem _);omega)
  rw[ex4] at hi4
  repeat first|apply zSeq|apply zReg|apply zBlk|apply zSkp|refine wN ?_|refine wG ?_|refine wO ?_|refine wM ?_|refine wL ?_|refine wU ?_|refine wT ?_|refine wD O_Block_Phis ?_|refine wD O_Phi_R ?_|refine wD O_Phi_Args ?_|refine wB E_s_api_Phi ?_|refine wK (hpl.len E_s_api_Phi) ?_|refine zIdx rfl rfl pa ?_|refine zLd rfl pV ?_|refine zLd rfl pr ?_|refine zIdx rfl rfl pa' ?_|refine zLd rfl pV' ?_|refine zLd rfl pr' ?_
  refine WL.call rfl rfl fp_ref12_Ints.is hi4 ?_
  repeat first|apply zReg|apply zSkp|refine wN ?_|refine wG ?_|refine wO ?_|refine wR ?_|refine wS ?_|refine wZ ?_|refine wf ?_
  exact⟨j+1,⟨rfl,hjl⟩,by omega,rfl,rfl,rfl,rfl,rfl,rfl,trivial⟩
 ·have g3:decide ((j:Int)<b.phis.length)=false:=dF
  repeat first|apply zSeq|apply zReg|apply zExt|refine wN ?_|refine wG ?_|refine wL ?_|refine wS ?_|refine wE ?_|refine wD O_Block_Phis ?_|refine wB E_s_api_Phi ?_|refine wK (hpl.len E_s_api_Phi) ?_
  exact⟨k+1,⟨fc.trans fc6,h⟩,by omega,rfl,rfl,rfl,trivial⟩
end
end Go.Proofs.YtjiibfgopanbgaaGreatDoor.U
namespace Go.Mer
open Go.Ev
def is7 (i:Ins):Bool:=i.op==7
def taken (l:List Block):Nat:=(l.map fun b=>b.code.countP is7).sum
theorem taken_le:∀ (l:List Block),(∀ b∈l,b.code.length≤200)→taken l≤l.length*200
 | [],_=>by simp[taken]
 | b::l,h=>by
  have h1:=taken_le l fun b hb=>h b (List.mem_cons_of_mem _ hb)
  have h2:=h b List.mem_cons_self
  have h3:=List.countP_le_length (p:=is7) (l:=b.code)
  unfold taken at *
  simp only[List.map_cons,List.sum_cons,List.length_cons]
  omega
theorem taken_snoc (l:List Block) (b:Block):taken (l++[b])=taken l+b.code.countP is7:=by
 unfold taken
 rw[List.map_append,List.sum_append];simp
end Go.Mer
namespace Go.Proofs.YtjiibfgopanbgaaGreatDoor.U
open Go Go.Ev
section
attribute [local irreducible] WL WP WH W
attribute [local irreducible] V
variable {O:Orc}{H:AH}
set_option maxHeartbeats 4000000 in
theorem taken_c (hO:NoO O) {A:Av}{g:Graph}{cs:List Value} (hR:GraphR A H cs g) (hnb:g.blocks.length≤1000) (hsm:∀ b∈g.blocks,TinyB b) :
  ∃ u H',Lc V O F_merge_taken [.agg cs.toArray] H u H'∧(u=.int .i64 (Mer.taken g.blocks)∧Fr H H'):=by
 obtain⟨vb,rfl,hb⟩:=hR
 refine Lc.merge_taken (hO _ _ _ (by decide)) ?_
 unfold P_merge_taken
 apply zSeq
 apply zReg
 refine zBox rfl (fun _=>rfl) fun H1 f1 b1 n1=>?_
 have b1':Bx H1 H.next 24 (graphC g vb):=b1
 clear b1
 have hbl:=hb
 repeat first|apply zSeq|apply zReg|apply zBlk|refine wN ?_|refine wM ?_|refine wA ?_|refine wD O_Graph_Blocks ?_|refine wB E_s_api_Block ?_|refine wK (hbl.len E_s_api_Block) ?_
 refine WP.loopH (σ:=Nat) (fun k=>[(1,.pointer (some ⟨H.next,0,none⟩)),(3,.int .i64 (Mer.taken (g.blocks.take k))),(9,vb),(10,.int .i64 g.blocks.length),(11,.int .i64 k)]) (fun k Hc=>Fr H1 Hc∧k≤g.blocks.length) (fun k=>g.blocks.length-k) 0 ⟨.refl _,Nat.zero_le _⟩ ⟨rfl,rfl,rfl,rfl,rfl,trivial⟩ ?_
 rintro k Hc ⟨fc,hk⟩
 rcases Nat.lt_or_ge k g.blocks.length with h|h
 case inr=>
  have g1:decide ((k:Int)<g.blocks.length)=false:=dF
  rw[List.take_of_length_le h]
  repeat first|apply zSeq|apply zReg|apply zExt|refine wN ?_|refine wG ?_|refine wL ?_|refine wE ?_
  exact WP.ret ⟨.inr rfl,_,rfl,rfl,f1.trans fc⟩
 have g1:decide ((k:Int)<g.blocks.length)=true:=dT
 have hbc:=hb.fr BlockR.m (f1.trans fc)
 obtain⟨bb,off,cs,ha1,hrd,vp,vc,vf,vt,rfl,hp,hcc,hf,ht0⟩:=hbc.at E_s_api_Block E_Block te_Block_size (kd:=.i64) h
 have hl1:=hrd.loadN (V:=V) E_Block te_Block_agg te_Block_size
 have hone:=(BlockR.one (A:=A) (H:=Hc) (cs:=[vp,vc,vf,vt]) (a:=g.blocks[k]) ⟨vp,vc,vf,vt,rfl,hp,hcc,hf,ht0⟩).1
 have hbs:=hsm g.blocks[k] (List.getElem_mem _)
 have hT:Mer.taken (g.blocks.take (k+1))=Mer.taken (g.blocks.take k)+g.blocks[k].code.countP Mer.is7:=by
  rw[List.take_succ_eq_append_getElem h,Mer.taken_snoc]
 have hTl:=Mer.taken_le (g.blocks.take k) fun b hb=>(hsm b (List.mem_of_mem_take hb)).code
 rw[List.length_take] at hTl
 generalize Mer.taken (g.blocks.take k)=T at *
 generalize g.blocks[k]=b at *
 repeat first|apply zSeq|apply zReg|apply zBlk|apply zSkp|refine wN ?_|refine wL ?_|refine wT ?_|refine zIdx rfl rfl ha1 ?_|refine zLd rfl hl1 ?_
 refine zAlc E_Block zero34 fun H7 f7 b7 n7=>?_
 refine zStB b7 rfl rfl E_Block (by rw[te_Block_size];rfl) (by simpa[Value.cells] using hone) (by simp[Value.cells]) (by simp[Value.cells]) fun H8 f8 b8 n8=>?_
 have b8':Bx H8 Hc.next 45 [vp,vc,vf,vt]:=b8
 have f78:Fr Hc H8:=f7.young f8 (by simp) (by simp)
 have hcl:=hcc.fr InsR.m f78
 have hbc8:=hbs.code
 repeat first|apply zSeq|apply zReg|apply zBlk|refine wN ?_|refine wM ?_|refine wB E_s_api_Ins ?_|refine wD O_Block_Code ?_|refine wK (hcl.len E_s_api_Ins) ?_
 refine WP.loopH (σ:=Nat) (fun i=>[(1,.pointer (some ⟨H.next,0,none⟩)),(3,.int .i64 ((T:Int)+(b.code.take i).countP Mer.is7)),(9,vb),(10,.int .i64 g.blocks.length),(11,.int .i64 k),(16,vc),(17,.int .i64 b.code.length),(18,.int .i64 i)]) (fun i Hd=>Fr H8 Hd∧i≤b.code.length) (fun i=>b.code.length-i) 0 ⟨.refl _,Nat.zero_le _⟩ ⟨rfl,by simp;rfl,rfl,rfl,rfl,rfl,rfl,rfl,trivial⟩ ?_
 rintro i Hd ⟨fd,hi⟩
 rcases Nat.lt_or_ge i b.code.length with hil|hil
 case inr=>
  have g2:decide ((i:Int)<b.code.length)=false:=dF
  rw[List.take_of_length_le hil]
  repeat first|apply zSeq|apply zReg|apply zExt|refine wN ?_|refine wL ?_|refine wS ?_|refine wE ?_
  exact⟨k+1,⟨(fc.trans f78).trans fd,h⟩,by omega,rfl,by rw[hT];rfl,rfl,rfl,rfl,trivial⟩
 have g2:decide ((i:Int)<b.code.length)=true:=dT
 obtain⟨bi,offi,va,hax,io,ir,iA,iB,iN,iV,hlx,ht⟩:=ins_at (hcl.fr InsR.m fd) hil
 have hs:(b.code.take (i+1)).countP Mer.is7=(b.code.take i).countP Mer.is7+if Mer.is7 b.code[i] then 1 else 0:=by
  rw[List.take_succ_eq_append_getElem hil,List.countP_append,List.countP_singleton]
 have hcl2:=List.countP_le_length (p:=Mer.is7) (l:=b.code.take i)
 rw[List.length_take] at hcl2
 repeat first|apply zSeq|apply zReg|apply zBlk|apply zSkp|refine wN ?_|refine wL ?_|refine wT ?_|refine zLd rfl hlx ?_|refine zIdx rfl rfl hax ?_
 refine zAlc E_Ins zero39 fun H9 f9 b9 n9=>?_
 refine zStB b9 rfl rfl E_Ins (by rw[te_Ins_size];rfl) (by have:=ht.oneCell;simp[Ins.cells,Value.cells,Value.oneCell'] at this ⊢;exact this) (by simp[Ins.cells,Value.cells]) (by simp[Ins.cells,Value.cells]) fun H10 f10 b10 n10=>?_
 have b10':Bx H10 Hd.next 47 [.int .u8 b.code[i].op,.int .i64 b.code[i].r,.int .i64 b.code[i].a,.int .i64 b.code[i].b,.int .i64 b.code[i].n,va]:=b10
 have f90:Fr Hd H10:=f9.young f10 (by simp) (by simp)
 unfold Mer.is7 at hs hcl2 ⊢
 cases c1:b.code[i].op==7
 ·rw[c1] at hs
  repeat first|apply zSeq|apply zReg|apply zSkp|refine wN ?_|refine wQ ?_|refine wS ?_|refine wE ?_|refine wD O_Ins_Op ?_|refine wB E_uint8 ?_
  exact⟨i+1,⟨fd.trans f90,hil⟩,by omega,rfl,by rw[hs];rfl,rfl,rfl,rfl,rfl,rfl,rfl,trivial⟩
 ·rw[c1] at hs
  repeat first|apply zSeq|apply zReg|refine wN ?_|refine wG ?_|refine wQ ?_|refine wS ?_|refine wT ?_|refine wD O_Ins_Op ?_|refine wB E_uint8 ?_
  exact⟨i+1,⟨fd.trans f90,hil⟩,by omega,rfl,by rw[hs];simp[Int.add_assoc];rfl,rfl,rfl,rfl,rfl,rfl,rfl,trivial⟩
set_option maxHeartbeats 4000000 in
theorem count_c (hO:NoO O) {A A':Av}{g g':Graph}{cs cs':List Value} (hR:GraphR A H cs g) (hR':GraphR A' H cs' g') (hnb:g.blocks.length≤1000) (hsm:∀ b∈g.blocks,TinyB b) (hnb':g'.blocks.length≤1000) (hsm':∀ b∈g'.blocks,TinyB b) :
  ∃ u H',Lc V O F_merge_Count [.agg cs.toArray,.agg cs'.toArray] H u H'∧(u=.int .i64 ((Mer.taken g.blocks:Int)-Mer.taken g'.blocks)∧Fr H H'):=by
 have hR0:=hR
 have hR0':=hR'
 obtain⟨vb,rfl,hb⟩:=hR
 obtain⟨vb',rfl,hb'⟩:=hR'
 refine Lc.merge_Count (hO _ _ _ (by decide)) ?_
 unfold P_merge_Count
 apply zSeq
 apply zReg
 refine zBox rfl (fun _=>rfl) fun H1 f1 b1 n1=>?_
 have b1':Bx H1 H.next 24 (graphC g vb):=b1
 refine zBox rfl (fun _=>rfl) fun H2 f2 b2 n2=>?_
 have b2':Bx H2 H1.next 24 (graphC g' vb'):=b2
 replace b1':=b1'.fr f2
 have f12:=f1.trans f2
 clear b1 b2 f1 f2
 obtain⟨_,H3,hc3,rfl,f3⟩:=taken_c (H:=H2) hO (GraphR.m.fr hR0 f12) hnb hsm
 obtain⟨_,H4,hc4,rfl,f4⟩:=taken_c (H:=H3) hO (GraphR.m.fr (GraphR.m.fr hR0' f12) f3) hnb' hsm'
 have t1:=Mer.taken_le g.blocks fun b hb=>(hsm b hb).code
 have t2:=Mer.taken_le g'.blocks fun b hb=>(hsm' b hb).code
 repeat first|apply zSeq|refine wN ?_|refine wA ?_
 refine WP.rega ?_
 refine yLd rfl (b1'.lN E_Graph te_Graph_agg te_Graph_size) ?_
 refine yLd rfl (b2'.lN E_Graph te_Graph_agg te_Graph_size) ?_
 refine WH.call rfl rfl fp_merge_taken.is hc3 ?_
 refine WH.call rfl rfl fp_merge_taken.is hc4 ?_
 refine WH.op (op_int rfl rfl (aInt_sub _ _ (by omega) (by omega))) ?_
 refine WH.nil ⟨?_,_,rfl,?_⟩
 ·obtain⟨_,hs5,_⟩:=hb'
  obtain⟨u1,u2,u3,rfl⟩:=hs5.isSl
  intro y hy
  rw[List.mem_singleton] at hy
  subst hy
  exact .inr ⟨rfl,_,_,_,rfl,rfl,op_load rfl ((b2'.fr f3).lN E_Graph te_Graph_agg te_Graph_size),by simp[sameV,sameL,same0,graphC]⟩
 skip
 exact WP.ret ⟨.inr rfl,_,rfl,rfl,(f12.trans f3).trans f4⟩
end
section
attribute [local irreducible] WL WP WH W
attribute [local irreducible] V
variable {O:Orc}{H:AH}
theorem code_at {A:Av}{H:AH}{v:Value}{l:List Block} (h:Els 4 BlockR A H v l) {k:Nat} (hk:k<l.length):∃ b off vc,aIndex V.E 22 v (.int .i64 k)=some (.pointer (some ⟨b,off,none⟩))∧aLoad V.E H 42 (.pointer (some ⟨b,off+1,none⟩))=some vc∧Els 6 InsR A H vc l[k].code:=by
 obtain⟨b,off,cs,h1,hrd,vp,vc,vf,vt,rfl,k1,k2,k3,k4⟩:=h.at E_s_api_Block E_Block te_Block_size (kd:=.i64) hk
 exact⟨b,off,vc,h1,(hrd.sub 1 1 (by omega)).load1 E_s_api_Ins rfl,k2⟩
set_option maxHeartbeats 4000000 in
theorem rtaken_c (hO:NoO O) {A:Av}{g:Graph}{cs:List Value} (hR:GraphR A H cs g) (hnb:g.blocks.length≤1000) (hsm:∀ b∈g.blocks,TinyB b) :
  ∃ u H',Lc V O F_ref26_taken [.agg cs.toArray] H u H'∧(u=.int .i64 (Mer.taken g.blocks)∧Fr H H'):=by
 obtain⟨vb,rfl,hb⟩:=hR
 refine Lc.ref26_taken (hO _ _ _ (by decide)) ?_
 unfold P_ref26_taken
 apply zSeq
 apply zReg
 refine zBox rfl (fun _=>rfl) fun H1 f1 b1 n1=>?_
 have b1':Bx H1 H.next 24 (graphC g vb):=b1
 clear b1
 have hlen1:=fun Hz=>hb.len (V:=V) (H2:=Hz) E_s_api_Block
 have hb1:=hb.fr BlockR.m f1
 obtain⟨xa,xn,xc,rfl⟩:∃ a n c,vb=.slice a n c:=let ⟨_,h,_⟩:=hb;h.isSl
 unfold graphC at b1'
 repeat first|apply zSeq|apply zReg|apply zBlk|refine wN ?_|refine wA ?_
 refine WP.loopH (σ:=Nat×Nat) (fun x=>[(1,.pointer (some ⟨H.next,0,none⟩)),(3,.int .i64 x.2),(4,.int .i64 x.1)]) (fun x Hc=>Hc=H1∧x.1≤g.blocks.length∧x.2=Mer.taken (g.blocks.take x.1)∧x.2≤x.1*200) (fun x=>g.blocks.length-x.1) (0,0) ⟨rfl,Nat.zero_le _,by simp[Mer.taken],by simp⟩ ⟨rfl,rfl,rfl,trivial⟩ ?_
 rintro⟨k,n⟩ Hc ⟨e,hk,hn,hn2⟩
 simp only at e hk hn hn2 ⊢
 subst e
 rcases Nat.lt_or_ge k g.blocks.length with h|h
 case inr=>
  have g1:decide ((k:Int)<g.blocks.length)=false:=dF
  rw[List.take_of_length_le h] at hn
  subst hn
  repeat first|apply zSeq|apply zReg|apply zExt|refine wN ?_|refine wG ?_|refine wL ?_|refine wE ?_|refine wD O_Graph_Blocks ?_|refine wB E_s_api_Block ?_|refine wK (hlen1 _) ?_
  exact WP.ret ⟨.inr rfl,_,rfl,rfl,f1⟩
 have g1:decide ((k:Int)<g.blocks.length)=true:=dT
 obtain⟨bb,off,vc,ha1,hl1,hcc⟩:=code_at hb1 h
 have hts:=Mer.taken_snoc (g.blocks.take k) g.blocks[k]
 rw[←List.take_succ_eq_append_getElem h,←hn] at hts
 have hcl:=(hsm g.blocks[k] (List.getElem_mem _)).code
 generalize g.blocks[k]=b at *
 have hlen2:=fun Hz=>hcc.len (V:=V) (H2:=Hz) E_s_api_Ins
 repeat first|apply zSeq|apply zReg|apply zBlk|apply zSkp|refine wN ?_|refine wG ?_|refine wA ?_|refine wL ?_|refine wT ?_|refine wD O_Graph_Blocks ?_|refine wB E_s_api_Block ?_|refine wK (hlen1 _) ?_
 refine WP.loopH (σ:=Nat×Nat) (fun x=>[(1,.pointer (some ⟨H.next,0,none⟩)),(3,.int .i64 x.2),(4,.int .i64 k),(5,.int .i64 x.1)]) (fun x Hd=>Hd=Hc∧x.1≤b.code.length∧x.2=n+(b.code.take x.1).countP Mer.is7∧x.2≤n+x.1) (fun x=>b.code.length-x.1) (0,n) ⟨rfl,Nat.zero_le _,by simp,by simp⟩ ⟨rfl,rfl,rfl,rfl,trivial⟩ ?_
 rintro⟨j,m⟩ Hd ⟨e,hj,hm,hm2⟩
 simp only at e hj hm hm2 ⊢
 subst e
 rcases Nat.lt_or_ge j b.code.length with h2|h2
 case inr=>
  have g2:decide ((j:Int)<b.code.length)=false:=dF
  rw[List.take_of_length_le h2] at hm
  repeat first|apply zSeq|apply zReg|apply zExt|refine wN ?_|refine wG ?_|refine wL ?_|refine wS ?_|refine wE ?_|refine wD O_Block_Code ?_|refine wD O_Graph_Blocks ?_|refine wB E_s_api_Block ?_|refine wI ?_|refine wY ?_|refine wK (hlen2 _) ?_
  exact⟨(k+1,m),⟨rfl,h,by simp only;rw[hts,hm],by simp only;omega⟩,by simp only;omega,rfl,rfl,rfl,trivial⟩
 have g2:decide ((j:Int)<b.code.length)=true:=dT
 obtain⟨b2,off2,va,ia,io,ir,iA,iB,iN,iV,iW,ht⟩:=ins_at hcc h2
 have htk:(b.code.take (j+1)).countP Mer.is7=(b.code.take j).countP Mer.is7+(if Mer.is7 b.code[j]=true then 1 else 0):=by
  rw[List.take_succ_eq_append_getElem h2,List.countP_append,List.countP_cons];simp
 cases c1:b.code[j].op==7
 ·have h7:Mer.is7 b.code[j]=false:=c1
  rw[h7] at htk
  repeat first|apply zSeq|apply zReg|apply zBlk|apply zSkp|refine wN ?_|refine wG ?_|refine wL ?_|refine wQ ?_|refine wS ?_|refine wT ?_|refine wE ?_|refine wD O_Ins_Op ?_|refine wD O_Block_Code ?_|refine wD O_Graph_Blocks ?_|refine wB E_s_api_Block ?_|refine wI ?_|refine wY ?_|refine wK (hlen2 _) ?_
  exact⟨(j+1,m),⟨rfl,h2,by simp only;rw[htk,hm];simp,by simp only;omega⟩,by simp only;omega,rfl,rfl,rfl,rfl,trivial⟩
 ·have h7:Mer.is7 b.code[j]=true:=c1
  rw[h7] at htk
  repeat first|apply zSeq|apply zReg|apply zBlk|apply zSkp|refine wN ?_|refine wG ?_|refine wL ?_|refine wQ ?_|refine wS ?_|refine wT ?_|refine wD O_Ins_Op ?_|refine wD O_Block_Code ?_|refine wD O_Graph_Blocks ?_|refine wB E_s_api_Block ?_|refine wI ?_|refine wY ?_|refine wK (hlen2 _) ?_
  exact⟨(j+1,m+1),⟨rfl,h2,by simp only;rw[htk,hm];simp;omega,by simp only;omega⟩,by simp only;omega,rfl,rfl,rfl,rfl,trivial⟩
theorem rcount_c (hO:NoO O) {A A':Av}{g g':Graph}{cs cs':List Value} (hR:GraphR A H cs g) (hR':GraphR A' H cs' g') (hnb:g.blocks.length≤1000) (hsm:∀ b∈g.blocks,TinyB b) (hnb':g'.blocks.length≤1000) (hsm':∀ b∈g'.blocks,TinyB b) :
  ∃ u H',Lc V O F_ref26_Count [.agg cs.toArray,.agg cs'.toArray] H u H'∧(u=.int .i64 ((Mer.taken g.blocks:Int)-Mer.taken g'.blocks)∧Fr H H'):=by
 have hR0:=hR
 have hR0':=hR'
 obtain⟨vb,rfl,hb⟩:=hR
 obtain⟨vb',rfl,hb'⟩:=hR'
 refine Lc.ref26_Count (hO _ _ _ (by decide)) ?_
 unfold P_ref26_Count
 apply zSeq
 apply zReg
 refine zBox rfl (fun _=>rfl) fun H1 f1 b1 n1=>?_
 have b1':Bx H1 H.next 24 (graphC g vb):=b1
 refine zBox rfl (fun _=>rfl) fun H2 f2 b2 n2=>?_
 have b2':Bx H2 H1.next 24 (graphC g' vb'):=b2
 replace b1':=b1'.fr f2
 have f12:=f1.trans f2
 clear b1 b2 f1 f2
 obtain⟨_,H3,hc3,rfl,f3⟩:=rtaken_c (H:=H2) hO (GraphR.m.fr hR0 f12) hnb hsm
 obtain⟨_,H4,hc4,rfl,f4⟩:=rtaken_c (H:=H3) hO (GraphR.m.fr (GraphR.m.fr hR0' f12) f3) hnb' hsm'
 have t1:=Mer.taken_le g.blocks fun b hb=>(hsm b hb).code
 have t2:=Mer.taken_le g'.blocks fun b hb=>(hsm' b hb).code
 repeat first|apply zSeq|refine wN ?_|refine wA ?_
 refine WP.rega ?_
 refine yLd rfl (b1'.lN E_Graph te_Graph_agg te_Graph_size) ?_
 refine yLd rfl (b2'.lN E_Graph te_Graph_agg te_Graph_size) ?_
 refine WH.call rfl rfl fp_ref26_taken.is hc3 ?_
 refine WH.call rfl rfl fp_ref26_taken.is hc4 ?_
 refine WH.op (op_int rfl rfl (aInt_sub _ _ (by omega) (by omega))) ?_
 refine WH.nil ⟨?_,_,rfl,?_⟩
 ·obtain⟨_,hs5,_⟩:=hb'
  obtain⟨u1,u2,u3,rfl⟩:=hs5.isSl
  intro y hy
  rw[List.mem_singleton] at hy
  subst hy
  exact .inr ⟨rfl,_,_,_,rfl,rfl,op_load rfl ((b2'.fr f3).lN E_Graph te_Graph_agg te_Graph_size),by simp[sameV,sameL,same0,graphC]⟩
 skip
 exact WP.ret ⟨.inr rfl,_,rfl,rfl,(f12.trans f3).trans f4⟩
end
section
attribute [local irreducible] WL WP WH W
theorem TinyB.mer {b:Block} (h:TinyB b):TinyB (Mer.block b):=⟨by have:=(Mer.code_sub b.code).length_le;have:=h.code;simp only[Mer.block];omega,h.phis,h.frm,h.to,fun i hi=>h.cargs i ((Mer.code_sub b.code).subset hi),h.pargs⟩
theorem tiny_mer {l:List Block} (h:∀ b∈l,TinyB b):∀ b∈l.map Mer.block,TinyB b:=fun b hb=>by
 obtain⟨b',hb',rfl⟩:=List.mem_map.1 hb
 exact (h b' hb').mer
end
end Go.Proofs.YtjiibfgopanbgaaGreatDoor.U
namespace Go.Ev
def insO (x a n:Int):Ins:=⟨x,0,a,0,n,[]⟩
def code0:List Ins:=[insO 7 0 0,insO 6 (-1) 0,insO 8 0 0,insO 7 0 0,insO 6 (-1) 1,insO 8 0 0]
def g0:Graph:=⟨⟨⟨[]⟩⟩,true,0,1,[⟨[],code0++[insO 13 0 0],[],[]⟩]⟩
def gx:Graph:=⟨⟨⟨[]⟩⟩,true,0,1,[⟨[],[insO 7 0 0,insO 6 (-1) 0,insO 6 (-1) 1,insO 8 0 0,insO 13 0 0],[],[]⟩]⟩
def valO (x a n:Int):Value:=.agg #[.int .u8 x,.int .i64 0,.int .i64 a,.int .i64 0,.int .i64 n,.slice none 0 0]
def cells0:List Value:=[.int .u8 7,.int .i64 0,.int .i64 0,.int .i64 0,.int .i64 0,.slice none 0 0,.int .u8 6,.int .i64 0,.int .i64 (-1),.int .i64 0,.int .i64 0,.slice none 0 0,.int .u8 8,.int .i64 0,.int .i64 0,.int .i64 0,.int .i64 0,.slice none 0 0,.int .u8 7,.int .i64 0,.int .i64 0,.int .i64 0,.int .i64 0,.slice none 0 0,.int .u8 6,.int .i64 0,.int .i64 (-1),.int .i64 0,.int .i64 1,.slice none 0 0,.int .u8 8,.int .i64 0,.int .i64 0,.int .i64 0,.int .i64 0,.slice none 0 0]
end Go.Ev
namespace Go.Proofs.YtjiibfgopanbgaaGreatDoor.U
open Go Go.Ev
section
attribute [local irreducible] WL WP WH W
theorem aw0 {x:Int}:aBuild V.E 47 [(0,.int .u8 x)]=some (valO x 0 0):=by kernel_rfl
theorem aw2 {x a:Int}:aBuild V.E 47 [(0,.int .u8 x),(2,.int .i64 a)]=some (valO x a 0):=by kernel_rfl
theorem aw4 {x a n:Int}:aBuild V.E 47 [(0,.int .u8 x),(2,.int .i64 a),(4,.int .i64 n)]=some (valO x a n):=by kernel_rfl
theorem awB {p:Option Addr}{a b:Nat}:aBuild V.E 45 [(1,.slice p a b)]=some (.agg #[.slice none 0 0,.slice p a b,.slice none 0 0,.slice none 0 0]):=by kernel_rfl
theorem awG {p:Option Addr}{a b:Nat}{r:Int}:aBuild V.E 24 [(1,.bool true),(3,.int .i64 r),(4,.slice p a b)]=some (.agg #[.string ⟨⟨[]⟩⟩,.bool true,.int .i64 0,.int .i64 r,.slice p a b]):=by kernel_rfl
theorem awFill:afill (fun i=>some (i*te_Ins.size,te_Ins.size)) (azeros te_Ins.zv.cells.toList 6) [(0,valO 7 0 0),(1,valO 6 (-1) 0),(2,valO 8 0 0),(3,valO 7 0 0),(4,valO 6 (-1) 1),(5,valO 8 0 0)]=some cells0:=by kernel_rfl
theorem awOk:okG g0=true:=by kernel_rfl
theorem awOut:outG g0=gx:=by rw[outG,awOk];rfl
attribute [local irreducible] V
variable {O:Orc}{H:AH}
set_option maxHeartbeats 4000000 in
theorem graph_c (hO:NoO O) {v:Value}{l:List Ins} (hv:Vw 6 InsR .no H v l) (hL:l.length≤1000) :
  ∃ u H',Lc V O F_law26_graph [.int .i64 1,v] H u H'∧(∃ cs':List Value,u=.agg cs'.toArray∧GraphR .no H' cs' ⟨⟨⟨[]⟩⟩,true,0,1,[⟨[],l++[insO 13 0 0],[],[]⟩]⟩∧Fr H H'):=by
 refine Lc.law26_graph (hO _ _ _ (by decide)) ?_
 unfold P_law26_graph
 apply zSeq
 apply zReg
 refine zAlc E_Graph zero24 fun H1 f1 b1 n1=>?_
 have hn1:=b1.1
 have hBl:(Av.box H.next).Lt H1.next:=.box (by omega)
 have hv':Vw 6 InsR (.box H.next) H1 v l:=by
  have hg:(Av.no).Gr (.box H.next) H.next:=⟨fun b hb=>.inr (by simp[Av.box] at hb;omega),fun b hb=>by simp[Av.box] at hb⟩
  obtain⟨b,cs,h1,h2,h3⟩:=hv
  exact Vw.frX InsR.m ⟨b,cs,h1,h2.gr hg,fun i hi=>InsR.m.gr hg (h3 i hi)⟩ (f1.x _ _)
 have f2:=Fr.alloc H1 (.row 47 ((insO 13 0 0).cells (.slice none 0 0)) .exact 0 0)
 have hs:Els 6 InsR (.box H.next) (H1.alloc (.row 47 ((insO 13 0 0).cells (.slice none 0 0)) .exact 0 0)) (.slice (some ⟨H1.next,0,none⟩) 1 1) [insO 13 0 0]:=⟨(insO 13 0 0).cells (.slice none 0 0),⟨rfl,.inr ⟨H1.next,0,1,rfl,fun _=>Rd.aLt (H0:=H1) hBl (et:=47) (cells:=(insO 13 0 0).cells (.slice none 0 0)) (st:=.exact) (g:=0) (v:=0) (Nat.le_refl _) (by simp) (by simp) (.inl rfl) (by simp[Ins.cells]) (by simp[Ins.cells])⟩⟩,fun i h=>by
  have:i=0:=by simp at h;omega
  subst this
  exact⟨.slice none 0 0,rfl,.nil⟩⟩
 obtain⟨v',H3,k1,k2,f3⟩:=(hv'.frX InsR.m (f2.x _ _)).app (n0:=H1.next) (V:=V) InsR.m (hBl.mono f2.1) hs (fun h=>(InsR.one h).1) (by simp) (by decide) (bytes:=64) (by simp;omega) (by simp;omega) f2.1 E_s_api_Ins E_s_api_Ins E_Ins te_Ins_size te_Ins_bytes
 obtain⟨q1,q2,q3,rfl⟩:=OwR.isSl' k2
 have hn2:=f2.1
 have ho1:∀ b∈obs (some ((H1.alloc (.row 47 ((insO 13 0 0).cells (.slice none 0 0)) .exact 0 0)).next,(H1.alloc (.row 47 ((insO 13 0 0).cells (.slice none 0 0)) .exact 0 0)).next)),b∉(Av.box H.next).bs:=fun b hb h2=>by
  have:=k2.young.1 b hb
  simp[Av.box] at h2;omega
 have b13:=(b1.fr f2).fr f3
 have f4:=Fr.alloc H3 (.row 45 [.slice none 0 0,.slice q1 q2 q3,.slice none 0 0,.slice none 0 0] .exact 0 0)
 have x4:Bx (H3.alloc (.row 45 [.slice none 0 0,.slice q1 q2 q3,.slice none 0 0,.slice none 0 0] .exact 0 0)) H3.next 45 [.slice none 0 0,.slice q1 q2 q3,.slice none 0 0,.slice none 0 0]:=.new
 have b14:=b13.fr f4
 repeat first|apply zSeq|apply zReg|refine wN ?_|refine wG ?_
 refine WL.op (op_build rfl aw0) ?_
 refine WL.op (op_buildSlice rfl E_s_api_Ins E_Ins (by rw[te_Ins_size];decide) elFillIns) ?_
 refine WL.op (k1 rfl rfl) ?_
 refine WL.op (op_build rfl awB) ?_
 refine WL.op (op_buildSlice rfl E_s_api_Block E_Block (by rw[te_Block_size];decide) fill34) ?_
 refine WL.op (op_build rfl awG) ?_
 refine zStB b14 rfl rfl E_Graph (by rw[te_Graph_size];rfl) rfl (by simp[Value.cells]) (by simp[Value.cells]) fun H5 f5 b5 n5=>?_
 have b5':Bx H5 H.next 24 [.string ⟨⟨[]⟩⟩,.bool true,.int .i64 0,.int .i64 1,.slice (some ⟨H3.next,0,none⟩) 1 1]:=b5
 repeat first|refine wN ?_
 have fAll:=((f1.trans f2).trans f3).trans f4
 have hn4:=f4.1
 have hn3:=f3.1
 refine WP.ret ⟨.inr rfl,_,resL_cell rfl (b5'.lN E_Graph te_Graph_agg te_Graph_size) rfl,_,rfl,⟨_,rfl,?_⟩,fAll.young f5 (by simp) (by simp)⟩
 have x5:=x4.frX f5 (by simp;omega)
 have hel5:Els 6 InsR .no H5 (.slice q1 q2 q3) (l++[insO 13 0 0]):=(((k2.fr InsR.m f4).frX InsR.m (f5.sub (by simp[Av.box]) (by simp)) ho1 (by simp[Av.box])).els InsR.m ho1 (by simp[Av.box])).gr InsR.m ⟨fun b hb=>by simp[Av.no] at hb,fun b hb=>by simp[Av.no] at hb⟩
 exact x5.els (cap:=1) rfl fun i h=>by
  have:i=0:=by simp at h;omega
  subst this
  exact⟨_,_,_,_,rfl,.nil,hel5,.nil,.nil⟩
set_option maxHeartbeats 8000000 in
theorem awake_c (hO:NoO O) (hA:∀ vs H,O F_law26_awake vs H=none) (hgh:GH H) (hg:GM H) :
  ∃ u H',Lc V O F_law26_awake [] H u H'∧(u=.bool true∧Fr H H'):=by
 refine Lc.law26_awake (hA _ _) ?_
 unfold P_law26_awake
 have f1:=Fr.alloc H (.row 47 cells0 .exact 0 0)
 have x1:Bx (H.alloc (.row 47 cells0 .exact 0 0)) H.next 47 cells0:=.new
 have hv:Vw 6 InsR .no (H.alloc (.row 47 cells0 .exact 0 0)) (.slice (some ⟨H.next,0,none⟩) 6 6) code0:=⟨H.next,cells0,rfl,(x1.rd (n:=36) rfl).a,fun i hi=>by
  match i,hi with
  | 0,_=>exact⟨.slice none 0 0,rfl,.nil⟩
  | 1,_=>exact⟨.slice none 0 0,rfl,.nil⟩
  | 2,_=>exact⟨.slice none 0 0,rfl,.nil⟩
  | 3,_=>exact⟨.slice none 0 0,rfl,.nil⟩
  | 4,_=>exact⟨.slice none 0 0,rfl,.nil⟩
  | 5,_=>exact⟨.slice none 0 0,rfl,.nil⟩⟩
 obtain⟨_,H2,hc2,cs2,rfl,hR2,f2⟩:=graph_c hO hv (by decide)
 obtain⟨vb,rfl,hb⟩:=hR2
 obtain⟨xa,xn,xc,rfl⟩:∃ a n c,vb=.slice a n c:=let ⟨_,h,_⟩:=hb;h.isSl
 repeat first|apply zSeq|apply zReg|refine wN ?_|refine wA ?_
 refine WL.op (op_build rfl aw0) ?_
 refine WL.op (op_build rfl aw2) ?_
 refine WL.op (op_build rfl aw0) ?_
 refine WL.op (op_build rfl aw0) ?_
 refine WL.op (op_build rfl aw4) ?_
 refine WL.op (op_build rfl aw0) ?_
 refine WL.op (op_buildSlice rfl E_s_api_Ins E_Ins (by rw[te_Ins_size];decide) awFill) ?_
 refine WL.call rfl rfl fp_law26_graph.is hc2 ?_
 refine zAlc E_Graph zero24 fun H3 f3 b3 n3=>?_
 refine zStB b3 rfl rfl E_Graph (by rw[te_Graph_size];rfl) rfl (by simp[Value.cells]) (by simp[Value.cells]) fun H4 f4 b4 n4=>?_
 have b4':Bx H4 H2.next 24 (graphC g0 (.slice xa xn xc)):=b4
 have f24:Fr H2 H4:=f3.young f4 (by simp) (by simp)
 have f04:Fr H H4:=(f1.trans f2).trans f24
 have hR4:GraphR .no H4 (graphC g0 (.slice xa xn xc)) g0:=⟨_,rfl,hb.fr BlockR.m f24⟩
 have hs0:∀ b∈g0.blocks,TinyB b:=fun b hb=>by
  simp only[g0,List.mem_singleton] at hb
  subst hb
  exact⟨by decide,by decide,by decide,by decide,by decide,by decide⟩
 obtain⟨_,H5,hc5,cs5,os,rfl,hR5,_,_,_,f5⟩:=mofW_c (H:=H4) hO (hgh.fr f04) (hg.fr f04) hR4 ⟨by decide,fun b hb=>(hs0 b hb).small⟩ (by decide)
 rw[awOut] at hR5
 have e5:errG g0=0:=by rw[errG,awOk];rfl
 rw[e5] at hc5
 have hR50:=hR5
 obtain⟨vx,rfl,hx⟩:=hR5
 obtain⟨ya,yn,yc,rfl⟩:∃ a n c,vx=.slice a n c:=let ⟨_,h,_⟩:=hx;h.isSl
 have b45:=b4'.fr f5
 repeat first|apply zSeq|apply zReg|refine wN ?_
 refine zLd rfl (b4'.lN E_Graph te_Graph_agg te_Graph_size) ?_
 refine WL.call rfl rfl fp_merge_Of.is hc5 ?_
 repeat first|refine zXtr rfl ?_
 refine zAlc E_Graph zero24 fun H6 f6 b6 n6=>?_
 refine zStB b6 rfl rfl E_Graph (by rw[te_Graph_size];rfl) rfl (by simp[Value.cells]) (by simp[Value.cells]) fun H7 f7 b7 n7=>?_
 have b7':Bx H7 H5.next 24 [.string gx.name,.bool gx.thread,.int .i64 gx.params,.int .i64 gx.regs,.slice ya yn yc]:=b7
 have f57:Fr H5 H7:=f6.young f7 (by simp) (by simp)
 have b47:=b45.fr f57
 have hR7:=GraphR.m.fr hR50 f57
 have hx7:=hx.fr BlockR.m f57
 have hlen1:=fun Hz=>hx7.len (V:=V) (H2:=Hz) E_s_api_Block
 obtain⟨bb,off,vc,ia,il,hcc⟩:=code_at hx7 (k:=0) (by decide)
 have hlen2:=fun Hz=>hcc.len (V:=V) (H2:=Hz) E_s_api_Ins
 obtain⟨b2,off2,va,ja,io,ir,iA,iB,iN,iV,iW,ht⟩:=ins_at hcc (k:=2) (by decide)
 have hsx:∀ b∈gx.blocks,TinyB b:=fun b hb=>by
  simp only[gx,List.mem_singleton] at hb
  subst hb
  exact⟨by decide,by decide,by decide,by decide,by decide,by decide⟩
 have f47:Fr H4 H7:=f5.trans f57
 obtain⟨_,H8,hc8,rfl,f8⟩:=count_c (H:=H7) hO (GraphR.m.fr hR4 f47) hR7 (by decide) hs0 (by decide) hsx
 have ia':aIndex V.E 22 (.slice ya yn yc) (.int .i64 0)=some (.pointer (some ⟨bb,off,none⟩)):=ia
 have ja':aIndex V.E 42 vc (.int .i64 2)=some (.pointer (some ⟨b2,off2,none⟩)):=ja
 have io':aLoad V.E H7 5 (.pointer (some ⟨b2,off2+0,none⟩))=some (.int .u8 6):=io
 clear b4' b45 b6 b7 b4
 repeat first|apply zSeq|apply zReg|refine wN ?_|refine wG ?_|refine wo ?_|refine wp ?_|refine wQ ?_|refine wD O_Ins_Op ?_|refine wD O_Block_Code ?_|refine wD O_Graph_Blocks ?_|refine wB E_s_api_Block ?_|refine wI ?_|refine wY ?_|refine wK (hlen1 _) ?_|refine wK (hlen2 _) ?_
 refine zLd rfl (b47.lN E_Graph te_Graph_agg te_Graph_size) ?_
 repeat first|refine wo ?_
 refine zLd rfl (b7'.lN E_Graph te_Graph_agg te_Graph_size) ?_
 repeat first|refine wo ?_
 refine WL.call rfl rfl fp_merge_Count.is hc8 ?_
 repeat first|refine wN ?_|refine wo ?_|refine wp ?_|refine wQ ?_
 exact WP.ret ⟨.inr rfl,_,rfl,rfl,(f04.trans f47).trans f8⟩
end
section
attribute [local irreducible] WL WP WH W
theorem tiny_out {g:Graph} (hnb:g.blocks.length≤60) (h:∀ b∈g.blocks,TinyB b):(outG g).blocks.length≤1000∧∀ b∈(outG g).blocks,TinyB b:=by
 unfold outG
 cases okG g
 ·exact⟨by simp[Mer.zero],fun b hb=>by simp[Mer.zero] at hb⟩
 ·exact⟨by simp only[cond_true,Mer.graph,List.length_map];omega,fun b hb=>tiny_mer h b hb⟩
theorem tiny_outA {f:For.Form} (h:∀ g∈f.funs,g.blocks.length≤60∧∀ b∈g.blocks,TinyB b):∀ x∈(outA f).funs,x.blocks.length≤1000∧∀ b∈x.blocks,TinyB b:=fun x hx=>by
 unfold outA at hx
 cases e:okA f
 ·rw[e] at hx;simp at hx
 ·rw[e] at hx
  simp only[cond_true,List.mem_map] at hx
  obtain⟨g,hg,rfl⟩:=hx
  exact⟨by simp only[Mer.graph,List.length_map];have:=(h g hg).1;omega,fun b hb=>tiny_mer (h g hg).2 b hb⟩
theorem outA_len (f:For.Form):(outA f).funs.length≤f.funs.length:=by
 unfold outA
 cases okA f<;>simp
attribute [local irreducible] V
variable {O:Orc}{H:AH}
set_option maxHeartbeats 32000000 in
theorem mergeTells_c (hO:NoO O) (hK:KnL O) (hA:∀ vs H,O F_law26_awake vs H=none) (hgh:GH H) (hgn:GN H) (hg:GM H) {A A2:Av}{g:Graph}{cs:List Value} (hR:GraphR A H cs g) (hop:∀ b∈g.blocks,∀ i∈b.code,0≤i.op∧i.op<256)
 {f:For.Form}{vm vl vf:Value} (hf:FmR A2 H vm vl vf f) (hopf:∀ g∈f.funs,∀ b∈g.blocks,∀ i∈b.code,0≤i.op∧i.op<256) :
 ∃ u H',Lc V O F_law26_MergeTells [.agg cs.toArray,.agg #[vm,vl,vf]] H u H'∧(u=.bool true∧Fr H H'):=by
 have hR0:=hR
 obtain⟨vb,rfl,hb⟩:=hR
 refine Lc.law26_MergeTells (hO _ _ _ (by decide)) ?_
 unfold P_law26_MergeTells
 obtain⟨ab,nb,cb,rfl⟩:∃ a n c,vb=.slice a n c:=let ⟨_,h,_⟩:=hb;h.isSl
 obtain⟨am,nm,cm,rfl⟩:∃ a n c,vm=.slice a n c:=let ⟨_,h,_⟩:=hf.m;h.isSl
 obtain⟨al,nl,cl,rfl⟩:∃ a n c,vl=.slice a n c:=let ⟨_,h,_⟩:=hf.l;h.isSl
 obtain⟨af,nf,cf,rfl⟩:∃ a n c,vf=.slice a n c:=let ⟨_,h,_⟩:=hf.f;h.isSl
 have hlen1:=fun Hz=>hf.f.len (V:=V) (H2:=Hz) E_s_api_Graph
 have hlen2:=fun Hz=>hf.m.len (V:=V) (H2:=Hz) E_s_api_Mem
 have hlen3:=fun Hz=>hf.l.len (V:=V) (H2:=Hz) E_s_string
 apply zSeq
 apply zReg
 refine zBox rfl (fun _=>rfl) fun H1 f1 b1 n1=>?_
 have b1':Bx H1 H.next 24 (graphC g (.slice ab nb cb)):=b1
 refine zBox rfl (fun _=>rfl) fun H2 f2 b2 n2=>?_
 have b22:Bx H2 H1.next 29 [.slice am nm cm,.slice al nl cl,.slice af nf cf]:=b2
 have b12:=b1'.fr f2
 have f12:=f1.trans f2
 clear b1 b1' b2 f1 f2
 obtain⟨_,H3,hc3,t,rfl,f3,hsm⟩:=long_c (H:=H2) hO (GraphR.m.fr hR0 f12)
 have f03:=f12.trans f3
 have b13:=b12.fr f3
 have b23:=b22.fr f3
 cases t
 case true =>
  repeat first|apply zSeq|apply zReg|refine wN ?_|refine wA ?_
  refine zLd rfl (b12.lN E_Graph te_Graph_agg te_Graph_size) ?_
  refine WL.call rfl rfl fp_law26_long.is hc3 ?_
  repeat first|apply zSeq|apply zReg|refine wN ?_|refine wx ?_|refine wp ?_|refine wt ?_
  obtain⟨_,Hw,hw,rfl,fw⟩:=awake_c (H:=H3) hO hA (hgh.fr f03) (hg.fr f03)
  refine WL.call rfl rfl fp_law26_awake.is hw ?_
  repeat first|refine wN ?_
  exact WP.ret ⟨.inr rfl,_,rfl,rfl,f03.trans fw⟩
 obtain⟨hnb,hsm⟩:=hsm rfl
 cases c1:decide ((f.funs.length:Int)>8)
 case true =>
  repeat first|apply zSeq|apply zReg|refine wN ?_|refine wA ?_
  refine zLd rfl (b12.lN E_Graph te_Graph_agg te_Graph_size) ?_
  refine WL.call rfl rfl fp_law26_long.is hc3 ?_
  repeat first|apply zSeq|apply zReg|refine wN ?_|refine wo ?_|refine wx ?_|refine wF ?_|refine wp ?_|refine wq ?_|refine wP ?_|refine wV ?_|refine wt ?_|refine wD O_Form_Funs ?_|refine wB E_s_api_Graph ?_|refine wK (hlen1 _) ?_
  obtain⟨_,Hw,hw,rfl,fw⟩:=awake_c (H:=H3) hO hA (hgh.fr f03) (hg.fr f03)
  refine WL.call rfl rfl fp_law26_awake.is hw ?_
  repeat first|refine wN ?_
  exact WP.ret ⟨.inr rfl,_,rfl,rfl,f03.trans fw⟩
 cases c2:decide ((f.mems.length:Int)>100)
 case true =>
  repeat first|apply zSeq|apply zReg|refine wN ?_|refine wA ?_
  refine zLd rfl (b12.lN E_Graph te_Graph_agg te_Graph_size) ?_
  refine WL.call rfl rfl fp_law26_long.is hc3 ?_
  repeat first|apply zSeq|apply zReg|refine wN ?_|refine wo ?_|refine wO ?_|refine wF ?_|refine wq ?_|refine wP ?_|refine wR ?_|refine wV ?_|refine wt ?_|refine wD O_Form_Mems ?_|refine wD O_Form_Funs ?_|refine wB E_s_api_Mem ?_|refine wB E_s_api_Graph ?_|refine wK (hlen1 _) ?_|refine wK (hlen2 _) ?_
  obtain⟨_,Hw,hw,rfl,fw⟩:=awake_c (H:=H3) hO hA (hgh.fr f03) (hg.fr f03)
  refine WL.call rfl rfl fp_law26_awake.is hw ?_
  repeat first|refine wN ?_
  exact WP.ret ⟨.inr rfl,_,rfl,rfl,f03.trans fw⟩
 cases c3:decide ((f.locks.length:Int)>100)
 case true =>
  repeat first|apply zSeq|apply zReg|refine wN ?_|refine wA ?_
  refine zLd rfl (b12.lN E_Graph te_Graph_agg te_Graph_size) ?_
  refine WL.call rfl rfl fp_law26_long.is hc3 ?_
  repeat first|apply zSeq|apply zReg|refine wN ?_|refine wo ?_|refine wO ?_|refine wq ?_|refine wR ?_|refine wV ?_|refine wT ?_|refine wD O_Form_Mems ?_|refine wD O_Form_Locks ?_|refine wD O_Form_Funs ?_|refine wB E_s_string ?_|refine wB E_s_api_Mem ?_|refine wB E_s_api_Graph ?_|refine wK (hlen1 _) ?_|refine wK (hlen2 _) ?_|refine wK (hlen3 _) ?_
  obtain⟨_,Hw,hw,rfl,fw⟩:=awake_c (H:=H3) hO hA (hgh.fr f03) (hg.fr f03)
  refine WL.call rfl rfl fp_law26_awake.is hw ?_
  repeat first|refine wN ?_
  exact WP.ret ⟨.inr rfl,_,rfl,rfl,f03.trans fw⟩
 have hd1:f.funs.length≤8:=by simp at c1;omega
 have hd2:f.mems.length≤100:=by simp at c2;omega
 have hd3:f.locks.length≤100:=by simp at c3;omega
 repeat first|apply zSeq|apply zReg|refine wN ?_|refine wA ?_
 refine zLd rfl (b12.lN E_Graph te_Graph_agg te_Graph_size) ?_
 refine WL.call rfl rfl fp_law26_long.is hc3 ?_
 repeat first|apply zSkp|refine wN ?_|refine wo ?_|refine wO ?_|refine wq ?_|refine wR ?_|refine wV ?_|refine wE ?_|refine wD O_Form_Mems ?_|refine wD O_Form_Locks ?_|refine wD O_Form_Funs ?_|refine wB E_s_string ?_|refine wB E_s_api_Mem ?_|refine wB E_s_api_Graph ?_|refine wK (hlen1 _) ?_|refine wK (hlen2 _) ?_|refine wK (hlen3 _) ?_
 refine WP.seqS (σ:=Unit) (fun _=>[(2,.pointer (some ⟨H.next,0,none⟩)),(3,.pointer (some ⟨H1.next,0,none⟩))]) (fun _ Hc=>Fr H3 Hc∧∀ x∈f.funs,x.blocks.length≤60∧∀ b∈x.blocks,TinyB b) ?_ ?_
 ·repeat first|apply zSeq|apply zReg|apply zBlk|refine wN ?_|refine wA ?_
  refine WP.loopH (σ:=Nat) (fun k=>[(2,.pointer (some ⟨H.next,0,none⟩)),(3,.pointer (some ⟨H1.next,0,none⟩)),(5,.int .i64 k)]) (fun k Hc=>Fr H3 Hc∧k≤f.funs.length∧∀ j (h:j<f.funs.length),j<k→f.funs[j].blocks.length≤60∧∀ b∈f.funs[j].blocks,TinyB b) (fun k=>f.funs.length-k) 0 ⟨.refl _,Nat.zero_le _,fun j _ h=>absurd h (by omega)⟩ ⟨rfl,rfl,rfl,trivial⟩ ?_
  rintro k Hc ⟨fc,hk,hall⟩
  have b2c:=b23.fr fc
  rcases Nat.lt_or_ge k f.funs.length with h|h
  case inr =>
   have g1:decide ((k:Int)<f.funs.length)=false:=dF
   repeat first|apply zSeq|apply zReg|apply zExt|refine wN ?_|refine wG ?_|refine wL ?_|refine wE ?_|refine wD O_Form_Funs ?_|refine wB E_s_api_Graph ?_|refine wK (hlen1 _) ?_
   exact⟨(),⟨fc,fun x hx=>by
    obtain⟨j,hj,rfl⟩:=List.mem_iff_getElem.1 hx
    exact hall j hj (by omega)⟩,rfl,rfl,trivial⟩
  have g1:decide ((k:Int)<f.funs.length)=true:=dT
  have f0c:=f03.trans fc
  obtain⟨bb,off,cs,ha1,hrd,hRg⟩:=(hf.f.fr GraphR.m f0c).at E_s_api_Graph E_Graph te_Graph_size (kd:=.i64) h
  have hl1:=hrd.loadN (V:=V) E_Graph te_Graph_agg te_Graph_size
  obtain⟨_,Hd,hcd,t,rfl,fd,hsk⟩:=long_c (H:=Hc) hO hRg
  cases t
  case true =>
   repeat first|apply zSeq|apply zReg|apply zBlk|apply zSkp|refine wN ?_|refine wG ?_|refine wL ?_|refine wT ?_|refine wD O_Form_Funs ?_|refine wB E_s_api_Graph ?_|refine wI ?_|refine wY ?_|refine wK (hlen1 _) ?_
   refine WL.call rfl rfl fp_law26_long.is hcd ?_
   repeat first|apply zSeq|apply zReg|refine wN ?_|refine wt ?_
   obtain⟨_,Hw,hw,rfl,fw⟩:=awake_c (H:=Hd) hO hA (hgh.fr (f0c.trans fd)) (hg.fr (f0c.trans fd))
   refine WL.call rfl rfl fp_law26_awake.is hw ?_
   repeat first|refine wN ?_
   exact WP.ret ⟨.inr rfl,_,rfl,rfl,(f0c.trans fd).trans fw⟩
  have hsk:=hsk rfl
  repeat first|apply zSeq|apply zReg|apply zBlk|apply zSkp|refine wN ?_|refine wG ?_|refine wL ?_|refine wT ?_|refine wD O_Form_Funs ?_|refine wB E_s_api_Graph ?_|refine wI ?_|refine wY ?_|refine wK (hlen1 _) ?_
  refine WL.call rfl rfl fp_law26_long.is hcd ?_
  repeat first|apply zReg|apply zSkp|refine wN ?_|refine wG ?_|refine wS ?_|refine wf ?_
  exact⟨k+1,⟨fc.trans fd,h,fun j hj hjk=>by
   rcases Nat.lt_or_ge j k with h1|h1
   ·exact hall j hj h1
   ·have:j=k:=by omega
    subst this;exact hsk⟩,by omega,rfl,rfl,rfl,trivial⟩
 rintro _ H4 ⟨f4,hfs⟩
 have f04:=f03.trans f4
 have b14:=b13.fr f4
 have b24:=b23.fr f4
 have hsG:SmallG g:=⟨by omega,fun b hb=>(hsm b hb).small⟩
 have hsA:SmallA f:=⟨⟨by omega,by omega,by omega,fun x hx=>(show SmallG x from ⟨by have:=(hfs x hx).1;omega,fun b hb=>((hfs x hx).2 b hb).small⟩).small,fun x hx b hb i hi=>by have:=((hfs x hx).2 b hb).cargs i hi;omega,hopf⟩,fun x hx=>⟨by have:=(hfs x hx).1;omega,fun b hb=>((hfs x hx).2 b hb).small⟩⟩
 clear b12 b22 b13 b23 hc3 f12 f3 f03 c1 c2 c3
 refine WP.seqS (σ:=Unit) (fun _=>[(3,.pointer (some ⟨H1.next,0,none⟩))]) (fun _ Hc=>Fr H4 Hc) ?_ ?_
 ·repeat first|apply zSeq|apply zReg|apply zBlk|refine wN ?_|refine wA ?_
  refine WP.loopH (σ:=Nat) (fun k=>[(2,.pointer (some ⟨H.next,0,none⟩)),(3,.pointer (some ⟨H1.next,0,none⟩)),(6,.int .i64 k)]) (fun k Hc=>Fr H4 Hc∧k≤2) (fun k=>2-k) 0 ⟨.refl _,by omega⟩ ⟨rfl,rfl,rfl,trivial⟩ ?_
  rintro k Hc ⟨fc,hk⟩
  rcases Nat.lt_or_ge k 2 with h|h
  case inr =>
   have g1:decide ((k:Int)<2)=false:=dF
   repeat first|apply zSeq|apply zReg|apply zExt|refine wN ?_|refine wG ?_|refine wL ?_|refine wE ?_
   exact⟨(),fc,rfl,trivial⟩
  have g1:decide ((k:Int)<2)=true:=dT
  have f0c:=f04.trans fc
  have b1c:=b14.fr fc
  obtain⟨_,Hd,hcd,cs1,os,rfl,hRa,hWa,hin,hnd,fcd⟩:=mofW_c (H:=Hc) hO (hgh.fr f0c) (hg.fr f0c) (GraphR.m.fr hR0 f0c) hsG hop
  have hRa0:=hRa
  obtain⟨va,rfl,hba⟩:=hRa
  obtain⟨aa,an,ac,rfl⟩:∃ a n c,va=.slice a n c:=let ⟨_,h,_⟩:=hba;h.isSl
  have b1d:=b1c.fr fcd
  repeat first|apply zSeq|apply zReg|apply zBlk|apply zSkp|refine wN ?_|refine wG ?_|refine wL ?_|refine wT ?_
  refine zLd rfl (b1c.lN E_Graph te_Graph_agg te_Graph_size) ?_
  refine WL.call rfl rfl fp_merge_Of.is hcd ?_
  repeat first|refine zXtr rfl ?_
  refine zAlc E_Graph zero24 fun He fe be ne=>?_
  refine zStB be rfl rfl E_Graph (by rw[te_Graph_size];rfl) rfl (by simp[Value.cells]) (by simp[Value.cells]) fun Hf ff bf nf=>?_
  have bf':Bx Hf Hd.next 24 (graphC (outG g) (.slice aa an ac)):=bf
  have fdf:Fr Hd Hf:=fe.young ff (by simp) (by simp)
  clear be bf fe ff
  have b1f:=b1d.fr fdf
  have fcf:=fcd.trans fdf
  have f0f:=f0c.trans fcf
  obtain⟨_,Hg,hcg,cs2,rfl,hRb,ffg⟩:=rof_c (H:=Hf) hO (GraphR.m.fr hR0 f0f) hsG hop
  have hRb0:=hRb
  obtain⟨vb2,rfl,hbb⟩:=hRb
  obtain⟨ba,bn,bc,rfl⟩:∃ a n c,vb2=.slice a n c:=let ⟨_,h,_⟩:=hbb;h.isSl
  have b1g:=b1f.fr ffg
  have bag:=bf'.fr ffg
  repeat first|apply zSeq|apply zReg|refine wN ?_
  refine zLd rfl (b1f.lN E_Graph te_Graph_agg te_Graph_size) ?_
  refine WL.call rfl rfl fp_ref26_Of.is hcg ?_
  repeat first|refine zXtr rfl ?_
  refine zAlc E_Graph zero24 fun Hh fh bh nh=>?_
  refine zStB bh rfl rfl E_Graph (by rw[te_Graph_size];rfl) rfl (by simp[Value.cells]) (by simp[Value.cells]) fun Hi fi bi ni=>?_
  have bi':Bx Hi Hg.next 24 (graphC (outG g) (.slice ba bn bc)):=bi
  have fgi:Fr Hg Hi:=fh.young fi (by simp) (by simp)
  clear bh bi fh fi
  have b1i:=b1g.fr fgi
  have bai:=bag.fr fgi
  have fdi:Fr Hd Hi:=(fdf.trans ffg).trans fgi
  have fci:=fcd.trans fdi
  obtain⟨ht1,ht2⟩:=tiny_out hnb hsm
  obtain⟨_,Hj,hcj,rfl,fij⟩:=same_c (H:=Hi) hO (GraphR.m.fr hRa0 fdi) (GraphR.m.fr hRb0 fgi) ht1 ht2
  have fdj:=fdi.trans fij
  obtain⟨_,Hk,hck,rfl,fjk⟩:=count_c (H:=Hj) hO (GraphR.m.fr hR0 ((f0c.trans fci).trans fij)) (GraphR.m.fr hRa0 fdj) (by omega) hsm ht1 ht2
  obtain⟨_,Hl,hcl,rfl,fkl⟩:=rcount_c (H:=Hk) hO (GraphR.m.fr hR0 (((f0c.trans fci).trans fij).trans fjk)) (GraphR.m.fr hRb0 ((fgi.trans fij).trans fjk)) (by omega) hsm ht1 ht2
  have e1:(errG g != errG g)=false:=by simp
  have e5:(((Mer.taken g.blocks:Int)-Mer.taken (outG g).blocks) != ((Mer.taken g.blocks:Int)-Mer.taken (outG g).blocks))=false:=by simp
  have fjl:=fjk.trans fkl
  have fil:=fij.trans fjl
  have fdl:=fdi.trans fil
  have hWl:=hWa.imp fun v h=>And.intro h.1 (h.2.kp WBlkR.m (Ev.Kp.of_fr (os:=os) fdl) (fun p hp=>hp))
  have hncd:=fcd.1
  have hndl:=fdl.1
  obtain⟨_,Hm,hcm,km⟩:=spoil_c (H:=Hl) hO (GraphR.m.fr hRa0 fdl) hWl (hin.mono (Nat.le_refl _) hndl) hnd ht1 ht2
  have hoy:(∀ b∈os.bs,Hc.next≤b)∧∀ b∈os.gs,Hc.next≤b:=⟨fun b hm=>by
   obtain⟨p,hp,rfl⟩:=List.mem_map.1 hm
   exact (hin p hp).1,fun b hm=>by
   obtain⟨p,hp,rfl⟩:=List.mem_map.1 hm
   exact (hin p hp).2.1⟩
  have fcl:Fr Hc Hl:=fci.trans fil
  have fcm:Fr Hc Hm:=fcl.young km.frX hoy.1 hoy.2
  have b1j:=b1i.fr fij
  have baj:=bai.fr fij
  have bbj:=bi'.fr fij
  repeat first|apply zSeq|refine wN ?_
  refine WP.rega ?_
  refine yGet rfl ?_
  refine yGet rfl ?_
  refine yNeq rfl rfl ?_
  refine yOn rfl e1 ?_
  refine yLd rfl (bai.lN E_Graph te_Graph_agg te_Graph_size) ?_
  refine yOn rfl e1 ?_
  refine yLd rfl (bi'.lN E_Graph te_Graph_agg te_Graph_size) ?_
  refine yOn rfl e1 ?_
  refine WH.call rfl rfl fp_law26_same.is hcj ?_
  refine yOn rfl e1 ?_
  refine yNot rfl ?_
  refine yPF rfl e1 rfl ?_
  refine yOn rfl rfl ?_
  refine yLd rfl (b1j.lN E_Graph te_Graph_agg te_Graph_size) ?_
  refine yOn rfl rfl ?_
  refine yLd rfl (baj.lN E_Graph te_Graph_agg te_Graph_size) ?_
  refine yOn rfl rfl ?_
  refine yLd rfl (b1j.lN E_Graph te_Graph_agg te_Graph_size) ?_
  refine yOn rfl rfl ?_
  refine yLd rfl (bbj.lN E_Graph te_Graph_agg te_Graph_size) ?_
  refine yOn rfl rfl ?_
  refine WH.call rfl rfl fp_merge_Count.is hck ?_
  refine yOn rfl rfl ?_
  refine WH.call rfl rfl fp_ref26_Count.is hcl ?_
  refine yOn rfl rfl ?_
  refine yNeq rfl rfl ?_
  refine yPF rfl rfl rfl ?_
  refine WH.nil ⟨?_,_,rfl,?_⟩
  ·intro y hy
   simp only[List.mem_cons,List.not_mem_nil,or_false] at hy
   rcases hy with rfl|rfl
   ·simp only[List.nil_append,List.cons_append]
    exact .inr ⟨rfl,_,_,_,rfl,rfl,op_load rfl ((b1j.fr fjk).lN E_Graph te_Graph_agg te_Graph_size),by simp[sameV,sameL,same0,graphC]⟩
   ·simp only[List.nil_append,List.cons_append]
    exact .inr ⟨rfl,_,_,_,rfl,rfl,op_load rfl ((bbj.fr fjk).lN E_Graph te_Graph_agg te_Graph_size),by simp[sameV,sameL,same0,graphC]⟩
  have bal:=(baj.fr fjl)
  clear b1d b1f b1g b1i b1j bf' bag bai baj bbj bi'
  repeat first|apply zReg|apply zSkp|refine wE ?_
  refine zLd rfl (bal.lN E_Graph te_Graph_agg te_Graph_size) ?_
  refine WL.call rfl rfl fp_law26_spoil.is hcm ?_
  repeat first|apply zReg|refine wN ?_|refine wG ?_|refine wS ?_
  exact⟨k+1,⟨fc.trans fcm,h⟩,by omega,rfl,rfl,rfl,trivial⟩
 rintro _ Hc fc
 have f0c:=f04.trans fc
 have b2c:=b24.fr fc
 obtain⟨_,Hd,hcd,am',al',af',rfl,hFa,fcd⟩:=mall_c (H:=Hc) hO hK (hgh.fr f0c) (hgn.fr f0c) (hg.fr f0c) (hf.fr f0c) hsA
 obtain⟨d1,d2,d3,rfl⟩:∃ a n c,am'=.slice a n c:=let ⟨_,h,_⟩:=hFa.m;h.isSl
 obtain⟨d4,d5,d6,rfl⟩:∃ a n c,al'=.slice a n c:=let ⟨_,h,_⟩:=hFa.l;h.isSl
 obtain⟨d7,d8,d9,rfl⟩:∃ a n c,af'=.slice a n c:=let ⟨_,h,_⟩:=hFa.f;h.isSl
 have b2d:=b2c.fr fcd
 repeat first|apply zSeq|apply zReg
 refine zLd rfl (b2c.lN E_Form te_Form_agg te_Form_size) ?_
 refine WL.call rfl rfl fp_merge_All.is hcd ?_
 repeat first|refine zXtr rfl ?_
 refine zAlc E_Form mgFm0 fun He fe be ne=>?_
 refine zStB be rfl rfl E_Form (by rw[te_Form_size];rfl) rfl (by simp[Value.cells]) (by simp[Value.cells]) fun Hf ff bf nf=>?_
 have bf':Bx Hf Hd.next 29 [.slice d1 d2 d3,.slice d4 d5 d6,.slice d7 d8 d9]:=bf
 have fdf:Fr Hd Hf:=fe.young ff (by simp) (by simp)
 clear be bf fe ff
 have b2f:=b2d.fr fdf
 have fcf:=fcd.trans fdf
 have f0f:=f0c.trans fcf
 obtain⟨_,Hg,hcg,bm',bl',bf2,rfl,hFb,ffg⟩:=rall_c (H:=Hf) hO (hf.fr f0f) hsA
 obtain⟨e1,e2,e3,rfl⟩:∃ a n c,bm'=.slice a n c:=let ⟨_,h,_⟩:=hFb.m;h.isSl
 obtain⟨e4,e5,e6,rfl⟩:∃ a n c,bl'=.slice a n c:=let ⟨_,h,_⟩:=hFb.l;h.isSl
 obtain⟨e7,e8,e9,rfl⟩:∃ a n c,bf2=.slice a n c:=let ⟨_,h,_⟩:=hFb.f;h.isSl
 have bag:=bf'.fr ffg
 repeat first|apply zSeq|apply zReg|refine wN ?_
 refine zLd rfl (b2f.lN E_Form te_Form_agg te_Form_size) ?_
 refine WL.call rfl rfl fp_ref26_All.is hcg ?_
 repeat first|refine zXtr rfl ?_
 refine zAlc E_Form mgFm0 fun Hh fh bh nh=>?_
 refine zStB bh rfl rfl E_Form (by rw[te_Form_size];rfl) rfl (by simp[Value.cells]) (by simp[Value.cells]) fun Hi fi bi ni=>?_
 have bi':Bx Hi Hg.next 29 [.slice e1 e2 e3,.slice e4 e5 e6,.slice e7 e8 e9]:=bi
 have fgi:Fr Hg Hi:=fh.young fi (by simp) (by simp)
 clear bh bi fh fi
 have bai:=bag.fr fgi
 have f0i:Fr H Hi:=(f0f.trans ffg).trans fgi
 have hFai:=hFa.fr ((fdf.trans ffg).trans fgi)
 have hFbi:=hFb.fr fgi
 clear hlen1 hlen2 hlen3 b2c b2d b2f bf' bag hcd hcg
 have hlen1:=fun Hz=>hFai.f.len (V:=V) (H2:=Hz) E_s_api_Graph
 have hlen2:=fun Hz=>hFai.m.len (V:=V) (H2:=Hz) E_s_api_Mem
 have hlen3:=fun Hz=>hFai.l.len (V:=V) (H2:=Hz) E_s_string
 have hlen4:=fun Hz=>hFbi.f.len (V:=V) (H2:=Hz) E_s_api_Graph
 have hlen5:=fun Hz=>hFbi.m.len (V:=V) (H2:=Hz) E_s_api_Mem
 have hlen6:=fun Hz=>hFbi.l.len (V:=V) (H2:=Hz) E_s_string
 have q1:(errA f != errA f)=false:=by simp
 have q2:(((outA f).funs.length:Int) != (outA f).funs.length)=false:=by simp
 have q3:(((outA f).mems.length:Int) != (outA f).mems.length)=false:=by simp
 have q4:(((outA f).locks.length:Int) != (outA f).locks.length)=false:=by simp
 have hta:=tiny_outA hfs
 have hla:=outA_len f
 generalize errA f=er at *
 generalize outA f=F at *
 repeat first|apply zSeq|apply zReg|apply zBlk|apply zSkp|refine wN ?_|refine wG ?_|refine wO ?_|refine wA ?_|refine wR ?_|refine wU ?_|refine wE ?_|refine wD O_Form_Mems ?_|refine wD O_Form_Locks ?_|refine wD O_Form_Funs ?_|refine wB E_s_string ?_|refine wB E_s_api_Mem ?_|refine wB E_s_api_Graph ?_|refine wK (hlen1 _) ?_|refine wK (hlen2 _) ?_|refine wK (hlen3 _) ?_|refine wK (hlen4 _) ?_|refine wK (hlen5 _) ?_|refine wK (hlen6 _) ?_
 refine WP.loopH (σ:=Nat) (fun k=>[(11,.pointer (some ⟨Hd.next,0,none⟩)),(13,.pointer (some ⟨Hg.next,0,none⟩)),(15,.int .i64 k)]) (fun k Hz=>Fr Hi Hz∧k≤F.funs.length) (fun k=>F.funs.length-k) 0 ⟨.refl _,Nat.zero_le _⟩ ⟨rfl,rfl,rfl,trivial⟩ ?_
 rintro k Hz ⟨fz,hk⟩
 have baz:=bai.fr fz
 have bbz:=bi'.fr fz
 clear bai bi'
 rcases Nat.lt_or_ge k F.funs.length with h|h
 case inr =>
  have g1:decide ((k:Int)<F.funs.length)=false:=dF
  repeat first|apply zSeq|apply zReg|apply zExt|refine wN ?_|refine wG ?_|refine wL ?_|refine wE ?_|refine wD O_Form_Funs ?_|refine wB E_s_api_Graph ?_|refine wK (hlen1 _) ?_
  obtain⟨_,Hw,hw,rfl,fw⟩:=awake_c (H:=Hz) hO hA (hgh.fr (f0i.trans fz)) (hg.fr (f0i.trans fz))
  refine WL.call rfl rfl fp_law26_awake.is hw ?_
  repeat first|refine wN ?_
  exact WP.ret ⟨.inr rfl,_,rfl,rfl,(f0i.trans fz).trans fw⟩
 have g1:decide ((k:Int)<F.funs.length)=true:=dT
 obtain⟨p1,o1,c1,ia1,rd1,R1⟩:=(hFai.f.fr GraphR.m fz).at E_s_api_Graph E_Graph te_Graph_size (kd:=.i64) h
 obtain⟨p2,o2,c2,ia2,rd2,R2⟩:=(hFbi.f.fr GraphR.m fz).at E_s_api_Graph E_Graph te_Graph_size (kd:=.i64) h
 have l1:=rd1.loadN (V:=V) E_Graph te_Graph_agg te_Graph_size
 have l2:=rd2.loadN (V:=V) E_Graph te_Graph_agg te_Graph_size
 obtain⟨ht1,ht2⟩:=hta F.funs[k] (List.getElem_mem _)
 obtain⟨_,Hy,hcy,rfl,fy⟩:=same_c (H:=Hz) hO R1 R2 ht1 ht2
 repeat first|apply zSeq|apply zReg|apply zBlk|apply zSkp|refine wN ?_|refine wG ?_|refine wL ?_|refine wT ?_|refine wD O_Form_Funs ?_|refine wB E_s_api_Graph ?_|refine wI ?_|refine wY ?_|refine wK (hlen1 _) ?_
 refine WL.call rfl rfl fp_law26_same.is hcy ?_
 repeat first|apply zReg|apply zSkp|refine wN ?_|refine wG ?_|refine wS ?_|refine wZ ?_|refine wf ?_
 exact⟨k+1,⟨fz.trans fy,h⟩,by omega,rfl,rfl,rfl,trivial⟩
end
section
open Go.Proofs.YtjiibfgopanbgaaGreatDoor
noncomputable def fsW (t:Nat):Array Field:=match Tryz.prog.underlying t with
 | some (.struct fs)=>fs
 | _=>#[]
theorem lnWF:(fsW 29).toList.length=3:=by kernel_rfl
theorem usWF:Tryz.prog.underlying 29=some (.struct (fsW 29)):=by kernel_rfl
noncomputable def fWF (i:Nat) (h:i<3):Field:=(fsW 29).toList[i]'(by rw[lnWF];exact h)
theorem lnWM:(fsW 60).toList.length=3:=by kernel_rfl
theorem usWM:Tryz.prog.underlying 60=some (.struct (fsW 60)):=by kernel_rfl
noncomputable def fWM (i:Nat) (h:i<3):Field:=(fsW 60).toList[i]'(by rw[lnWM];exact h)
theorem lnWG:(fsW 24).toList.length=5:=by kernel_rfl
theorem usWG:Tryz.prog.underlying 24=some (.struct (fsW 24)):=by kernel_rfl
noncomputable def fWG (i:Nat) (h:i<5):Field:=(fsW 24).toList[i]'(by rw[lnWG];exact h)
theorem lnWB:(fsW 45).toList.length=4:=by kernel_rfl
theorem usWB:Tryz.prog.underlying 45=some (.struct (fsW 45)):=by kernel_rfl
noncomputable def fWB (i:Nat) (h:i<4):Field:=(fsW 45).toList[i]'(by rw[lnWB];exact h)
theorem lnWI:(fsW 47).toList.length=6:=by kernel_rfl
theorem usWI:Tryz.prog.underlying 47=some (.struct (fsW 47)):=by kernel_rfl
noncomputable def fWI (i:Nat) (h:i<6):Field:=(fsW 47).toList[i]'(by rw[lnWI];exact h)
theorem lnWP:(fsW 49).toList.length=2:=by kernel_rfl
theorem usWP:Tryz.prog.underlying 49=some (.struct (fsW 49)):=by kernel_rfl
noncomputable def fWP (i:Nat) (h:i<2):Field:=(fsW 49).toList[i]'(by rw[lnWP];exact h)
attribute [local irreducible] Wt.Ent Wt.EntF Mono
theorem oInt {t:TypeId}{k:IntKind} (h:Tryz.prog.underlying t=some (.int k)):Wt.Ent Tryz.prog (RInt k) t:=.of (Go.Ev.Ent.int h)
theorem oBool {t:TypeId} (h:Tryz.prog.underlying t=some .bool):Wt.Ent Tryz.prog RBool t:=.of (Go.Ev.Ent.bool h)
theorem oStr {t:TypeId} (h:Tryz.prog.underlying t=some .string):Wt.Ent Tryz.prog RStr t:=.of (Go.Ev.Ent.str h)
theorem oInts {t:TypeId} (h:Tryz.prog.underlying t=some (.slice 3)):Wt.Ent Tryz.prog RIntsW t:=.rs h (by kernel_rfl) (by decide) (by decide +kernel) (oInt (by kernel_rfl)) (@RInt.mono _)
theorem mwInts:Mono RIntsW:=@RS.mono _ _ _ (@RInt.mono _)
theorem mwI:Mono RInsW:=@RCons.mono _ _ _ _ _ (@RInt.mono _) (@RCons.mono _ _ _ _ _ (@RInt.mono _) (@RCons.mono _ _ _ _ _ (@RInt.mono _) (@RCons.mono _ _ _ _ _ (@RInt.mono _) (@RCons.mono _ _ _ _ _ (@RInt.mono _) (@RCons.mono _ _ _ _ _ @mwInts @REnd.mono)))))
theorem mwP:Mono RPhiW:=@RCons.mono _ _ _ _ _ (@RInt.mono _) (@RCons.mono _ _ _ _ _ @mwInts @REnd.mono)
theorem mwPhis:Mono (RS 2 RPhiW):=@RS.mono _ _ _ @mwP
theorem mwCode:Mono (RS 6 RInsW):=@RS.mono _ _ _ @mwI
theorem mwB:Mono RBlockW:=@RCons.mono _ _ _ _ _ @mwPhis (@RCons.mono _ _ _ _ _ @mwCode (@RCons.mono _ _ _ _ _ @mwInts (@RCons.mono _ _ _ _ _ @mwInts @REnd.mono)))
theorem mwBlocks:Mono (RS 4 RBlockW):=@RS.mono _ _ _ @mwB
theorem mwG:Mono RGraphW:=@RCons.mono _ _ _ _ _ @RStr.mono (@RCons.mono _ _ _ _ _ @RBool.mono (@RCons.mono _ _ _ _ _ (@RInt.mono _) (@RCons.mono _ _ _ _ _ (@RInt.mono _) (@RCons.mono _ _ _ _ _ @mwBlocks @REnd.mono))))
theorem mwM:Mono RMem:=@RCons.mono _ _ _ _ _ @RStr.mono (@RCons.mono _ _ _ _ _ (@RInt.mono _) (@RCons.mono _ _ _ _ _ (@RInt.mono _) @REnd.mono))
theorem mwMems:Mono (RS 3 RMem):=@RS.mono _ _ _ @mwM
theorem mwLocks:Mono (RS 1 RStr):=@RS.mono _ _ _ @RStr.mono
theorem mwFuns:Mono (RS 5 RGraphW):=@RS.mono _ _ _ @mwG
theorem mwF:Mono RFormW:=@RCons.mono _ _ _ _ _ @mwMems (@RCons.mono _ _ _ _ _ @mwLocks (@RCons.mono _ _ _ _ _ @mwFuns @REnd.mono))
theorem ewI:Wt.Ent Tryz.prog RInsW 47:=Wt.Ent.struct (l:=[fWI 0 (by decide),fWI 1 (by decide),fWI 2 (by decide),fWI 3 (by decide),fWI 4 (by decide),fWI 5 (by decide)]) (size:=6) usWI (by kernel_rfl) (by kernel_rfl)
 (.cons (n:=1) (by kernel_rfl) (by kernel_rfl) (by decide) (oInt (by kernel_rfl)) (@RInt.mono _) (.cons (n:=1) (by kernel_rfl) (by kernel_rfl) (by decide) (oInt (by kernel_rfl)) (@RInt.mono _) (.cons (n:=1) (by kernel_rfl) (by kernel_rfl) (by decide) (oInt (by kernel_rfl)) (@RInt.mono _) (.cons (n:=1) (by kernel_rfl) (by kernel_rfl) (by decide) (oInt (by kernel_rfl)) (@RInt.mono _) (.cons (n:=1) (by kernel_rfl) (by kernel_rfl) (by decide) (oInt (by kernel_rfl)) (@RInt.mono _) (.cons (n:=1) (by kernel_rfl) (by kernel_rfl) (by decide) (oInts (by kernel_rfl)) @mwInts (.nil (by decide))))))))
theorem ewP:Wt.Ent Tryz.prog RPhiW 49:=Wt.Ent.struct (l:=[fWP 0 (by decide),fWP 1 (by decide)]) (size:=2) usWP (by kernel_rfl) (by kernel_rfl)
 (.cons (n:=1) (by kernel_rfl) (by kernel_rfl) (by decide) (oInt (by kernel_rfl)) (@RInt.mono _) (.cons (n:=1) (by kernel_rfl) (by kernel_rfl) (by decide) (oInts (by kernel_rfl)) @mwInts (.nil (by decide))))
theorem ewB:Wt.Ent Tryz.prog RBlockW 45:=Wt.Ent.struct (l:=[fWB 0 (by decide),fWB 1 (by decide),fWB 2 (by decide),fWB 3 (by decide)]) (size:=4) usWB (by kernel_rfl) (by kernel_rfl)
 (.cons (n:=1) (by kernel_rfl) (by kernel_rfl) (by decide) (.rs (e:=49) (by kernel_rfl) (by kernel_rfl) (by decide) (by decide +kernel) ewP @mwP) @mwPhis (.cons (n:=1) (by kernel_rfl) (by kernel_rfl) (by decide) (.rs (e:=47) (by kernel_rfl) (by kernel_rfl) (by decide) (by decide +kernel) ewI @mwI) @mwCode (.cons (n:=1) (by kernel_rfl) (by kernel_rfl) (by decide) (oInts (by kernel_rfl)) @mwInts (.cons (n:=1) (by kernel_rfl) (by kernel_rfl) (by decide) (oInts (by kernel_rfl)) @mwInts (.nil (by decide))))))
theorem ewG:Wt.Ent Tryz.prog RGraphW 24:=Wt.Ent.struct (l:=[fWG 0 (by decide),fWG 1 (by decide),fWG 2 (by decide),fWG 3 (by decide),fWG 4 (by decide)]) (size:=5) usWG (by kernel_rfl) (by kernel_rfl)
 (.cons (n:=1) (by kernel_rfl) (by kernel_rfl) (by decide) (oStr (by kernel_rfl)) @RStr.mono (.cons (n:=1) (by kernel_rfl) (by kernel_rfl) (by decide) (oBool (by kernel_rfl)) @RBool.mono (.cons (n:=1) (by kernel_rfl) (by kernel_rfl) (by decide) (oInt (by kernel_rfl)) (@RInt.mono _) (.cons (n:=1) (by kernel_rfl) (by kernel_rfl) (by decide) (oInt (by kernel_rfl)) (@RInt.mono _) (.cons (n:=1) (by kernel_rfl) (by kernel_rfl) (by decide) (.rs (e:=45) (by kernel_rfl) (by kernel_rfl) (by decide) (by decide +kernel) ewB @mwB) @mwBlocks (.nil (by decide)))))))
theorem ewM:Wt.Ent Tryz.prog RMem 60:=Wt.Ent.struct (l:=[fWM 0 (by decide),fWM 1 (by decide),fWM 2 (by decide)]) (size:=3) usWM (by kernel_rfl) (by kernel_rfl)
 (.cons (n:=1) (by kernel_rfl) (by kernel_rfl) (by decide) (oStr (by kernel_rfl)) @RStr.mono (.cons (n:=1) (by kernel_rfl) (by kernel_rfl) (by decide) (oInt (by kernel_rfl)) (@RInt.mono _) (.cons (n:=1) (by kernel_rfl) (by kernel_rfl) (by decide) (oInt (by kernel_rfl)) (@RInt.mono _) (.nil (by decide)))))
theorem ewF:Wt.Ent Tryz.prog RFormW 29:=Wt.Ent.struct (l:=[fWF 0 (by decide),fWF 1 (by decide),fWF 2 (by decide)]) (size:=3) usWF (by kernel_rfl) (by kernel_rfl)
 (.cons (n:=1) (by kernel_rfl) (by kernel_rfl) (by decide) (.rs (e:=60) (by kernel_rfl) (by kernel_rfl) (by decide) (by decide +kernel) ewM @mwM) @mwMems (.cons (n:=1) (by kernel_rfl) (by kernel_rfl) (by decide) (.rs (e:=9) (by kernel_rfl) (by kernel_rfl) (by decide) (by decide +kernel) (oStr (by kernel_rfl)) @RStr.mono) @mwLocks (.cons (n:=1) (by kernel_rfl) (by kernel_rfl) (by decide) (.rs (e:=24) (by kernel_rfl) (by kernel_rfl) (by decide) (by decide +kernel) ewG @mwG) @mwFuns (.nil (by decide)))))
end
end Go.Proofs.YtjiibfgopanbgaaGreatDoor.U
namespace Go.Proofs
open Go.Shelf
def Tryz.laysSort_ren:Go.Shelf.Ren:=⟨fun|190=>77|125=>97|258=>96|128=>111|129=>112|302=>102|303=>103|304=>104|305=>105|306=>106|307=>107|308=>108|309=>109|310=>110|333=>122|329=>123|330=>124|334=>125|335=>126|336=>127|344=>132|n=>n,fun|31=>26|9=>9|3=>3|46=>128|0=>0|51=>144|53=>146|4=>4|183=>137|182=>136|131=>122|5=>5|218=>155|222=>159|228=>164|229=>52|n=>n,fun|n=>n⟩
theorem Tryz.laysSort:Go.Proofs.Lays.n190 Tryz.prog Tryz.laysSort_ren:={
 mixed:=by kernel_rfl
 f125:=Tryz.func97.trans (congrArg some (by kernel_rfl))
 f128:=Tryz.func111.trans (congrArg some (by kernel_rfl))
 f129:=Tryz.func112.trans (congrArg some (by kernel_rfl))
 f190:=Tryz.func77.trans (congrArg some (by kernel_rfl))
 f258:=Tryz.func96.trans (congrArg some (by kernel_rfl))
 f302:=Tryz.func102.trans (congrArg some (by kernel_rfl))
 f303:=Tryz.func103.trans (congrArg some (by kernel_rfl))
 f304:=Tryz.func104.trans (congrArg some (by kernel_rfl))
 f305:=Tryz.func105.trans (congrArg some (by kernel_rfl))
 f306:=Tryz.func106.trans (congrArg some (by kernel_rfl))
 f307:=Tryz.func107.trans (congrArg some (by kernel_rfl))
 f308:=Tryz.func108.trans (congrArg some (by kernel_rfl))
 f309:=Tryz.func109.trans (congrArg some (by kernel_rfl))
 f310:=Tryz.func110.trans (congrArg some (by kernel_rfl))
 f329:=Tryz.func123.trans (congrArg some (by kernel_rfl))
 f330:=Tryz.func124.trans (congrArg some (by kernel_rfl))
 f333:=Tryz.func122.trans (congrArg some (by kernel_rfl))
 f334:=Tryz.func125.trans (congrArg some (by kernel_rfl))
 f335:=Tryz.func126.trans (congrArg some (by kernel_rfl))
 f336:=Tryz.func127.trans (congrArg some (by kernel_rfl))
 f344:=Tryz.func132.trans (congrArg some (by kernel_rfl))
 t0:=Tryz.underlying0
 a0:=Tryz.isAgg0
 z0:=Tryz.sizeOf0
 v0:=Tryz.zeroValue0
 t3:=Tryz.underlying3
 a3:=Tryz.isAgg3
 z3:=Tryz.sizeOf3
 v3:=Tryz.zeroValue3
 t4:=Tryz.underlying4
 a4:=Tryz.isAgg4
 z4:=Tryz.sizeOf4
 v4:=Tryz.zeroValue4
 t5:=Tryz.underlying5
 a5:=Tryz.isAgg5
 z5:=Tryz.sizeOf5
 v5:=Tryz.zeroValue5
 t9:=Tryz.underlying9
 a9:=Tryz.isAgg9
 z9:=Tryz.sizeOf9
 v9:=Tryz.zeroValue9
 t31:=Tryz.underlying26
 a31:=Tryz.isAgg26
 z31:=Tryz.sizeOf26
 v31:=Tryz.zeroValue26
 t46:=Tryz.underlying128
 a46:=Tryz.isAgg128
 z46:=Tryz.sizeOf128
 v46:=Tryz.zeroValue128
 t51:=Tryz.underlying144
 a51:=Tryz.isAgg144
 z51:=Tryz.sizeOf144
 v51:=Tryz.zeroValue144
 t53:=Tryz.underlying146
 a53:=Tryz.isAgg146
 z53:=Tryz.sizeOf146
 v53:=Tryz.zeroValue146
 t131:=Tryz.underlying122
 a131:=Tryz.isAgg122
 z131:=Tryz.sizeOf122
 v131:=Tryz.zeroValue122
 t182:=Tryz.underlying136
 a182:=Tryz.isAgg136
 z182:=Tryz.sizeOf136
 v182:=Tryz.zeroValue136
 t183:=Tryz.underlying137
 a183:=Tryz.isAgg137
 z183:=Tryz.sizeOf137
 v183:=Tryz.zeroValue137
 t218:=Tryz.underlying155
 a218:=Tryz.isAgg155
 z218:=Tryz.sizeOf155
 v218:=Tryz.zeroValue155
 t222:=Tryz.underlying159
 a222:=Tryz.isAgg159
 z222:=Tryz.sizeOf159
 v222:=Tryz.zeroValue159
 t228:=Tryz.underlying164
 a228:=Tryz.isAgg164
 z228:=Tryz.sizeOf164
 v228:=Tryz.zeroValue164
 t229:=Tryz.underlying52
 a229:=Tryz.isAgg52
 z229:=Tryz.sizeOf52
 v229:=Tryz.zeroValue52 }
def Tryz.laysCompact_ren:Go.Shelf.Ren:=⟨fun|194=>78|n=>n,fun|31=>26|9=>9|3=>3|4=>4|0=>0|n=>n,fun|n=>n⟩
theorem Tryz.laysCompact:Go.Proofs.Lays.n194 Tryz.prog Tryz.laysCompact_ren:={
 mixed:=by kernel_rfl
 f194:=Tryz.func78.trans (congrArg some (by kernel_rfl))
 t0:=Tryz.underlying0
 a0:=Tryz.isAgg0
 z0:=Tryz.sizeOf0
 v0:=Tryz.zeroValue0
 t3:=Tryz.underlying3
 a3:=Tryz.isAgg3
 z3:=Tryz.sizeOf3
 v3:=Tryz.zeroValue3
 t4:=Tryz.underlying4
 a4:=Tryz.isAgg4
 z4:=Tryz.sizeOf4
 v4:=Tryz.zeroValue4
 t9:=Tryz.underlying9
 a9:=Tryz.isAgg9
 z9:=Tryz.sizeOf9
 v9:=Tryz.zeroValue9
 t31:=Tryz.underlying26
 a31:=Tryz.isAgg26
 z31:=Tryz.sizeOf26
 v31:=Tryz.zeroValue26 }
def Tryz.laysTrim_ren:Go.Shelf.Ren:=⟨fun|160=>100|232=>115|231=>114|227=>116|234=>118|233=>117|236=>120|235=>119|228=>128|271=>131|151=>130|197=>129|120=>135|152=>134|260=>133|137=>136|119=>137|224=>138|225=>139|217=>140|266=>141|n=>n,fun|9=>9|4=>4|3=>3|5=>5|117=>151|116=>150|0=>0|124=>154|21=>21|105=>161|46=>128|119=>167|139=>170|138=>169|n=>n,fun|3=>3|4=>4|n=>n⟩
theorem Tryz.laysTrim:Go.Proofs.Lays.n160 Tryz.prog Tryz.laysTrim_ren:={
 mixed:=by kernel_rfl
 f119:=Tryz.func137.trans (congrArg some (by kernel_rfl))
 f120:=Tryz.func135.trans (congrArg some (by kernel_rfl))
 f137:=Tryz.func136.trans (congrArg some (by kernel_rfl))
 f151:=Tryz.func130.trans (congrArg some (by kernel_rfl))
 f152:=Tryz.func134.trans (congrArg some (by kernel_rfl))
 f160:=Tryz.func100.trans (congrArg some (by kernel_rfl))
 f197:=Tryz.func129.trans (congrArg some (by kernel_rfl))
 f217:=Tryz.func140.trans (congrArg some (by kernel_rfl))
 f224:=Tryz.func138.trans (congrArg some (by kernel_rfl))
 f225:=Tryz.func139.trans (congrArg some (by kernel_rfl))
 f227:=Tryz.func116.trans (congrArg some (by kernel_rfl))
 f228:=Tryz.func128.trans (congrArg some (by kernel_rfl))
 f231:=Tryz.func114.trans (congrArg some (by kernel_rfl))
 f232:=Tryz.func115.trans (congrArg some (by kernel_rfl))
 f233:=Tryz.func117.trans (congrArg some (by kernel_rfl))
 f234:=Tryz.func118.trans (congrArg some (by kernel_rfl))
 f235:=Tryz.func119.trans (congrArg some (by kernel_rfl))
 f236:=Tryz.func120.trans (congrArg some (by kernel_rfl))
 f260:=Tryz.func133.trans (congrArg some (by kernel_rfl))
 f266:=Tryz.func141.trans (congrArg some (by kernel_rfl))
 f271:=Tryz.func131.trans (congrArg some (by kernel_rfl))
 t0:=Tryz.underlying0
 a0:=Tryz.isAgg0
 z0:=Tryz.sizeOf0
 v0:=Tryz.zeroValue0
 t3:=Tryz.underlying3
 a3:=Tryz.isAgg3
 z3:=Tryz.sizeOf3
 v3:=Tryz.zeroValue3
 t4:=Tryz.underlying4
 a4:=Tryz.isAgg4
 z4:=Tryz.sizeOf4
 v4:=Tryz.zeroValue4
 t5:=Tryz.underlying5
 a5:=Tryz.isAgg5
 z5:=Tryz.sizeOf5
 v5:=Tryz.zeroValue5
 t9:=Tryz.underlying9
 a9:=Tryz.isAgg9
 z9:=Tryz.sizeOf9
 v9:=Tryz.zeroValue9
 t21:=Tryz.underlying21
 a21:=Tryz.isAgg21
 z21:=Tryz.sizeOf21
 v21:=Tryz.zeroValue21
 t46:=Tryz.underlying128
 a46:=Tryz.isAgg128
 z46:=Tryz.sizeOf128
 v46:=Tryz.zeroValue128
 t105:=Tryz.underlying161
 a105:=Tryz.isAgg161
 z105:=Tryz.sizeOf161
 v105:=Tryz.zeroValue161
 t116:=Tryz.underlying150
 a116:=Tryz.isAgg150
 z116:=Tryz.sizeOf150
 t117:=Tryz.underlying151
 a117:=Tryz.isAgg151
 z117:=Tryz.sizeOf151
 v117:=Tryz.zeroValue151
 t119:=Tryz.underlying167
 a119:=Tryz.isAgg167
 z119:=Tryz.sizeOf167
 t124:=Tryz.underlying154
 a124:=Tryz.isAgg154
 z124:=Tryz.sizeOf154
 v124:=Tryz.zeroValue154
 t138:=Tryz.underlying169
 a138:=Tryz.isAgg169
 z138:=Tryz.sizeOf169
 v138:=Tryz.zeroValue169
 t139:=Tryz.underlying170
 a139:=Tryz.isAgg170
 z139:=Tryz.sizeOf170
 v139:=Tryz.zeroValue170
 g3:=by kernel_rfl
 g4:=by kernel_rfl }
end Go.Proofs
namespace Go.Proofs.YtjiibfgopanbgaaGreatDoor.U
open Go Go.Ev
section
attribute [local irreducible] WL WP WH W
noncomputable def orcL:Orc:=orcRel 77 SortRel (orcRel 78 CompRel (orcRel 100 TrimRel orcNil))
theorem orcL_ok {n:Nat}:OrcOk (envOf Tryz.prog n) orcL:=by
 refine orcRel_ok (fun vs H r h=>?_) (orcRel_ok (fun vs H r h=>?_) (orcRel_ok (fun vs H r h=>?_) orcNil_ok))
 ·cases h with
  | nil=>exact sort_sound_nil (V:=envOf Tryz.prog n) Tryz.laysSort
  | made ho hsz hw=>exact sort_sound (V:=envOf Tryz.prog n) Tryz.laysSort ho hsz hw
 ·cases h with
  | nil=>exact compact_sound_nil (V:=envOf Tryz.prog n) Tryz.laysCompact
  | made ho hsz hw=>exact compact_sound (V:=envOf Tryz.prog n) Tryz.laysCompact ho hsz hw
 ·exact trim_sound (V:=envOf Tryz.prog n) Tryz.laysTrim (by unfold tab116;kernel_rfl) vs H r h
theorem orcL_kn:KnL orcL:=by
 refine⟨fun h=>orcRel_eq sortRel_uniq h,fun {vs H r} h=>?_,fun {vs H r} h=>?_⟩
 ·exact (orcRel_ne (by decide) vs H).trans (orcRel_eq compRel_uniq h)
 ·exact ((orcRel_ne (by decide) vs H).trans (orcRel_ne (by decide) vs H)).trans (orcRel_eq trimRel_uniq h)
theorem orcL_no:NoO orcL:=fun f vs H hf=>by
 unfold kn at hf
 simp only[List.mem_cons,not_or] at hf
 exact ((orcRel_ne (fun e=>hf.1 e) vs H).trans (orcRel_ne (fun e=>hf.2.1 e) vs H)).trans (orcRel_ne (fun e=>hf.2.2.1 e) vs H)
end
end Go.Proofs.YtjiibfgopanbgaaGreatDoor.U
namespace Go.Proofs.YtjiibfgopanbgaaGreatDoor.U.MergeTells
open Go Go.Ev Go.Proofs.YtjiibfgopanbgaaGreatDoor Go.Proofs.YtjiibfgopanbgaaGreatDoor.U
set_option maxRecDepth 100000
theorem named4:Tryz.prog.globalNamed "unicode/utf8.acceptRanges" = some 4:=by kernel_rfl
noncomputable def ty4:Nat:=match (Tryz.prog.globals[4]?).map (·.type) with
 | some t=>t
 | none=>0
theorem type4:(Tryz.prog.globals[4]?).map (·.type)=some ty4:=by kernel_rfl
noncomputable def cells4:List Value:=(flatT Tryz.prog 100 ty4 Rows.laid_unicode_utf8_acceptRanges).getD []
theorem flat4:flatT Tryz.prog 100 ty4 Rows.laid_unicode_utf8_acceptRanges=some cells4:=by kernel_rfl
theorem plain4:(cells4.all plain)=true:=by kernel_rfl
theorem named1:Tryz.prog.globalNamed "bobbin/tree.reserved" = some 1:=by kernel_rfl
noncomputable def ty1:Nat:=match (Tryz.prog.globals[1]?).map (·.type) with
 | some t=>t
 | none=>0
theorem type1:(Tryz.prog.globals[1]?).map (·.type)=some ty1:=by kernel_rfl
noncomputable def cells1:List Value:=(flatT Tryz.prog 100 ty1 Rows.laid_bobbin_tree_reserved).getD []
theorem flat1:flatT Tryz.prog 100 ty1 Rows.laid_bobbin_tree_reserved=some cells1:=by kernel_rfl
theorem plain1:(cells1.all plain)=true:=by kernel_rfl
theorem named2:Tryz.prog.globalNamed "bobbin/code.ops" = some 2:=by kernel_rfl
noncomputable def ty2:Nat:=match (Tryz.prog.globals[2]?).map (·.type) with
 | some t=>t
 | none=>0
theorem type2:(Tryz.prog.globals[2]?).map (·.type)=some ty2:=by kernel_rfl
noncomputable def cells2:List Value:=(flatT Tryz.prog 100 ty2 Rows.laid_bobbin_code_ops).getD []
theorem flat2:flatT Tryz.prog 100 ty2 Rows.laid_bobbin_code_ops=some cells2:=by kernel_rfl
theorem plain2:(cells2.all plain)=true:=by kernel_rfl
theorem named0:Tryz.prog.globalNamed "bobbin/merge.quiet" = some 0:=by kernel_rfl
noncomputable def ty0:Nat:=match (Tryz.prog.globals[0]?).map (·.type) with
 | some t=>t
 | none=>0
theorem type0:(Tryz.prog.globals[0]?).map (·.type)=some ty0:=by kernel_rfl
noncomputable def cells0:List Value:=(flatT Tryz.prog 100 ty0 Rows.laid_bobbin_merge_quiet).getD []
theorem flat0:flatT Tryz.prog 100 ty0 Rows.laid_bobbin_merge_quiet=some cells0:=by kernel_rfl
theorem plain0:(cells0.all plain)=true:=by kernel_rfl
theorem named3:Tryz.prog.globalNamed "unicode/utf8.first" = some 3:=by kernel_rfl
noncomputable def ty3:Nat:=match (Tryz.prog.globals[3]?).map (·.type) with
 | some t=>t
 | none=>0
theorem type3:(Tryz.prog.globals[3]?).map (·.type)=some ty3:=by kernel_rfl
noncomputable def cells3:List Value:=(flatT Tryz.prog 100 ty3 Rows.laid_unicode_utf8_first).getD []
theorem flat3:flatT Tryz.prog 100 ty3 Rows.laid_unicode_utf8_first=some cells3:=by kernel_rfl
theorem plain3:(cells3.all plain)=true:=by kernel_rfl
noncomputable def rows:List AObj:=[.row ty0 cells0 .ro 0 0,.row ty1 cells1 .ro 0 0,.row ty2 cells2 .ro 0 0,.row ty3 cells3 .ro 0 0,.row ty4 cells4 .ro 0 0]
theorem names:(Tryz.prog.funcs.toList.all fun fn=>!(fn.name == "runtime.NumGoroutine"))=true:=by kernel_rfl
theorem mixed:Tryz.prog.follows .mixedOrders=true:=by kernel_rfl
theorem laidOut:laidOutB Tryz.prog=true:=by kernel_rfl
abbrev S:=AAgg RGraphW (AAgg RFormW AEnd)
theorem entS:Wt.EntA Tryz.prog S [24,29]:=Wt.EntA.agg usWG ewG mwG (Wt.EntA.agg usWF ewF mwF Wt.EntA.nil)
theorem law (H:AH) (avs:List Value) b (hk:Kro (startH rows) H) (hs:S H avs b):∃ H',Lc (envOf Tryz.prog rows.length) orcL 3 avs H (.bool true) H':=by
 obtain⟨cs,vs,rfl,hG,cs2,vs2,rfl,hR,h0⟩:=hs
 have h0:vs2=[]:=h0
 subst h0
 obtain⟨vm,vl,vf,e,h1,h2,h3⟩:=hR.to
 obtain rfl:cs2=#[vm,vl,vf]:=Array.ext' e
 have hok:=RGraph.ok hG.un
 have e2:cs=cs.toList.toArray:=by simp
 rw[e2]
 obtain⟨q1,q2,q3,q4,q5⟩:=hR.bound
 obtain⟨_,H',hc,rfl,_⟩:=mergeTells_c (O:=orcL) (H:=H) orcL_no orcL_kn (fun vs H=>((orcRel_ne (by decide) vs H).trans (orcRel_ne (by decide) vs H)).trans ((orcRel_ne (by decide) vs H).trans rfl)) ⟨Nat.lt_of_lt_of_le (by decide) hk.1,hk.2 2 _ _ _ _ (by decide) (by rw[startH_obj];kernel_rfl)⟩ ⟨Nat.lt_of_lt_of_le (by decide) hk.1,hk.2 1 _ _ _ _ (by decide) (by rw[startH_obj];kernel_rfl)⟩ ⟨Nat.lt_of_lt_of_le (by decide) hk.1,hk.2 0 _ _ _ _ (by decide) (by rw[startH_obj];kernel_rfl)⟩ (RGraph.to hG.un) (fun b hb i hi=>(hok.ins b hb i hi).op) (f:=TForm.to b.2.1) (vm:=vm) (vl:=vl) (vf:=vf) ⟨h1,h2,h3⟩ (fun g hg x hx=>(q5 g hg x hx).op)
 exact⟨H',hc⟩
open Go.RowKit in
theorem rows_in {W:World} (h:laidMetH Tryz.prog Rows.mergeTellsRow.laid W):∀ g o,rows[g]?=some o→RowIn W g o:=by
 have hl:laidMet Tryz.prog Rows.mergeTellsRow.laid W:=h
 intro g o hg
 unfold rows at hg
 match g,hg with
 | 0,hg=>
  cases hg
  exact⟨fun v hv=>List.all_eq_true.1 plain0 v hv,laidMet_row hl (.tail _ (.tail _ (.tail _ (.head _)))) named0 type0 flat0⟩
 | 1,hg=>
  cases hg
  exact⟨fun v hv=>List.all_eq_true.1 plain1 v hv,laidMet_row hl (.tail _ (.head _)) named1 type1 flat1⟩
 | 2,hg=>
  cases hg
  exact⟨fun v hv=>List.all_eq_true.1 plain2 v hv,laidMet_row hl (.tail _ (.tail _ (.head _))) named2 type2 flat2⟩
 | 3,hg=>
  cases hg
  exact⟨fun v hv=>List.all_eq_true.1 plain3 v hv,laidMet_row hl (.tail _ (.tail _ (.tail _ (.tail _ (.head _))))) named3 type3 flat3⟩
 | 4,hg=>
  cases hg
  exact⟨fun v hv=>List.all_eq_true.1 plain4 v hv,laidMet_row hl (.head _) named4 type4 flat4⟩
 | n+5,hg=>simp at hg
theorem weightsEach_left {P:Program}{Hd:Type}{p:Nat→Bool}:∀ {ts:List TypeId}{ds gs:List (DataW Hd)},(DataW.weightsEach P ts (ds++gs)).all p=true→(DataW.weightsEach P ts ds).all p=true
 | [],ds,gs,_=>by cases ds<;>(unfold DataW.weightsEach;rfl)
 | _::_,[],_,_=>by unfold DataW.weightsEach;rfl
 | t::ts,d::ds,gs,h=>by
  rw[List.cons_append,DataW.weightsEach,List.all_append,Bool.and_eq_true] at h
  rw[DataW.weightsEach,List.all_append,Bool.and_eq_true]
  exact⟨h.1,weightsEach_left h.2⟩
open Go.RowKit Go.ChangeShapes in
theorem contract (H:Type) (enc:TypeId×Value→H) (W:World) (base:Nat) (args:Array Value) (ds gs:List (DataW H)) (before:List MemPlace)
  (hval:∀ (j:Nat) t v,Tryz.f3.params[j]?=some t→args[j]?=some v→Value.okWide Tryz.prog W .any base t v)
  (hW:DataW.Whole enc Tryz.prog Tryz.f3.params.toList Rows.mergeTellsSpec.vars false W args.toList ds gs before) (hw0:(DataW.weightsEach Tryz.prog [24,29] ds).all (·≤reachBytes)=true) (hL:laidMetH Tryz.prog Rows.mergeTellsRow.laid W) :
  Calls Tryz.prog 3 args W fun e W'=>∃ v,e=.returned v∧Rows.mergeTellsSpec.post enc Tryz.prog Tryz.f3 false true false false W args v W':=
 Wt.law_contract (S:=S) (ts:=[24,29]) (tb:=4) names mixed laidOut (rows_in hL) (by kernel_rfl) entS (by kernel_rfl) (by kernel_rfl) (by kernel_rfl) rfl
  (fun hg hd=>by
   subst hg
   match ds,hd with
   | [d0,d1],_=>rfl) hval hW hw0 orcL_ok law
open Go.ChangeShapes Go.WideShapes Go.ChangeAt Go.RowKit
theorem own:ownKnob Tryz.prog.godebug=none:=by kernel_rfl
noncomputable def laidWorld (os:Go.Os):World:={ World.holding Tryz.prog os ⟨#[],#[.agg #[.string .empty,.bool false,.int .i64 0,.int .i64 0,.slice none 0 0],.agg #[.slice none 0 0,.slice none 0 0,.slice none 0 0]],[]⟩ with heap:=(((((((World.holding Tryz.prog os ⟨#[],#[.agg #[.string .empty,.bool false,.int .i64 0,.int .i64 0,.slice none 0 0],.agg #[.slice none 0 0,.slice none 0 0,.slice none 0 0]],[]⟩).heap).modify 4 (fun|.cells _ t frozen=>.cells cells4.toArray t frozen|o=>o)).modify 1 (fun|.cells _ t frozen=>.cells cells1.toArray t frozen|o=>o)).modify 2 (fun|.cells _ t frozen=>.cells cells2.toArray t frozen|o=>o)).modify 0 (fun|.cells _ t frozen=>.cells cells0.toArray t frozen|o=>o)).modify 3 (fun|.cells _ t frozen=>.cells cells3.toArray t frozen|o=>o)) }
theorem laid_met (os:Go.Os):laidMet Tryz.prog Rows.mergeTellsRow.laid ((laidWorld os).forCall (fun _ _=>0) ⟨#[],#[.agg #[.string .empty,.bool false,.int .i64 0,.int .i64 0,.slice none 0 0],.agg #[.slice none 0 0,.slice none 0 0,.slice none 0 0]],[]⟩).memory:=
 laidMet_of_run' 8 (by kernel_rfl) (by kernel_rfl)
theorem reads (os:Go.Os) {H:Type} (enc:TypeId×Value→H):∃ places,DataW.whole enc Tryz.prog ((laidWorld os).forCall (fun _ _=>0) ⟨#[],#[.agg #[.string .empty,.bool false,.int .i64 0,.int .i64 0,.slice none 0 0],.agg #[.slice none 0 0,.slice none 0 0,.slice none 0 0]],[]⟩).memory Tryz.f3.params.toList Rows.mergeTellsSpec.vars false (#[.agg #[.string .empty,.bool false,.int .i64 0,.int .i64 0,.slice none 0 0],.agg #[.slice none 0 0,.slice none 0 0,.slice none 0 0]]:Array Value).toList 8=some ([.agg [.lit (.string []),.lit (.bool false),.lit (.int .i64 0),.lit (.int .i64 0),.nil],.agg [.nil,.nil,.nil]],[],places):=
 ⟨[],by kernel_rfl⟩
theorem lifted (os:Go.Os) (started:os.Started) (H:Type) (enc:TypeId×Value→H) (F:Stop.Interp) :
  ReturnsInHanded {} Tryz.checked os 3 .any ((OpenSpec.ofChange Rows.mergeTellsSpec).preRow enc Tryz.prog Tryz.f3 Rows.mergeTellsRow.domain false Rows.mergeTellsRow.laid) (((OpenSpec.ofChange Rows.mergeTellsSpec).at F).post enc Tryz.prog Tryz.f3 false true false false):=by
 obtain⟨places,hx⟩:=reads os enc
 refine returnsInHanded_of_row (C:=Tryz.checked) (s:=OpenSpec.ofChange Rows.mergeTellsSpec) own started (by kernel_rfl) Tryz.func3
  (witness_row_at (enc:=enc) (C:=Tryz.checked) false (laidWorld os) #[.agg #[.string .empty,.bool false,.int .i64 0,.int .i64 0,.slice none 0 0],.agg #[.slice none 0 0,.slice none 0 0,.slice none 0 0]] rfl (by kernel_rfl) (by kernel_rfl) (by kernel_rfl)
   (OpenSpec.preRow_of_cond 8 hx (by kernel_rfl) (fun k hk=>by cases hk) (by kernel_rfl) (laid_met os))) ?_
 intro W base args ds gs before hval hW _ _ hwt hL _ _
 refine contract H enc W base args ds gs before hval hW ?_ hL
 have e:Tryz.f3.params.toList++(OpenSpec.ofChange Rows.mergeTellsSpec).bare.plain.varTypes Tryz.prog=[24,29]:=by kernel_rfl
 have hwt':(DataW.weightsEach Tryz.prog (Tryz.f3.params.toList++(OpenSpec.ofChange Rows.mergeTellsSpec).bare.plain.varTypes Tryz.prog) (ds++gs)).all (·≤reachBytes)=true:=hwt
 rw[e] at hwt'
 exact weightsEach_left hwt'
theorem said:Rows.MergeTellsSaid:=
 OpenClaim.holds_of_cond 3 Tryz.f3 rfl rfl rfl rfl rfl rfl rfl ⟨rfl,rfl,rfl,rfl,rfl⟩ rfl rfl rfl rfl rfl (by kernel_rfl) Tryz.func3 (by kernel_rfl)
  (of_decide_eq_true (by kernel_rfl)) (by unfold Func.isWrapper;first|(rw[if_pos (by decide +kernel)];kernel_rfl)|(rw[if_neg (by decide +kernel)];exact⟨rfl,rfl⟩))
  (fun os started H enc _ F=>by rw[OpenClaim.pre_eq_preRow];exact lifted os started H enc F)
theorem wants:([24,29].all fun t=>!Tryz.pinned.checked.prog.wantsStandIn t)=true:=by kernel_rfl
theorem standIns (f:FuncId) (fn:Func) (hf:Tryz.pinned.checked.prog.funcNamed "bobbin/bobbinlaw26.MergeTells" = some f) (hfn:Tryz.pinned.checked.prog.funcs[f]?=some fn) :
  false=Tryz.pinned.checked.prog.looks []∧∀ (j:Nat) t,fn.params[j]?=some t→Tryz.pinned.checked.prog.wantsStandIn t=false:=by
 obtain rfl:f=3:=Option.some.inj ((show Tryz.prog.funcNamed "bobbin/bobbinlaw26.MergeTells" = some 3 by kernel_rfl).symm.trans hf) |>.symm
 obtain rfl:fn=Tryz.f3:=(Option.some.inj (Tryz.func3.symm.trans hfn)).symm
 refine⟨by kernel_rfl,fun j t ht=>?_⟩
 have hm:t∈Tryz.f3.params.toList:=by
  have:=Array.mem_of_getElem? ht
  simpa using this
 rw[show Tryz.f3.params.toList=[24,29] by kernel_rfl] at hm
 simpa using List.all_eq_true.1 wants t hm
theorem card:Rows.MergeTellsCardSaid:=
 Claim7.holds_tied_plain_at .later [] _ _ _ _ said (fun _ h=>by cases h) (by kernel_rfl) (fun _ h=>by cases h) mergeTells_row_tie rfl ⟨rfl,rfl⟩ (by kernel_rfl) rfl standIns (by kernel_rfl)
end Go.Proofs.YtjiibfgopanbgaaGreatDoor.U.MergeTells
