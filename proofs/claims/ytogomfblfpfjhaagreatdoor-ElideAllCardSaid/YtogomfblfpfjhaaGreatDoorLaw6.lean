/-
  The law of elide: ElideAll.
-/
import Derived.Test.YtogomfblfpfjhaaGreatDoorLaw5
import Derived.Test.YtogomfblfpfjhaaGreatDoorLaw1
import Derived.Test.YtogomfblfpfjhaaGreatDoorEv6
import Derived.Test.YtogomfblfpfjhaaGreatDoorRows
import Derived.ProofKit
import Derived.Ground.NamesProg
import Derived.Test.YtogomfblfpfjhaaGreatDoorProg
import Derived.Test.YtogomfblfpfjhaaGreatDoorLaw2
import Derived.Test.YtogomfblfpfjhaaGreatDoorCards
import Derived.Test.YtogomfblfpfjhaaGreatDoorTie
import Derived.WalkKit
import Derived.OpenShut
import Derived.Deep.DeepHandedRow
set_option linter.all false
namespace Go.Proofs.YtogomfblfpfjhaaGreatDoor.U
open Go Go.Ev
attribute [local irreducible] WL WP WH W
theorem SmallEl.form {f:For.Form} (h:SmallEl f) (locks:List Int):SmallEl (Eli.form locks f):=⟨h.el locks,fun g hg b hb=>by
 simp only [Eli.form,List.mem_map] at hg
 obtain ⟨g',hg',rfl⟩:=hg
 simp only [Eli.graph,List.mem_map] at hb
 obtain ⟨b',hb',rfl⟩:=hb
 have hs:=h.b g' hg' b' hb'
 exact ⟨Nat.le_trans (List.length_filter_le _ _) hs.code,hs.phis,hs.frm,hs.to,hs.pargs,fun i hi=>hs.cargs i (List.mem_filter.1 hi).1⟩⟩
theorem SmallEl.zero:SmallEl Eli.zeroF:=⟨⟨by simp [Eli.zeroF],by simp [Eli.zeroF],by simp [Eli.zeroF],fun _ h=>by simp [Eli.zeroF] at h,fun _ h=>by simp [Eli.zeroF] at h,fun _ h=>by simp [Eli.zeroF] at h⟩,fun _ h=>by simp [Eli.zeroF] at h⟩
theorem SmallEl.out {f:For.Form} (h:SmallEl f) (m:For.Form→Bool) (locks:List Int):SmallEl (Eli.out m f locks):=by
 unfold Eli.out
 split
 ·exact h.form locks
 ·exact .zero
theorem chunk_get {cells:List Value}{i sz j:Nat}{v:Value} (h:((cells.drop (i * sz)).take sz)[j]?=some v):cells[0+i * sz+j]?=some v:=by
 rw [List.getElem?_take] at h
 split at h
 ·rw [List.getElem?_drop] at h
  rw [Nat.zero_add];exact h
 ·cases h
attribute [local irreducible] V
variable {O:Orc}{H:AH}
set_option maxHeartbeats 16000000 in
theorem elideAll_c (hO:NoO O) (hK:KnL O) (hgh:GH H) (hgn:GN H) {A A2:Av}{f:For.Form}{vm vl vf:Value} (hf:FmR A H vm vl vf f) (hB:Eli.BulkF f) {locks:List Int}{vk:Value} (hvk:IntsR A2 H vk locks) (hLk:locks.length≤140737488351232) :
    ∃ u H',Lc V O F_law25_ElideAll [.agg #[vm,vl,vf],vk] H u H'∧(u=.bool true∧Fr H H'):=by
  refine Lc.law25_ElideAll (R:=fun u H'=>u=.bool true∧Fr H H') (hO _ _ _ (by decide)) (Nat.le_of_ble_eq_true rfl) (by kernel_rfl) ?_
  unfold P_law25_ElideAll
  obtain ⟨am,nm,cm,rfl⟩:∃ a n c,vm=.slice a n c:=let ⟨_,h,_⟩:=hf.m;h.isSl
  obtain ⟨al,nl,cl,rfl⟩:∃ a n c,vl=.slice a n c:=let ⟨_,h,_⟩:=hf.l;h.isSl
  obtain ⟨af,nf,cf,rfl⟩:∃ a n c,vf=.slice a n c:=let ⟨_,h,_⟩:=hf.f;h.isSl
  obtain ⟨ak,nk,ck,rfl⟩:=hvk.isSl
  have hlen1:=fun Hz=>hvk.len (V:=V) (H2:=Hz) E_s_int
  apply zSeq
  apply zReg
  refine zBox rfl (fun _=>rfl) fun H1 f1 b1 n1=>?_
  have b1':Bx H1 H.next 26 [.slice am nm cm,.slice al nl cl,.slice af nf cf]:=b1
  clear b1
  obtain ⟨_,H2,hc2,t,rfl,f2,hsm⟩:=large_c (H:=H1) hO (hf.fr f1) hB
  have f12:=f1.trans f2
  have b12:=b1'.fr f2
  cases t with
  | true =>
    (repeat first|apply zSeq|apply zReg|refine wN ?_|refine wA ?_)
    refine zLd rfl (b1'.ldN E_Form te_Form_agg (by rw [te_Form_size];rfl)) ?_
    refine WL.call rfl rfl is_law25_large hc2 ?_
    (repeat first|apply zSeq|apply zReg|refine wN ?_|refine zOff rfl rfl ?_|refine wA ?_|refine zPT rfl rfl rfl ?_|refine zT rfl rfl ?_)
    exact WP.ret ⟨.inr rfl,_,rfl,rfl,f12⟩
  | false =>
  have hse:=hsm rfl
  cases c1:decide ((locks.length:Int) > 50)
  case true =>
    (repeat first|apply zSeq|apply zReg|refine wN ?_|refine wA ?_)
    refine zLd rfl (b1'.ldN E_Form te_Form_agg (by rw [te_Form_size];rfl)) ?_
    refine WL.call rfl rfl is_law25_large hc2 ?_
    (repeat first|apply zSeq|apply zReg|refine wN ?_|refine zOn rfl rfl ?_|refine wM ?_|refine wA ?_|refine zPF rfl rfl rfl ?_|refine zGtr rfl rfl ?_|refine wT ?_|refine zLen rfl (hlen1 _) ?_)
    exact WP.ret ⟨.inr rfl,_,rfl,rfl,f12⟩
  have hlk:locks.length≤50:=by simp at c1;omega
  (repeat first|apply zSeq|apply zReg|refine wN ?_|refine wA ?_)
  refine zLd rfl (b1'.ldN E_Form te_Form_agg (by rw [te_Form_size];rfl)) ?_
  refine WL.call rfl rfl is_law25_large hc2 ?_
  obtain ⟨_,H3,hc3,wm,wl,wf,rfl,hw3,f3⟩:=rAll_c (H:=H2) hO (hf.fr f12) hse (hvk.fr f12) (by omega)
  obtain ⟨a1,a2,a3,rfl⟩:∃ a n c,wm=.slice a n c:=let ⟨_,h,_⟩:=hw3.m;h.isSl
  obtain ⟨a4,a5,a6,rfl⟩:∃ a n c,wl=.slice a n c:=let ⟨_,h,_⟩:=hw3.l;h.isSl
  obtain ⟨a7,a8,a9,rfl⟩:∃ a n c,wf=.slice a n c:=let ⟨_,h,_⟩:=hw3.f;h.isSl
  have f13:=f12.trans f3
  have b13:=b12.fr f3
  (repeat first|apply zSeq|apply zReg|apply zSkp|refine wN ?_|refine zOn rfl rfl ?_|refine wM ?_|refine zPF rfl rfl rfl ?_|refine zGtr rfl rfl ?_|refine wE ?_|refine zLen rfl (hlen1 _) ?_)
  refine zLd rfl (b12.ldN E_Form te_Form_agg (by rw [te_Form_size];rfl)) ?_
  (repeat first|refine wG ?_)
  refine WL.call rfl rfl is_ref25_All hc3 ?_
  (repeat first|refine zXtr rfl ?_)
  refine zAlc E_Form elFm0 fun H4 f4 b4 n4=>?_
  refine zStB b4 rfl rfl E_Form (by rw [te_Form_size];rfl) rfl (by simp [Value.cells]) (by simp [Value.cells]) fun H5 f5 b5 n5=>?_
  have b5':Bx H5 H3.next 26 [.slice a1 a2 a3,.slice a4 a5 a6,.slice a7 a8 a9]:=b5
  have f35:Fr H3 H5:=f4.young f5 (by simp) (by simp)
  have f05:=f13.trans f35
  have b15:=b13.fr f35
  have hw5:=hw3.fr f35
  clear b4 b5 f4 f5
  generalize herr:Eli.err (For.may mayG mi) f locks=er at *
  have hn5:H3.next < H5.next:=b5'.1
  have hn03:=f13.1
  (repeat first|apply zSeq|apply zReg|apply zBlk|refine wN ?_|refine wA ?_)
  refine WP.loopH (σ:=Nat) (fun t=>[(1,.slice ak nk ck),(2,.pointer (some ⟨H.next,0,none⟩)),(5,.pointer (some ⟨H3.next,0,none⟩)),(6,.int .i64 er),(7,.int .i64 t)]) (fun t Hc=>Fr H5 Hc∧t≤2) (fun t=>2 - t) 0 ⟨.refl _,by omega⟩ ⟨rfl,rfl,rfl,rfl,rfl,trivial⟩ ?_
  rintro t Hc ⟨fc,ht⟩
  have f0c:=f05.trans fc
  have b1c:=b15.fr fc
  have b5c:=b5'.fr fc
  rcases Nat.lt_or_ge t 2 with h|h
  case inr =>
    have g1:decide ((t:Int) < 2)=false:=decide_eq_false (by omega)
    (repeat first|apply zSeq|apply zReg|refine zExt ?_|refine wN ?_|refine wG ?_|refine wA ?_|refine wL ?_|refine wE ?_)
    exact WP.ret ⟨.inr rfl,_,rfl,rfl,f0c⟩
  have g1:decide ((t:Int) < 2)=true:=decide_eq_true (by omega)
  obtain ⟨_,Hd,hcd,gm,gl,gf,rfl,hg,⟨os,hW,hin,hnd⟩,fd⟩:=all_c (H:=Hc) hO hK (hgh.fr f0c) (hgn.fr f0c) (hf.fr f0c) hse (hvk.fr f0c) (by omega)
  rw [herr] at hcd
  obtain ⟨c1,c2,c3,rfl⟩:∃ a n c,gm=.slice a n c:=let ⟨_,h,_⟩:=hg.m;h.isSl
  obtain ⟨c4,c5,c6,rfl⟩:∃ a n c,gl=.slice a n c:=let ⟨_,h,_⟩:=hg.l;h.isSl
  obtain ⟨c7,c8,c9,rfl⟩:∃ a n c,gf=.slice a n c:=let ⟨_,h,_⟩:=hg.f;h.isSl
  have hncd:=fd.1
  have hout:∀ b,b < Hc.next∨Hd.next≤b→b∉os.bs:=fun b hb hm=>by
    obtain ⟨p,hp,rfl⟩:=List.mem_map.1 hm
    have:=hin p hp;omega
  have hoy:(∀ b∈os.bs,Hc.next≤b)∧∀ b∈os.gs,Hc.next≤b:=⟨fun b hm=>by
    obtain ⟨p,hp,rfl⟩:=List.mem_map.1 hm
    exact (hin p hp).1,fun b hm=>by
    obtain ⟨p,hp,rfl⟩:=List.mem_map.1 hm
    exact (hin p hp).2.1⟩
  have b5d:=b5c.fr fd
  have hse2:=hse.out (For.may mayG mi) locks
  generalize hout0:Eli.out (For.may mayG mi) f locks=F at *
  (repeat first|apply zSeq|apply zReg|apply zBlk|apply zSkp|refine wN ?_|refine wG ?_|refine wL ?_|refine wT ?_)
  refine zLd rfl (b1c.ldN E_Form te_Form_agg (by rw [te_Form_size];rfl)) ?_
  (repeat first|refine wG ?_)
  refine WL.call rfl rfl is_elide_All hcd ?_
  (repeat first|refine zXtr rfl ?_)
  refine zAlc E_Form elFm0 fun He fe be ne=>?_
  refine zStB be rfl rfl E_Form (by rw [te_Form_size];rfl) rfl (by simp [Value.cells]) (by simp [Value.cells]) fun Hf ff bf nf=>?_
  have bf':Bx Hf Hd.next 26 [.slice c1 c2 c3,.slice c4 c5 c6,.slice c7 c8 c9]:=bf
  have fdf:Fr Hd Hf:=fe.young ff (by simp) (by simp)
  clear be bf fe ff
  have b5f:=b5d.fr fdf
  obtain ⟨_,Hs,hcs,rfl,fs⟩:=sameForm_c (H:=Hf) hO (hg.fr fdf) (hw5.fr ((fc.trans fd).trans fdf)) hse2
  have bgs:=bf'.fr fs
  have fds:=fdf.trans fs
  have hWs:=hW.kp WGr.m (Ev.Kp.of_fr (os:=os) fds) (fun p hp=>hp)
  have e1:(er != er)=false:=by simp
  have hsn:=hse2.fm.funs
  have hnds:Hd.next < Hs.next:=bgs.1
  (repeat first|apply zSeq|apply zReg|refine wN ?_)
  refine zLd rfl (bf'.ldN E_Form te_Form_agg (by rw [te_Form_size];rfl)) ?_
  refine zLd rfl (b5f.ldN E_Form te_Form_agg (by rw [te_Form_size];rfl)) ?_
  refine WL.call rfl rfl is_ref11_Same hcs ?_
  have fcs:Fr Hc Hs:=fd.trans fds
  have hlen2:∀ Hz,aLen V.E Hz 24 (.slice c7 c8 c9)=some (.int .i64 F.funs.length):=fun Hz=>hWs.len (V:=V) E_s_api_Graph
  clear hcs hcd hW b5f b5d bf'
  (repeat first|apply zSeq|apply zReg|apply zBlk|apply zSkp|refine wN ?_|refine zOn rfl rfl ?_|refine wM ?_|refine wA ?_|refine zPF rfl rfl rfl ?_|refine zNeq rfl rfl ?_|refine zNot rfl ?_|refine wE ?_)
  refine WP.loopH (σ:=Nat) (fun i=>[(1,.slice ak nk ck),(2,.pointer (some ⟨H.next,0,none⟩)),(5,.pointer (some ⟨H3.next,0,none⟩)),(6,.int .i64 er),(7,.int .i64 t),(8,.pointer (some ⟨Hd.next,0,none⟩)),(10,.int .i64 i)]) (fun i Hi=>Ev.Kp os Hs Hi∧i≤F.funs.length) (fun i=>F.funs.length - i) 0 ⟨.refl _ _,Nat.zero_le _⟩ ⟨rfl,rfl,rfl,rfl,rfl,rfl,rfl,trivial⟩ ?_
  rintro i Hi ⟨ki,hi⟩
  have bgi:=bgs.kp ki (hout _ (.inr (Nat.le_refl _)))
  rcases Nat.lt_or_ge i F.funs.length with h2|h2
  case inr =>
    have g2:decide ((i:Int) < F.funs.length)=false:=decide_eq_false (by omega)
    (repeat first|apply zSeq|apply zReg|refine zExt ?_|refine wN ?_|refine wG ?_|refine wL ?_|refine zAdd rfl rfl (by omega) ?_|refine wE ?_|refine zFld rfl O_Form_Funs ?_|refine wB E_s_api_Graph ?_|refine zLen rfl (hlen2 _) ?_)
    exact ⟨t+1,⟨fc.trans (fcs.young ki.frX hoy.1 hoy.2),h⟩,by omega,rfl,rfl,rfl,rfl,rfl,trivial⟩
  have g2:decide ((i:Int) < F.funs.length)=true:=decide_eq_true (by omega)
  have hnb:=(hse2.fm.gs F.funs[i] (List.getElem_mem _)).nb
  have hbs:=hse2.b F.funs[i] (List.getElem_mem _)
  have hG:∀ Hz,Ev.Kp os Hs Hz→∃ b off v osi,aIndex V.E 24 (.slice c7 c8 c9) (.int .i64 i)=some (.pointer (some ⟨b,off,none⟩))∧aLoad V.E Hz 33 (.pointer (some ⟨b,off+4,none⟩))=some v∧Wl 39 4 WB_ Hz v F.funs[i].blocks osi∧∀ p∈osi,p∈os:=fun Hz kz=>by
    obtain ⟨bi,gi,celi,osi,hmi,hsi,ai,rwi,leni,rdi,vbi,hvi,hWi⟩:=(hWs.kp WGr.m kz (fun p hp=>hp)).at (V:=V) E_s_api_Graph E_Graph te_Graph_size (kd:=.i64) h2
    exact ⟨_,_,vbi,osi,ai,(rdi.at1 hvi).load1 (V:=V) E_s_api_Block rfl,hWi,hsi⟩
  generalize F.funs[i]=g at *
  (repeat first|apply zSeq|apply zReg|apply zBlk|apply zSkp|refine wN ?_|refine wG ?_|refine wA ?_|refine wL ?_|refine wT ?_|refine zFld rfl O_Form_Funs ?_|refine wB E_s_api_Graph ?_|refine zLen rfl (hlen2 _) ?_)
  refine WP.loopH (σ:=Nat) (fun j=>[(1,.slice ak nk ck),(2,.pointer (some ⟨H.next,0,none⟩)),(5,.pointer (some ⟨H3.next,0,none⟩)),(6,.int .i64 er),(7,.int .i64 t),(8,.pointer (some ⟨Hd.next,0,none⟩)),(10,.int .i64 i),(11,.int .i64 j)]) (fun j Hj=>Ev.Kp os Hs Hj∧j≤g.blocks.length) (fun j=>g.blocks.length - j) 0 ⟨ki,Nat.zero_le _⟩ ⟨rfl,rfl,rfl,rfl,rfl,rfl,rfl,rfl,trivial⟩ ?_
  rintro j Hj ⟨kj,hj⟩
  have bgj:=bgs.kp kj (hout _ (.inr (Nat.le_refl _)))
  obtain ⟨bi,offi,vbi,osi,ai,li,hWi,hsi⟩:=hG Hj kj
  have hlen3:∀ Hz,aLen V.E Hz 33 vbi=some (.int .i64 g.blocks.length):=fun Hz=>hWi.len (V:=V) E_s_api_Block
  rcases Nat.lt_or_ge j g.blocks.length with h3|h3
  case inr =>
    have g3:decide ((j:Int) < g.blocks.length)=false:=decide_eq_false (by omega)
    (repeat first|apply zSeq|apply zReg|refine zExt ?_|refine wN ?_|refine wG ?_|refine wL ?_|refine zAdd rfl rfl (by omega) ?_|refine wE ?_|refine zFld rfl O_Graph_Blocks ?_|refine zFld rfl O_Form_Funs ?_|refine wB E_s_api_Graph ?_|refine wI ?_|refine zLd rfl ‹_› ?_|refine zLen rfl (hlen3 _) ?_)
    exact ⟨i+1,⟨kj,h2⟩,by omega,rfl,rfl,rfl,rfl,rfl,rfl,rfl,trivial⟩
  have g3:decide ((j:Int) < g.blocks.length)=true:=decide_eq_true (by omega)
  obtain ⟨bj,gj,celj,osj,hmj,hsj,aj,rwj,lenj,rdj,hWj⟩:=hWi.at (V:=V) E_s_api_Block E_Block te_Block_size (kd:=.i64) h3
  have lj:=rdj.loadN (V:=V) E_Block te_Block_agg te_Block_size
  have hb1:=hbs g.blocks[j] (List.getElem_mem _)
  have hcl:=rdj.len
  generalize g.blocks[j]=x at *
  generalize ((celj.drop (j * 4)).take 4)=ch at *
  obtain ⟨vp,vc,vt,op,oc,ot,w1,w2,w3,rfl,⟨vf,w4,w4'⟩,wp,wc,wt⟩:=hWj
  obtain ⟨y0,y1,y2,y3,rfl⟩:∃ a b c d,ch=[a,b,c,d]:=by
    match ch,hcl with
    | [a,b,c,d],_=>exact ⟨a,b,c,d,rfl⟩
  obtain rfl:y0=vp:=by simpa using w1
  obtain rfl:y1=vc:=by simpa using w2
  obtain rfl:y2=vf:=by simpa using w4
  obtain rfl:y3=vt:=by simpa using w3
  have sl1:∀ {v:Value},isSl v=true→Value.oneCell' v=true:=fun {v} h=>by cases v <;> first|rfl|cases h
  have o0:=sl1 wp.isSl
  have o1:=sl1 wc.isSl
  have o2:=sl1 w4'
  have o3:=sl1 wt.isSl
  (repeat first|apply zSeq|apply zReg|apply zBlk|apply zSkp|refine wN ?_|refine wG ?_|refine wL ?_|refine wT ?_|refine zFld rfl O_Graph_Blocks ?_|refine zFld rfl O_Form_Funs ?_|refine wB E_s_api_Graph ?_|refine wI ?_|refine zLd rfl ‹_› ?_|refine zLen rfl (hlen3 _) ?_)
  refine zAlc E_Block elBlk0 fun Hk1 fk1 bk1 nk1=>?_
  refine zStB bk1 rfl rfl E_Block (by rw [te_Block_size];rfl) (by simp only [Value.cells,List.all_cons,o0,o1,o2,o3];rfl) (by simp [Value.cells]) (by simp [Value.cells]) fun Hk fk2 bk2 nk2=>?_
  have bk:Bx Hk Hj.next 39 [y0,y1,y2,y3]:=bk2
  have fjk:Fr Hj Hk:=fk1.young fk2 (by simp) (by simp)
  clear bk1 bk2 fk1 fk2
  have kjk:Ev.Kp os Hj Hk:=Ev.Kp.of_fr fjk
  have hjs:=kj.next
  have sp:∀ p∈op,p∈os:=fun p hp=>hsi p (hsj p (List.mem_append_right _ (List.mem_append_left _ hp)))
  have sc:∀ p∈oc,p∈os:=fun p hp=>hsi p (hsj p (List.mem_append_right _ (List.mem_append_right _ hp)))
  have st:∀ p∈ot,p∈os:=fun p hp=>hsi p (hsj p (List.mem_append_left _ hp))
  have wpk:=wp.kp WPhi.m kjk sp
  have wck:=wc.kp WIns.m kjk sc
  have wtk:=wt.kp WN.m kjk st
  have hbo:Hj.next∉os.bs:=hout _ (.inr (by omega))
  have hlp:∀ Hz,aLen V.E Hz 36 y0=some (.int .i64 x.phis.length):=fun Hz=>wpk.len (V:=V) E_s_api_Phi
  have hlc:∀ Hz,aLen V.E Hz 37 y1=some (.int .i64 x.code.length):=fun Hz=>wck.len (V:=V) E_s_api_Ins
  have hlt:∀ Hz,aLen V.E Hz 27 y3=some (.int .i64 x.to.length):=fun Hz=>by
    have:=wtk.len (V:=V) (H2:=Hz) E_s_int
    rwa [List.length_replicate] at this
  have q1:=hb1.code
  have q2:=hb1.phis
  have q3:=hb1.to
  clear wp wc wt rdj rwj lj bgj
  (repeat first|refine wN ?_)
  refine WP.seqS (σ:=Unit) (fun _=>[(1,.slice ak nk ck),(2,.pointer (some ⟨H.next,0,none⟩)),(5,.pointer (some ⟨H3.next,0,none⟩)),(6,.int .i64 er),(7,.int .i64 t),(8,.pointer (some ⟨Hd.next,0,none⟩)),(10,.int .i64 i),(11,.int .i64 j),(12,.pointer (some ⟨Hj.next,0,none⟩))]) (fun _ Hz=>Ev.Kp os Hk Hz) ?_ ?_
  · (repeat first|apply zSeq|apply zReg|apply zBlk|refine wN ?_|refine wA ?_)
    refine WP.loopH (σ:=Nat) (fun m=>[(1,.slice ak nk ck),(2,.pointer (some ⟨H.next,0,none⟩)),(5,.pointer (some ⟨H3.next,0,none⟩)),(6,.int .i64 er),(7,.int .i64 t),(8,.pointer (some ⟨Hd.next,0,none⟩)),(10,.int .i64 i),(11,.int .i64 j),(12,.pointer (some ⟨Hj.next,0,none⟩)),(13,.int .i64 m)]) (fun m Hz=>Ev.Kp os Hk Hz∧m≤x.code.length) (fun m=>x.code.length - m) 0 ⟨.refl _ _,Nat.zero_le _⟩ ⟨rfl,rfl,rfl,rfl,rfl,rfl,rfl,rfl,rfl,rfl,trivial⟩ ?_
    rintro m Hz ⟨kz,hm⟩
    have bz:=bk.kp kz hbo
    rcases Nat.lt_or_ge m x.code.length with h4|h4
    case inr =>
      have g4:decide ((m:Int) < x.code.length)=false:=decide_eq_false (by omega)
      (repeat first|apply zSeq|apply zReg|refine wG ?_|refine zFld rfl O_Block_Code ?_|refine wB E_s_api_Ins ?_)
      refine zLen rfl (hlc _) ?_
      (repeat first|refine zExt ?_|refine wN ?_|refine wL ?_|refine wE ?_)
      exact ⟨(),kz,rfl,rfl,rfl,rfl,rfl,rfl,rfl,rfl,rfl,trivial⟩
    have g4:decide ((m:Int) < x.code.length)=true:=decide_eq_true (by omega)
    have hI:∀ Hy,Ev.Kp os Hk Hy→∃ b g6 cel v oa,(b,g6)∈os∧aIndex V.E 37 y1 (.int .i64 m)=some (.pointer (some ⟨b,0+m * 6,none⟩))∧Rw Hy b g6 41 cel∧(∃ w,cel[0+m * 6+0]?=some w∧isSl w=false)∧aLoad V.E Hy 27 (.pointer (some ⟨b,0+m * 6+5,none⟩))=some v∧WI 3 Hy v x.code[m].args.length oa∧∀ p∈oa,p∈os:=fun Hy ky=>by
      obtain ⟨b6,g6,cel,oi,h61,h62,h63,h64,h65,h66,⟨v,h67,h68⟩,w,h69,h70⟩:=(wck.kp WIns.m ky sc).at (V:=V) E_s_api_Ins E_Ins te_Ins_size (kd:=.i64) h4
      exact ⟨b6,g6,cel,v,oi,sc _ h61,h63,h64,⟨w,chunk_get h69,h70⟩,(h66.at1 h67).load1 (V:=V) E_s_int rfl,h68,fun p hp=>sc _ (h62 p hp)⟩
    have hba:=hb1.cargs x.code[m] (List.getElem_mem _)
    generalize x.code[m]=ins at *
    (repeat first|apply zSeq|apply zReg|refine wG ?_|refine zFld rfl O_Block_Code ?_|refine wB E_s_api_Ins ?_)
    refine zLen rfl (hlc _) ?_
    (repeat first|apply zSkp|refine wN ?_|refine wL ?_|refine wT ?_)
    apply zSeq
    apply zBlk
    refine WP.seqS (σ:=Unit) (fun _=>[(1,.slice ak nk ck),(2,.pointer (some ⟨H.next,0,none⟩)),(5,.pointer (some ⟨H3.next,0,none⟩)),(6,.int .i64 er),(7,.int .i64 t),(8,.pointer (some ⟨Hd.next,0,none⟩)),(10,.int .i64 i),(11,.int .i64 j),(12,.pointer (some ⟨Hj.next,0,none⟩)),(13,.int .i64 m)]) (fun _ Hy=>Ev.Kp os Hk Hy) ?_ ?_
    · (repeat first|apply zSeq|apply zReg|apply zBlk|refine wN ?_|refine wA ?_)
      refine WP.loopH (σ:=Nat) (fun l=>[(1,.slice ak nk ck),(2,.pointer (some ⟨H.next,0,none⟩)),(5,.pointer (some ⟨H3.next,0,none⟩)),(6,.int .i64 er),(7,.int .i64 t),(8,.pointer (some ⟨Hd.next,0,none⟩)),(10,.int .i64 i),(11,.int .i64 j),(12,.pointer (some ⟨Hj.next,0,none⟩)),(13,.int .i64 m),(14,.int .i64 l)]) (fun l Hy=>Ev.Kp os Hk Hy∧l≤ins.args.length) (fun l=>ins.args.length - l) 0 ⟨kz,Nat.zero_le _⟩ ⟨rfl,rfl,rfl,rfl,rfl,rfl,rfl,rfl,rfl,rfl,rfl,trivial⟩ ?_
      rintro l Hy ⟨ky,hl⟩
      have bY:=bk.kp ky hbo
      obtain ⟨b6,g6,cel,v,oa,h61,h62,h63,h64,h65,h66,h67⟩:=hI Hy ky
      have hla:∀ Hz,aLen V.E Hz 27 v=some (.int .i64 ins.args.length):=fun Hz=>by
        have:=h66.len (V:=V) (H2:=Hz) E_s_int
        rwa [List.length_replicate] at this
      rcases Nat.lt_or_ge l ins.args.length with h5|h5
      case inr =>
        have g5:decide ((l:Int) < ins.args.length)=false:=decide_eq_false (by omega)
        (repeat first|apply zSeq|apply zReg|refine wG ?_|refine zFld rfl O_Ins_Args ?_|refine zFld rfl O_Block_Code ?_|refine wB E_s_api_Ins ?_|refine wI ?_|refine zLd rfl ‹_› ?_)
        refine zLen rfl (hla _) ?_
        (repeat first|refine zExt ?_|refine wN ?_|refine wL ?_|refine wE ?_)
        exact ⟨(),ky,rfl,rfl,rfl,rfl,rfl,rfl,rfl,rfl,rfl,rfl,trivial⟩
      have g5:decide ((l:Int) < ins.args.length)=true:=decide_eq_true (by omega)
      obtain ⟨b7,o7,Hw,i7,w7,k7,n7⟩:=h66.set h67 hnd (V:=V) E_s_int E_int rfl (kd:=.i64) h5 (x:=.int .i64 (-1)) rfl
      (repeat first|apply zSeq|apply zReg|refine wG ?_|refine zFld rfl O_Ins_Args ?_|refine zFld rfl O_Block_Code ?_|refine wB E_s_api_Ins ?_|refine wI ?_|refine zLd rfl ‹_› ?_)
      refine zLen rfl (hla _) ?_
      (repeat first|apply zSeq|apply zReg|apply zBlk|apply zSkp|refine wN ?_|refine wG ?_|refine wL ?_|refine wT ?_|refine zFld rfl O_Ins_Args ?_|refine zFld rfl O_Block_Code ?_|refine wB E_s_api_Ins ?_|refine wI ?_|refine zLd rfl ‹_› ?_)
      refine WL.op (op_store rfl rfl E_int rfl rfl w7) ?_
      (repeat first|apply zReg|refine wN ?_|refine wG ?_|refine zAdd rfl rfl (by omega) ?_)
      exact ⟨l+1,⟨ky.trans k7,h5⟩,by omega,rfl,rfl,rfl,rfl,rfl,rfl,rfl,rfl,rfl,rfl,rfl,trivial⟩
    rintro _ Hy ky
    have bY:=bk.kp ky hbo
    obtain ⟨b6,g6,cel,v,oa,h61,h62,h63,h64,h65,h66,h67⟩:=hI Hy ky
    obtain ⟨Hw,w7,k7,n7⟩:=h63.set h61 hnd h64 (x:=.int .u8 99) rfl
    (repeat first|apply zReg|refine wG ?_|refine zFld rfl O_Ins_Op ?_|refine zFld rfl O_Block_Code ?_|refine wB E_s_api_Ins ?_|refine wI ?_)
    refine WL.op (op_store rfl rfl E_uint8 rfl rfl w7) ?_
    (repeat first|apply zReg|refine wN ?_|refine wG ?_|refine zAdd rfl rfl (by omega) ?_)
    exact ⟨m+1,⟨ky.trans k7,h4⟩,by omega,rfl,rfl,rfl,rfl,rfl,rfl,rfl,rfl,rfl,rfl,trivial⟩
  rintro _ Hz kz
  refine WP.seqS (σ:=Unit) (fun _=>[(1,.slice ak nk ck),(2,.pointer (some ⟨H.next,0,none⟩)),(5,.pointer (some ⟨H3.next,0,none⟩)),(6,.int .i64 er),(7,.int .i64 t),(8,.pointer (some ⟨Hd.next,0,none⟩)),(10,.int .i64 i),(11,.int .i64 j),(12,.pointer (some ⟨Hj.next,0,none⟩))]) (fun _ Hy=>Ev.Kp os Hk Hy) ?_ ?_
  · (repeat first|apply zSeq|apply zReg|apply zBlk|refine wN ?_|refine wA ?_)
    refine WP.loopH (σ:=Nat) (fun l=>[(1,.slice ak nk ck),(2,.pointer (some ⟨H.next,0,none⟩)),(5,.pointer (some ⟨H3.next,0,none⟩)),(6,.int .i64 er),(7,.int .i64 t),(8,.pointer (some ⟨Hd.next,0,none⟩)),(10,.int .i64 i),(11,.int .i64 j),(12,.pointer (some ⟨Hj.next,0,none⟩)),(15,.int .i64 l)]) (fun l Hy=>Ev.Kp os Hk Hy∧l≤x.to.length) (fun l=>x.to.length - l) 0 ⟨kz,Nat.zero_le _⟩ ⟨rfl,rfl,rfl,rfl,rfl,rfl,rfl,rfl,rfl,rfl,trivial⟩ ?_
    rintro l Hy ⟨ky,hl⟩
    have bY:=bk.kp ky hbo
    rcases Nat.lt_or_ge l x.to.length with h5|h5
    case inr =>
      have g5:decide ((l:Int) < x.to.length)=false:=decide_eq_false (by omega)
      (repeat first|apply zSeq|apply zReg|refine wG ?_|refine zFld rfl O_Block_To ?_|refine wB E_s_int ?_)
      refine zLen rfl (hlt _) ?_
      (repeat first|refine zExt ?_|refine wN ?_|refine wL ?_|refine wE ?_)
      exact ⟨(),ky,rfl,rfl,rfl,rfl,rfl,rfl,rfl,rfl,rfl,trivial⟩
    have g5:decide ((l:Int) < x.to.length)=true:=decide_eq_true (by omega)
    obtain ⟨b7,o7,Hw,i7,w7,k7,n7⟩:=WI.set (wtk.kp WN.m ky st) st hnd (V:=V) E_s_int E_int rfl (kd:=.i64) h5 (x:=.int .i64 (-1)) rfl
    (repeat first|apply zSeq|apply zReg|refine wG ?_|refine zFld rfl O_Block_To ?_|refine wB E_s_int ?_)
    refine zLen rfl (hlt _) ?_
    (repeat first|apply zSeq|apply zReg|apply zBlk|apply zSkp|refine wN ?_|refine wG ?_|refine wL ?_|refine wT ?_|refine zFld rfl O_Block_To ?_|refine wB E_s_int ?_|refine wI ?_)
    refine WL.op (op_store rfl rfl E_int rfl rfl w7) ?_
    (repeat first|apply zReg|refine wN ?_|refine wG ?_|refine zAdd rfl rfl (by omega) ?_)
    exact ⟨l+1,⟨ky.trans k7,h5⟩,by omega,rfl,rfl,rfl,rfl,rfl,rfl,rfl,rfl,rfl,rfl,trivial⟩
  clear kz
  rintro _ Hz kz
  (repeat first|apply zSeq|apply zReg|apply zBlk|refine wN ?_|refine wA ?_)
  refine WP.loopH (σ:=Nat) (fun m=>[(1,.slice ak nk ck),(2,.pointer (some ⟨H.next,0,none⟩)),(5,.pointer (some ⟨H3.next,0,none⟩)),(6,.int .i64 er),(7,.int .i64 t),(8,.pointer (some ⟨Hd.next,0,none⟩)),(10,.int .i64 i),(11,.int .i64 j),(12,.pointer (some ⟨Hj.next,0,none⟩)),(16,.int .i64 m)]) (fun m Hz=>Ev.Kp os Hk Hz∧m≤x.phis.length) (fun m=>x.phis.length - m) 0 ⟨kz,Nat.zero_le _⟩ ⟨rfl,rfl,rfl,rfl,rfl,rfl,rfl,rfl,rfl,rfl,trivial⟩ ?_
  clear kz
  rintro m Hz ⟨kz,hm⟩
  have bz:=bk.kp kz hbo
  rcases Nat.lt_or_ge m x.phis.length with h4|h4
  case inr =>
    have g4:decide ((m:Int) < x.phis.length)=false:=decide_eq_false (by omega)
    (repeat first|apply zSeq|apply zReg|refine wG ?_|refine zFld rfl O_Block_Phis ?_|refine wB E_s_api_Phi ?_)
    refine zLen rfl (hlp _) ?_
    (repeat first|apply zReg|refine zExt ?_|refine wN ?_|refine wG ?_|refine wL ?_|refine zAdd rfl rfl (by omega) ?_|refine wE ?_)
    exact ⟨j+1,⟨(kj.trans kjk).trans kz,h3⟩,by omega,rfl,rfl,rfl,rfl,rfl,rfl,rfl,rfl,trivial⟩
  have g4:decide ((m:Int) < x.phis.length)=true:=decide_eq_true (by omega)
  have hI:∀ Hy,Ev.Kp os Hk Hy→∃ b off v oa,aIndex V.E 36 y0 (.int .i64 m)=some (.pointer (some ⟨b,off,none⟩))∧aLoad V.E Hy 27 (.pointer (some ⟨b,off+1,none⟩))=some v∧WI 3 Hy v x.phis[m].args.length oa∧∀ p∈oa,p∈os:=fun Hy ky=>by
    obtain ⟨b6,g6,cel,oi,h61,h62,h63,h64,h65,h66,v,h67,h68⟩:=(wpk.kp WPhi.m ky sp).at (V:=V) E_s_api_Phi E_Phi te_Phi_size (kd:=.i64) h4
    exact ⟨b6,_,v,oi,h63,(h66.at1 h67).load1 (V:=V) E_s_int rfl,h68,fun p hp=>sp _ (h62 p hp)⟩
  have hba:=hb1.pargs x.phis[m] (List.getElem_mem _)
  generalize x.phis[m]=ins at *
  (repeat first|apply zSeq|apply zReg|refine wG ?_|refine zFld rfl O_Block_Phis ?_|refine wB E_s_api_Phi ?_)
  refine zLen rfl (hlp _) ?_
  (repeat first|apply zSeq|apply zReg|apply zBlk|apply zSkp|refine wN ?_|refine wA ?_|refine wL ?_|refine wT ?_)
  refine WP.loopH (σ:=Nat) (fun l=>[(1,.slice ak nk ck),(2,.pointer (some ⟨H.next,0,none⟩)),(5,.pointer (some ⟨H3.next,0,none⟩)),(6,.int .i64 er),(7,.int .i64 t),(8,.pointer (some ⟨Hd.next,0,none⟩)),(10,.int .i64 i),(11,.int .i64 j),(12,.pointer (some ⟨Hj.next,0,none⟩)),(16,.int .i64 m),(17,.int .i64 l)]) (fun l Hy=>Ev.Kp os Hk Hy∧l≤ins.args.length) (fun l=>ins.args.length - l) 0 ⟨kz,Nat.zero_le _⟩ ⟨rfl,rfl,rfl,rfl,rfl,rfl,rfl,rfl,rfl,rfl,rfl,trivial⟩ ?_
  rintro l Hy ⟨ky,hl⟩
  have bY:=bk.kp ky hbo
  obtain ⟨b6,o6,v,oa,h63,h65,h66,h67⟩:=hI Hy ky
  have hla:∀ Hz,aLen V.E Hz 27 v=some (.int .i64 ins.args.length):=fun Hz=>by
    have:=h66.len (V:=V) (H2:=Hz) E_s_int
    rwa [List.length_replicate] at this
  rcases Nat.lt_or_ge l ins.args.length with h5|h5
  case inr =>
    have g5:decide ((l:Int) < ins.args.length)=false:=decide_eq_false (by omega)
    (repeat first|apply zSeq|apply zReg|refine wG ?_|refine zFld rfl O_Phi_Args ?_|refine zFld rfl O_Block_Phis ?_|refine wB E_s_api_Phi ?_|refine wI ?_|refine zLd rfl ‹_› ?_)
    refine zLen rfl (hla _) ?_
    (repeat first|apply zReg|refine zExt ?_|refine wN ?_|refine wG ?_|refine wL ?_|refine zAdd rfl rfl (by omega) ?_|refine wE ?_)
    exact ⟨m+1,⟨ky,h4⟩,by omega,rfl,rfl,rfl,rfl,rfl,rfl,rfl,rfl,rfl,rfl,trivial⟩
  have g5:decide ((l:Int) < ins.args.length)=true:=decide_eq_true (by omega)
  obtain ⟨b7,o7,Hw,i7,w7,k7,n7⟩:=h66.set h67 hnd (V:=V) E_s_int E_int rfl (kd:=.i64) h5 (x:=.int .i64 (-1)) rfl
  (repeat first|apply zSeq|apply zReg|refine wG ?_|refine zFld rfl O_Phi_Args ?_|refine zFld rfl O_Block_Phis ?_|refine wB E_s_api_Phi ?_|refine wI ?_|refine zLd rfl ‹_› ?_)
  refine zLen rfl (hla _) ?_
  (repeat first|apply zSeq|apply zReg|apply zBlk|apply zSkp|refine wN ?_|refine wG ?_|refine wL ?_|refine wT ?_|refine zFld rfl O_Phi_Args ?_|refine zFld rfl O_Block_Phis ?_|refine wB E_s_api_Phi ?_|refine wI ?_|refine zLd rfl ‹_› ?_)
  refine WL.op (op_store rfl rfl E_int rfl rfl w7) ?_
  (repeat first|apply zReg|refine wN ?_|refine wG ?_|refine zAdd rfl rfl (by omega) ?_)
  exact ⟨l+1,⟨ky.trans k7,h5⟩,by omega,rfl,rfl,rfl,rfl,rfl,rfl,rfl,rfl,rfl,rfl,rfl,trivial⟩
end Go.Proofs.YtogomfblfpfjhaaGreatDoor.U
namespace Go.Proofs.YtogomfblfpfjhaaGreatDoor.U
open Go Go.Ev Go.Proofs.YtogomfblfpfjhaaGreatDoor
noncomputable def fsW (t:Nat):Array Field:=match Tryz.prog.underlying t with
 | some (.struct fs)=>fs
 | _=>#[]
theorem lnWF:(fsW 26).toList.length=3:=by kernel_rfl
theorem usWF:Tryz.prog.underlying 26=some (.struct (fsW 26)):=by kernel_rfl
noncomputable def fWF (i:Nat) (h:i < 3):Field:=(fsW 26).toList[i]'(by rw [lnWF];exact h)
theorem lnWM:(fsW 50).toList.length=3:=by kernel_rfl
theorem usWM:Tryz.prog.underlying 50=some (.struct (fsW 50)):=by kernel_rfl
noncomputable def fWM (i:Nat) (h:i < 3):Field:=(fsW 50).toList[i]'(by rw [lnWM];exact h)
theorem lnWG:(fsW 35).toList.length=5:=by kernel_rfl
theorem usWG:Tryz.prog.underlying 35=some (.struct (fsW 35)):=by kernel_rfl
noncomputable def fWG (i:Nat) (h:i < 5):Field:=(fsW 35).toList[i]'(by rw [lnWG];exact h)
theorem lnWB:(fsW 39).toList.length=4:=by kernel_rfl
theorem usWB:Tryz.prog.underlying 39=some (.struct (fsW 39)):=by kernel_rfl
noncomputable def fWB (i:Nat) (h:i < 4):Field:=(fsW 39).toList[i]'(by rw [lnWB];exact h)
theorem lnWI:(fsW 41).toList.length=6:=by kernel_rfl
theorem usWI:Tryz.prog.underlying 41=some (.struct (fsW 41)):=by kernel_rfl
noncomputable def fWI (i:Nat) (h:i < 6):Field:=(fsW 41).toList[i]'(by rw [lnWI];exact h)
theorem lnWP:(fsW 43).toList.length=2:=by kernel_rfl
theorem usWP:Tryz.prog.underlying 43=some (.struct (fsW 43)):=by kernel_rfl
noncomputable def fWP (i:Nat) (h:i < 2):Field:=(fsW 43).toList[i]'(by rw [lnWP];exact h)
attribute [local irreducible] Wt.Ent Wt.EntF Mono
theorem oInt {t:TypeId}{k:IntKind} (h:Tryz.prog.underlying t=some (.int k)):Wt.Ent Tryz.prog (RInt k) t:=.of (Go.Ev.Ent.int h)
theorem oBool {t:TypeId} (h:Tryz.prog.underlying t=some .bool):Wt.Ent Tryz.prog RBool t:=.of (Go.Ev.Ent.bool h)
theorem oStr {t:TypeId} (h:Tryz.prog.underlying t=some .string):Wt.Ent Tryz.prog RStr t:=.of (Go.Ev.Ent.str h)
theorem oInts {t:TypeId} (h:Tryz.prog.underlying t=some (.slice 3)):Wt.Ent Tryz.prog RIntsW t:=.rs h (by kernel_rfl) (by decide) (by decide +kernel) (oInt (by kernel_rfl)) (@RInt.mono _)
theorem mwInts:Mono RIntsW:=@RS.mono _ _ _ (@RInt.mono _)
theorem mwI:Mono RInsW:=@RCons.mono _ _ _ _ _ (@RInt.mono _) (@RCons.mono _ _ _ _ _ (@RInt.mono _) (@RCons.mono _ _ _ _ _ (@RInt.mono _) (@RCons.mono _ _ _ _ _ (@RInt.mono _) (@RCons.mono _ _ _ _ _ (@RInt.mono _) (@RCons.mono _ _ _ _ _ @mwInts @REnd.mono)))))
theorem mwP:Mono RPhiW:=@RCons.mono _ _ _ _ _ (@RInt.mono _) (@RCons.mono _ _ _ _ _ @mwInts @REnd.mono)
theorem mwPhis:Mono (RS 2 RPhiW):=@RS.mono _ _ _ @mwP
theorem mwCode:Mono (RS 6 RInsW):=@RS.mono _ _ _ @mwI
theorem mwB:Mono RBlockW:=@RCons.mono _ _ _ _ _ @mwPhis (@RCons.mono _ _ _ _ _ @mwCode (@RCons.mono _ _ _ _ _ @mwInts (@RCons.mono _ _ _ _ _ @mwInts @REnd.mono)))
theorem mwBlocks:Mono (RS 4 RBlockW):=@RS.mono _ _ _ @mwB
theorem mwG:Mono RGraphW:=@RCons.mono _ _ _ _ _ @RStr.mono (@RCons.mono _ _ _ _ _ @RBool.mono (@RCons.mono _ _ _ _ _ (@RInt.mono _) (@RCons.mono _ _ _ _ _ (@RInt.mono _) (@RCons.mono _ _ _ _ _ @mwBlocks @REnd.mono))))
theorem mwM:Mono RMem:=@RCons.mono _ _ _ _ _ @RStr.mono (@RCons.mono _ _ _ _ _ (@RInt.mono _) (@RCons.mono _ _ _ _ _ (@RInt.mono _) @REnd.mono))
theorem mwMems:Mono (RS 3 RMem):=@RS.mono _ _ _ @mwM
theorem mwLocks:Mono (RS 1 RStr):=@RS.mono _ _ _ @RStr.mono
theorem mwFuns:Mono (RS 5 RGraphW):=@RS.mono _ _ _ @mwG
theorem mwF:Mono RFormW:=@RCons.mono _ _ _ _ _ @mwMems (@RCons.mono _ _ _ _ _ @mwLocks (@RCons.mono _ _ _ _ _ @mwFuns @REnd.mono))
theorem ewI:Wt.Ent Tryz.prog RInsW 41:=Wt.Ent.struct (l:=[fWI 0 (by decide),fWI 1 (by decide),fWI 2 (by decide),fWI 3 (by decide),fWI 4 (by decide),fWI 5 (by decide)]) (size:=6) usWI (by kernel_rfl) (by kernel_rfl)
 (.cons (n:=1) (by kernel_rfl) (by kernel_rfl) (by decide) (oInt (by kernel_rfl)) (@RInt.mono _) (.cons (n:=1) (by kernel_rfl) (by kernel_rfl) (by decide) (oInt (by kernel_rfl)) (@RInt.mono _) (.cons (n:=1) (by kernel_rfl) (by kernel_rfl) (by decide) (oInt (by kernel_rfl)) (@RInt.mono _) (.cons (n:=1) (by kernel_rfl) (by kernel_rfl) (by decide) (oInt (by kernel_rfl)) (@RInt.mono _) (.cons (n:=1) (by kernel_rfl) (by kernel_rfl) (by decide) (oInt (by kernel_rfl)) (@RInt.mono _) (.cons (n:=1) (by kernel_rfl) (by kernel_rfl) (by decide) (oInts (by kernel_rfl)) @mwInts (.nil (by decide))))))))
theorem ewP:Wt.Ent Tryz.prog RPhiW 43:=Wt.Ent.struct (l:=[fWP 0 (by decide),fWP 1 (by decide)]) (size:=2) usWP (by kernel_rfl) (by kernel_rfl)
 (.cons (n:=1) (by kernel_rfl) (by kernel_rfl) (by decide) (oInt (by kernel_rfl)) (@RInt.mono _) (.cons (n:=1) (by kernel_rfl) (by kernel_rfl) (by decide) (oInts (by kernel_rfl)) @mwInts (.nil (by decide))))
theorem ewB:Wt.Ent Tryz.prog RBlockW 39:=Wt.Ent.struct (l:=[fWB 0 (by decide),fWB 1 (by decide),fWB 2 (by decide),fWB 3 (by decide)]) (size:=4) usWB (by kernel_rfl) (by kernel_rfl)
 (.cons (n:=1) (by kernel_rfl) (by kernel_rfl) (by decide) (.rs (e:=43) (by kernel_rfl) (by kernel_rfl) (by decide) (by decide +kernel) ewP @mwP) @mwPhis (.cons (n:=1) (by kernel_rfl) (by kernel_rfl) (by decide) (.rs (e:=41) (by kernel_rfl) (by kernel_rfl) (by decide) (by decide +kernel) ewI @mwI) @mwCode (.cons (n:=1) (by kernel_rfl) (by kernel_rfl) (by decide) (oInts (by kernel_rfl)) @mwInts (.cons (n:=1) (by kernel_rfl) (by kernel_rfl) (by decide) (oInts (by kernel_rfl)) @mwInts (.nil (by decide))))))
theorem ewG:Wt.Ent Tryz.prog RGraphW 35:=Wt.Ent.struct (l:=[fWG 0 (by decide),fWG 1 (by decide),fWG 2 (by decide),fWG 3 (by decide),fWG 4 (by decide)]) (size:=5) usWG (by kernel_rfl) (by kernel_rfl)
 (.cons (n:=1) (by kernel_rfl) (by kernel_rfl) (by decide) (oStr (by kernel_rfl)) @RStr.mono (.cons (n:=1) (by kernel_rfl) (by kernel_rfl) (by decide) (oBool (by kernel_rfl)) @RBool.mono (.cons (n:=1) (by kernel_rfl) (by kernel_rfl) (by decide) (oInt (by kernel_rfl)) (@RInt.mono _) (.cons (n:=1) (by kernel_rfl) (by kernel_rfl) (by decide) (oInt (by kernel_rfl)) (@RInt.mono _) (.cons (n:=1) (by kernel_rfl) (by kernel_rfl) (by decide) (.rs (e:=39) (by kernel_rfl) (by kernel_rfl) (by decide) (by decide +kernel) ewB @mwB) @mwBlocks (.nil (by decide)))))))
theorem ewM:Wt.Ent Tryz.prog RMem 50:=Wt.Ent.struct (l:=[fWM 0 (by decide),fWM 1 (by decide),fWM 2 (by decide)]) (size:=3) usWM (by kernel_rfl) (by kernel_rfl)
 (.cons (n:=1) (by kernel_rfl) (by kernel_rfl) (by decide) (oStr (by kernel_rfl)) @RStr.mono (.cons (n:=1) (by kernel_rfl) (by kernel_rfl) (by decide) (oInt (by kernel_rfl)) (@RInt.mono _) (.cons (n:=1) (by kernel_rfl) (by kernel_rfl) (by decide) (oInt (by kernel_rfl)) (@RInt.mono _) (.nil (by decide)))))
theorem ewF:Wt.Ent Tryz.prog RFormW 26:=Wt.Ent.struct (l:=[fWF 0 (by decide),fWF 1 (by decide),fWF 2 (by decide)]) (size:=3) usWF (by kernel_rfl) (by kernel_rfl)
 (.cons (n:=1) (by kernel_rfl) (by kernel_rfl) (by decide) (.rs (e:=50) (by kernel_rfl) (by kernel_rfl) (by decide) (by decide +kernel) ewM @mwM) @mwMems (.cons (n:=1) (by kernel_rfl) (by kernel_rfl) (by decide) (.rs (e:=9) (by kernel_rfl) (by kernel_rfl) (by decide) (by decide +kernel) (oStr (by kernel_rfl)) @RStr.mono) @mwLocks (.cons (n:=1) (by kernel_rfl) (by kernel_rfl) (by decide) (.rs (e:=35) (by kernel_rfl) (by kernel_rfl) (by decide) (by decide +kernel) ewG @mwG) @mwFuns (.nil (by decide)))))
end Go.Proofs.YtogomfblfpfjhaaGreatDoor.U
namespace Go.Proofs
open Go.Shelf
def Tryz.laysSort_ren:Go.Shelf.Ren:=⟨fun|190=>61|125=>85|258=>84|128=>101|129=>102|302=>92|303=>93|304=>94|305=>95|306=>96|307=>97|308=>98|309=>99|310=>100|333=>112|329=>113|330=>114|334=>115|335=>116|336=>117|344=>122|n=>n,fun|31=>23|9=>9|3=>3|46=>114|0=>0|51=>132|53=>134|4=>4|183=>125|182=>124|131=>88|5=>5|218=>143|222=>147|228=>152|229=>153|n=>n,fun|n=>n⟩
theorem Tryz.laysSort:Go.Proofs.Lays.n190 Tryz.prog Tryz.laysSort_ren:={
 mixed:=by kernel_rfl
 f125:=Tryz.func85.trans (congrArg some (by kernel_rfl))
 f128:=Tryz.func101.trans (congrArg some (by kernel_rfl))
 f129:=Tryz.func102.trans (congrArg some (by kernel_rfl))
 f190:=Tryz.func61.trans (congrArg some (by kernel_rfl))
 f258:=Tryz.func84.trans (congrArg some (by kernel_rfl))
 f302:=Tryz.func92.trans (congrArg some (by kernel_rfl))
 f303:=Tryz.func93.trans (congrArg some (by kernel_rfl))
 f304:=Tryz.func94.trans (congrArg some (by kernel_rfl))
 f305:=Tryz.func95.trans (congrArg some (by kernel_rfl))
 f306:=Tryz.func96.trans (congrArg some (by kernel_rfl))
 f307:=Tryz.func97.trans (congrArg some (by kernel_rfl))
 f308:=Tryz.func98.trans (congrArg some (by kernel_rfl))
 f309:=Tryz.func99.trans (congrArg some (by kernel_rfl))
 f310:=Tryz.func100.trans (congrArg some (by kernel_rfl))
 f329:=Tryz.func113.trans (congrArg some (by kernel_rfl))
 f330:=Tryz.func114.trans (congrArg some (by kernel_rfl))
 f333:=Tryz.func112.trans (congrArg some (by kernel_rfl))
 f334:=Tryz.func115.trans (congrArg some (by kernel_rfl))
 f335:=Tryz.func116.trans (congrArg some (by kernel_rfl))
 f336:=Tryz.func117.trans (congrArg some (by kernel_rfl))
 f344:=Tryz.func122.trans (congrArg some (by kernel_rfl))
 t0:=Tryz.underlying0
 a0:=Tryz.isAgg0
 z0:=Tryz.sizeOf0
 v0:=Tryz.zeroValue0
 t3:=Tryz.underlying3
 a3:=Tryz.isAgg3
 z3:=Tryz.sizeOf3
 v3:=Tryz.zeroValue3
 t4:=Tryz.underlying4
 a4:=Tryz.isAgg4
 z4:=Tryz.sizeOf4
 v4:=Tryz.zeroValue4
 t5:=Tryz.underlying5
 a5:=Tryz.isAgg5
 z5:=Tryz.sizeOf5
 v5:=Tryz.zeroValue5
 t9:=Tryz.underlying9
 a9:=Tryz.isAgg9
 z9:=Tryz.sizeOf9
 v9:=Tryz.zeroValue9
 t31:=Tryz.underlying23
 a31:=Tryz.isAgg23
 z31:=Tryz.sizeOf23
 v31:=Tryz.zeroValue23
 t46:=Tryz.underlying114
 a46:=Tryz.isAgg114
 z46:=Tryz.sizeOf114
 v46:=Tryz.zeroValue114
 t51:=Tryz.underlying132
 a51:=Tryz.isAgg132
 z51:=Tryz.sizeOf132
 v51:=Tryz.zeroValue132
 t53:=Tryz.underlying134
 a53:=Tryz.isAgg134
 z53:=Tryz.sizeOf134
 v53:=Tryz.zeroValue134
 t131:=Tryz.underlying88
 a131:=Tryz.isAgg88
 z131:=Tryz.sizeOf88
 v131:=Tryz.zeroValue88
 t182:=Tryz.underlying124
 a182:=Tryz.isAgg124
 z182:=Tryz.sizeOf124
 v182:=Tryz.zeroValue124
 t183:=Tryz.underlying125
 a183:=Tryz.isAgg125
 z183:=Tryz.sizeOf125
 v183:=Tryz.zeroValue125
 t218:=Tryz.underlying143
 a218:=Tryz.isAgg143
 z218:=Tryz.sizeOf143
 v218:=Tryz.zeroValue143
 t222:=Tryz.underlying147
 a222:=Tryz.isAgg147
 z222:=Tryz.sizeOf147
 v222:=Tryz.zeroValue147
 t228:=Tryz.underlying152
 a228:=Tryz.isAgg152
 z228:=Tryz.sizeOf152
 v228:=Tryz.zeroValue152
 t229:=Tryz.underlying153
 a229:=Tryz.isAgg153
 z229:=Tryz.sizeOf153
 v229:=Tryz.zeroValue153 }
def Tryz.laysCompact_ren:Go.Shelf.Ren:=⟨fun|194=>62|n=>n,fun|31=>23|9=>9|3=>3|4=>4|0=>0|n=>n,fun|n=>n⟩
theorem Tryz.laysCompact:Go.Proofs.Lays.n194 Tryz.prog Tryz.laysCompact_ren:={
 mixed:=by kernel_rfl
 f194:=Tryz.func62.trans (congrArg some (by kernel_rfl))
 t0:=Tryz.underlying0
 a0:=Tryz.isAgg0
 z0:=Tryz.sizeOf0
 v0:=Tryz.zeroValue0
 t3:=Tryz.underlying3
 a3:=Tryz.isAgg3
 z3:=Tryz.sizeOf3
 v3:=Tryz.zeroValue3
 t4:=Tryz.underlying4
 a4:=Tryz.isAgg4
 z4:=Tryz.sizeOf4
 v4:=Tryz.zeroValue4
 t9:=Tryz.underlying9
 a9:=Tryz.isAgg9
 z9:=Tryz.sizeOf9
 v9:=Tryz.zeroValue9
 t31:=Tryz.underlying23
 a31:=Tryz.isAgg23
 z31:=Tryz.sizeOf23
 v31:=Tryz.zeroValue23 }
def Tryz.laysTrim_ren:Go.Shelf.Ren:=⟨fun|160=>88|232=>105|231=>104|227=>106|234=>108|233=>107|236=>110|235=>109|228=>118|271=>121|151=>120|197=>119|120=>125|152=>124|260=>123|137=>126|119=>127|224=>128|225=>129|217=>130|266=>131|n=>n,fun|9=>9|4=>4|3=>3|5=>5|117=>139|116=>138|0=>0|124=>142|21=>21|105=>149|46=>114|119=>156|139=>159|138=>158|n=>n,fun|3=>2|4=>3|n=>n⟩
theorem Tryz.laysTrim:Go.Proofs.Lays.n160 Tryz.prog Tryz.laysTrim_ren:={
 mixed:=by kernel_rfl
 f119:=Tryz.func127.trans (congrArg some (by kernel_rfl))
 f120:=Tryz.func125.trans (congrArg some (by kernel_rfl))
 f137:=Tryz.func126.trans (congrArg some (by kernel_rfl))
 f151:=Tryz.func120.trans (congrArg some (by kernel_rfl))
 f152:=Tryz.func124.trans (congrArg some (by kernel_rfl))
 f160:=Tryz.func88.trans (congrArg some (by kernel_rfl))
 f197:=Tryz.func119.trans (congrArg some (by kernel_rfl))
 f217:=Tryz.func130.trans (congrArg some (by kernel_rfl))
 f224:=Tryz.func128.trans (congrArg some (by kernel_rfl))
 f225:=Tryz.func129.trans (congrArg some (by kernel_rfl))
 f227:=Tryz.func106.trans (congrArg some (by kernel_rfl))
 f228:=Tryz.func118.trans (congrArg some (by kernel_rfl))
 f231:=Tryz.func104.trans (congrArg some (by kernel_rfl))
 f232:=Tryz.func105.trans (congrArg some (by kernel_rfl))
 f233:=Tryz.func107.trans (congrArg some (by kernel_rfl))
 f234:=Tryz.func108.trans (congrArg some (by kernel_rfl))
 f235:=Tryz.func109.trans (congrArg some (by kernel_rfl))
 f236:=Tryz.func110.trans (congrArg some (by kernel_rfl))
 f260:=Tryz.func123.trans (congrArg some (by kernel_rfl))
 f266:=Tryz.func131.trans (congrArg some (by kernel_rfl))
 f271:=Tryz.func121.trans (congrArg some (by kernel_rfl))
 t0:=Tryz.underlying0
 a0:=Tryz.isAgg0
 z0:=Tryz.sizeOf0
 v0:=Tryz.zeroValue0
 t3:=Tryz.underlying3
 a3:=Tryz.isAgg3
 z3:=Tryz.sizeOf3
 v3:=Tryz.zeroValue3
 t4:=Tryz.underlying4
 a4:=Tryz.isAgg4
 z4:=Tryz.sizeOf4
 v4:=Tryz.zeroValue4
 t5:=Tryz.underlying5
 a5:=Tryz.isAgg5
 z5:=Tryz.sizeOf5
 v5:=Tryz.zeroValue5
 t9:=Tryz.underlying9
 a9:=Tryz.isAgg9
 z9:=Tryz.sizeOf9
 v9:=Tryz.zeroValue9
 t21:=Tryz.underlying21
 a21:=Tryz.isAgg21
 z21:=Tryz.sizeOf21
 v21:=Tryz.zeroValue21
 t46:=Tryz.underlying114
 a46:=Tryz.isAgg114
 z46:=Tryz.sizeOf114
 v46:=Tryz.zeroValue114
 t105:=Tryz.underlying149
 a105:=Tryz.isAgg149
 z105:=Tryz.sizeOf149
 v105:=Tryz.zeroValue149
 t116:=Tryz.underlying138
 a116:=Tryz.isAgg138
 z116:=Tryz.sizeOf138
 t117:=Tryz.underlying139
 a117:=Tryz.isAgg139
 z117:=Tryz.sizeOf139
 v117:=Tryz.zeroValue139
 t119:=Tryz.underlying156
 a119:=Tryz.isAgg156
 z119:=Tryz.sizeOf156
 t124:=Tryz.underlying142
 a124:=Tryz.isAgg142
 z124:=Tryz.sizeOf142
 v124:=Tryz.zeroValue142
 t138:=Tryz.underlying158
 a138:=Tryz.isAgg158
 z138:=Tryz.sizeOf158
 v138:=Tryz.zeroValue158
 t139:=Tryz.underlying159
 a139:=Tryz.isAgg159
 z139:=Tryz.sizeOf159
 v139:=Tryz.zeroValue159
 g3:=by kernel_rfl
 g4:=by kernel_rfl }
end Go.Proofs
namespace Go.Proofs.YtogomfblfpfjhaaGreatDoor.U
open Go Go.Ev
attribute [local irreducible] WL WP WH W
noncomputable def orcL:Orc:=orcRel 61 SortRel (orcRel 62 CompRel (orcRel 88 TrimRel orcNil))
theorem orcL_ok {n:Nat}:OrcOk (envOf Tryz.prog n) orcL:=by
 refine orcRel_ok (fun vs H r h=>?_) (orcRel_ok (fun vs H r h=>?_) (orcRel_ok (fun vs H r h=>?_) orcNil_ok))
 ·cases h with
  | nil=>exact sort_sound_nil (V:=envOf Tryz.prog n) Tryz.laysSort
  | made ho hsz hw=>exact sort_sound (V:=envOf Tryz.prog n) Tryz.laysSort ho hsz hw
 ·cases h with
  | nil=>exact compact_sound_nil (V:=envOf Tryz.prog n) Tryz.laysCompact
  | made ho hsz hw=>exact compact_sound (V:=envOf Tryz.prog n) Tryz.laysCompact ho hsz hw
 ·exact trim_sound (V:=envOf Tryz.prog n) Tryz.laysTrim (by unfold tab116;kernel_rfl) vs H r h
theorem orcL_kn:KnL orcL:=by
 refine ⟨fun h=>orcRel_eq sortRel_uniq h,fun {vs H r} h=>?_,fun {vs H r} h=>?_⟩
 ·exact (orcRel_ne (by decide) vs H).trans (orcRel_eq compRel_uniq h)
 ·exact ((orcRel_ne (by decide) vs H).trans (orcRel_ne (by decide) vs H)).trans (orcRel_eq trimRel_uniq h)
theorem orcL_no:NoO orcL:=fun f vs H hf=>by
 unfold kn at hf
 simp only [List.mem_cons,not_or] at hf
 exact ((orcRel_ne (fun e=>hf.1 e) vs H).trans (orcRel_ne (fun e=>hf.2.1 e) vs H)).trans (orcRel_ne (fun e=>hf.2.2.1 e) vs H)
end Go.Proofs.YtogomfblfpfjhaaGreatDoor.U
namespace Go.Proofs.YtogomfblfpfjhaaGreatDoor.U.ElideAll
open Go Go.Ev Go.Proofs.YtogomfblfpfjhaaGreatDoor Go.Proofs.YtogomfblfpfjhaaGreatDoor.U
set_option maxRecDepth 100000
theorem named3:Tryz.prog.globalNamed "unicode/utf8.acceptRanges" = some 3:=by kernel_rfl
noncomputable def ty3:Nat:=match (Tryz.prog.globals[3]?).map (·.type) with
 | some t=>t
 | none=>0
theorem type3:(Tryz.prog.globals[3]?).map (·.type)=some ty3:=by kernel_rfl
noncomputable def cells3:List Value:=(flatT Tryz.prog 100 ty3 Rows.laid_unicode_utf8_acceptRanges).getD []
theorem flat3:flatT Tryz.prog 100 ty3 Rows.laid_unicode_utf8_acceptRanges=some cells3:=by kernel_rfl
theorem plain3:(cells3.all plain)=true:=by kernel_rfl
theorem named0:Tryz.prog.globalNamed "bobbin/tree.reserved" = some 0:=by kernel_rfl
noncomputable def ty0:Nat:=match (Tryz.prog.globals[0]?).map (·.type) with
 | some t=>t
 | none=>0
theorem type0:(Tryz.prog.globals[0]?).map (·.type)=some ty0:=by kernel_rfl
noncomputable def cells0:List Value:=(flatT Tryz.prog 100 ty0 Rows.laid_bobbin_tree_reserved).getD []
theorem flat0:flatT Tryz.prog 100 ty0 Rows.laid_bobbin_tree_reserved=some cells0:=by kernel_rfl
theorem plain0:(cells0.all plain)=true:=by kernel_rfl
theorem named1:Tryz.prog.globalNamed "bobbin/code.ops" = some 1:=by kernel_rfl
noncomputable def ty1:Nat:=match (Tryz.prog.globals[1]?).map (·.type) with
 | some t=>t
 | none=>0
theorem type1:(Tryz.prog.globals[1]?).map (·.type)=some ty1:=by kernel_rfl
noncomputable def cells1:List Value:=(flatT Tryz.prog 100 ty1 Rows.laid_bobbin_code_ops).getD []
theorem flat1:flatT Tryz.prog 100 ty1 Rows.laid_bobbin_code_ops=some cells1:=by kernel_rfl
theorem plain1:(cells1.all plain)=true:=by kernel_rfl
theorem named2:Tryz.prog.globalNamed "unicode/utf8.first" = some 2:=by kernel_rfl
noncomputable def ty2:Nat:=match (Tryz.prog.globals[2]?).map (·.type) with
 | some t=>t
 | none=>0
theorem type2:(Tryz.prog.globals[2]?).map (·.type)=some ty2:=by kernel_rfl
noncomputable def cells2:List Value:=(flatT Tryz.prog 100 ty2 Rows.laid_unicode_utf8_first).getD []
theorem flat2:flatT Tryz.prog 100 ty2 Rows.laid_unicode_utf8_first=some cells2:=by kernel_rfl
theorem plain2:(cells2.all plain)=true:=by kernel_rfl
noncomputable def rows:List AObj:=[.row ty0 cells0 .ro 0 0,.row ty1 cells1 .ro 0 0,.row ty2 cells2 .ro 0 0,.row ty3 cells3 .ro 0 0]
theorem names:(Tryz.prog.funcs.toList.all fun fn=>!(fn.name == "runtime.NumGoroutine"))=true:=by kernel_rfl
theorem mixed:Tryz.prog.follows .mixedOrders=true:=by kernel_rfl
theorem laidOut:laidOutB Tryz.prog=true:=by kernel_rfl
theorem uaI:Tryz.prog.underlying 27=some (.slice 3):=by kernel_rfl
abbrev S:=AAgg RFormW (AOne RIntsW AEnd)
theorem entS:Wt.EntA Tryz.prog S [26,27]:=Wt.EntA.agg usWF ewF mwF (Wt.EntA.one uaI rfl (oInts uaI) mwInts Wt.EntA.nil)
theorem law (H:AH) (avs:List Value) b (hk:Kro (startH rows) H) (hs:S H avs b):∃ H',Lc (envOf Tryz.prog rows.length) orcL 3 avs H (.bool true) H':=by
 obtain ⟨cs,vs,rfl,hR,v,vs2,rfl,hI,h0⟩:=hs
 have h0:vs2=[]:=h0
 subst h0
 obtain ⟨vm,vl,vf,e,h1,h2,h3⟩:=hR.to
 obtain rfl:cs=#[vm,vl,vf]:=Array.ext' e
 obtain ⟨v',e',hv⟩:=intsR_of hI.1
 cases e'
 obtain ⟨q1,q2,q3,q4,q5⟩:=hR.bound
 have hB:Eli.BulkF (TForm.to b.1):=⟨q1,q2,q3,q4,fun g hg x hx=>by
  have h:=q5 g hg x hx
  exact ⟨h.code,h.phis,h.frm,h.to,h.pargs,h.cargs,h.op⟩⟩
 obtain ⟨_,H',hc,rfl,_⟩:=elideAll_c (O:=orcL) (H:=H) orcL_no orcL_kn ⟨Nat.lt_of_lt_of_le (by decide) hk.1,hk.2 1 _ _ _ _ (by decide) (by rw [startH_obj];kernel_rfl)⟩ ⟨Nat.lt_of_lt_of_le (by decide) hk.1,hk.2 0 _ _ _ _ (by decide) (by rw [startH_obj];kernel_rfl)⟩ (f:=TForm.to b.1) (vm:=vm) (vl:=vl) (vf:=vf) ⟨h1,h2,h3⟩ hB hv hI.2
 exact ⟨H',hc⟩
open Go.RowKit in
theorem rows_in {W:World} (h:laidMetH Tryz.prog Rows.elideAllRow.laid W):∀ g o,rows[g]?=some o→RowIn W g o:=by
 have hl:laidMet Tryz.prog Rows.elideAllRow.laid W:=h
 intro g o hg
 unfold rows at hg
 match g,hg with
 | 0,hg=>
  cases hg
  exact ⟨fun v hv=>List.all_eq_true.1 plain0 v hv,laidMet_row hl (.tail _ (.head _)) named0 type0 flat0⟩
 | 1,hg=>
  cases hg
  exact ⟨fun v hv=>List.all_eq_true.1 plain1 v hv,laidMet_row hl (.tail _ (.tail _ (.head _))) named1 type1 flat1⟩
 | 2,hg=>
  cases hg
  exact ⟨fun v hv=>List.all_eq_true.1 plain2 v hv,laidMet_row hl (.tail _ (.tail _ (.tail _ (.head _)))) named2 type2 flat2⟩
 | 3,hg=>
  cases hg
  exact ⟨fun v hv=>List.all_eq_true.1 plain3 v hv,laidMet_row hl (.head _) named3 type3 flat3⟩
 | n+4,hg=>simp at hg
theorem weightsEach_left {P:Program}{Hd:Type}{p:Nat→Bool}:∀ {ts:List TypeId}{ds gs:List (DataW Hd)},(DataW.weightsEach P ts (ds++gs)).all p=true→(DataW.weightsEach P ts ds).all p=true
 | [],ds,gs,_=>by cases ds <;> (unfold DataW.weightsEach;rfl)
 | _::_,[],_,_=>by unfold DataW.weightsEach;rfl
 | t::ts,d::ds,gs,h=>by
  rw [List.cons_append,DataW.weightsEach,List.all_append,Bool.and_eq_true] at h
  rw [DataW.weightsEach,List.all_append,Bool.and_eq_true]
  exact ⟨h.1,weightsEach_left h.2⟩
open Go.RowKit Go.ChangeShapes in
theorem contract (H:Type) (enc:TypeId×Value→H) (W:World) (base:Nat) (args:Array Value) (ds gs:List (DataW H)) (before:List MemPlace)
  (hval:∀ (j:Nat) t v,Tryz.f3.params[j]?=some t→args[j]?=some v→Value.okWide Tryz.prog W .any base t v)
  (hW:DataW.Whole enc Tryz.prog Tryz.f3.params.toList Rows.elideAllSpec.vars false W args.toList ds gs before) (hw0:(DataW.weightsEach Tryz.prog [26,27] ds).all (·≤reachBytes)=true) (hL:laidMetH Tryz.prog Rows.elideAllRow.laid W) :
  Calls Tryz.prog 3 args W fun e W'=>∃ v,e=.returned v∧Rows.elideAllSpec.post enc Tryz.prog Tryz.f3 false true false false W args v W':=
 Wt.law_contract (S:=S) (ts:=[26,27]) (tb:=4) names mixed laidOut (rows_in hL) (by kernel_rfl) entS (by kernel_rfl) (by kernel_rfl) (by kernel_rfl) rfl
  (fun hg hd=>by
   subst hg
   match ds,hd with
   | [d0,d1],_=>rfl) hval hW hw0 orcL_ok law
open Go.ChangeShapes Go.WideShapes Go.ChangeAt Go.RowKit
theorem own:ownKnob Tryz.prog.godebug=none:=by kernel_rfl
noncomputable def laidWorld (os:Go.Os):World:={ World.holding Tryz.prog os ⟨#[],#[.agg #[.slice none 0 0,.slice none 0 0,.slice none 0 0],.slice none 0 0],[]⟩ with heap:=((((((World.holding Tryz.prog os ⟨#[],#[.agg #[.slice none 0 0,.slice none 0 0,.slice none 0 0],.slice none 0 0],[]⟩).heap).modify 3 (fun|.cells _ t frozen=>.cells cells3.toArray t frozen|o=>o)).modify 0 (fun|.cells _ t frozen=>.cells cells0.toArray t frozen|o=>o)).modify 1 (fun|.cells _ t frozen=>.cells cells1.toArray t frozen|o=>o)).modify 2 (fun|.cells _ t frozen=>.cells cells2.toArray t frozen|o=>o)) }
theorem laid_met (os:Go.Os):laidMet Tryz.prog Rows.elideAllRow.laid ((laidWorld os).forCall (fun _ _=>0) ⟨#[],#[.agg #[.slice none 0 0,.slice none 0 0,.slice none 0 0],.slice none 0 0],[]⟩).memory:=
 laidMet_of_run' 8 (by kernel_rfl) (by kernel_rfl)
theorem reads (os:Go.Os) {H:Type} (enc:TypeId×Value→H):∃ places,DataW.whole enc Tryz.prog ((laidWorld os).forCall (fun _ _=>0) ⟨#[],#[.agg #[.slice none 0 0,.slice none 0 0,.slice none 0 0],.slice none 0 0],[]⟩).memory Tryz.f3.params.toList Rows.elideAllSpec.vars false (#[.agg #[.slice none 0 0,.slice none 0 0,.slice none 0 0],.slice none 0 0]:Array Value).toList 8=some ([.agg [.nil,.nil,.nil],.nil],[],places):=
 ⟨[],by kernel_rfl⟩
theorem lifted (os:Go.Os) (started:os.Started) (H:Type) (enc:TypeId×Value→H) (F:Stop.Interp) :
  ReturnsInHanded {} Tryz.checked os 3 .any ((OpenSpec.ofChange Rows.elideAllSpec).preRow enc Tryz.prog Tryz.f3 Rows.elideAllRow.domain false Rows.elideAllRow.laid) (((OpenSpec.ofChange Rows.elideAllSpec).at F).post enc Tryz.prog Tryz.f3 false true false false):=by
 obtain ⟨places,hx⟩:=reads os enc
 refine returnsInHanded_of_row (C:=Tryz.checked) (s:=OpenSpec.ofChange Rows.elideAllSpec) own started (by kernel_rfl) Tryz.func3
  (witness_row_at (enc:=enc) (C:=Tryz.checked) false (laidWorld os) #[.agg #[.slice none 0 0,.slice none 0 0,.slice none 0 0],.slice none 0 0] rfl (by kernel_rfl) (by kernel_rfl) (by kernel_rfl)
   (OpenSpec.preRow_of_cond 8 hx (by kernel_rfl) (fun k hk=>by cases hk) (by kernel_rfl) (laid_met os))) ?_
 intro W base args ds gs before hval hW _ _ hwt hL _ _
 refine contract H enc W base args ds gs before hval hW ?_ hL
 have e:Tryz.f3.params.toList++(OpenSpec.ofChange Rows.elideAllSpec).bare.plain.varTypes Tryz.prog=[26,27]:=by kernel_rfl
 have hwt':(DataW.weightsEach Tryz.prog (Tryz.f3.params.toList++(OpenSpec.ofChange Rows.elideAllSpec).bare.plain.varTypes Tryz.prog) (ds++gs)).all (·≤reachBytes)=true:=hwt
 rw [e] at hwt'
 exact weightsEach_left hwt'
theorem said:Rows.ElideAllSaid:=
 OpenClaim.holds_of_cond 3 Tryz.f3 rfl rfl rfl rfl rfl rfl rfl ⟨rfl,rfl,rfl,rfl,rfl⟩ rfl rfl rfl rfl rfl (by kernel_rfl) Tryz.func3 (by kernel_rfl)
  (of_decide_eq_true (by kernel_rfl)) (by unfold Func.isWrapper;first|(rw [if_pos (by decide +kernel)];kernel_rfl)|(rw [if_neg (by decide +kernel)];exact ⟨rfl,rfl⟩))
  (fun os started H enc _ F=>by rw [OpenClaim.pre_eq_preRow];exact lifted os started H enc F)
theorem wants:([26,27].all fun t=>!Tryz.pinned.checked.prog.wantsStandIn t)=true:=by kernel_rfl
theorem standIns (f:FuncId) (fn:Func) (hf:Tryz.pinned.checked.prog.funcNamed "bobbin/bobbinlaw25.ElideAll" = some f) (hfn:Tryz.pinned.checked.prog.funcs[f]?=some fn) :
  false=Tryz.pinned.checked.prog.looks []∧∀ (j:Nat) t,fn.params[j]?=some t→Tryz.pinned.checked.prog.wantsStandIn t=false:=by
 obtain rfl:f=3:=Option.some.inj ((show Tryz.prog.funcNamed "bobbin/bobbinlaw25.ElideAll" = some 3 by kernel_rfl).symm.trans hf) |>.symm
 obtain rfl:fn=Tryz.f3:=(Option.some.inj (Tryz.func3.symm.trans hfn)).symm
 refine ⟨by kernel_rfl,fun j t ht=>?_⟩
 have hm:t∈Tryz.f3.params.toList:=by
  have:=Array.mem_of_getElem? ht
  simpa using this
 rw [show Tryz.f3.params.toList=[26,27] by kernel_rfl] at hm
 simpa using List.all_eq_true.1 wants t hm
theorem card:Rows.ElideAllCardSaid:=
 Claim7.holds_tied_plain_at .later [] _ _ _ _ said (fun _ h=>by cases h) (by kernel_rfl) (fun _ h=>by cases h) elideAll_row_tie rfl ⟨rfl,rfl⟩ (by kernel_rfl) rfl standIns (by kernel_rfl)
end Go.Proofs.YtogomfblfpfjhaaGreatDoor.U.ElideAll
