/-
  Contracts of flow: MayForm.
-/
import Derived.Test.YtjiibfgopanbgaaGreatDoorLaw3
import Derived.Test.YtjiibfgopanbgaaGreatDoorLaw2
import Derived.Test.YtjiibfgopanbgaaGreatDoorEv6
import Derived.Test.YtjiibfgopanbgaaGreatDoorLaw1
set_option linter.all false
namespace Go.Ev
theorem chunk_splice {cs vs:List Value}{n sz i j off:Nat} (hl:cs.length=n*sz) (hi:i<n) (hv:off+vs.length≤sz) :
 ((splice cs (i*sz+off) vs).drop (j*sz)).take sz=if j=i then splice ((cs.drop (i*sz)).take sz) off vs else (cs.drop (j*sz)).take sz:=by
 have hle:(i+1)*sz≤n*sz:=Nat.mul_le_mul_right sz (by omega)
 rw[Nat.add_mul,Nat.one_mul] at hle
 have hf:i*sz+off+vs.length≤cs.length:=by omega
 have hlen:((cs.drop (i*sz)).take sz).length=sz:=by rw[List.length_take,List.length_drop];omega
 apply List.ext_getElem?
 intro k
 by_cases hk:k<sz
 ·rw[List.getElem?_take,if_pos hk,List.getElem?_drop,splice_get hf]
  by_cases e:j=i
  ·subst e
   rw[if_pos rfl,splice_get (by rw[hlen];exact hv)]
   by_cases h:off≤k∧k<off+vs.length
   ·rw[if_pos h,if_pos (by omega),show j*sz+k-(j*sz+off)=k-off by omega]
   ·rw[if_neg h,if_neg (by omega),List.getElem?_take,if_pos hk,List.getElem?_drop]
  ·rw[if_neg e,List.getElem?_take,if_pos hk,List.getElem?_drop]
   have:¬ (i*sz+off≤j*sz+k∧j*sz+k<i*sz+off+vs.length):=by
    rcases Nat.lt_or_gt_of_ne e with h|h
    ·have:=Nat.mul_le_mul_right sz (show j+1≤i by omega)
     rw[Nat.add_mul,Nat.one_mul] at this
     omega
    ·have:=Nat.mul_le_mul_right sz (show i+1≤j by omega)
     rw[Nat.add_mul,Nat.one_mul] at this
     omega
   rw[if_neg this]
 ·rw[List.getElem?_eq_none (by rw[List.length_take];omega)]
  split
  ·rw[List.getElem?_eq_none]
   rw[splice_length (by rw[hlen];exact hv),hlen];omega
  ·rw[List.getElem?_eq_none (by rw[List.length_take];omega)]
theorem OwR.set {α:Type}{e:TypeId}{sz:Nat}{R:Rq α}{B:Av}{H:AH}{n0:Nat}{v:Value}{xs:List α}{o:Option (Nat×Nat)} (hm:MonoF R) (h:OwR e sz R B H n0 v xs o) {i:Nat} (hi:i<xs.length) {x':α}{off:Nat}{vs:List Value} (hne:vs≠[]) (hv:off+vs.length≤sz) (hR:∀ {A H cs},R A H cs xs[i]→R A H (splice cs off vs) x')
  {V:Env}{t:TypeId}{s b:Nat}{z:Value}{te:TI} (ht:V.E t=some ⟨.slice e,s,b,z⟩) (he:V.E e=some te) (hz:te.size=sz) {kd:IntKind} :
  ∃ b off' H',aIndex V.E t v (.int kd i)=some (.pointer (some ⟨b,off',none⟩))∧H.wr b (off'+off) vs=some H'∧OwR e sz R B H' n0 v (xs.set i x') o∧FrX (obs o) (ogs o) H H'∧H'.next=H.next:=by
 obtain⟨cs,h1,h2⟩:=h
 obtain⟨b,off',H',k1,_,k2,k3,k4,k5⟩:=h1.set ht he hz (kd:=kd) (i:=(i:Int)) (by omega) (by omega) hne hv
 refine⟨b,off',H',k1,k2,⟨_,by rw[List.length_set];exact k3,fun j hj=>?_⟩,k4,k5⟩
 have hj':j<xs.length:=by rwa [List.length_set] at hj
 rw[show (i:Int).toNat=i from rfl,chunk_splice h1.1 hi hv,List.getElem_set]
 have hk:FrX (B.and (.of o)).bs (B.and (.of o)).gs H H':=k4.sub (fun b hb=>List.mem_append_right _ hb) (fun b hb=>List.mem_append_right _ hb)
 by_cases e:j=i
 ·subst e
  rw[if_pos rfl,if_pos rfl]
  exact hR (hm.frX hk (h2 j hj'))
 ·rw[if_neg e,if_neg (Ne.symm e)]
  exact hm.frX hk (h2 j hj')
end Go.Ev
namespace Go.For
open Go.Ev
theorem bareK_set {f:Form}{k:Nat} (h:k<f.funs.length):(bareK f k).funs.set k (bareF f.funs[k] f.funs[k].regs)=(bareK f (k+1)).funs:=by
 apply List.ext_getElem
 ·rw[List.length_set,bareK_length,bareK_length]
 ·intro n h1 h2
  rw[bareK_length] at h2
  rw[List.getElem_set,bareK_at (k:=k+1) h2]
  by_cases e:k=n
  ·subst e;rw[if_pos rfl,if_pos (by omega)]
  ·rw[if_neg e,bareK_at (k:=k) h2]
   by_cases hn:n<k
   ·rw[if_pos hn,if_pos (by omega)]
   ·rw[if_neg hn,if_neg (by omega)]
end Go.For
namespace Go.Proofs.YtjiibfgopanbgaaGreatDoor.U
open Go Go.Ev
section
attribute [local irreducible] WL WP WH W
theorem numG_congr {p q:Prog}{f:Fun}{k:Int}{i:Ins} (hm:p.mems.length=q.mems.length) (hl:p.locks.length=q.locks.length) (hf:p.funs.length=q.funs.length) (h:∀ j (h1:j<p.funs.length) (h2:j<q.funs.length),p.funs[j].thread=q.funs[j].thread∧p.funs[j].params=q.funs[j].params):numG p f k i=numG q f k i:=by
 unfold numG
 rw[hm,hl,hf]
 by_cases hj:i.n.toNat<p.funs.length
 ·rw[List.getElem?_eq_getElem hj,List.getElem?_eq_getElem (hf ▸ hj)]
  obtain⟨e1,e2⟩:=h _ hj (hf ▸ hj)
  simp only[e1,e2]
 ·rw[List.getElem?_eq_none (by omega),List.getElem?_eq_none (by omega)]
theorem mayG_bareK {f:For.Form}{k:Nat}{g:Fun}{i:Ins}:mayG (For.bareK f k) g i=mayG (For.bareP f) g i:=by
 unfold mayG
 rw[numG_congr (p:=For.bareK f k) (q:=For.bareP f) rfl rfl (by rw[For.bareK_length];simp[For.bareP]) fun j h1 h2=>by
  rw[For.bareK_length] at h1
  have h3:(For.bareP f).funs[j]=(For.bareK f 0).funs[j]'(by rw[For.bareK_length];exact h1):=rfl
  rw[For.bareK_at h1,h3,For.bareK_at h1]
  exact⟨rfl,rfl⟩]
attribute [local irreducible] V
variable {O:Orc}{H:AH}
theorem mayFormQ_c (hO:NoO O) (hgh:GH H) {A C:Av}{p:Prog}{vm vl vf:Value}{b1 b2 k:Nat} (hk:k<p.funs.length) (hp:PrR A H vm vl vf p) (h1:Bx H b1 74 [vm,vl,vf]) (h2:Bx H b2 3 [.int .i64 k]) {i:Ins}{cs:List Value} (hR:InsR C H cs i) (hL:i.args.length≤100000) (hop:0≤i.op∧i.op<256) :
  ∃ u H',Lc V O F_flow_MayForm_q1 [.agg cs.toArray,.pointer (some ⟨b1,0,none⟩),.pointer (some ⟨b2,0,none⟩)] H u H'∧(u=.bool (!mayG p p.funs[k] i)∧Fr H H'):=by
 obtain⟨va,rfl,hva⟩:=hR
 refine Lc.flow_MayForm_q1 (hO _ _ _ (by decide)) ?_
 unfold P_flow_MayForm_q1
 apply zSeq
 apply zReg
 refine zBox rfl (fun _=>rfl) fun H1 f1 b3 n1=>?_
 have b3':Bx H1 H.next 47 (i.cells va):=b3
 have b2':=h2.fr f1
 have hp1:=hp.fr f1
 obtain⟨_,H2,hc2,rfl,f2⟩:=codeMayIns2_c (H:=H1) hO (hgh.fr f1) hk hp1.m hp1.l hp1.f (hva.fr f1) hL hop
 repeat first|apply zSeq|apply zReg|refine wN ?_|refine wA ?_
 refine zLd rfl ((h1.fr f1).lN E_Prog te_Prog_agg te_Prog_size) ?_
 repeat first|refine wB E_int ?_
 refine zLd rfl (b3'.lN E_Ins te_Ins_agg te_Ins_size) ?_
 refine WL.call rfl rfl fp_code_MayIns.is hc2 ?_
 repeat first|refine wN ?_|refine wZ ?_
 exact WP.ret ⟨.inr rfl,_,rfl,rfl,f1.trans f2⟩
theorem SmallFm.bareF {f:For.Form} (h:SmallFm f):∀ x∈(For.bareP f).funs,SmallF x:=fun x hx=>by
 simp only[For.bareP,List.mem_map] at hx
 obtain⟨g,_,rfl⟩:=hx
 refine⟨by simp[For.bareF],fun i hi=>?_,fun i hi=>?_⟩<;>simp[For.bareF,For.jumpI] at hi<;>subst hi<;>simp
set_option maxHeartbeats 8000000 in
theorem mayForm_c (hO:NoO O) (hK:KnL O) (hgh:GH H) (hgn:GN H) {A:Av}{f:For.Form}{vm vl vf:Value} (hf:FmR A H vm vl vf f) (hs:SmallFm f) :
  ∃ u H',Lc V O F_flow_MayForm [.agg #[vm,vl,vf]] H u H'∧(u=.bool (For.may mayG mi f)∧Fr H H'):=by
 refine Lc.flow_MayForm (hO _ _ _ (by decide)) ?_
 unfold P_flow_MayForm
 have hsn:=hs.funs
 have hlen1:=fun Hz=>hf.f.len (V:=V) (H2:=Hz) E_s_api_Graph
 apply zSeq
 apply zReg
 refine zBox rfl (fun _=>rfl) fun H1 f1 b1 n1=>?_
 have b1':Bx H1 H.next 29 [vm,vl,vf]:=b1
 obtain⟨_,H2,hc2,bv,o,rfl,how,f2⟩:=flowBare_c (H:=H1) hO (hf.fr f1) hs
 have f12:=f1.trans f2
 have b12:=b1'.fr f2
 have hyo:=how.young
 have hnb:∀ b∈obs o,b∉(Av.old H1.next).bs:=fun b hb hb2=>by have:=hyo.1 b hb;simp[Av.old] at hb2;omega
 have hng:∀ b∈ogs o,b∉(Av.old H1.next).gs:=fun b hb hb2=>by have:=hyo.2.1 b hb;simp[Av.old] at hb2;omega
 have hel:=how.els FunR.m hnb hng
 have hfo:FmR (.of o) H vm vl vf f:=hf.gr ⟨fun b hb=>.inr (by have:=hyo.1 b hb;have:=f1.1;omega),fun b hb=>.inr (by have:=hyo.2.1 b hb;have:=f1.1;omega)⟩
 have hone:=hel.oneCell
 have hp2:PrR .no H2 vm vl bv (For.bareP f):=⟨(hf.m.fr MemR.m f12).gr MemR.m .no,(hf.l.fr StrR.m f12).gr StrR.m .no,hel.gr FunR.m .no⟩
 have hlen2:=fun Hz=>hel.len (V:=V) (H2:=Hz) E_s_api_Fun
 clear b1
 repeat first|apply zSeq|apply zReg|refine wN ?_|refine wA ?_
 refine zLd rfl (b1'.lN E_Form te_Form_agg te_Form_size) ?_
 refine WL.call rfl rfl fp_flow_bare.is hc2 ?_
 skip
 refine zAlc E_Prog zeroProg fun H3 f3 b3 n3=>?_
 refine zStB b3 rfl rfl E_Prog (by rw[te_Prog_size];rfl) (PrR.one hp2) (by simp[Value.cells]) (by simp[Value.cells]) fun H4 f4 b4 n4=>?_
 have b4':Bx H4 H2.next 74 [vm,vl,bv]:=b4
 have f24:Fr H2 H4:=f3.young f4 (by simp) (by simp)
 have f04:=f12.trans f24
 have b14:=b12.fr f24
 have how4:=how.fr FunR.m f24
 have hn2:H2.next<H4.next:=b4'.1
 have hn12:=f2.1
 have hn01:=f1.1
 obtain⟨_,H5,hc5,rfl,f5⟩:=codeMay_c (H:=H4) hO hK (hgh.fr f04) (hgn.fr f04) (hp2.fr f24) hs.p hs.bareF
 have f05:=f04.trans f5
 have b15:=b14.fr f5
 have b5':=b4'.fr f5
 have how5:=how4.fr FunR.m f5
 clear b1' b12 b3 b4 f3 f4 how how4 hel b14
 repeat first|apply zSeq|apply zReg|refine wN ?_
 refine zLd rfl (b4'.lN E_Prog te_Prog_agg te_Prog_size) ?_
 refine WL.call rfl rfl fp_code_May.is hc5 ?_
 cases c0:For.mayP mayG (For.bareP f)
 ·repeat first|apply zSeq|apply zReg|refine wN ?_|refine wA ?_|refine wZ ?_|refine wt ?_
  refine WP.ret ⟨.inr rfl,_,rfl,?_,f05⟩
  unfold For.may;rw[c0];rfl
 have hmay:For.may mayG mi f=f.funs.all (For.funOk mayG mi f):=by unfold For.may;rw[c0];rfl
 rw[hmay]
 repeat first|apply zSeq|apply zReg|apply zBlk|apply zSkp|refine wN ?_|refine wM ?_|refine wZ ?_|refine wf ?_|refine wD O_Form_Funs ?_|refine wB E_s_api_Graph ?_|refine wK (hlen1 _) ?_
 refine WP.loopH (σ:=Nat) (fun k=>[(1,.pointer (some ⟨H.next,0,none⟩)),(3,.pointer (some ⟨H2.next,0,none⟩)),(14,vf),(15,.int .i64 f.funs.length),(16,.int .i64 k)]) (fun k Hc=>FrX (obs o) (ogs o) H5 Hc∧Fr H1 Hc∧Bx Hc H2.next 74 [vm,vl,bv]∧OwR 78 5 FunR (.old H1.next) Hc H1.next bv (For.bareK f k).funs o∧k≤f.funs.length∧∀ j (h:j<f.funs.length),j<k→For.funOk mayG mi f f.funs[j]=true) (fun k=>f.funs.length-k) 0 ⟨.refl _ _ _,(f2.trans f24).trans f5,b5',how5,Nat.zero_le _,fun j _ h=>absurd h (by omega)⟩ ⟨rfl,rfl,rfl,rfl,rfl,trivial⟩ ?_
 rintro k Hc ⟨hfr,hf1,hbx,how,hk,hpre⟩
 rcases Nat.lt_or_ge k f.funs.length with h|h
 case inr=>
  have g1:decide ((k:Int)<f.funs.length)=false:=dF
  repeat first|apply zSeq|apply zReg|apply zExt|refine wN ?_|refine wA ?_|refine wL ?_|refine wE ?_
  refine WP.ret ⟨.inr rfl,_,rfl,?_,f1.trans hf1⟩
  have:f.funs.all (For.funOk mayG mi f)=true:=by
   rw[List.all_eq_true]
   intro x hx
   obtain⟨j,hj,rfl⟩:=List.mem_iff_getElem.1 hx
   exact hpre j hj (by omega)
  rw[this];rfl
 have g1:decide ((k:Int)<f.funs.length)=true:=dT
 have bad:For.funOk mayG mi f f.funs[k]=false→f.funs.all (For.funOk mayG mi f)=false:=fun hb=>by
  rw[List.all_eq_false]
  exact⟨f.funs[k],List.getElem_mem _,by rw[hb];decide⟩
 have f0c:=f1.trans hf1
 obtain⟨b,off,cs,ha1,hrd,hgr⟩:=(hfo.f.fr GraphR.m f0c).at E_s_api_Graph E_Graph te_Graph_size (kd:=.i64) h
 have hl1:=hrd.loadN (V:=V) E_Graph te_Graph_agg te_Graph_size
 have hsg:=hs.gs f.funs[k] (List.getElem_mem _)
 have hsa:=hs.args f.funs[k] (List.getElem_mem _)
 have hso:=hs.op f.funs[k] (List.getElem_mem _)
 have hgr0:=hgr
 obtain⟨vb,rfl,hbl⟩:=hgr
 have hv1:=hbl.oneCell
 repeat first|apply zSeq|apply zReg|apply zBlk|apply zSkp|refine wN ?_|refine wG ?_|refine wL ?_|refine wT ?_|refine wI ?_|refine wY ?_
 refine zAlc E_int rfl fun H6 f6 b6 n6=>?_
 refine zAlc E_Graph zeroGraph fun H7 f7 b7 n7=>?_
 have b6':=b6.fr f7
 refine zStB b6' rfl rfl E_int rfl rfl (by simp[Value.cells]) (by simp[Value.cells]) fun H8 f8 b8 n8=>?_
 have b8n:Bx H8 Hc.next 3 [.int .i64 k]:=b8
 have b78:=b7.frX f8 (by simp;omega)
 refine zStB b78 rfl rfl E_Graph (by rw[te_Graph_size];rfl) (by simp[Value.cells,Value.oneCell'] at hv1 ⊢;exact hv1) (by simp[Value.cells]) (by simp[Value.cells]) fun H9 f9 b9 n9=>?_
 have b9g:Bx H9 H6.next 24 (graphC f.funs[k] vb):=b9
 have b9n:=b8n.frX f9 (by simp;omega)
 have fc9:Fr Hc H9:=((f6.trans f7).young f8 (by simp) (by simp)).young f9 (by simp;omega) (by simp)
 clear b6 b6' b7 b8 b78 b9 b8n f6 f7 f8 f9
 have f09:=f0c.trans fc9
 obtain⟨_,Ha,hca,rfl,fa⟩:=may_c (H:=H9) hO (hgh.fr f09) (GraphR.m.fr hgr0 fc9) hsg hso
 have fca:=fc9.trans fa
 have f0a:=f09.trans fa
 have bag:=b9g.fr fa
 have ban:=b9n.fr fa
 have bap:=hbx.fr fca
 have howa:=how.fr FunR.m fca
 have hn9:=fca.1
 have hnc:=hfr.1
 repeat first|apply zSeq|apply zReg|refine wN ?_
 refine zLd rfl (b9g.lN E_Graph te_Graph_agg te_Graph_size) ?_
 refine WL.call rfl rfl fp_flow_May.is hca ?_
 cases c1:Flo.may mi f.funs[k]
 ·repeat first|apply zSeq|apply zReg|refine wN ?_|refine wA ?_|refine wZ ?_|refine wt ?_
  refine WP.ret ⟨.inr rfl,_,rfl,?_,f0a⟩
  rw[bad (by unfold For.funOk;rw[c1];rfl)];rfl
 obtain⟨bw,ow,Hw,w1,w2,w3,w4,w5⟩:=howa.set (V:=V) (i:=k) (x':=For.bareF f.funs[k] f.funs[k].regs) (off:=3) (vs:=[.int .i64 f.funs[k].regs]) FunR.m (by rw[For.bareK_length];exact h) (by simp) (by simp) (fun {A H cs} hR=>by
  rw[For.bareK_at h] at hR
  obtain⟨vc,rfl,hc⟩:=hR
  exact⟨vc,rfl,hc⟩) E_s_api_Fun E_Fun te_Fun_size (kd:=.i64)
 rw[For.bareK_set h] at w3
 have hyw:=w3.young
 have hbxn:H2.next∉obs o:=fun hb=>by have:=hyo.2.2.1 _ hb;omega
 have bwg:Bx Hw H6.next 24 (graphC f.funs[k] vb):=bag.frX w4 (fun hb=>by have:=hyo.2.2.1 _ hb;have:=hfr.1;have:=f5.1;omega)
 have bwn:Bx Hw Hc.next 3 [.int .i64 k]:=ban.frX w4 (fun hb=>by have:=hyo.2.2.1 _ hb;have:=hfr.1;have:=f5.1;omega)
 have bwp:Bx Hw H2.next 74 [vm,vl,bv]:=bap.frX w4 hbxn
 have f1w:Fr H1 Hw:=(hf1.trans fca).young w4 hyw.1 hyw.2.1
 have f0w:=f1.trans f1w
 have bwg':Bx Hw H6.next 24 [.string f.funs[k].name,.bool f.funs[k].thread,.int .i64 f.funs[k].params,.int .i64 f.funs[k].regs,vb]:=bwg
 have bag':Bx Ha H6.next 24 [.string f.funs[k].name,.bool f.funs[k].thread,.int .i64 f.funs[k].params,.int .i64 f.funs[k].regs,vb]:=bag
 repeat first|apply zSeq|apply zReg|apply zSkp|refine wN ?_|refine wZ ?_|refine wf ?_|refine wD O_Graph_Regs ?_|refine wD O_Fun_Regs ?_|refine wD O_Prog_Funs ?_|refine wB E_int ?_|refine wB E_s_api_Fun ?_|refine wI ?_
 refine WL.op (op_store rfl rfl E_int rfl rfl w2) ?_
 have hblw:Els 4 BlockR (.of o) Hw vb f.funs[k].blocks:=(hbl.fr BlockR.m fca).frX BlockR.m w4
 have helw:=w3.els FunR.m hnb hng
 have hpw:PrR .no Hw vm vl bv (For.bareK f (k+1)):=⟨(hf.m.fr MemR.m f0w).gr MemR.m .no,(hf.l.fr StrR.m f0w).gr StrR.m .no,helw.gr FunR.m .no⟩
 have hkw:k<(For.bareK f (k+1)).funs.length:=by rw[For.bareK_length];exact h
 have hmg:∀ i,mayG (For.bareK f (k+1)) (For.bareK f (k+1)).funs[k] i=mayG (For.bareP f) (For.bareF f.funs[k] f.funs[k].regs) i:=fun i=>by
  rw[mayG_bareK,For.bareK_at h,if_pos (by omega)]
 have hlen3:=fun Hz=>hblw.len (V:=V) (H2:=Hz) E_s_api_Block
 have hfk:For.funOk mayG mi f f.funs[k]=f.funs[k].blocks.all fun b=>b.code.all (mayG (For.bareP f) (For.bareF f.funs[k] f.funs[k].regs)):=by unfold For.funOk;rw[c1];rfl
 have hfrw:FrX (obs o) (ogs o) H5 Hw:=(hfr.trans (fca.x [] []) (by simp) (by simp)).trans w4 (fun b hb _=>hb) (fun b hb _=>hb)
 have hnb:=hsg.nb
 clear howa how w1 w2 ban bap bag bag' b9g b9n hca helw
 repeat first|apply zSeq|apply zReg|apply zBlk|refine wN ?_|refine wM ?_|refine wD O_Graph_Blocks ?_|refine wB E_s_api_Block ?_|refine wK (hlen3 _) ?_
 refine WP.loopH (σ:=Nat) (fun j=>[(1,.pointer (some ⟨H.next,0,none⟩)),(3,.pointer (some ⟨H2.next,0,none⟩)),(4,.pointer (some ⟨Hc.next,0,none⟩)),(14,vf),(15,.int .i64 f.funs.length),(16,.int .i64 k),(32,vb),(33,.int .i64 f.funs[k].blocks.length),(34,.int .i64 j)]) (fun j Hd=>Fr Hw Hd∧j≤f.funs[k].blocks.length∧∀ n (h:n<f.funs[k].blocks.length),n<j→f.funs[k].blocks[n].code.all (mayG (For.bareP f) (For.bareF f.funs[k] f.funs[k].regs))=true) (fun j=>f.funs[k].blocks.length-j) 0 ⟨.refl _,Nat.zero_le _,fun n _ h=>absurd h (by omega)⟩ ⟨rfl,rfl,rfl,rfl,rfl,rfl,rfl,rfl,rfl,trivial⟩ ?_
 rintro j Hd ⟨fwd,hj,hpj⟩
 have f0d:=f0w.trans fwd
 rcases Nat.lt_or_ge j f.funs[k].blocks.length with h2|h2
 case inr=>
  have g2:decide ((j:Int)<f.funs[k].blocks.length)=false:=dF
  have hok:For.funOk mayG mi f f.funs[k]=true:=by
   rw[hfk,List.all_eq_true]
   intro x hx
   obtain⟨n,hn,rfl⟩:=List.mem_iff_getElem.1 hx
   exact hpj n hn (by omega)
  repeat first|apply zSeq|apply zReg|apply zExt|refine wN ?_|refine wL ?_|refine wS ?_|refine wE ?_
  refine⟨k+1,⟨hfrw.trans (fwd.x [] []) (by simp) (by simp),f1w.trans fwd,bwp.fr fwd,w3.fr FunR.m fwd,h,fun n hn hnk=>?_⟩,by omega,rfl,rfl,rfl,rfl,rfl,trivial⟩
  by_cases e:n=k
  ·subst e;exact hok
  ·exact hpre n hn (by omega)
 have g2:decide ((j:Int)<f.funs[k].blocks.length)=true:=dT
 obtain⟨b2,off2,cs2,ha2,hrd2,hR2⟩:=(hblw.fr BlockR.m fwd).at E_s_api_Block E_Block te_Block_size (kd:=.i64) h2
 have hl2:=hrd2.loadN (V:=V) E_Block te_Block_agg te_Block_size
 have hone2:=(BlockR.one hR2).1
 have hlen2':=(BlockR.one hR2).2
 obtain⟨vp,vc,vfr,vto,rfl,hP,hC,hF,hT⟩:=hR2
 have hsa2:=hsa f.funs[k].blocks[j] (List.getElem_mem _)
 have hso2:=hso f.funs[k].blocks[j] (List.getElem_mem _)
 have hsc2:=hsg.code f.funs[k].blocks[j] (List.getElem_mem _)
 repeat first|apply zSeq|apply zReg|apply zBlk|apply zSkp|refine wN ?_|refine wL ?_|refine wT ?_|refine wI ?_|refine wY ?_
 refine zAlc E_Block zero34 fun He fe be ne=>?_
 refine zStB be rfl rfl E_Block (by rw[te_Block_size];rfl) (by simpa[Value.cells] using hone2) (by simp[Value.cells]) (by simp[Value.cells]) fun Hg fg bg ng=>?_
 have bg':Bx Hg Hd.next 45 [vp,vc,vfr,vto]:=bg
 have fdg:Fr Hd Hg:=fe.young fg (by simp) (by simp)
 have f0g:=f0d.trans fdg
 have fwg:=fwd.trans fdg
 obtain⟨Hi,hci,fi⟩:=containsFunc_ins_c (H:=Hg) (f:=42) (cap:=#[.pointer (some ⟨H2.next,0,none⟩),.pointer (some ⟨Hc.next,0,none⟩)]) (p:=fun i=>!mayG (For.bareP f) (For.bareF f.funs[k] f.funs[k].regs) i) hO (hC.fr InsR.m fdg) hsc2 (by rw[fn_flow_MayForm_q1];rfl) (fun x hx cs Hx fx hR=>by
  obtain⟨_,Hy,h,rfl,fy⟩:=mayFormQ_c (H:=Hx) hO (hgh.fr (f0g.trans fx)) hkw (hpw.fr (fwg.trans fx)) (bwp.fr (fwg.trans fx)) (bwn.fr (fwg.trans fx)) hR (hsa2 x hx) (hso2 x hx)
  rw[hmg] at h
  exact⟨Hy,h,fy⟩)
 rw[any_not] at hci
 repeat first|apply zSeq|apply zReg|refine wN ?_|refine wD O_Block_Code ?_|refine wB E_s_api_Ins ?_
 refine WL.op (v:=.func (.func 42) #[] #[.pointer (some ⟨H2.next,0,none⟩),.pointer (some ⟨Hc.next,0,none⟩)]) (H1:=Hg) rfl ?_
 refine WL.call rfl rfl fp_slices_ContainsFunc_s_api_Ins_api_Ins.is hci ?_
 cases c3:f.funs[k].blocks[j].code.all (mayG (For.bareP f) (For.bareF f.funs[k] f.funs[k].regs))
 ·repeat first|apply zSeq|apply zReg|refine wN ?_|refine wA ?_|refine wt ?_
  refine WP.ret ⟨.inr rfl,_,rfl,?_,f0g.trans fi⟩
  rw[bad (by
   rw[hfk,List.all_eq_false]
   exact⟨_,List.getElem_mem h2,by rw[c3];decide⟩)]
  rfl
 ·repeat first|apply zReg|apply zSkp|refine wN ?_|refine wS ?_|refine wf ?_
  refine⟨j+1,⟨fwg.trans fi,h2,fun n hn hnj=>?_⟩,by omega,rfl,rfl,rfl,rfl,rfl,rfl,rfl,rfl,rfl,trivial⟩
  by_cases e:n=j
  ·subst e;exact c3
  ·exact hpj n hn (by omega)
end
end Go.Proofs.YtjiibfgopanbgaaGreatDoor.U
namespace Go.Ev
theorem OwE.sr {H:AH}{n0:Nat}{e:TypeId}{sz n:Nat}{v:Value}{cs:List Value}{o:Option (Nat×Nat)}{A:Av} (h:OwE H n0 e sz v n cs o) (hA:A.Lt n0):Sr A H v sz n cs:=by
 rcases h with ⟨k1,k2,⟨k3,k4,_⟩|⟨b,g,rfl,k4,k5,k6,k7,k8,k9,_⟩⟩|⟨rfl,rfl,b,rfl,hb,rfl,hbx⟩
 ·exact⟨k1,.inl ⟨k3,k4⟩⟩
 ·exact⟨k1,.inr ⟨b,0,unk,k8,fun _=>⟨fun h=>by have:=hA.1 b h;omega,e,cs,.loose,g,_,k6,k9,.inr (.inr ⟨k7,fun h=>by have:=hA.2 g h;omega,rfl⟩),by omega,by rw[←k1];simp⟩⟩⟩
 ·exact⟨by simp,.inr ⟨b,0,0,rfl,fun h=>absurd h (by simp)⟩⟩
end Go.Ev
namespace Go.Proofs.YtjiibfgopanbgaaGreatDoor.U
open Go Go.Ev
section
attribute [local irreducible] WL WP WH W
theorem nil_nilM:aBin V.P V.E .eql 25 (.tmp 0) (.const (.slice none 0 0)) (.slice none 0 0) (.slice none 0 0)=some (.bool true):=by kernel_rfl
theorem elFill0:afill (fun i=>some (i*te_Mem.size,te_Mem.size)) (azeros te_Mem.zv.cells.toList 0) []=some []:=by simp[afill,azeros]
attribute [local irreducible] V
variable {O:Orc}{H:AH}
theorem op_eqNilM {g:Ft}{x y:Operand}{b off n c:Nat} (hx:g x=some (.slice (some ⟨b,off,none⟩) n c)) (hy:g y=some (.slice none 0 0)):aopG V g H (.binOp .eql 25 x y 25)=some (.bool false,H):=by
 simp only[aopG,hx,hy,aBin,E_s_api_Mem,nilRes,Option.map_some]
theorem op_nilNilM {g:Ft} (hx:g (.tmp 0)=some (.slice none 0 0)) (hy:g (.const (.slice none 0 0))=some (.slice none 0 0)):aopG V g H (.binOp .eql 25 (.tmp 0) (.const (.slice none 0 0)) 25)=some (.bool true,H):=by
 simp only[aopG,hx,hy,nil_nilM,Option.map_some]
theorem cloneMem_c (hO:NoO O) {A:Av}{v:Value}{l:List Ev.Mem} (hv:Els 3 MemR A H v l) (hL:l.length≤100000) :
  ∃ u H',Lc V O F_slices_Clone_s_api_Mem_api_Mem [v] H u H'∧(Fr H H'∧∃ a n c,u=.slice a n c∧∀ B:Av,B.Lt H.next→Els 3 MemR B H' (.slice a n c) l):=by
 refine Lc.slices_Clone_s_api_Mem_api_Mem (hO _ _ _ (by decide)) ?_
 unfold P_slices_Clone_s_api_Mem_api_Mem
 obtain⟨cs,hs,hR⟩:=hv
 have hone:=all_chunks hs.1 (by decide) fun i hi=>(MemR.one (hR i hi)).1
 obtain⟨hc,⟨rfl,hn⟩|⟨b,off,cap,rfl,hr⟩⟩:=hs
 ·have hl:l=[]:=List.length_eq_zero_iff.1 hn
  subst hl
  repeat first|apply zSeq|apply zReg|refine wN ?_|refine wG ?_|refine wA ?_
  refine WL.op (op_nilNilM rfl rfl) ?_
  repeat first|apply zSeq|apply zReg|refine wN ?_|refine wA ?_|refine wt ?_
  exact WP.ret ⟨.inr rfl,_,rfl,.refl _,_,_,_,rfl,fun B _=>.nil⟩
 ·have hv:Sr A H (.slice (some ⟨b,off,none⟩) l.length cap) 3 l.length cs:=⟨hc,.inr ⟨b,off,cap,rfl,hr⟩⟩
  have f5:=Fr.alloc H (.row 60 [] .exact 0 0)
  have w5:OwE (H.alloc (.row 60 [] .exact 0 0)) H.next 60 3 (.slice (some ⟨H.next,0,none⟩) 0 0) 0 [] (some (H.next,H.next)):=.new (Nat.le_refl _)
  obtain⟨v',H',o',k1,k2,k3,k4⟩:=w5.appSl (V:=V) ((hv.fr f5).sl (by omega)) (by decide) (bytes:=32) (by omega) (by omega) f5.1 hone E_s_api_Mem E_s_api_Mem E_Mem te_Mem_size te_Mem_bytes
  rw[Nat.zero_add,List.nil_append] at k2
  repeat first|apply zSeq|apply zReg|refine wN ?_|refine wG ?_|refine wA ?_
  refine WL.op (op_eqNilM rfl rfl) ?_
  repeat first|apply zSeq|apply zReg|apply zSkp|refine wN ?_|refine wf ?_
  refine WL.op (op_buildSlice rfl E_s_api_Mem E_Mem (by rw[te_Mem_size];decide) elFill0) ?_
  repeat first|refine wG ?_
  refine WL.op (k1 rfl rfl) ?_
  repeat first|refine wN ?_
  obtain⟨a',n',c',rfl⟩:=(k2.sr (A:=.no) .no).isSl
  exact WP.ret ⟨.inr rfl,_,rfl,f5.young k3 w5.young.1 w5.young.2.1,_,_,_,rfl,fun B hB=>⟨cs,k2.sr hB,fun i hi=>hR i hi⟩⟩
theorem cloneStrE_c (hO:NoO O) {A:Av}{v:Value}{l:List ByteArray} (hv:Els 1 StrR A H v l) (hL:l.length≤100000) :
  ∃ u H',Lc V O F_slices_Clone_s_string_string [v] H u H'∧(Fr H H'∧∃ a n c,u=.slice a n c∧∀ B:Av,B.Lt H.next→Els 1 StrR B H' (.slice a n c) l):=by
 refine Lc.slices_Clone_s_string_string (hO _ _ _ (by decide)) ?_
 unfold P_slices_Clone_s_string_string
 obtain⟨cs,hs,hR⟩:=hv
 have hone:=all_chunks hs.1 (by decide) fun i hi=>(StrR.one (hR i hi)).1
 obtain⟨hc,⟨rfl,hn⟩|⟨b,off,cap,rfl,hr⟩⟩:=hs
 ·have hl:l=[]:=List.length_eq_zero_iff.1 hn
  subst hl
  repeat first|apply zSeq|apply zReg|refine wN ?_|refine wG ?_|refine wA ?_
  refine WL.op (op_nilNilS rfl rfl) ?_
  repeat first|apply zSeq|apply zReg|refine wN ?_|refine wA ?_|refine wt ?_
  exact WP.ret ⟨.inr rfl,_,rfl,.refl _,_,_,_,rfl,fun B _=>.nil⟩
 ·have hv:Sr A H (.slice (some ⟨b,off,none⟩) l.length cap) 1 l.length cs:=⟨hc,.inr ⟨b,off,cap,rfl,hr⟩⟩
  have f5:=Fr.alloc H (.row 9 [] .exact 0 0)
  have w5:OwE (H.alloc (.row 9 [] .exact 0 0)) H.next 9 1 (.slice (some ⟨H.next,0,none⟩) 0 0) 0 [] (some (H.next,H.next)):=.new (Nat.le_refl _)
  obtain⟨v',H',o',k1,k2,k3,k4⟩:=w5.appSl (V:=V) ((hv.fr f5).sl (by omega)) (by decide) (bytes:=16) (by omega) (by omega) f5.1 hone E_s_string E_s_string E_string rfl rfl
  rw[Nat.zero_add,List.nil_append] at k2
  repeat first|apply zSeq|apply zReg|refine wN ?_|refine wG ?_|refine wA ?_
  refine WL.op (op_eqNilS rfl rfl) ?_
  repeat first|apply zSeq|apply zReg|apply zSkp|refine wN ?_|refine wf ?_
  refine WL.op (op_buildSlice rfl E_s_string E_string (by decide) rfl) ?_
  repeat first|refine wG ?_
  refine WL.op (k1 rfl rfl) ?_
  repeat first|refine wN ?_
  obtain⟨a',n',c',rfl⟩:=(k2.sr (A:=.no) .no).isSl
  exact WP.ret ⟨.inr rfl,_,rfl,f5.young k3 w5.young.1 w5.young.2.1,_,_,_,rfl,fun B hB=>⟨cs,k2.sr hB,fun i hi=>hR i hi⟩⟩
end
section
attribute [local irreducible] WL WP WH W
theorem mgFm0:te_Form.zv.cells.toList=[.slice none 0 0,.slice none 0 0,.slice none 0 0]:=by kernel_rfl
theorem mgFillGr {a0 a1 a2 a3 a4:Value}:afill (fun i=>some (i*te_Graph.size,te_Graph.size)) (azeros te_Graph.zv.cells.toList 1) [(0,.agg #[a0,a1,a2,a3,a4])]=some [a0,a1,a2,a3,a4]:=by kernel_rfl
theorem mgBuildFm {a1 a2 b1 b2:Nat}{p q:Option Addr}:aBuild V.E 29 [(0,.slice p a1 a2),(1,.slice q b1 b2)]=some (.agg #[.slice p a1 a2,.slice q b1 b2,.slice none 0 0]):=by kernel_rfl
theorem mgBuildFm0:aBuild V.E 29 []=some (.agg #[.slice none 0 0,.slice none 0 0,.slice none 0 0]):=by kernel_rfl
attribute [local irreducible] V
variable {O:Orc}{H:AH}
def okA (f:For.Form):Bool:=For.may mayG mi f&&f.funs.all okG
def outA (f:For.Form):For.Form:=bif okA f then { f with funs:=f.funs.map Mer.graph } else ⟨[],[],[]⟩
def errA (f:For.Form):Int:=bif okA f then 0 else 4
structure SmallA (f:For.Form):Prop where
 fm:SmallFm f
 gs:∀ g∈f.funs,SmallG g
def AllA (H:AH) (f:For.Form) (u:Value) (H':AH):Prop:=
 ∃ vm vl vf,u=.tuple #[.agg #[vm,vl,vf],.int .i64 (errA f)]∧FmR (.old H.next) H' vm vl vf (outA f)∧Fr H H'
theorem AllA.zero {f:For.Form}{H':AH} (he:okA f=false) (k:Fr H H'):AllA H f (.tuple #[.agg #[.slice none 0 0,.slice none 0 0,.slice none 0 0],.int .i64 4]) H':=
 ⟨_,_,_,by rw[errA,he];rfl,by rw[outA,he];exact⟨.nil,.nil,.nil⟩,k⟩
theorem okA_false {f:For.Form}{k:Nat} (h:k<f.funs.length) (hk:okG f.funs[k]=false):okA f=false:=by
 unfold okA
 rw[Bool.and_eq_false_iff]
 refine .inr ?_
 rw[List.all_eq_false]
 exact⟨_,List.getElem_mem h,by rw[hk];decide⟩
theorem okA_true {f:For.Form} (hm:For.may mayG mi f=true) (h:∀ j (h:j<f.funs.length),okG f.funs[j]=true):okA f=true:=by
 unfold okA
 rw[hm,Bool.true_and,List.all_eq_true]
 intro x hx
 obtain⟨j,hj,rfl⟩:=List.mem_iff_getElem.1 hx
 exact h j hj
set_option maxHeartbeats 16000000 in
theorem mall_c (hO:NoO O) (hK:KnL O) (hgh:GH H) (hgn:GN H) (hg:GM H) {A:Av}{f:For.Form}{vm vl vf:Value} (hf:FmR A H vm vl vf f) (hse:SmallA f) :
 ∃ u H',Lc V O F_merge_All [.agg #[vm,vl,vf]] H u H'∧AllA H f u H':=by
 refine Lc.merge_All (hO _ _ _ (by decide)) ?_
 unfold P_merge_All
 have hs:=hse.fm
 have hsn:=hs.funs
 have hsl:=hs.locks
 have hsm:=hs.mems
 obtain⟨am,nm,cm,rfl⟩:∃ a n c,vm=.slice a n c:=let ⟨_,h,_⟩:=hf.m;h.isSl
 obtain⟨al,nl,cl,rfl⟩:∃ a n c,vl=.slice a n c:=let ⟨_,h,_⟩:=hf.l;h.isSl
 obtain⟨af,nf,cf,rfl⟩:∃ a n c,vf=.slice a n c:=let ⟨_,h,_⟩:=hf.f;h.isSl
 have hlen1:=fun Hz=>hf.f.len (V:=V) (H2:=Hz) E_s_api_Graph
 apply zSeq
 apply zReg
 refine zBox rfl (fun _=>rfl) fun H1 f1 b1 n1=>?_
 have b1':Bx H1 H.next 29 [.slice am nm cm,.slice al nl cl,.slice af nf cf]:=b1
 refine zAlc E_Form mgFm0 fun H2 f2 b2 n2=>?_
 have f12:=f1.trans f2
 have b12:=b1'.fr f2
 clear b1 b1'
 obtain⟨_,H3,hc3,rfl,f3⟩:=mayForm_c (H:=H2) hO hK (hgh.fr f12) (hgn.fr f12) (hf.fr f12) hs
 have f13:=f12.trans f3
 have b13:=b12.fr f3
 have b23:=b2.fr f3
 cases hm1:For.may mayG mi f
 ·rw[hm1] at hc3
  repeat first|apply zSeq|apply zReg|refine wN ?_|refine wA ?_
  refine zLd rfl (b12.lN E_Form te_Form_agg te_Form_size) ?_
  refine WL.call rfl rfl fp_flow_MayForm.is hc3 ?_
  repeat first|apply zSeq|apply zReg|refine wN ?_|refine wZ ?_|refine wt ?_
  refine WL.op (op_build rfl mgBuildFm0) ?_
  refine zStB b23 rfl rfl E_Form (by rw[te_Form_size];rfl) rfl (by simp[Value.cells]) (by simp[Value.cells]) fun H5 f5 b5 n5=>?_
  have b5':Bx H5 H1.next 29 [.slice none 0 0,.slice none 0 0,.slice none 0 0]:=b5
  repeat first|refine wN ?_|refine wA ?_
  exact WP.ret ⟨.inr rfl,_,resL_cell rfl (b5'.lN E_Form te_Form_agg te_Form_size) rfl,AllA.zero (by unfold okA;rw[hm1];rfl) (f13.young f5 (by simp;omega) (by simp))⟩
 rw[hm1] at hc3
 repeat first|apply zSeq|apply zReg|refine wN ?_|refine wA ?_
 refine zLd rfl (b12.lN E_Form te_Form_agg te_Form_size) ?_
 refine WL.call rfl rfl fp_flow_MayForm.is hc3 ?_
 repeat first|apply zSeq|apply zSkp|refine wN ?_|refine wZ ?_|refine wf ?_
 refine WP.rega ?_
 refine yFld rfl O_Form_Mems ?_
 refine yLd rfl (b13.ld (off:=0) rfl E_s_api_Mem rfl) ?_
 refine yFld rfl O_Form_Locks ?_
 refine yLd rfl (b13.ld (off:=1) rfl E_s_string rfl) ?_
 refine yAlc E_Form mgFm0 fun H5 f5 b5 n5=>?_
 obtain⟨_,H6,hc6,f6,a6,n6,c6,rfl,hm6⟩:=cloneMem_c (H:=H5) hO ((hf.m.fr MemR.m f13).fr MemR.m f5) (by omega)
 obtain⟨_,H7,hc7,f7,a7,n7,c7,rfl,hl7⟩:=cloneStrE_c (H:=H6) hO (((hf.l.fr StrR.m f13).fr StrR.m f5).fr StrR.m f6) (by omega)
 refine WH.call rfl rfl fp_slices_Clone_s_api_Mem_api_Mem.is hc6 ?_
 refine WH.call rfl rfl fp_slices_Clone_s_string_string.is hc7 ?_
 refine WH.op (op_build rfl mgBuildFm) ?_
 have f57:=f6.trans f7
 have f37:=f5.trans f57
 refine yStB (b5.fr f57) rfl rfl E_Form (by rw[te_Form_size];rfl) rfl (by simp[Value.cells]) (by simp[Value.cells]) fun H8 f8 b8 n8=>?_
 have b8':Bx H8 H3.next 29 [.slice a6 n6 c6,.slice a7 n7 c7,.slice none 0 0]:=b8
 have hn5:=b5.1
 have hn56:=f6.1
 have hn67:=f7.1
 have hn03:=f13.1
 have hn13:=b23.1
 refine WH.nil ⟨?_,_,rfl,?_⟩
 ·intro x hx
  rw[List.mem_singleton] at hx
  subst hx
  exact .inr ⟨rfl,_,_,_,rfl,rfl,op_load rfl (((b13.fr f5).fr f6).ld (off:=1) rfl E_s_string rfl),sameV_sl⟩
 have f18:Fr H H8:=(f13.trans f37).young f8 (by simp;omega) (by simp)
 have b28:=(b23.fr f37).frX f8 (by simp;omega)
 have b18:=(b13.fr f37).frX f8 (by simp;omega)
 have hm8:Els 3 MemR (.old H.next) H8 (.slice a6 n6 c6) f.mems:=(((hm6 (.old H5.next) Av.old_lt).fr MemR.m f7).frX MemR.m (f8.sub (fun b hb=>by simp[Av.old] at hb ⊢;omega) (by simp))).gr MemR.m (Av.old_gr (Av.old_lt.mono (by omega)))
 have hl8:Els 1 StrR (.old H.next) H8 (.slice a7 n7 c7) f.locks:=((hl7 (.old H6.next) Av.old_lt).frX StrR.m (f8.sub (fun b hb=>by simp[Av.old] at hb ⊢;omega) (by simp))).gr StrR.m (Av.old_gr (Av.old_lt.mono (by omega)))
 have hm8':Els 3 MemR (.old H5.next) H8 (.slice a6 n6 c6) f.mems:=((hm6 (.old H5.next) Av.old_lt).fr MemR.m f7).frX MemR.m (f8.sub (fun b hb=>by simp[Av.old] at hb ⊢;omega) (by simp))
 have hl8':Els 1 StrR (.old H5.next) H8 (.slice a7 n7 c7) f.locks:=((hl7 (.old H6.next) Av.old_lt).frX StrR.m (f8.sub (fun b hb=>by simp[Av.old] at hb ⊢;omega) (by simp))).gr StrR.m (Av.old_gr (Av.old_lt.mono (by omega)))
 have hn8:H3.next<H8.next:=b8'.1
 have hBG:∀ {n:Nat},(Av.old H8.next).Gr (.old H.next) n:=Av.old_gr (Av.old_lt.mono (by omega))
 have hBlt:(Av.old H8.next).Lt H8.next:=Av.old_lt
 have hBsub:∀ {Hx Hy:AH}{c:Nat},c<H8.next→FrX [c] [] Hx Hy→FrX (Av.old H8.next).bs (Av.old H8.next).gs Hx Hy:=fun hc h=>h.sub (fun b hb=>by simp[Av.old] at hb ⊢;omega) (by simp)
 have h5sub:∀ {Hx Hy:AH}{c:Nat},c<H5.next→FrX [c] [] Hx Hy→FrX (Av.old H5.next).bs (Av.old H5.next).gs Hx Hy:=fun hc h=>h.sub (fun b hb=>by simp[Av.old] at hb ⊢;omega) (by simp)
 have h5G:∀ {n:Nat},(Av.old H5.next).Gr (.old H.next) n:=Av.old_gr (Av.old_lt.mono (by omega))
 generalize hB:Av.old H8.next=B at *
 clear b8 b5 f8 f7 f6 f5 f57 f37 hc6 hc7 hm6 hl7 hm8 hl8 b13 b23 b12 b2 f3 f12 f13 hc3
 refine WP.seqS (σ:=Value×Option (Nat×Nat)) (fun x=>[(2,.pointer (some ⟨H1.next,0,none⟩)),(4,.pointer (some ⟨H3.next,0,none⟩))]) (fun x Hc=>FrX [H3.next] [] H8 Hc∧Bx Hc H3.next 29 [.slice a6 n6 c6,.slice a7 n7 c7,x.1]∧OwR 24 5 GraphR B Hc H8.next x.1 (f.funs.map Mer.graph) x.2∧okA f=true) ?_ ?_
 ·repeat first|apply zSeq|apply zReg|apply zBlk|refine wN ?_|refine wM ?_|refine wD O_Form_Funs ?_|refine wB E_s_api_Graph ?_|refine wK (hlen1 _) ?_
  refine WP.loopH (σ:=Nat×Value×Option (Nat×Nat)) (fun x=>[(2,.pointer (some ⟨H1.next,0,none⟩)),(4,.pointer (some ⟨H3.next,0,none⟩)),(21,.slice af nf cf),(22,.int .i64 f.funs.length),(23,.int .i64 x.1)]) (fun x Hc=>FrX [H3.next] [] H8 Hc∧Bx Hc H3.next 29 [.slice a6 n6 c6,.slice a7 n7 c7,x.2.1]∧OwR 24 5 GraphR B Hc H8.next x.2.1 ((f.funs.take x.1).map Mer.graph) x.2.2∧x.1≤f.funs.length∧∀ j (h:j<f.funs.length),j<x.1→okG f.funs[j]=true) (fun x=>f.funs.length-x.1) (0,.slice none 0 0,none) ⟨.refl _ _ _,b8',.nil,Nat.zero_le _,fun j _ h=>absurd h (by simp)⟩ ⟨rfl,rfl,rfl,rfl,rfl,trivial⟩ ?_
  rintro⟨k,gv,o⟩ Hc ⟨hfr,hbx,how,hk,hokj⟩
  simp only at hfr hbx how hk hokj ⊢
  have hbc2:=b28.frX hfr (by simp;omega)
  rcases Nat.lt_or_ge k f.funs.length with h|h
  case inr =>
   have g1:decide ((k:Int)<f.funs.length)=false:=dF
   rw[List.take_of_length_le h] at how
   repeat first|apply zSeq|apply zReg|apply zExt|refine wN ?_|refine wL ?_|refine wE ?_
   exact⟨(gv,o),⟨hfr,hbx,how,okA_true hm1 fun j hj=>hokj j hj (by omega)⟩,rfl,rfl,trivial⟩
  have g1:decide ((k:Int)<f.funs.length)=true:=dT
  have frH:Fr H Hc:=f18.young hfr (by simp;omega) (by simp)
  obtain⟨bb,off,cs,ha1,hrd,hRg⟩:=(hf.f.fr GraphR.m frH).at E_s_api_Graph E_Graph te_Graph_size (kd:=.i64) h
  have hl1:=hrd.loadN (V:=V) E_Graph te_Graph_agg te_Graph_size
  have hsg:=hse.gs f.funs[k] (List.getElem_mem _)
  have hopg:=hs.op f.funs[k] (List.getElem_mem _)
  have htk:(f.funs.take (k+1)).map Mer.graph=(f.funs.take k).map Mer.graph++[Mer.graph f.funs[k]]:=by rw[List.take_succ_eq_append_getElem h,List.map_append];rfl
  have hokf:=okA_false (f:=f) h
  have hokn:okG f.funs[k]=true→∀ j (h:j<f.funs.length),j<k+1→okG f.funs[j]=true:=fun e j hj hjk=>by
   rcases Nat.lt_or_ge j k with h1|h1
   ·exact hokj j hj h1
   ·have:j=k:=by omega
    subst this;exact e
  generalize hg0:f.funs[k]=g at *
  have hRg0:=hRg
  obtain⟨vb,rfl,hbl⟩:=hRg
  obtain⟨ab,nb,cb,rfl⟩:∃ a n c,vb=.slice a n c:=let ⟨_,h,_⟩:=hbl;h.isSl
  repeat first|apply zSeq|apply zReg|apply zBlk|apply zSkp|refine wN ?_|refine wL ?_|refine wT ?_|refine wI ?_|refine wY ?_
  refine zAlc E_Graph zero24 fun H9 f9 b9 n9=>?_
  refine zStB b9 rfl rfl E_Graph (by rw[te_Graph_size];rfl) rfl (by simp[Value.cells]) (by simp[Value.cells]) fun Ha fa ba na=>?_
  have ba':Bx Ha Hc.next 24 (graphC g (.slice ab nb cb)):=ba
  have fca:Fr Hc Ha:=f9.young fa (by simp) (by simp)
  clear b9 ba f9 fa
  have frA:=frH.trans fca
  obtain⟨_,Hd,hcd,cs',os,rfl,⟨vb',rfl,hb'⟩,_,_,_,fad⟩:=mofW_c (H:=Ha) hO (hgh.fr frA) (hg.fr frA) (GraphR.m.fr hRg0 fca) hsg hopg
  obtain⟨ad,nd,cd,rfl⟩:∃ a n c,vb'=.slice a n c:=let ⟨_,h,_⟩:=hb';h.isSl
  have fcd:=fca.trans fad
  have frD:=frH.trans fcd
  have hncd:=fcd.1
  have hnca:=fca.1
  have hyo:=how.young
  have hn8c:=hfr.1
  have hbc2d:=hbc2.fr fcd
  repeat first|apply zSeq|apply zReg|refine wN ?_
  refine zLd rfl (ba'.lN E_Graph te_Graph_agg te_Graph_size) ?_
  refine WL.call rfl rfl fp_merge_Of.is hcd ?_
  repeat first|refine zXtr rfl ?_
  refine zAlc E_Graph zero24 fun He fe be ne=>?_
  refine zStB be rfl rfl E_Graph (by rw[te_Graph_size];rfl) rfl (by simp[Value.cells]) (by simp[Value.cells]) fun Hg fg bg ng=>?_
  have bg':Bx Hg Hd.next 24 (graphC (outG g) (.slice ad nd cd)):=bg
  have fdg:Fr Hd Hg:=fe.young fg (by simp) (by simp)
  clear be bg fe fg
  have fcg:=fcd.trans fdg
  have hbc2g:=hbc2d.fr fdg
  cases hok:okG g
  ·have e1:errG g=4:=by rw[errG,hok];rfl
   rw[e1]
   have g2:((4:Int) != 0)=true:=by decide
   repeat first|apply zSeq|apply zReg|refine wN ?_|refine wG ?_|refine wU ?_|refine wt ?_
   refine WL.op (op_build rfl mgBuildFm0) ?_
   repeat first|refine wG ?_
   refine zStB hbc2g rfl rfl E_Form (by rw[te_Form_size];rfl) rfl (by simp[Value.cells]) (by simp[Value.cells]) fun Hx fx bx nx=>?_
   have bx':Bx Hx H1.next 29 [.slice none 0 0,.slice none 0 0,.slice none 0 0]:=bx
   repeat first|refine wN ?_
   exact WP.ret ⟨.inr rfl,_,resL_cell rfl (bx'.lN E_Form te_Form_agg te_Form_size) rfl,AllA.zero (hokf hok) ((frH.trans fcg).young fx (by simp;omega) (by simp))⟩
  ·have e1:errG g=0:=by rw[errG,hok];rfl
   have e2:outG g=Mer.graph g:=by rw[outG,hok];rfl
   rw[e1]
   rw[e2] at hb' bg'
   have g2:((0:Int) != 0)=false:=by decide
   have hbxg:=hbx.fr fcg
   obtain⟨gv',Hi,o',k1,k2,k3,k4,_⟩:=(how.fr GraphR.m fcg).app1 (V:=V) (x:=Mer.graph g) (cx:=graphC (Mer.graph g) (.slice ad nd cd)) GraphR.m (hBlt.mono (by have:=fcg.1;omega)) (GraphR.m.fr (GraphR.m.gr (B:=B.and (.of o)) (Av.old_gr (((hBlt.mono (by omega)).and how.lt).mono (by omega))) ⟨_,rfl,hb'⟩) fdg) GraphR.one (by decide) (bytes:=64) (by rw[List.length_map,List.length_take];omega) (by rw[List.length_map,List.length_take];omega) (by have:=fcg.1;omega) E_s_api_Graph E_s_api_Graph E_Graph te_Graph_size te_Graph_bytes
   have hbxi:=hbxg.frX k3 (fun hb=>by have:=hyo.1 _ hb;omega)
   obtain⟨pa',pn',pc',rfl⟩:=OwR.isSl' k2
   repeat first|apply zSeq|apply zReg|apply zSkp|refine wN ?_|refine wG ?_|refine wU ?_|refine wf ?_|refine wD O_Form_Funs ?_|refine wB E_s_api_Graph ?_
   refine zLd rfl (bg'.lN E_Graph te_Graph_agg te_Graph_size) ?_
   refine WL.op (op_buildSlice rfl E_s_api_Graph E_Graph (by rw[te_Graph_size];decide) mgFillGr) ?_
   refine WL.op (k1 rfl rfl) ?_
   repeat first|refine wD O_Form_Funs ?_
   refine zStB hbxi rfl rfl E_s_api_Graph rfl rfl (by simp[Value.cells]) (by simp[Value.cells]) fun Hx fx bx nx=>?_
   have bx':Bx Hx H3.next 29 [.slice a6 n6 c6,.slice a7 n7 c7,.slice pa' pn' pc']:=bx
   repeat first|apply zReg|refine wN ?_|refine wS ?_
   have hfin:FrX [H3.next] [] H8 Hx:=((hfr.trans (fcg.x [] []) (by simp) (by simp)).trans k3 (fun b hb hlt=>absurd (hyo.1 b hb) (by omega)) (fun b hb hlt=>absurd (hyo.2.1 b hb) (by omega))).trans fx (fun b hb _=>hb) (by simp)
   have hy2:=k2.young
   exact⟨(k+1,.slice pa' pn' pc',o'),⟨hfin,bx',by rw[htk];exact k2.frX GraphR.m (hBsub (by omega) fx) (fun b hb h2=>by have:=hy2.1 b hb;have:=hBlt.1 b h2;omega) (fun b hb h2=>by have:=hy2.2.1 b hb;have:=hBlt.2 b h2;omega),h,hokn hok⟩,by simp only;omega,rfl,rfl,rfl,rfl,rfl,trivial⟩
 ·rintro⟨gv,o⟩ Hp ⟨hfrp,hbxp,howp,hok⟩
  simp only at hfrp hbxp howp ⊢
  have f0p:Fr H Hp:=f18.young hfrp (by simp;omega) (by simp)
  have b2p:=b28.frX hfrp (by simp;omega)
  have hyp:=howp.young
  obtain⟨pa',pn',pc',rfl⟩:=OwR.isSl' howp
  repeat first|apply zSeq|apply zReg
  refine zLd rfl (hbxp.lN E_Form te_Form_agg te_Form_size) ?_
  refine zStB b2p rfl rfl E_Form (by rw[te_Form_size];rfl) rfl (by simp[Value.cells]) (by simp[Value.cells]) fun Hr fr br nr=>?_
  have br':Bx Hr H1.next 29 [.slice a6 n6 c6,.slice a7 n7 c7,.slice pa' pn' pc']:=br
  repeat first|refine wN ?_|refine wA ?_
  have hh1:∀ b∈obs o,b∉B.bs:=fun b hb h2=>by have:=hyp.1 b hb;have:=hBlt.1 b h2;omega
  have hh2:∀ b∈ogs o,b∉B.gs:=fun b hb h2=>by have:=hyp.2.1 b hb;have:=hBlt.2 b h2;omega
  refine WP.ret ⟨.inr rfl,_,resL_cell rfl (br'.lN E_Form te_Form_agg te_Form_size) rfl,_,_,_,by rw[errA,hok];rfl,?_,f0p.young fr (by simp;omega) (by simp)⟩
  rw[outA,hok]
  exact⟨((hm8'.frX MemR.m (h5sub (by omega) hfrp)).frX MemR.m (h5sub (by omega) fr)).gr MemR.m h5G,((hl8'.frX StrR.m (h5sub (by omega) hfrp)).frX StrR.m (h5sub (by omega) fr)).gr StrR.m h5G,((howp.frX GraphR.m (hBsub (by omega) fr) hh1 hh2).els GraphR.m hh1 hh2).gr GraphR.m hBG⟩
end
section
attribute [local irreducible] WL WP WH W
attribute [local irreducible] V
variable {O:Orc}{H:AH}
theorem ins_at {A:Av}{v:Value}{l:List Ins} (h:Els 6 InsR A H v l) {k:Nat} (hk:k<l.length):∃ b off va,aIndex V.E 42 v (.int .i64 k)=some (.pointer (some ⟨b,off,none⟩))∧aLoad V.E H 5 (.pointer (some ⟨b,off+0,none⟩))=some (.int .u8 l[k].op)∧aLoad V.E H 3 (.pointer (some ⟨b,off+1,none⟩))=some (.int .i64 l[k].r)∧aLoad V.E H 3 (.pointer (some ⟨b,off+2,none⟩))=some (.int .i64 l[k].a)∧aLoad V.E H 3 (.pointer (some ⟨b,off+3,none⟩))=some (.int .i64 l[k].b)∧aLoad V.E H 2 (.pointer (some ⟨b,off+4,none⟩))=some (.int .i64 l[k].n)∧aLoad V.E H 43 (.pointer (some ⟨b,off+5,none⟩))=some va∧aLoad V.E H 47 (.pointer (some ⟨b,off,none⟩))=some (.agg (l[k].cells va).toArray)∧IntsR A H va l[k].args:=by
 obtain⟨b,off,cs,h1,hrd,va,rfl,hva⟩:=h.at E_s_api_Ins E_Ins te_Ins_size (kd:=.i64) hk
 refine⟨b,off,va,h1,?_,?_,?_,?_,?_,?_,hrd.loadN E_Ins te_Ins_agg te_Ins_size,hva⟩
 ·exact (hrd.sub 0 1 (by omega)).load1 E_uint8 rfl
 ·exact (hrd.sub 1 1 (by omega)).load1 E_int rfl
 ·exact (hrd.sub 2 1 (by omega)).load1 E_int rfl
 ·exact (hrd.sub 3 1 (by omega)).load1 E_int rfl
 ·exact (hrd.sub 4 1 (by omega)).load1 E_int64 rfl
 ·exact (hrd.sub 5 1 (by omega)).load1 E_s_int rfl
set_option maxHeartbeats 1000000 in
theorem quietL_c (hO:NoO O) (x:Ins) {A:Av}{va:Value} (hva:IntsR A H va x.args) :
 ∃ u H',Lc V O F_ref26_quiet [.agg (x.cells va).toArray] H u H'∧(u=.bool (Mer.quiet x)∧Fr H H'):=by
 refine Lc.ref26_quiet (hO _ _ _ (by decide)) ?_
 unfold P_ref26_quiet
 apply zSeq
 apply zReg
 refine zBox rfl (fun _=>rfl) fun H1 f1 b1 n1=>?_
 have b1':Bx H1 H.next 47 [.int .u8 x.op,.int .i64 x.r,.int .i64 x.a,.int .i64 x.b,.int .i64 x.n,va]:=b1
 clear b1
 cases c1:x.op==1
 ·cases c2:x.op==2
  ·cases c3:x.op==3
   ·cases c4:x.op==4
    ·repeat first|apply zSeq|apply zReg|refine wN ?_|refine wO ?_|refine wA ?_|refine wR ?_|refine wQ ?_|refine wD O_Ins_Op ?_|refine wB E_uint8 ?_
     exact WP.ret ⟨.inr rfl,_,rfl,by simp[Mer.quiet,c1,c2,c3,c4,resOf],f1⟩
    ·repeat first|apply zSeq|apply zReg|refine wN ?_|refine wO ?_|refine wA ?_|refine wR ?_|refine wQ ?_|refine wD O_Ins_Op ?_|refine wB E_uint8 ?_
     exact WP.ret ⟨.inr rfl,_,rfl,by simp[Mer.quiet,c1,c2,c3,c4,resOf],f1⟩
   ·repeat first|apply zSeq|apply zReg|refine wN ?_|refine wO ?_|refine wF ?_|refine wA ?_|refine wP ?_|refine wR ?_|refine wQ ?_|refine wD O_Ins_Op ?_|refine wB E_uint8 ?_
    exact WP.ret ⟨.inr rfl,_,rfl,by simp[Mer.quiet,c1,c2,c3,resOf],f1⟩
  ·repeat first|apply zSeq|apply zReg|refine wN ?_|refine wx ?_|refine wO ?_|refine wF ?_|refine wA ?_|refine wp ?_|refine wP ?_|refine wR ?_|refine wQ ?_|refine wD O_Ins_Op ?_|refine wB E_uint8 ?_
   exact WP.ret ⟨.inr rfl,_,rfl,by simp[Mer.quiet,c1,c2,resOf],f1⟩
 ·repeat first|apply zSeq|apply zReg|refine wN ?_|refine wx ?_|refine wF ?_|refine wA ?_|refine wp ?_|refine wP ?_|refine wQ ?_|refine wD O_Ins_Op ?_|refine wB E_uint8 ?_
  exact WP.ret ⟨.inr rfl,_,rfl,by simp[Mer.quiet,c1,resOf],f1⟩
theorem intsEq_c (hO:NoO O) {A A':Av}{v v':Value}{l:List Int} (hv:IntsR A H v l) (hv':IntsR A' H v' l) (hL:l.length≤1000000) :
  ∃ u H',Lc V O F_ref12_Ints [v,v'] H u H'∧(u=.bool true∧H'=H):=by
 refine Lc.ref12_Ints (hO _ _ _ (by decide)) ?_
 unfold P_ref12_Ints
 have g0:((l.length:Int) != l.length)=false:=by simp
 repeat first|apply zSeq|apply zReg|apply zBlk|apply zSkp|refine wN ?_|refine wG ?_|refine wA ?_|refine wU ?_|refine wE ?_|refine wK (hv.len E_s_int) ?_|refine wK (hv'.len E_s_int) ?_
 refine WP.loopH (σ:=Nat) (fun k=>[(0,v),(1,v'),(5,.int .i64 k)]) (fun k Hc=>Hc=H∧k≤l.length) (fun k=>l.length-k) 0 ⟨rfl,Nat.zero_le _⟩ ⟨rfl,rfl,rfl,trivial⟩ ?_
 rintro k Hc ⟨rfl,hk⟩
 rcases Nat.lt_or_ge k l.length with h|h
 ·have g1:decide ((k:Int)<l.length)=true:=dT
  obtain⟨b,off,ja,jl⟩:=hv.at E_s_int E_int (kd:=.i64) h
  obtain⟨b',off',ja',jl'⟩:=hv'.at E_s_int E_int (kd:=.i64) h
  have g2:(l[k] != l[k])=false:=by simp
  repeat first|apply zSeq|apply zReg|apply zBlk|apply zSkp|refine wN ?_|refine wG ?_|refine wL ?_|refine wU ?_|refine wS ?_|refine wT ?_|refine wE ?_|refine wK (hv.len E_s_int) ?_|refine zIdx rfl rfl ja ?_|refine zIdx rfl rfl ja' ?_|refine zLd rfl jl ?_|refine zLd rfl jl' ?_
  exact⟨k+1,⟨rfl,h⟩,by omega,rfl,rfl,rfl,trivial⟩
 ·have g1:decide ((k:Int)<l.length)=false:=dF
  repeat first|apply zSeq|apply zReg|apply zExt|refine wN ?_|refine wG ?_|refine wA ?_|refine wL ?_|refine wE ?_|refine wK (hv.len E_s_int) ?_
  exact WP.ret ⟨.inr rfl,_,rfl,rfl,rfl⟩
end
section
attribute [local irreducible] WL WP WH W
attribute [local irreducible] V
variable {O:Orc}{H:AH}
theorem ins_ne {x y:Ins} (h:x=y):(x.op != y.op)=false∧(x.r != y.r)=false∧(x.a != y.a)=false∧(x.b != y.b)=false∧(x.n != y.n)=false∧((x.args.length:Int) != y.args.length)=false∧x.args=y.args:=by subst h;simp
theorem ins_eq {x y:Ins} (h1:(x.op != y.op)=false) (h2:(x.r != y.r)=false) (h3:(x.a != y.a)=false) (h4:(x.b != y.b)=false) (h5:(x.n != y.n)=false) (h6:x.args=y.args):x=y:=by
 cases x;cases y
 simp at *
 exact⟨h1,h2,h3,h4,h5,h6⟩
set_option maxHeartbeats 4000000 in
theorem sameIns_c (hO:NoO O) {A A':Av}{v v':Value}{l l':List Ins} (hc:Els 6 InsR A H v l) (hc':Els 6 InsR A' H v' l') (hL:l.length≤1000000) (hL':l'.length≤1000000) (ha:∀ i∈l,i.args.length≤1000000) :
 ∃ u H',Lc V O F_ref06_SameIns [v,v'] H u H'∧(u=.bool (decide (l=l'))∧H'=H):=by
 refine Lc.ref06_SameIns (hO _ _ _ (by decide)) ?_
 unfold P_ref06_SameIns
 have hcl:=hc
 by_cases hll:l.length=l'.length
 case neg =>
  have g0:((l.length:Int) != l'.length)=true:=by simp;omega
  have hne:l≠l':=fun e=>hll (by rw[e])
  repeat first|apply zSeq|apply zReg|refine wN ?_|refine wG ?_|refine wA ?_|refine wU ?_|refine wT ?_|refine wK (hc.len E_s_api_Ins) ?_|refine wK (hc'.len E_s_api_Ins) ?_
  exact WP.ret ⟨.inr rfl,_,rfl,by simp[hne,resOf],rfl⟩
 have g0:((l.length:Int) != l'.length)=false:=by simp;omega
 repeat first|apply zSeq|apply zReg|apply zBlk|apply zSkp|refine wN ?_|refine wG ?_|refine wA ?_|refine wU ?_|refine wE ?_|refine wK (hc.len E_s_api_Ins) ?_|refine wK (hc'.len E_s_api_Ins) ?_
 refine WP.loopH (σ:=Nat) (fun k=>[(0,v),(1,v'),(5,.int .i64 k)]) (fun k Hc=>Hc=H∧k≤l.length∧l.take k=l'.take k) (fun k=>l.length-k) 0 ⟨rfl,Nat.zero_le _,rfl⟩ ⟨rfl,rfl,rfl,trivial⟩ ?_
 rintro k Hc ⟨rfl,hk,hpre⟩
 rcases Nat.lt_or_ge k l.length with h|h
 ·have g1:decide ((k:Int)<l.length)=true:=dT
  have h':k<l'.length:=by omega
  obtain⟨b,off,va,ia,io,ir,iA,iB,iN,iV,iW,ht⟩:=ins_at hc h
  obtain⟨b',off',va',ia',io',ir',iA',iB',iN',iV',iW',ht'⟩:=ins_at hc' h'
  have hne:l[k]≠l'[k]→Value.bool false=.bool (decide (l=l')):=fun e=>by
   have:l≠l':=fun e'=>e (by subst e';rfl)
   simp[this]
  have hla:=ha l[k] (List.getElem_mem _)
  have hstep:l[k]=l'[k]→l.take (k+1)=l'.take (k+1):=fun e=>by
   rw[List.take_succ_eq_append_getElem h,List.take_succ_eq_append_getElem h',hpre,e]
  generalize l[k]=x at *
  generalize l'[k]=y at *
  have hq:=@ins_ne x y
  cases c1:x.op != y.op
  case true =>
   repeat first|apply zSeq|apply zReg|apply zBlk|apply zSkp|refine wN ?_|refine wG ?_|refine wx ?_|refine wF ?_|refine wA ?_|refine wp ?_|refine wP ?_|refine wL ?_|refine wU ?_|refine wt ?_|refine wT ?_|refine wD O_Ins_Op ?_|refine wK (hc.len E_s_api_Ins) ?_|refine zIdx rfl rfl ia ?_|refine zLd rfl io ?_|refine zIdx rfl rfl ia' ?_|refine zLd rfl io' ?_
   exact WP.ret ⟨.inr rfl,_,rfl,hne fun e=>by simp[(hq e).1] at c1,rfl⟩
  cases c2:x.r != y.r
  case true =>
   repeat first|apply zSeq|apply zReg|apply zBlk|apply zSkp|refine wN ?_|refine wG ?_|refine wx ?_|refine wO ?_|refine wF ?_|refine wM ?_|refine wA ?_|refine wp ?_|refine wP ?_|refine wR ?_|refine wL ?_|refine wU ?_|refine wt ?_|refine wT ?_|refine wD O_Ins_Op ?_|refine wD O_Ins_R ?_|refine wK (hc.len E_s_api_Ins) ?_|refine zIdx rfl rfl ia ?_|refine zLd rfl io ?_|refine zLd rfl ir ?_|refine zIdx rfl rfl ia' ?_|refine zLd rfl io' ?_|refine zLd rfl ir' ?_
   exact WP.ret ⟨.inr rfl,_,rfl,hne fun e=>by simp[(hq e).2.1] at c2,rfl⟩
  cases c3:x.a != y.a
  case true =>
   repeat first|apply zSeq|apply zReg|apply zBlk|apply zSkp|refine wN ?_|refine wG ?_|refine wx ?_|refine wO ?_|refine wF ?_|refine wM ?_|refine wA ?_|refine wp ?_|refine wP ?_|refine wR ?_|refine wL ?_|refine wU ?_|refine wt ?_|refine wT ?_|refine wD O_Ins_Op ?_|refine wD O_Ins_R ?_|refine wD O_Ins_A ?_|refine wK (hc.len E_s_api_Ins) ?_|refine zIdx rfl rfl ia ?_|refine zLd rfl io ?_|refine zLd rfl ir ?_|refine zLd rfl iA ?_|refine zIdx rfl rfl ia' ?_|refine zLd rfl io' ?_|refine zLd rfl ir' ?_|refine zLd rfl iA' ?_
   exact WP.ret ⟨.inr rfl,_,rfl,hne fun e=>by simp[(hq e).2.2.1] at c3,rfl⟩
  cases c4:x.b != y.b
  case true =>
   repeat first|apply zSeq|apply zReg|apply zBlk|apply zSkp|refine wN ?_|refine wG ?_|refine wx ?_|refine wO ?_|refine wF ?_|refine wM ?_|refine wA ?_|refine wp ?_|refine wP ?_|refine wR ?_|refine wL ?_|refine wU ?_|refine wt ?_|refine wT ?_|refine wD O_Ins_Op ?_|refine wD O_Ins_R ?_|refine wD O_Ins_A ?_|refine wD O_Ins_B ?_|refine wK (hc.len E_s_api_Ins) ?_|refine zIdx rfl rfl ia ?_|refine zLd rfl io ?_|refine zLd rfl ir ?_|refine zLd rfl iA ?_|refine zLd rfl iB ?_|refine zIdx rfl rfl ia' ?_|refine zLd rfl io' ?_|refine zLd rfl ir' ?_|refine zLd rfl iA' ?_|refine zLd rfl iB' ?_
   exact WP.ret ⟨.inr rfl,_,rfl,hne fun e=>by simp[(hq e).2.2.2.1] at c4,rfl⟩
  cases c5:x.n != y.n
  case true =>
   repeat first|apply zSeq|apply zReg|apply zBlk|apply zSkp|refine wN ?_|refine wG ?_|refine wO ?_|refine wF ?_|refine wM ?_|refine wA ?_|refine wP ?_|refine wR ?_|refine wL ?_|refine wU ?_|refine wt ?_|refine wT ?_|refine wD O_Ins_Op ?_|refine wD O_Ins_R ?_|refine wD O_Ins_A ?_|refine wD O_Ins_B ?_|refine wD O_Ins_N ?_|refine wK (hc.len E_s_api_Ins) ?_|refine zIdx rfl rfl ia ?_|refine zLd rfl io ?_|refine zLd rfl ir ?_|refine zLd rfl iA ?_|refine zLd rfl iB ?_|refine zLd rfl iN ?_|refine zIdx rfl rfl ia' ?_|refine zLd rfl io' ?_|refine zLd rfl ir' ?_|refine zLd rfl iA' ?_|refine zLd rfl iB' ?_|refine zLd rfl iN' ?_
   exact WP.ret ⟨.inr rfl,_,rfl,hne fun e=>by simp[(hq e).2.2.2.2.1] at c5,rfl⟩
  cases c6:(x.args.length:Int) != y.args.length
  case true =>
   repeat first|apply zSeq|apply zReg|apply zBlk|apply zSkp|refine wN ?_|refine wG ?_|refine wO ?_|refine wM ?_|refine wA ?_|refine wR ?_|refine wL ?_|refine wU ?_|refine wT ?_|refine wD O_Ins_Op ?_|refine wD O_Ins_R ?_|refine wD O_Ins_A ?_|refine wD O_Ins_B ?_|refine wD O_Ins_N ?_|refine wD O_Ins_Args ?_|refine wK (hc.len E_s_api_Ins) ?_|refine zIdx rfl rfl ia ?_|refine zLd rfl io ?_|refine zLd rfl ir ?_|refine zLd rfl iA ?_|refine zLd rfl iB ?_|refine zLd rfl iN ?_|refine zLd rfl iV ?_|refine zIdx rfl rfl ia' ?_|refine zLd rfl io' ?_|refine zLd rfl ir' ?_|refine zLd rfl iA' ?_|refine zLd rfl iB' ?_|refine zLd rfl iN' ?_|refine zLd rfl iV' ?_|refine wK (ht.len E_s_int) ?_|refine wK (ht'.len E_s_int) ?_
   exact WP.ret ⟨.inr rfl,_,rfl,hne fun e=>by simp[(hq e).2.2.2.2.2.1] at c6,rfl⟩
  have hal:x.args.length=y.args.length:=by simp at c6;omega
  repeat first|apply zSeq|apply zReg|apply zBlk|apply zSkp|refine wN ?_|refine wG ?_|refine wO ?_|refine wM ?_|refine wA ?_|refine wR ?_|refine wL ?_|refine wU ?_|refine wT ?_|refine wE ?_|refine wD O_Ins_Op ?_|refine wD O_Ins_R ?_|refine wD O_Ins_A ?_|refine wD O_Ins_B ?_|refine wD O_Ins_N ?_|refine wD O_Ins_Args ?_|refine wK (hc.len E_s_api_Ins) ?_|refine zIdx rfl rfl ia ?_|refine zLd rfl io ?_|refine zLd rfl ir ?_|refine zLd rfl iA ?_|refine zLd rfl iB ?_|refine zLd rfl iN ?_|refine zLd rfl iV ?_|refine zIdx rfl rfl ia' ?_|refine zLd rfl io' ?_|refine zLd rfl ir' ?_|refine zLd rfl iA' ?_|refine zLd rfl iB' ?_|refine zLd rfl iN' ?_|refine zLd rfl iV' ?_|refine wK (ht.len E_s_int) ?_|refine wK (ht'.len E_s_int) ?_
  refine WP.loopH (σ:=Nat) (fun j=>[(0,v),(1,v'),(5,.int .i64 k),(6,.int .i64 j)]) (fun j Hd=>Hd=Hc∧j≤x.args.length∧x.args.take j=y.args.take j) (fun j=>x.args.length-j) 0 ⟨rfl,Nat.zero_le _,rfl⟩ ⟨rfl,rfl,rfl,rfl,trivial⟩ ?_
  rintro j Hd ⟨hd,hj,hprj⟩
  replace hd:=hd.symm
  subst hd
  rcases Nat.lt_or_ge j x.args.length with hja|hja
  ·have g2:decide ((j:Int)<x.args.length)=true:=dT
   have hja':j<y.args.length:=by omega
   obtain⟨b2,off2,ja,jl⟩:=ht.at E_s_int E_int (kd:=.i64) hja
   obtain⟨b2',off2',ja',jl'⟩:=ht'.at E_s_int E_int (kd:=.i64) hja'
   cases c7:x.args[j] != y.args[j]
   ·repeat first|apply zSeq|apply zReg|apply zBlk|apply zSkp|refine wN ?_|refine wG ?_|refine wL ?_|refine wU ?_|refine wS ?_|refine wT ?_|refine wE ?_|refine wD O_Ins_Args ?_|refine zIdx rfl rfl ia ?_|refine zLd rfl iV ?_|refine zIdx rfl rfl ia' ?_|refine zLd rfl iV' ?_|refine zIdx rfl rfl ja ?_|refine zIdx rfl rfl ja' ?_|refine zLd rfl jl ?_|refine zLd rfl jl' ?_|refine wK (ht.len E_s_int) ?_
    exact⟨j+1,⟨rfl,hja,by rw[List.take_succ_eq_append_getElem hja,List.take_succ_eq_append_getElem hja',hprj];simp at c7;rw[c7]⟩,by omega,rfl,rfl,rfl,rfl,trivial⟩
   ·repeat first|apply zSeq|apply zReg|apply zBlk|apply zSkp|refine wN ?_|refine wG ?_|refine wA ?_|refine wL ?_|refine wU ?_|refine wT ?_|refine wD O_Ins_Args ?_|refine zIdx rfl rfl ia ?_|refine zLd rfl iV ?_|refine zIdx rfl rfl ia' ?_|refine zLd rfl iV' ?_|refine zIdx rfl rfl ja ?_|refine zIdx rfl rfl ja' ?_|refine zLd rfl jl ?_|refine zLd rfl jl' ?_|refine wK (ht.len E_s_int) ?_
    exact WP.ret ⟨.inr rfl,_,rfl,hne fun e=>by subst e;simp at c7,rfl⟩
  ·have g2:decide ((j:Int)<x.args.length)=false:=dF
   repeat first|apply zSeq|apply zReg|apply zExt|refine wN ?_|refine wG ?_|refine wL ?_|refine wS ?_|refine wE ?_|refine wD O_Ins_Args ?_|refine zIdx rfl rfl ia ?_|refine zLd rfl iV ?_|refine wK (ht.len E_s_int) ?_
   have e:x=y:=ins_eq c1 c2 c3 c4 c5 (by rw[List.take_of_length_le hja,List.take_of_length_le (by omega)] at hprj;exact hprj)
   exact⟨k+1,⟨rfl,h,hstep e⟩,by omega,rfl,rfl,rfl,trivial⟩
 ·have g1:decide ((k:Int)<l.length)=false:=dF
  rw[List.take_of_length_le h,List.take_of_length_le (by omega)] at hpre
  repeat first|apply zSeq|apply zReg|apply zExt|refine wN ?_|refine wG ?_|refine wA ?_|refine wL ?_|refine wE ?_|refine wK (hc.len E_s_api_Ins) ?_
  exact WP.ret ⟨.inr rfl,_,rfl,by simp[hpre,resOf],rfl⟩
end
section
attribute [local irreducible] WL WP WH W
attribute [local irreducible] V
variable {O:Orc}{H:AH}
set_option maxHeartbeats 4000000 in
theorem pairF_c (hO:NoO O) {A:Av}{v:Value}{l:List Ins} (hc:Els 6 InsR A H v l) (hL:l.length≤1000000) :
 ∃ u H',Lc V O F_ref26_Pair [v] H u H'∧(((u=.tuple #[.int .i64 (-1),.int .i64 (-1)]∧Mer.NoPair l)∨∃ i k:Nat,Mer.First l i k∧u=.tuple #[.int .i64 i,.int .i64 k])∧Fr H H'):=by
 refine Lc.ref26_Pair (hO _ _ _ (by decide)) ?_
 unfold P_ref26_Pair
 have hcl:=hc
 repeat first|apply zSeq|apply zReg|apply zBlk|refine wN ?_|refine wA ?_
 refine WP.loopH (σ:=Nat) (fun k=>[(0,v),(4,.int .i64 k)]) (fun k Hc=>Fr H Hc∧k≤l.length∧∀ a<k,∀ c,¬ Mer.Pair l a c) (fun k=>l.length-k) 0 ⟨.refl _,Nat.zero_le _,fun a h=>by omega⟩ ⟨rfl,rfl,trivial⟩ ?_
 rintro k Hc ⟨fc,hk,hnp⟩
 rcases Nat.lt_or_ge k l.length with h|h
 ·have g1:decide ((k:Int)<l.length)=true:=dT
  have hcc:=hc.fr InsR.m fc
  obtain⟨b,off,va,ia,io,ir,iA,iB,iN,iV,iW,ht⟩:=ins_at hcc h
  cases c1:l[k].op != 8
  case true =>
   repeat first|apply zSeq|apply zReg|apply zBlk|apply zSkp|apply zExt|refine wN ?_|refine wG ?_|refine wL ?_|refine wU ?_|refine wS ?_|refine wT ?_|refine wD O_Ins_Op ?_|refine wK (hc.len E_s_api_Ins) ?_|refine zIdx rfl rfl ia ?_|refine zLd rfl io ?_
   exact⟨k+1,⟨fc,h,Mer.upto hnp (Mer.no_op h (by simpa using c1))⟩,by omega,rfl,rfl,trivial⟩
  have hop8:l[k].op=8:=by simpa using c1
  repeat first|apply zSeq|apply zReg|apply zBlk|apply zSkp|refine wN ?_|refine wG ?_|refine wL ?_|refine wU ?_|refine wS ?_|refine wT ?_|refine wE ?_|refine wD O_Ins_Op ?_|refine wK (hc.len E_s_api_Ins) ?_|refine zIdx rfl rfl ia ?_|refine zLd rfl io ?_
  refine WP.loopH (σ:=Nat) (fun j=>[(0,v),(4,.int .i64 k),(5,.int .i64 j)]) (fun j Hd=>Fr H Hd∧k<j∧j≤l.length∧∀ m (hm:k<m) (hmj:m<j) (hml:m<l.length),Mer.quiet l[m]=true) (fun j=>l.length-j) (k+1) ⟨fc,by omega,h,fun m h1 h2=>by omega⟩ ⟨rfl,rfl,rfl,trivial⟩ ?_
  rintro j Hd ⟨fd,hkj,hjl,hq⟩
  have hcd:=hc.fr InsR.m fd
  obtain⟨b1,off1,va1,ia1,io1,ir1,iA1,iB1,iN1,iV1,iW1,ht1⟩:=ins_at hcd h
  clear ia io ir iA iB iN iV iW ht
  rcases Nat.lt_or_ge j l.length with hj|hj
  ·have g2:decide ((j:Int)<l.length)=true:=dT
   obtain⟨b',off',va',ia,io,ir,iA,iB,iN,iV,iW,ht⟩:=ins_at hcd hj
   obtain⟨_,He,hce,rfl,fe⟩:=quietL_c (H:=Hd) hO l[j] ht
   have hce':=hcd.fr InsR.m fe
   cases c2:Mer.quiet l[j]
   ·rw[c2] at hce
    obtain⟨b3,off3,va3,ib,ibo,-,-,-,ibn,-,-,-⟩:=ins_at hce' h
    obtain⟨b4,off4,va4,ia',io',ir',iA',iB',iN',iV',iW',ht'⟩:=ins_at hce' hj
    repeat first|apply zSeq|apply zReg|refine wG ?_|refine wO ?_|refine wM ?_|refine wL ?_|refine wK (hc.len E_s_api_Ins) ?_|refine zIdx rfl rfl ia ?_|refine zLd rfl iW ?_
    refine WL.call rfl rfl fp_ref26_quiet.is hce ?_
    clear ia io ir iA iB iN iV iW ht
    cases c3:l[j].op==7
    ·repeat first|apply zSeq|apply zReg|apply zSkp|apply zExt|refine wN ?_|refine wG ?_|refine wO ?_|refine wF ?_|refine wM ?_|refine wP ?_|refine wR ?_|refine wL ?_|refine wQ ?_|refine wS ?_|refine wf ?_|refine wD O_Ins_Op ?_|refine wK (hc.len E_s_api_Ins) ?_|refine zIdx rfl rfl ia' ?_|refine zLd rfl io' ?_
     exact⟨k+1,⟨fd.trans fe,h,Mer.upto hnp (Mer.no_stop hkj hj (fun m h1 h2 h3=>hq m h1 h2 h3) c2 fun h=>by simp[h.1] at c3)⟩,by omega,rfl,rfl,trivial⟩
    ·cases c4:l[j].n==l[k].n
     ·repeat first|apply zSeq|apply zReg|apply zSkp|apply zExt|refine wN ?_|refine wG ?_|refine wO ?_|refine wM ?_|refine wP ?_|refine wL ?_|refine wQ ?_|refine wS ?_|refine wf ?_|refine wE ?_|refine wD O_Ins_Op ?_|refine wD O_Ins_N ?_|refine wK (hc.len E_s_api_Ins) ?_|refine zIdx rfl rfl ia' ?_|refine zLd rfl io' ?_|refine zLd rfl iN' ?_|refine zIdx rfl rfl ib ?_|refine zLd rfl ibn ?_
      exact⟨k+1,⟨fd.trans fe,h,Mer.upto hnp (Mer.no_stop hkj hj (fun m h1 h2 h3=>hq m h1 h2 h3) c2 fun h=>by simp[h.2] at c4)⟩,by omega,rfl,rfl,trivial⟩
     ·repeat first|apply zSeq|apply zReg|apply zExt|refine wN ?_|refine wG ?_|refine wO ?_|refine wM ?_|refine wP ?_|refine wL ?_|refine wQ ?_|refine wf ?_|refine wT ?_|refine wD O_Ins_Op ?_|refine wD O_Ins_N ?_|refine wK (hc.len E_s_api_Ins) ?_|refine zIdx rfl rfl ia' ?_|refine zLd rfl io' ?_|refine zLd rfl iN' ?_|refine zIdx rfl rfl ib ?_|refine zLd rfl ibn ?_
      exact WP.ret ⟨.inr rfl,_,rfl,.inr ⟨k,j,⟨⟨hkj,hj,hop8,by simpa using c3,by simpa using (by simpa using c4:l[j].n=l[k].n).symm,fun m h1 h2=>hq m h1 h2 _⟩,hnp⟩,rfl⟩,fd.trans fe⟩
   ·rw[c2] at hce
    repeat first|apply zSeq|apply zReg|refine wG ?_|refine wO ?_|refine wM ?_|refine wL ?_|refine wK (hc.len E_s_api_Ins) ?_|refine zIdx rfl rfl ia ?_|refine zLd rfl iW ?_
    refine WL.call rfl rfl fp_ref26_quiet.is hce ?_
    repeat first|apply zReg|apply zBlk|apply zSkp|refine wN ?_|refine wG ?_|refine wP ?_|refine wS ?_|refine wt ?_
    exact⟨j+1,⟨fd.trans fe,by omega,hj,fun m h1 h2 h3=>by
     rcases Nat.lt_or_ge m j with h4|h4
     ·exact hq m h1 h4 h3
     ·have:m=j:=by omega
      subst this;exact c2⟩,by omega,rfl,rfl,rfl,trivial⟩
  ·have g2:decide ((j:Int)<l.length)=false:=dF
   repeat first|apply zSeq|apply zReg|apply zSkp|apply zExt|refine wN ?_|refine wG ?_|refine wx ?_|refine wF ?_|refine wq ?_|refine wR ?_|refine wL ?_|refine wS ?_|refine wf ?_|refine wK (hc.len E_s_api_Ins) ?_
   exact⟨k+1,⟨fd,h,Mer.upto hnp (Mer.no_end fun m h1 h2=>hq m h1 (by omega) h2)⟩,by omega,rfl,rfl,trivial⟩
 ·have g1:decide ((k:Int)<l.length)=false:=dF
  repeat first|apply zSeq|apply zReg|apply zExt|refine wN ?_|refine wG ?_|refine wA ?_|refine wL ?_|refine wE ?_|refine wK (hc.len E_s_api_Ins) ?_
  exact WP.ret ⟨.inr rfl,_,rfl,.inl ⟨rfl,fun a c hp=>hnp a (by obtain⟨h1,h2,_⟩:=hp;omega) c hp⟩,fc⟩
end
section
attribute [local irreducible] WL WP WH W
attribute [local irreducible] V
variable {O:Orc}{H:AH}
structure TinyB (b:Block):Prop where
 code:b.code.length≤200
 phis:b.phis.length≤100
 frm:b.frm.length≤100
 to:b.to.length≤100
 cargs:∀ i∈b.code,i.args.length≤100
 pargs:∀ p∈b.phis,p.args.length≤100
theorem TinyB.small {b:Block} (h:TinyB b):SmallB b:=⟨by have:=h.code;omega,by have:=h.phis;omega,by have:=h.frm;omega,by have:=h.to;omega,fun p hp=>by have:=h.pargs p hp;omega,fun p hp=>by have:=h.cargs p hp;omega⟩
theorem phi_at {A:Av}{v:Value}{l:List Phi} (h:Els 2 PhiR A H v l) {k:Nat} (hk:k<l.length):∃ b off va,aIndex V.E 41 v (.int .i64 k)=some (.pointer (some ⟨b,off,none⟩))∧aLoad V.E H 3 (.pointer (some ⟨b,off+0,none⟩))=some (.int .i64 l[k].r)∧aLoad V.E H 43 (.pointer (some ⟨b,off+1,none⟩))=some va∧IntsR A H va l[k].args:=by
 obtain⟨b,off,cs,h1,hrd,va,rfl,hva⟩:=h.at E_s_api_Phi E_Phi te_Phi_size (kd:=.i64) hk
 exact⟨b,off,va,h1,(hrd.sub 0 1 (by omega)).load1 E_int rfl,(hrd.sub 1 1 (by omega)).load1 E_s_int rfl,hva⟩
set_option maxHeartbeats 4000000 in
theorem long_c (hO:NoO O) {A:Av}{g:Graph}{cs:List Value} (hR:GraphR A H cs g) :
 ∃ u H',Lc V O F_law26_long [.agg cs.toArray] H u H'∧(∃ t,u=.bool t∧Fr H H'∧(t=false→g.blocks.length≤60∧∀ b∈g.blocks,TinyB b)):=by
 obtain⟨vb,rfl,hb⟩:=hR
 refine Lc.law26_long (hO _ _ _ (by decide)) ?_
 unfold P_law26_long
 apply zSeq
 apply zReg
 refine zBox rfl (fun _=>rfl) fun H1 f1 b1 n1=>?_
 have b1':Bx H1 H.next 24 (graphC g vb):=b1
 clear b1
 have hbl:=hb
 cases c1:decide ((g.blocks.length:Int)>60)
 case true =>
  repeat first|apply zSeq|apply zReg|refine wN ?_|refine wF ?_|refine wA ?_|refine wP ?_|refine wV ?_|refine wt ?_|refine wD O_Graph_Blocks ?_|refine wB E_s_api_Block ?_|refine wK (hbl.len E_s_api_Block) ?_
  exact WP.ret ⟨.inr rfl,_,rfl,_,rfl,f1,fun e=>by cases e⟩
 have hnb:g.blocks.length≤60:=by simp at c1;omega
 cases c2:decide (g.regs>300)
 case true =>
  repeat first|apply zSeq|apply zReg|refine wN ?_|refine wO ?_|refine wA ?_|refine wR ?_|refine wV ?_|refine wT ?_|refine wB E_int ?_|refine wD O_Graph_Blocks ?_|refine wD O_Graph_Regs ?_|refine wB E_s_api_Block ?_|refine wK (hbl.len E_s_api_Block) ?_
  exact WP.ret ⟨.inr rfl,_,rfl,_,rfl,f1,fun e=>by cases e⟩
 repeat first|apply zSeq|apply zReg|apply zBlk|apply zSkp|refine wN ?_|refine wO ?_|refine wA ?_|refine wR ?_|refine wV ?_|refine wE ?_|refine wB E_int ?_|refine wD O_Graph_Blocks ?_|refine wD O_Graph_Regs ?_|refine wB E_s_api_Block ?_|refine wK (hbl.len E_s_api_Block) ?_
 refine WP.loopH (σ:=Nat×Nat) (fun x=>[(1,.pointer (some ⟨H.next,0,none⟩)),(3,.int .i64 x.2),(4,.int .i64 x.1)]) (fun x Hc=>Fr H1 Hc∧x.1≤g.blocks.length∧x.2≤x.1*300∧∀ b∈g.blocks.take x.1,TinyB b) (fun x=>g.blocks.length-x.1) (0,0) ⟨.refl _,Nat.zero_le _,by simp,fun b hb=>by simp at hb⟩ ⟨rfl,rfl,rfl,trivial⟩ ?_
 rintro⟨k,n⟩ Hc ⟨fc,hk,hn,hall⟩
 simp only at fc hk hn hall ⊢
 have b1c:=b1'.fr fc
 rcases Nat.lt_or_ge k g.blocks.length with h|h
 ·have g1:decide ((k:Int)<g.blocks.length)=true:=dT
  have hbc:=hb.fr BlockR.m (f1.trans fc)
  obtain⟨bb,off,cs,ha1,hrd,vp,vc,vf,vt,rfl,hp,hcc,hf,ht0⟩:=hbc.at E_s_api_Block E_Block te_Block_size (kd:=.i64) h
  have hl1:=hrd.loadN (V:=V) E_Block te_Block_agg te_Block_size
  have hone:=(BlockR.one (A:=A) (H:=Hc) (cs:=[vp,vc,vf,vt]) (a:=g.blocks[k]) ⟨vp,vc,vf,vt,rfl,hp,hcc,hf,ht0⟩).1
  have hdone:TinyB g.blocks[k]→∀ b∈g.blocks.take (k+1),TinyB b:=fun e b hb=>by
   rw[List.take_succ_eq_append_getElem h] at hb
   rcases List.mem_append.1 hb with hb|hb
   ·exact hall b hb
   ·rw[List.mem_singleton] at hb;subst hb;exact e
  generalize g.blocks[k]=b at *
  repeat first|apply zSeq|apply zReg|apply zBlk|apply zSkp|refine wN ?_|refine wG ?_|refine wL ?_|refine wT ?_|refine zIdx rfl rfl ha1 ?_|refine zLd rfl hl1 ?_|refine wD O_Graph_Blocks ?_|refine wB E_s_api_Block ?_|refine wK (hbl.len E_s_api_Block) ?_
  refine zAlc E_Block zero34 fun H7 f7 b7 n7=>?_
  refine zStB b7 rfl rfl E_Block (by rw[te_Block_size];rfl) (by simpa[Value.cells] using hone) (by simp[Value.cells]) (by simp[Value.cells]) fun H8 f8 b8 n8=>?_
  have b8':Bx H8 Hc.next 45 [vp,vc,vf,vt]:=b8
  have f78:Fr Hc H8:=f7.young f8 (by simp) (by simp)
  have hcl:=hcc.fr InsR.m f78
  have hpl:=hp.fr PhiR.m f78
  have hfl:=hf.fr f78
  have htl:=ht0.fr f78
  have b1d:=b1c.fr f78
  have f18:=(f1.trans fc).trans f78
  cases c3:decide ((b.code.length:Int)>200)
  case true =>
   repeat first|apply zSeq|apply zReg|refine wN ?_|refine wx ?_|refine wF ?_|refine wA ?_|refine wp ?_|refine wP ?_|refine wV ?_|refine wt ?_|refine wB E_s_api_Ins ?_|refine wD O_Block_Code ?_|refine wK (hcl.len E_s_api_Ins) ?_
   exact WP.ret ⟨.inr rfl,_,rfl,_,rfl,f18,fun e=>by cases e⟩
  cases c4:decide ((b.phis.length:Int)>100)
  case true =>
   repeat first|apply zSeq|apply zReg|refine wN ?_|refine wx ?_|refine wO ?_|refine wF ?_|refine wA ?_|refine wp ?_|refine wP ?_|refine wR ?_|refine wV ?_|refine wt ?_|refine wB E_s_api_Ins ?_|refine wD O_Block_Phis ?_|refine wD O_Block_Code ?_|refine wB E_s_api_Phi ?_|refine wK (hpl.len E_s_api_Phi) ?_|refine wK (hcl.len E_s_api_Ins) ?_
   exact WP.ret ⟨.inr rfl,_,rfl,_,rfl,f18,fun e=>by cases e⟩
  cases c5:decide ((b.frm.length:Int)>100)
  case true =>
   repeat first|apply zSeq|apply zReg|refine wN ?_|refine wO ?_|refine wF ?_|refine wA ?_|refine wP ?_|refine wR ?_|refine wV ?_|refine wt ?_|refine wB E_s_int ?_|refine wB E_s_api_Ins ?_|refine wD O_Block_From ?_|refine wD O_Block_Phis ?_|refine wD O_Block_Code ?_|refine wB E_s_api_Phi ?_|refine wK (hpl.len E_s_api_Phi) ?_|refine wK (hcl.len E_s_api_Ins) ?_|refine wK (hfl.len E_s_int) ?_
   exact WP.ret ⟨.inr rfl,_,rfl,_,rfl,f18,fun e=>by cases e⟩
  cases c6:decide ((b.to.length:Int)>100)
  case true =>
   repeat first|apply zSeq|apply zReg|refine wN ?_|refine wO ?_|refine wA ?_|refine wR ?_|refine wV ?_|refine wT ?_|refine wB E_s_int ?_|refine wB E_s_api_Ins ?_|refine wD O_Block_From ?_|refine wD O_Block_To ?_|refine wD O_Block_Phis ?_|refine wD O_Block_Code ?_|refine wB E_s_api_Phi ?_|refine wK (hpl.len E_s_api_Phi) ?_|refine wK (hcl.len E_s_api_Ins) ?_|refine wK (hfl.len E_s_int) ?_|refine wK (htl.len E_s_int) ?_
   exact WP.ret ⟨.inr rfl,_,rfl,_,rfl,f18,fun e=>by cases e⟩
  have hq3:b.code.length≤200:=by simp at c3;omega
  have hq4:b.phis.length≤100:=by simp at c4;omega
  have hq5:b.frm.length≤100:=by simp at c5;omega
  have hq6:b.to.length≤100:=by simp at c6;omega
  repeat first|apply zSeq|apply zReg|apply zBlk|apply zSkp|refine wN ?_|refine wG ?_|refine wO ?_|refine wA ?_|refine wR ?_|refine wV ?_|refine wS ?_|refine wE ?_|refine wB E_s_int ?_|refine wB E_s_api_Ins ?_|refine wD O_Block_From ?_|refine wD O_Block_To ?_|refine wD O_Block_Phis ?_|refine wD O_Block_Code ?_|refine wB E_s_api_Phi ?_|refine wK (hpl.len E_s_api_Phi) ?_|refine wK (hcl.len E_s_api_Ins) ?_|refine wK (hfl.len E_s_int) ?_|refine wK (htl.len E_s_int) ?_
  refine WP.loopH (σ:=Nat) (fun i=>[(1,.pointer (some ⟨H.next,0,none⟩)),(3,.int .i64 ((n:Int)+b.code.length+b.phis.length)),(4,.int .i64 k),(5,.pointer (some ⟨Hc.next,0,none⟩)),(6,.int .i64 i)]) (fun i Hd=>Hd=H8∧i≤b.code.length∧∀ x∈b.code.take i,x.args.length≤100) (fun i=>b.code.length-i) 0 ⟨rfl,Nat.zero_le _,fun x hx=>by simp at hx⟩ ⟨rfl,rfl,rfl,rfl,rfl,trivial⟩ ?_
  rintro i Hd ⟨hd,hi,hia⟩
  replace hd:=hd.symm
  subst hd
  rcases Nat.lt_or_ge i b.code.length with hil|hil
  ·have g2:decide ((i:Int)<b.code.length)=true:=dT
   obtain⟨bi,offi,va,ia,io,ir,iA,iB,iN,iV,iW,ht⟩:=ins_at hcl hil
   cases c7:decide ((b.code[i].args.length:Int)>100)
   ·repeat first|apply zSeq|apply zReg|apply zBlk|apply zSkp|refine wN ?_|refine wG ?_|refine wL ?_|refine wV ?_|refine wS ?_|refine wT ?_|refine wE ?_|refine wD O_Ins_Args ?_|refine wB E_s_api_Ins ?_|refine wD O_Block_Code ?_|refine wK (hcl.len E_s_api_Ins) ?_|refine zIdx rfl rfl ia ?_|refine zLd rfl iV ?_|refine wK (ht.len E_s_int) ?_
    exact⟨i+1,⟨rfl,hil,fun x hx=>by
     rw[List.take_succ_eq_append_getElem hil] at hx
     rcases List.mem_append.1 hx with hx|hx
     ·exact hia x hx
     ·rw[List.mem_singleton] at hx;subst hx;simp at c7;omega⟩,by omega,rfl,rfl,rfl,rfl,rfl,trivial⟩
   ·repeat first|apply zSeq|apply zReg|apply zBlk|apply zSkp|refine wN ?_|refine wG ?_|refine wA ?_|refine wL ?_|refine wV ?_|refine wT ?_|refine wD O_Ins_Args ?_|refine wB E_s_api_Ins ?_|refine wD O_Block_Code ?_|refine wK (hcl.len E_s_api_Ins) ?_|refine zIdx rfl rfl ia ?_|refine zLd rfl iV ?_|refine wK (ht.len E_s_int) ?_
    exact WP.ret ⟨.inr rfl,_,rfl,_,rfl,f18,fun e=>by cases e⟩
  have g2:decide ((i:Int)<b.code.length)=false:=dF
  rw[List.take_of_length_le hil] at hia
  repeat first|apply zSeq|apply zReg|apply zBlk|apply zExt|refine wN ?_|refine wG ?_|refine wA ?_|refine wL ?_|refine wE ?_|refine wB E_s_api_Ins ?_|refine wD O_Block_Code ?_|refine wK (hcl.len E_s_api_Ins) ?_
  refine WP.loopH (σ:=Nat) (fun i=>[(1,.pointer (some ⟨H.next,0,none⟩)),(3,.int .i64 ((n:Int)+b.code.length+b.phis.length)),(4,.int .i64 k),(5,.pointer (some ⟨Hc.next,0,none⟩)),(7,.int .i64 i)]) (fun i Hd=>Hd=H8∧i≤b.phis.length∧∀ x∈b.phis.take i,x.args.length≤100) (fun i=>b.phis.length-i) 0 ⟨rfl,Nat.zero_le _,fun x hx=>by simp at hx⟩ ⟨rfl,rfl,rfl,rfl,rfl,trivial⟩ ?_
  rintro j Hd ⟨hd,hj,hja⟩
  replace hd:=hd.symm
  subst hd
  rcases Nat.lt_or_ge j b.phis.length with hjl|hjl
  ·have g3:decide ((j:Int)<b.phis.length)=true:=dT
   obtain⟨bi,offi,va,pa,pr,pV,ht⟩:=phi_at hpl hjl
   cases c7:decide ((b.phis[j].args.length:Int)>100)
   ·repeat first|apply zSeq|apply zReg|apply zBlk|apply zSkp|refine wN ?_|refine wG ?_|refine wL ?_|refine wV ?_|refine wS ?_|refine wT ?_|refine wE ?_|refine wD O_Block_Phis ?_|refine wD O_Phi_Args ?_|refine wB E_s_api_Phi ?_|refine wK (hpl.len E_s_api_Phi) ?_|refine wK (ht.len E_s_int) ?_|refine zIdx rfl rfl pa ?_|refine zLd rfl pV ?_
    exact⟨j+1,⟨rfl,hjl,fun x hx=>by
     rw[List.take_succ_eq_append_getElem hjl] at hx
     rcases List.mem_append.1 hx with hx|hx
     ·exact hja x hx
     ·rw[List.mem_singleton] at hx;subst hx;simp at c7;omega⟩,by omega,rfl,rfl,rfl,rfl,rfl,trivial⟩
   ·repeat first|apply zSeq|apply zReg|apply zBlk|apply zSkp|refine wN ?_|refine wG ?_|refine wA ?_|refine wL ?_|refine wV ?_|refine wT ?_|refine wD O_Block_Phis ?_|refine wD O_Phi_Args ?_|refine wB E_s_api_Phi ?_|refine wK (hpl.len E_s_api_Phi) ?_|refine wK (ht.len E_s_int) ?_|refine zIdx rfl rfl pa ?_|refine zLd rfl pV ?_
    exact WP.ret ⟨.inr rfl,_,rfl,_,rfl,f18,fun e=>by cases e⟩
  have g3:decide ((j:Int)<b.phis.length)=false:=dF
  rw[List.take_of_length_le hjl] at hja
  repeat first|apply zSeq|apply zReg|apply zExt|refine wN ?_|refine wG ?_|refine wL ?_|refine wS ?_|refine wE ?_|refine wD O_Block_Phis ?_|refine wB E_s_api_Phi ?_|refine wK (hpl.len E_s_api_Phi) ?_
  exact⟨(k+1,n+b.code.length+b.phis.length),⟨fc.trans f78,h,by simp only;omega,hdone ⟨hq3,hq4,hq5,hq6,hia,hja⟩⟩,by simp only;omega,rfl,rfl,rfl,trivial⟩
 ·have g1:decide ((k:Int)<g.blocks.length)=false:=dF
  rw[List.take_of_length_le h] at hall
  repeat first|apply zSeq|apply zReg|apply zExt|refine wN ?_|refine wG ?_|refine wL ?_|refine wV ?_|refine wE ?_|refine wD O_Graph_Blocks ?_|refine wB E_s_api_Block ?_|refine wK (hbl.len E_s_api_Block) ?_
  exact WP.ret ⟨.inr rfl,_,rfl,_,rfl,f1.trans fc,fun _=>⟨hnb,hall⟩⟩
end
section
attribute [local irreducible] WL WP WH W
attribute [local irreducible] V
variable {O:Orc}{H:AH}
def BlkO (A:Av) (H:AH) (n0:Nat) (cs:List Value) (b:Block):Prop:=∃ vp vc vf vt o,cs=[vp,vc,vf,vt]∧Els 2 PhiR A H vp b.phis∧OwN 47 6 InsR A H n0 vc b.code o∧IntsR A H vf b.frm∧IntsR A H vt b.to
theorem IntsR.none0 {A A':Av}{H H':AH}{v:Value}{l:List Int} (h:IntsR A H v l) (h0:l.length=0):IntsR A' H' v l:=by
 obtain⟨hc,⟨rfl,hn⟩|⟨b,off,cap,rfl,hr⟩⟩:=h
 ·exact⟨hc,.inl ⟨rfl,hn⟩⟩
 ·exact⟨hc,.inr ⟨b,off,cap,rfl,fun h=>by omega⟩⟩
set_option maxHeartbeats 8000000 in
theorem copy_c (hO:NoO O) {A:Av}{b:Block}{cs:List Value} (hb:BlockR A H cs b) (hsm:SmallB b) :
 ∃ u H',Lc V O F_ref24_Copy [.agg cs.toArray] H u H'∧(∃ cs':List Value,u=.agg cs'.toArray∧BlkO (.old H.next) H' H.next cs' b∧Fr H H'):=by
 obtain⟨vp,vc,vf,vt,rfl,hp,hc,hf,ht⟩:=hb
 refine Lc.ref24_Copy (hO _ _ _ (by decide)) ?_
 unfold P_ref24_Copy
 apply zSeq
 apply zReg
 refine zBox rfl (fun _=>rfl) fun H1 f1 b1 n1=>?_
 refine zAlc E_Block elBlk0 fun H2 f2 b2 n2=>?_
 replace b1:=b1.fr f2
 have b1':Bx H2 H.next 45 [vp,vc,vf,vt]:=b1
 have f12:=f1.trans f2
 clear b1 f1 f2
 refine wN ?_
 apply zSeq
 refine WP.rega ?_
 refine yNew E_s_int E_int fun H3 f3 n3 wA=>?_
 refine yFld rfl O_Block_From ?_
 refine yLd rfl ((b1'.fr f3).ld rfl E_s_int rfl) ?_
 refine yNew E_s_int E_int fun H4 f4 n4 wB=>?_
 refine yFld rfl O_Block_To ?_
 refine yLd rfl (((b1'.fr f3).fr f4).ld rfl E_s_int rfl) ?_
 refine yAlc E_Block elBlk0 fun H5 f5 b5 n5=>?_
 have f25:=(f3.trans f4).trans f5
 have f05:=f12.trans f25
 have hbo:H.next≤H2.next:=f12.1
 have hfl:=hsm.frm
 have htl:=hsm.to
 have wA5:OwI 3 H5 H2.next (.slice (some ⟨H2.next,0,none⟩) 0 0) [] (some (H2.next,H2.next)):=((wA 1 H2.next (Nat.le_refl _)).fr f4).fr f5
 have wB5:OwI 3 H5 H3.next (.slice (some ⟨H3.next,0,none⟩) 0 0) [] (some (H3.next,H3.next)):=(wB 1 H3.next (Nat.le_refl _)).fr f5
 obtain⟨vF,H6,oF,kF,wF,xF,gF⟩:=wA5.app (V:=V) ((hf.fr f05).sl (by omega)) (by simp;omega) (by omega) E_s_int E_s_int E_int (by decide)
 rw[List.nil_append] at wF
 have f06:Fr H H6:=f05.young xF (by simp[obs];omega) (by simp[ogs];omega)
 have wB6:OwI 3 H6 H3.next (.slice (some ⟨H3.next,0,none⟩) 0 0) [] (some (H3.next,H3.next)):=wB5.frX xF (by simp[obs];omega) (by simp[ogs];omega)
 have hn56:=xF.1
 obtain⟨vT,H7,oT,kT,wT,xT,gT⟩:=wB6.app (V:=V) ((ht.fr f06).sl (by omega)) (by simp;omega) (by omega) E_s_int E_s_int E_int (by decide)
 rw[List.nil_append] at wT
 have f07:Fr H H7:=f06.young xT (by simp[obs];omega) (by simp[ogs];omega)
 have hn67:=xT.1
 obtain⟨fa,fn,fc,rfl⟩:=wF.isSl
 obtain⟨ta,tn,tc,rfl⟩:=wT.isSl
 have oF4:∀ b∈obs oF,b∉[H4.next]:=fun b hb=>by
  have:=gF.1 b hb
  simp[Av.of,obs] at this
  simp;omega
 have oT4:∀ b∈obs oT,b∉[H4.next]:=fun b hb=>by
  have:=gT.1 b hb
  simp[Av.of,obs] at this
  simp;omega
 have oFT:∀ b∈obs oF,b∉obs (some (H3.next,H3.next)):=fun b hb=>by
  have:=gF.1 b hb
  simp[Av.of,obs] at this
  simp[obs];omega
 have oFT':∀ b∈ogs oF,b∉ogs (some (H3.next,H3.next)):=fun b hb=>by
  have:=gF.2 b hb
  simp[Av.of,ogs] at this
  simp[ogs];omega
 refine WH.op (kF rfl rfl) ?_
 refine WH.op (kT rfl rfl) ?_
 refine WH.op (op_build rfl elBuildBlk) ?_
 have b16:=(b1'.fr f25).frX xF (by simp[obs];omega)
 have b57:=(b5.frX xF (by simp[obs];omega)).frX xT (by simp[obs];omega)
 refine yStB b57 rfl rfl E_Block (by rw[te_Block_size];rfl) rfl (by simp[Value.cells]) (by simp[Value.cells]) fun H8 f8 b8 n8=>?_
 have b8':Bx H8 H4.next 45 [.slice none 0 0,.slice none 0 0,.slice fa fn fc,.slice ta tn tc]:=b8
 have b18:=(b16.frX xT (by simp[obs];omega)).frX f8 (by simp;omega)
 have b28:=(((b2.fr f25).frX xF (by simp[obs];omega)).frX xT (by simp[obs];omega)).frX f8 (by simp;omega)
 have f08:Fr H H8:=f07.young f8 (by simp;omega) (by simp)
 have wF8:OwI 3 H8 H2.next (.slice fa fn fc) b.frm oF:=(wF.frX xT oFT oFT').frX f8 oF4 (by simp)
 have wT8:OwI 3 H8 H3.next (.slice ta tn tc) b.to oT:=wT.frX f8 oT4 (by simp)
 refine WH.nil ⟨?_,_,rfl,?_⟩
 ·intro x hx
  rw[List.mem_singleton] at hx
  subst hx
  obtain⟨q1,q2,q3,rfl⟩:=ht.isSl
  exact .inr ⟨rfl,_,_,_,rfl,rfl,op_load rfl (b16.ld (off:=3) rfl E_s_int rfl),sameV_sl⟩
 have hpH:=hp
 have hcH:=hc
 have hn8:H4.next<H8.next:=b8'.1
 have hBG:∀ {n:Nat},(Av.old H8.next).Gr (.old H.next) n:=Av.old_gr (Av.old_lt.mono (by have:=f08.1;omega))
 have hBlt:(Av.old H8.next).Lt H8.next:=Av.old_lt
 have hBsub:∀ {Hx Hy:AH},FrX [H4.next] [] Hx Hy→FrX (Av.old H8.next).bs (Av.old H8.next).gs Hx Hy:=fun h=>h.sub (fun b hb=>by simp[Av.old] at hb ⊢;omega) (by simp)
 generalize hB:Av.old H8.next=B at *
 clear b1' b2 b5 b57 b8 b16 f3 f4 f5 f8 f12 f25 f05 f06 f07 wA wB wA5 wB5 wB6 wF wT hf ht hp hc kF kT xF xT gF gT
 refine WP.seqS (σ:=Value×Option (Nat×Nat)) (fun x=>[(1,.pointer (some ⟨H.next,0,none⟩)),(2,.pointer (some ⟨H1.next,0,none⟩)),(3,.pointer (some ⟨H4.next,0,none⟩))]) (fun x Hc=>FrX [H4.next] [] H8 Hc∧Bx Hc H4.next 45 [x.1,.slice none 0 0,.slice fa fn fc,.slice ta tn tc]∧OwR 49 2 PhiR B Hc H8.next x.1 b.phis x.2) ?_ ?_
 ·have hlen1:=fun Hz=>hpH.len (V:=V) (H2:=Hz) E_s_api_Phi
  repeat first|apply zSeq|apply zReg|apply zBlk|refine wN ?_|refine wA ?_
  refine WP.loopH (σ:=Nat×Value×Option (Nat×Nat)) (fun x=>[(1,.pointer (some ⟨H.next,0,none⟩)),(2,.pointer (some ⟨H1.next,0,none⟩)),(3,.pointer (some ⟨H4.next,0,none⟩)),(4,.int .i64 x.1)]) (fun x Hc=>FrX [H4.next] [] H8 Hc∧Bx Hc H4.next 45 [x.2.1,.slice none 0 0,.slice fa fn fc,.slice ta tn tc]∧OwR 49 2 PhiR B Hc H8.next x.2.1 (b.phis.take x.1) x.2.2∧x.1≤b.phis.length) (fun x=>b.phis.length-x.1) (0,.slice none 0 0,none) ⟨.refl _ _ _,b8',.nil,Nat.zero_le _⟩ ⟨rfl,rfl,rfl,rfl,trivial⟩ ?_
  rintro⟨k,pv,o⟩ Hc ⟨hfr,hbx,how,hk⟩
  simp only at hfr hbx how hk ⊢
  have b1c:=b18.frX hfr (by simp;omega)
  have hLp:=hsm.phis
  rcases Nat.lt_or_ge k b.phis.length with h|h
  case inr =>
   have g1:decide ((k:Int)<b.phis.length)=false:=dF
   rw[List.take_of_length_le h] at how
   repeat first|apply zSeq|apply zReg|apply zExt|refine wN ?_|refine wG ?_|refine wL ?_|refine wE ?_|refine wD O_Block_Phis ?_|refine wB E_s_api_Phi ?_|refine wK (hlen1 _) ?_
   exact⟨(pv,o),⟨hfr,hbx,how⟩,rfl,rfl,rfl,trivial⟩
  have g1:decide ((k:Int)<b.phis.length)=true:=dT
  have frH:Fr H Hc:=f08.young hfr (by simp;omega) (by simp)
  have hpc:Els 2 PhiR A Hc vp b.phis:=hpH.fr PhiR.m frH
  obtain⟨bb,off,cs,ha1,hrd,va,rfl,hva⟩:=hpc.at E_s_api_Phi E_Phi te_Phi_size (kd:=.i64) h
  have hLa:=hsm.pargs b.phis[k] (List.getElem_mem _)
  generalize hp0:b.phis[k]=p at *
  have hlR:∀ Hz,Fr Hc Hz→aLoad V.E Hz 3 (.pointer (some ⟨bb,off+0,none⟩))=some (.int .i64 p.r):=fun Hz kz=>((hrd.fr kz).sub 0 1 (by omega)).load1 E_int rfl
  have hlA:∀ Hz,Fr Hc Hz→aLoad V.E Hz 43 (.pointer (some ⟨bb,off+1,none⟩))=some va:=fun Hz kz=>((hrd.fr kz).sub 1 1 (by omega)).load1 E_s_int rfl
  obtain⟨xa,xn,xc,rfl⟩:=hva.isSl
  repeat first|apply zSeq|apply zReg|apply zBlk|apply zSkp|refine wN ?_|refine wG ?_|refine wL ?_|refine wT ?_|refine wD O_Block_Phis ?_|refine wB E_s_api_Phi ?_|refine wK (hlen1 _) ?_
  refine WP.rega ?_
  refine yFld rfl O_Block_Phis ?_
  refine yLd rfl (hbx.ld (off:=0) rfl E_s_api_Phi rfl) ?_
  refine yFld rfl O_Block_Phis ?_
  refine yLd rfl (b1c.ld (off:=0) rfl E_s_api_Phi rfl) ?_
  refine yGet rfl ?_
  refine yIdx rfl rfl ha1 ?_
  refine yFld rfl O_Phi_R ?_
  refine yLd rfl (hlR _ (.refl _)) ?_
  refine yNew E_s_int E_int fun H9 f9 n9 w9=>?_
  refine yFld rfl O_Block_Phis ?_
  refine yLd rfl ((b1c.fr f9).ld (off:=0) rfl E_s_api_Phi rfl) ?_
  refine yGet rfl ?_
  refine yIdx rfl rfl ha1 ?_
  refine yFld rfl O_Phi_Args ?_
  refine yLd rfl (hlA _ f9) ?_
  have w9':OwI 3 H9 Hc.next (.slice (some ⟨Hc.next,0,none⟩) 0 0) [] (some (Hc.next,Hc.next)):=w9 1 Hc.next (Nat.le_refl _)
  obtain⟨vA,Ha,oA,kA,wA,xA,gA⟩:=w9'.app (V:=V) ((hva.fr f9).sl (by omega)) (by simp;omega) (by omega) E_s_int E_s_int E_int (by decide)
  rw[List.nil_append] at wA
  obtain⟨aa,an,ac,rfl⟩:=wA.isSl
  have fca:Fr Hc Ha:=f9.young xA (by simp[obs]) (by simp[ogs])
  have hyo:=how.young
  have hn8c:=hfr.1
  obtain⟨pv',Hb,o',k1,k2,k3,k4,_⟩:=(how.fr PhiR.m fca).app1 (V:=V) (x:=⟨p.r,p.args⟩) (cx:=[.int .i64 p.r,.slice aa an ac]) PhiR.m (hBlt.mono (by have:=fca.1;omega)) ⟨_,rfl,wA.rYoung ((hBlt.mono (by omega)).and how.lt)⟩ PhiR.one (by decide) (bytes:=32) (by rw[List.length_take];omega) (by rw[List.length_take];omega) (by have:=fca.1;omega) E_s_api_Phi E_s_api_Phi E_Phi te_Phi_size te_Phi_bytes
  refine WH.op (kA rfl rfl) ?_
  refine WH.op (op_build rfl elBuildPhi) ?_
  refine WH.op (op_buildSlice rfl E_s_api_Phi E_Phi (by rw[te_Phi_size];decide) elFillPhi) ?_
  refine WH.op (k1 rfl rfl) ?_
  have hbxa:=hbx.fr fca
  have hbxb:=hbxa.frX k3 (fun hb=>by have:=hyo.1 _ hb;omega)
  obtain⟨pa',pn',pc',rfl⟩:=OwR.isSl' k2
  refine yFld rfl O_Block_Phis ?_
  refine yStB hbxb rfl rfl E_s_api_Phi rfl rfl (by simp[Value.cells]) (by simp[Value.cells]) fun Hd fd bd nd=>?_
  have bd':Bx Hd H4.next 45 [.slice pa' pn' pc',.slice none 0 0,.slice fa fn fc,.slice ta tn tc]:=bd
  refine WH.nil ⟨?_,_,rfl,?_⟩
  ·intro x hx
   simp only[List.mem_cons,List.not_mem_nil,or_false] at hx
   obtain⟨q1,q2,q3,rfl⟩:=OwR.isSl' how
   obtain⟨q4,q5,q6,rfl⟩:∃ a n c,vp=.slice a n c:=let ⟨_,h,_⟩:=hpH;h.isSl
   rcases hx with rfl|rfl|rfl
   ·simp only[List.nil_append,List.cons_append]
    exact .inr ⟨rfl,_,_,_,rfl,rfl,op_load rfl ((hbxa.fr (.alloc _ _)).ld (off:=0) rfl E_s_api_Phi rfl),sameV_sl⟩
   ·simp only[List.nil_append,List.cons_append]
    exact .inr ⟨rfl,_,_,_,rfl,rfl,op_load rfl (((b1c.fr fca).fr (.alloc _ _)).ld (off:=0) rfl E_s_api_Phi rfl),sameV_sl⟩
   ·simp only[List.nil_append,List.cons_append]
    exact .inr ⟨rfl,_,_,_,rfl,rfl,op_load rfl (hlR _ (fca.trans (.alloc _ _))),sameV_int⟩
  repeat first|apply zReg|refine wN ?_|refine wG ?_|refine wS ?_
  have hfin:FrX [H4.next] [] H8 Hd:=((hfr.trans (fca.x [] []) (by simp) (by simp)).trans k3 (fun b hb hlt=>absurd (hyo.1 b hb) (by omega)) (fun b hb hlt=>absurd (hyo.2.1 b hb) (by omega))).trans fd (fun b hb _=>hb) (by simp)
  have hy2:=k2.young
  exact⟨(k+1,.slice pa' pn' pc',o'),⟨hfin,bd',by rw[List.take_succ_eq_append_getElem h,hp0];exact k2.frX PhiR.m (hBsub fd) (fun b hb h2=>by have:=hy2.1 b hb;have:=hBlt.1 b h2;omega) (fun b hb h2=>by have:=hy2.2.1 b hb;have:=hBlt.2 b h2;omega),h⟩,by simp only;omega,rfl,rfl,rfl,rfl,trivial⟩
 ·rintro⟨pv,op⟩ Hp ⟨hfrp,hbxp,howp⟩
  simp only at hfrp hbxp howp ⊢
  have hlc:=hsm.code
  have b1p:=b18.frX hfrp (by simp;omega)
  have b2p:=b28.frX hfrp (by simp;omega)
  have f0p:Fr H Hp:=f08.young hfrp (by simp;omega) (by simp)
  have hnp:=hfrp.1
  refine WP.seqS (σ:=Value×Option (Nat×Nat)) (fun x=>[(2,.pointer (some ⟨H1.next,0,none⟩)),(3,.pointer (some ⟨H4.next,0,none⟩))]) (fun x Hc=>FrX [H4.next] [] Hp Hc∧Bx Hc H4.next 45 [pv,x.1,.slice fa fn fc,.slice ta tn tc]∧OwR 47 6 InsR B Hc Hp.next x.1 b.code x.2) ?_ ?_
  ·have hlen1:=fun Hz=>hcH.len (V:=V) (H2:=Hz) E_s_api_Ins
   repeat first|apply zSeq|apply zReg|apply zBlk|refine wN ?_|refine wA ?_
   refine WP.loopH (σ:=Nat×Value×Option (Nat×Nat)) (fun x=>[(1,.pointer (some ⟨H.next,0,none⟩)),(2,.pointer (some ⟨H1.next,0,none⟩)),(3,.pointer (some ⟨H4.next,0,none⟩)),(5,.int .i64 x.1)]) (fun x Hc=>FrX [H4.next] [] Hp Hc∧Bx Hc H4.next 45 [pv,x.2.1,.slice fa fn fc,.slice ta tn tc]∧OwR 47 6 InsR B Hc Hp.next x.2.1 (b.code.take x.1) x.2.2∧x.1≤b.code.length) (fun x=>b.code.length-x.1) (0,.slice none 0 0,none) ⟨.refl _ _ _,hbxp,.nil,Nat.zero_le _⟩ ⟨rfl,rfl,rfl,rfl,trivial⟩ ?_
   rintro⟨k,cv,o⟩ Hc ⟨hfr,hbx,how,hk⟩
   simp only at hfr hbx how hk ⊢
   have b1c:=b1p.frX hfr (by simp;omega)
   rcases Nat.lt_or_ge k b.code.length with h|h
   case inr =>
    have g1:decide ((k:Int)<b.code.length)=false:=dF
    rw[List.take_of_length_le h] at how
    repeat first|apply zSeq|apply zReg|apply zExt|refine wN ?_|refine wG ?_|refine wL ?_|refine wE ?_|refine wD O_Block_Code ?_|refine wB E_s_api_Ins ?_|refine wK (hlen1 _) ?_
    exact⟨(cv,o),⟨hfr,hbx,how⟩,rfl,rfl,trivial⟩
   have g1:decide ((k:Int)<b.code.length)=true:=dT
   have frH:Fr H Hc:=f0p.young hfr (by simp;omega) (by simp)
   have hpc:Els 6 InsR A Hc vc b.code:=hcH.fr InsR.m frH
   obtain⟨bb,off,cs,ha1,hrd,va,rfl,hva⟩:=hpc.at E_s_api_Ins E_Ins te_Ins_size (kd:=.i64) h
   have hl1:=hrd.loadN (V:=V) E_Ins te_Ins_agg te_Ins_size
   have hLa:=hsm.cargs b.code[k] (List.getElem_mem _)
   generalize hp0:b.code[k]=i at *
   obtain⟨xa,xn,xc,rfl⟩:=hva.isSl
   have hlen2:=fun Hz=>hva.len (V:=V) (H2:=Hz) E_s_int
   have hyo:=how.young
   have hCl:(B.and (.of o)).Lt Hc.next:=(hBlt.mono (by have:=hfr.1;omega)).and how.lt
   repeat first|apply zSeq|apply zReg|apply zBlk|apply zSkp|refine wN ?_|refine wG ?_|refine wL ?_|refine wT ?_|refine wD O_Block_Code ?_|refine wB E_s_api_Ins ?_|refine wI ?_|refine wY ?_|refine wK (hlen1 _) ?_
   refine zAlc E_Ins elIns0 fun H9 f9 b9 n9=>?_
   refine zStB b9 rfl rfl E_Ins (by rw[te_Ins_size];rfl) rfl (by simp[Value.cells,Ins.cells]) (by simp[Value.cells,Ins.cells]) fun Ha fa0 ba na=>?_
   have ba':Bx Ha Hc.next 47 (i.cells (.slice xa xn xc)):=ba
   have fca:Fr Hc Ha:=f9.young fa0 (by simp) (by simp)
   have hnca:=ba'.1
   clear b9 ba f9 fa0
   refine wN ?_
   refine WP.seqS (σ:=Value) (fun _=>[(1,.pointer (some ⟨H.next,0,none⟩)),(2,.pointer (some ⟨H1.next,0,none⟩)),(3,.pointer (some ⟨H4.next,0,none⟩)),(5,.int .i64 k),(6,.pointer (some ⟨Hc.next,0,none⟩))]) (fun w Hz=>Fr Hc Hz∧Bx Hz Hc.next 47 (i.cells w)∧IntsR (B.and (.of o)) Hz w i.args) ?_ ?_
   ·cases c1:decide ((i.args.length:Int)>0)
    ·repeat first|apply zSeq|apply zReg|apply zSkp|refine wN ?_|refine wV ?_|refine wE ?_|refine wD O_Ins_Args ?_|refine wB E_s_int ?_|refine wK (hlen2 _) ?_
     exact⟨_,⟨fca,ba',IntsR.none0 hva (by simp at c1;simpa using c1)⟩,rfl,rfl,rfl,rfl,rfl,trivial⟩
    ·repeat first|apply zSeq|apply zReg|refine wN ?_|refine wV ?_|refine wT ?_|refine wD O_Ins_Args ?_|refine wB E_s_int ?_|refine wK (hlen2 _) ?_
     refine zNew E_s_int E_int fun Hb fb nb wb=>?_
     have bb':=ba'.fr fb
     have wb':OwI 3 Hb Ha.next (.slice (some ⟨Ha.next,0,none⟩) 0 0) [] (some (Ha.next,Ha.next)):=wb 1 Ha.next (Nat.le_refl _)
     obtain⟨vA,Hd,oA,kA,wA,xA,gA⟩:=wb'.app (V:=V) (((hva.fr fca).fr fb).sl (by omega)) (by simp;omega) (by omega) E_s_int E_s_int E_int (by decide)
     rw[List.nil_append] at wA
     obtain⟨aa,an,ac,rfl⟩:=wA.isSl
     have bd':=bb'.frX xA (by simp[obs];omega)
     repeat first|refine wD O_Ins_Args ?_|refine wB E_s_int ?_
     refine WL.op (kA rfl rfl) ?_
     repeat first|refine wD O_Ins_Args ?_
     refine zStB bd' rfl rfl E_s_int rfl rfl (by simp[Value.cells]) (by simp[Value.cells,Ins.cells]) fun He fe be ne=>?_
     have be':Bx He Hc.next 47 (i.cells (.slice aa an ac)):=be
     repeat first|refine wN ?_
     have hya:=wA.young
     exact⟨_,⟨((fca.trans fb).young xA (by simp[obs];omega) (by simp[ogs];omega)).young fe (by simp) (by simp),be',(wA.frX fe (fun b hb=>by have:=hya.1 b hb;simp;omega) (by simp)).rYoung (hCl.mono (by omega))⟩,rfl,rfl,rfl,rfl,rfl,trivial⟩
   ·rintro w Hz ⟨fcz,bz,hw⟩
    obtain⟨aa,an,ac,rfl⟩:=hw.isSl
    have hbxz:=hbx.fr fcz
    have hncp:=hfr.1
    have hncz:=fcz.1
    obtain⟨cv',Hb,o',k1,k2,k3,k4,_⟩:=(how.fr InsR.m fcz).app1 (V:=V) (x:=i) (cx:=i.cells (.slice aa an ac)) InsR.m (hBlt.mono (by omega)) ⟨_,rfl,hw⟩ InsR.one (by decide) (bytes:=64) (by rw[List.length_take];omega) (by rw[List.length_take];omega) (by omega) E_s_api_Ins E_s_api_Ins E_Ins te_Ins_size te_Ins_bytes
    have hbxb:=hbxz.frX k3 (fun hb=>by have:=hyo.1 _ hb;omega)
    obtain⟨pa',pn',pc',rfl⟩:=OwR.isSl' k2
    repeat first|apply zReg|refine wD O_Block_Code ?_|refine wB E_s_api_Ins ?_
    refine zLd rfl (bz.lN E_Ins te_Ins_agg te_Ins_size) ?_
    refine WL.op (op_buildSlice rfl E_s_api_Ins E_Ins (by rw[te_Ins_size];decide) elFillIns) ?_
    refine WL.op (k1 rfl rfl) ?_
    repeat first|refine wD O_Block_Code ?_
    refine zStB hbxb rfl rfl E_s_api_Ins rfl rfl (by simp[Value.cells]) (by simp[Value.cells]) fun Hd fd bd nd=>?_
    have bd':Bx Hd H4.next 45 [pv,.slice pa' pn' pc',.slice fa fn fc,.slice ta tn tc]:=bd
    repeat first|apply zReg|refine wN ?_|refine wG ?_|refine wS ?_
    have hfin:FrX [H4.next] [] Hp Hd:=((hfr.trans (fcz.x [] []) (by simp) (by simp)).trans k3 (fun b hb hlt=>absurd (hyo.1 b hb) (by omega)) (fun b hb hlt=>absurd (hyo.2.1 b hb) (by omega))).trans fd (fun b hb _=>hb) (by simp)
    have hy2:=k2.young
    exact⟨(k+1,.slice pa' pn' pc',o'),⟨hfin,bd',by rw[List.take_succ_eq_append_getElem h,hp0];exact k2.frX InsR.m (hBsub fd) (fun b hb h2=>by have:=hy2.1 b hb;have:=hBlt.1 b h2;omega) (fun b hb h2=>by have:=hy2.2.1 b hb;have:=hBlt.2 b h2;omega),h⟩,by simp only;omega,rfl,rfl,rfl,rfl,trivial⟩
  ·rintro⟨cv,oc⟩ Hz ⟨hfr,hbx,how⟩
   simp only at hfr hbx how ⊢
   obtain⟨pa,pn,pc,rfl⟩:=OwR.isSl' howp
   obtain⟨ca,cn,cc,rfl⟩:=OwR.isSl' how
   have b2z:=b2p.frX hfr (by simp;omega)
   have hnz:=hfr.1
   have hyp:=howp.young
   have hyc:=how.young
   repeat first|apply zSeq|apply zReg
   refine zLd rfl (hbx.lN E_Block te_Block_agg te_Block_size) ?_
   refine zStB b2z rfl rfl E_Block (by rw[te_Block_size];rfl) rfl (by simp[Value.cells]) (by simp[Value.cells]) fun H9 f9 b9 n9=>?_
   have b9':Bx H9 H1.next 45 [.slice pa pn pc,.slice ca cn cc,.slice fa fn fc,.slice ta tn tc]:=b9
   repeat first|refine wN ?_
   have hn12:H1.next<H8.next:=b28.1
   have hBsub1:∀ {Hx Hy:AH},FrX [H1.next] [] Hx Hy→FrX B.bs B.gs Hx Hy:=fun h=>h.sub (fun b hb=>by rw[←hB];simp[Av.old] at hb ⊢;omega) (by simp)
   have k9:FrX [H4.next,H1.next] [] H8 H9:=((hfrp.sub (bs':=[H4.next,H1.next]) (gs':=[]) (by simp) (by simp)).trans (hfr.sub (bs':=[H4.next,H1.next]) (gs':=[]) (by simp) (by simp)) (fun b hb _=>hb) (by simp)).trans (f9.sub (bs':=[H4.next,H1.next]) (gs':=[]) (by simp) (by simp)) (fun b hb _=>hb) (by simp)
   refine WP.ret ⟨.inr rfl,_,resL_cell rfl (b9'.lN E_Block te_Block_agg te_Block_size) rfl,_,rfl,⟨_,_,_,_,oc,rfl,?_,?_,?_,?_⟩,((f0p.young hfr (by simp;omega) (by simp)).young f9 (by simp;omega) (by simp))⟩
   ·exact (((howp.frX PhiR.m (hBsub hfr) (fun b hb h2=>by have:=hyp.1 b hb;have:=hBlt.1 b h2;omega) (fun b hb h2=>by have:=hyp.2.1 b hb;have:=hBlt.2 b h2;omega)).frX PhiR.m (hBsub1 f9) (fun b hb h2=>by have:=hyp.1 b hb;have:=hBlt.1 b h2;omega) (fun b hb h2=>by have:=hyp.2.1 b hb;have:=hBlt.2 b h2;omega)).els PhiR.m (fun b hb h2=>by have:=hyp.1 b hb;have:=hBlt.1 b h2;omega) (fun b hb h2=>by have:=hyp.2.1 b hb;have:=hBlt.2 b h2;omega)).gr PhiR.m hBG
   ·exact ((OwR.n (how.frX InsR.m (hBsub1 f9) (fun b hb h2=>by have:=hyc.1 b hb;have:=hBlt.1 b h2;omega) (fun b hb h2=>by have:=hyc.2.1 b hb;have:=hBlt.2 b h2;omega))).gr InsR.m hBG).old (by have:=f0p.1;omega)
   ·exact (wF8.frX k9 (fun b hb=>by have:=oF4 b hb;have:=wF8.young.1 b hb;simp at *;omega) (by simp)).rYoung (Av.old_lt.mono (by omega))
   ·exact (wT8.frX k9 (fun b hb=>by have:=oT4 b hb;have:=wT8.young.1 b hb;simp at *;omega) (by simp)).rYoung (Av.old_lt.mono (by omega))
end
section
attribute [local irreducible] WL WP WH W
theorem fill_int2 {sb:Nat}{x y:Int}:afill (fun i=>some (i*TI.size ⟨.int .i64,1,sb,.int .i64 0⟩,TI.size ⟨.int .i64,1,sb,.int .i64 0⟩)) (azeros (TI.zv ⟨.int .i64,1,sb,.int .i64 0⟩).cells.toList 2) [(0,.int .i64 x),(1,.int .i64 y)]=some [.int .i64 x,.int .i64 y]:=by rfl
attribute [local irreducible] V
variable {O:Orc}{H:AH}
theorem rWithin_c (hO:NoO O) (n m:Int):Lc V O F_ref07_within [.int .i64 n,.int .i64 m] H (.bool (decide (n≥0)&&decide (n<m))) H:=by
 refine Lc.of_eq (Lc.ref07_within (R:=fun u H'=>u=.bool (decide (n≥0)&&decide (n<m))∧H'=H) (hO _ _ _ (by decide)) ?_)
 unfold P_ref07_within
 cases c1:decide (n≥0)
 ·repeat first|apply zSeq|apply zReg|refine wN ?_|refine wG ?_|refine wF ?_|refine wA ?_|refine wR ?_|refine wW ?_
  exact WP.ret ⟨.inr rfl,_,rfl,rfl,rfl⟩
 ·repeat first|apply zSeq|apply zReg|refine wN ?_|refine wG ?_|refine wO ?_|refine wM ?_|refine wA ?_|refine wP ?_|refine wL ?_|refine wW ?_
  exact WP.ret ⟨.inr rfl,_,rfl,rfl,rfl⟩
set_option maxHeartbeats 4000000 in
theorem rWrites_c (hO:NoO O) {i:Ins}{va:Value} (hop:0≤i.op∧i.op<256) :
  ∃ u H',Lc V O F_ref07_Writes [insV i va] H u H'∧(u=.tuple #[.int .i64 (if (Flo.opD i.op).r=true then i.r else 0),.bool (Flo.opD i.op).r]∧Fr H H'):=by
 refine Lc.ref07_Writes (hO _ _ _ (by decide)) ?_
 unfold P_ref07_Writes
 apply zSeq
 apply zReg
 refine zBox rfl (fun _=>rfl) fun H1 f1 b1 n1=>?_
 obtain⟨op,r,a,b,n,args⟩:=i
 have b1':Bx H1 H.next 47 [.int .u8 op,.int .i64 r,.int .i64 a,.int .i64 b,.int .i64 n,va]:=b1
 clear b1
 simp only at hop ⊢
 by_cases h14:14≤op
 ·have e1:=ne14 h14 (k:=1) (by decide)
  have e2:=ne14 h14 (k:=2) (by decide)
  have e3:=ne14 h14 (k:=3) (by decide)
  have e4:=ne14 h14 (k:=4) (by decide)
  have e5:=ne14 h14 (k:=5) (by decide)
  have e6:=ne14 h14 (k:=10) (by decide)
  rw[opD_out (by unfold Flo.isOp;rw[decide_eq_true (show op≥14 by omega),Bool.or_true];rfl) hop.1]
  repeat first|apply zSeq|apply zReg|apply zBlk|apply zSkp|refine wN ?_|refine wA ?_|refine wQ ?_|refine wE ?_|refine wD O_Ins_Op ?_|refine wB E_uint8 ?_
  exact WP.ret ⟨.inr rfl,_,rfl,rfl,f1⟩
 rcases op_cases0 ⟨hop.1,Int.not_le.1 h14⟩ with rfl|rfl|rfl|rfl|rfl|rfl|rfl|rfl|rfl|rfl|rfl|rfl|rfl|rfl
 all_goals
  repeat first|apply zSeq|apply zReg|apply zBlk|apply zSkp|refine wN ?_|refine wA ?_|refine wQ ?_|refine wt ?_|refine wf ?_|refine wD O_Ins_Op ?_|refine wD O_Ins_R ?_|refine wB E_int ?_|refine wB E_uint8 ?_
  exact WP.ret ⟨.inr rfl,_,rfl,rfl,f1⟩
set_option maxHeartbeats 8000000 in
theorem rReads_c (hO:NoO O) {A:Av}{i:Ins}{va:Value} (hv:IntsR A H va i.args) (hL:i.args.length≤100000) (hop:0≤i.op∧i.op<256) :
 ∃ u H',Lc V O F_ref07_Reads [insV i va] H u H'∧(Fr H H'∧∃ o,OwI 3 H' H.next u (readsG (Flo.opD i.op) i) o):=by
 refine Lc.ref07_Reads (hO _ _ _ (by decide)) ?_
 unfold P_ref07_Reads
 apply zSeq
 apply zReg
 refine zBox rfl (fun _=>rfl) fun H1 f1 b1 n1=>?_
 obtain⟨op,r,a,b,n,args⟩:=i
 have b1':Bx H1 H.next 47 [.int .u8 op,.int .i64 r,.int .i64 a,.int .i64 b,.int .i64 n,va]:=b1
 clear b1
 simp only at hop hL hv ⊢
 have hn1:H.next≤H1.next:=f1.1
 obtain⟨v1,H2,o1,k1,k2,k3,k4⟩:=(OwI.nil (e:=3) (H:=H1) (n0:=H.next)).app1 (V:=V) a (by simp) hn1 E_s_int E_s_int E_int (by decide)
 rw[List.nil_append] at k2
 have f2:Fr H H2:=f1.young k3 (by simp[obs]) (by simp[ogs])
 have b2':=b1'.frX k3 (by simp[obs])
 obtain⟨v3,H3,o3,m1,m2,m3,m4⟩:=k2.app1 (V:=V) b (by simp) f2.1 E_s_int E_s_int E_int (by decide)
 have hy2:=k2.young
 have f3:Fr H H3:=f2.young m3 hy2.1 hy2.2.1
 obtain⟨v4,H4,o4,p1,p2,p3,p4⟩:=(OwI.nil (e:=3) (H:=H1) (n0:=H.next)).app1 (V:=V) b (by simp) hn1 E_s_int E_s_int E_int (by decide)
 rw[List.nil_append] at p2
 have f4:Fr H H4:=f1.young p3 (by simp[obs]) (by simp[ogs])
 have fl:=Fr.alloc H1 (.row 3 [.int .i64 a,.int .i64 b] .exact 0 0)
 obtain⟨v5,H5,o5,q1,q2,q3,q4⟩:=(OwI.nil (e:=3) (H:=H1.alloc (.row 3 [.int .i64 a,.int .i64 b] .exact 0 0)) (n0:=H.next)).app (V:=V) (m:=[a,b]) (OneAt.toSl (H:=H1) (e:=3) (cs:=[.int .i64 a,.int .i64 b]) (cap:=2) (by simp)) (by simp) (Nat.le_trans hn1 fl.1) E_s_int E_s_int E_int (by decide)
 rw[List.nil_append] at q2
 have f5:Fr H H5:=(f1.trans fl).young q3 (by simp[obs]) (by simp[ogs])
 obtain⟨v6,H6,o6,r1,r2,r3,r4⟩:=(OwI.nil (e:=3) (H:=H1) (n0:=H.next)).app (V:=V) (m:=args) ((hv.fr f1).sl (by omega)) (by simp;omega) hn1 E_s_int E_s_int E_int (by decide)
 rw[List.nil_append] at r2
 have f6:Fr H H6:=f1.young r3 (by simp[obs]) (by simp[ogs])
 by_cases h14:14≤op
 ·have e2:=ne14 h14 (k:=2) (by decide)
  have e3:=ne14 h14 (k:=3) (by decide)
  have e4:=ne14 h14 (k:=4) (by decide)
  have e5:=ne14 h14 (k:=5) (by decide)
  have e6:=ne14 h14 (k:=6) (by decide)
  have e7:=ne14 h14 (k:=9) (by decide)
  have e8:=ne14 h14 (k:=10) (by decide)
  have e9:=ne14 h14 (k:=12) (by decide)
  have ea:=ne14 h14 (k:=13) (by decide)
  rw[opD_out (by unfold Flo.isOp;rw[decide_eq_true (show op≥14 by omega),Bool.or_true];rfl) hop.1]
  repeat first|apply zSeq|apply zReg|apply zBlk|apply zSkp|refine wN ?_|refine wG ?_|refine wA ?_|refine wQ ?_|refine wE ?_|refine wD O_Ins_Op ?_|refine wB E_uint8 ?_
  exact WP.ret ⟨.inr rfl,_,rfl,f1,none,.nil⟩
 have ha0:a=-1∨(a != -1)=true:=by
  by_cases h:a=-1
  ·exact .inl h
  ·exact .inr (by simpa using h)
 rcases op_cases0 ⟨hop.1,Int.not_le.1 h14⟩ with rfl|rfl|rfl|rfl|rfl|rfl|rfl|rfl|rfl|rfl|rfl|rfl|rfl|rfl
 case inr.inr.inr.inr.inr.inl =>
  rcases ha0 with rfl|c
  ·repeat first|apply zSeq|apply zReg|apply zBlk|apply zSkp|refine wN ?_|refine wG ?_|refine wA ?_|refine wQ ?_|refine wU ?_|refine wt ?_|refine wf ?_|refine wD O_Ins_Op ?_|refine wD O_Ins_A ?_|refine wB E_int ?_|refine wB E_uint8 ?_
   exact WP.ret ⟨.inr rfl,_,rfl,f1,none,.nil⟩
  ·have hr:readsG (Flo.opD 5) ⟨5,r,a,b,n,args⟩=[a]:=by
    have:(a==-1)=false:=by simpa using c
    simp[readsG,Flo.opD,Flo.opL,this]
   rw[hr]
   repeat first|apply zSeq|apply zReg|apply zBlk|refine wN ?_|refine wG ?_|refine wA ?_|refine wQ ?_|refine wU ?_|refine wt ?_|refine wf ?_|refine wT ?_|refine wD O_Ins_Op ?_|refine wD O_Ins_A ?_|refine wB E_int ?_|refine wB E_uint8 ?_
   refine WL.op (op_buildSlice rfl E_s_int E_int (by decide) fill_int) ?_
   refine WL.op (k1 rfl rfl) ?_
   repeat first|apply zSeq|apply zReg|refine wN ?_|refine wG ?_
   exact WP.ret ⟨.inr rfl,_,rfl,f2,o1,k2⟩
 case inr.inr.inr.inr.inr.inr.inl =>
  rcases ha0 with rfl|c
  ·repeat first|apply zSeq|apply zReg|apply zBlk|apply zSkp|refine wN ?_|refine wG ?_|refine wA ?_|refine wQ ?_|refine wU ?_|refine wt ?_|refine wf ?_|refine wD O_Ins_Op ?_|refine wD O_Ins_A ?_|refine wD O_Ins_B ?_|refine wB E_int ?_|refine wB E_uint8 ?_
   refine WL.op (op_buildSlice rfl E_s_int E_int (by decide) fill_int) ?_
   refine WL.op (p1 rfl rfl) ?_
   repeat first|apply zSeq|apply zReg|refine wN ?_|refine wG ?_
   exact WP.ret ⟨.inr rfl,_,rfl,f4,o4,p2⟩
  ·have hr:readsG (Flo.opD 6) ⟨6,r,a,b,n,args⟩=[a]++[b]:=by
    have:(a==-1)=false:=by simpa using c
    simp[readsG,Flo.opD,Flo.opL,this]
   rw[hr]
   repeat first|apply zSeq|apply zReg|apply zBlk|refine wN ?_|refine wG ?_|refine wA ?_|refine wQ ?_|refine wU ?_|refine wt ?_|refine wf ?_|refine wT ?_|refine wD O_Ins_Op ?_|refine wD O_Ins_A ?_|refine wB E_int ?_|refine wB E_uint8 ?_
   refine WL.op (op_buildSlice rfl E_s_int E_int (by decide) fill_int) ?_
   refine WL.op (k1 rfl rfl) ?_
   repeat first|apply zReg|refine wN ?_|refine wG ?_|refine wD O_Ins_B ?_|refine wB E_int ?_
   refine WL.op (op_buildSlice rfl E_s_int E_int (by decide) fill_int) ?_
   refine WL.op (m1 rfl rfl) ?_
   repeat first|apply zSeq|apply zReg|refine wN ?_|refine wG ?_
   exact WP.ret ⟨.inr rfl,_,rfl,f3,o3,m2⟩
 case inr.inr.inr.inr.inl =>
  repeat first|apply zSeq|apply zReg|apply zBlk|refine wN ?_|refine wG ?_|refine wA ?_|refine wQ ?_|refine wt ?_|refine wf ?_|refine wD O_Ins_Op ?_|refine wD O_Ins_A ?_|refine wD O_Ins_B ?_|refine wB E_int ?_|refine wB E_uint8 ?_
  refine WL.op (op_buildSlice rfl E_s_int E_int (by decide) fill_int2) ?_
  refine WL.op (q1 rfl rfl) ?_
  repeat first|apply zSeq|apply zReg|refine wN ?_|refine wG ?_
  exact WP.ret ⟨.inr rfl,_,rfl,f5,o5,q2⟩
 case inr.inr.inr.inr.inr.inr.inr.inr.inr.inr.inl =>
  repeat first|apply zSeq|apply zReg|apply zBlk|refine wN ?_|refine wG ?_|refine wA ?_|refine wQ ?_|refine wt ?_|refine wf ?_|refine wD O_Ins_Op ?_|refine wD O_Ins_Args ?_|refine wB E_uint8 ?_|refine wB E_s_int ?_
  refine WL.op (r1 rfl rfl) ?_
  repeat first|apply zSeq|apply zReg|refine wN ?_|refine wG ?_
  exact WP.ret ⟨.inr rfl,_,rfl,f6,o6,r2⟩
 all_goals
  first
  | ((repeat first|apply zSeq|apply zReg|apply zBlk|apply zSkp|refine wN ?_|refine wG ?_|refine wA ?_|refine wQ ?_|refine wt ?_|refine wf ?_|refine wD O_Ins_Op ?_|refine wD O_Ins_A ?_|refine wB E_int ?_|refine wB E_uint8 ?_);exact WP.ret ⟨.inr rfl,_,rfl,f1,none,.nil⟩)
  | ((repeat first|apply zSeq|apply zReg|apply zBlk|apply zSkp|refine wN ?_|refine wG ?_|refine wA ?_|refine wQ ?_|refine wt ?_|refine wf ?_|refine wD O_Ins_Op ?_|refine wD O_Ins_A ?_|refine wB E_int ?_|refine wB E_uint8 ?_);refine WL.op (op_buildSlice rfl E_s_int E_int (by decide) fill_int) ?_;refine WL.op (k1 rfl rfl) ?_;(repeat first|apply zSeq|apply zReg|refine wN ?_|refine wG ?_);exact WP.ret ⟨.inr rfl,_,rfl,f2,o1,k2⟩)
set_option maxHeartbeats 4000000 in
theorem rSame_c (hO:NoO O) {A B:Av}{i j:Ins}{va vb:Value} (h1:IntsR A H va i.args) (h2:IntsR B H vb j.args) (hL:i.args.length≤1000000) :
  ∃ u H',Lc V O F_ref07_SameIns [insV i va,insV j vb] H u H'∧(u=.bool (sameB i j)∧Fr H H'):=by
 refine Lc.ref07_SameIns (hO _ _ _ (by decide)) ?_
 unfold P_ref07_SameIns
 apply zSeq
 apply zReg
 refine zBox rfl (fun _=>rfl) fun H1 f1 b1 n1=>?_
 refine zBox rfl (fun _=>rfl) fun H2 f2 b2 n2=>?_
 have b1':Bx H2 H.next 47 (i.cells va):=b1.fr f2
 have b2':Bx H2 H1.next 47 (j.cells vb):=b2
 have f12:=f1.trans f2
 have hlen1:=fun Hz=>h1.len (V:=V) (H2:=Hz) E_s_int
 have hlen2:=fun Hz=>h2.len (V:=V) (H2:=Hz) E_s_int
 clear b1 b2
 unfold sameB
 refine byTF (i.op==j.op) (fun c1=>?_) (fun c1=>by (have c1':(i.op != j.op)=true:=by (unfold bne;rw[c1];rfl));(repeat first|apply zSeq|apply zReg|refine wN ?_|refine wx ?_|refine wF ?_|refine wA ?_|refine wp ?_|refine wP ?_|refine wU ?_|refine wt ?_|refine wD O_Ins_Op ?_|refine wB E_uint8 ?_);exact WP.ret ⟨.inr rfl,_,rfl,by rw[c1];rfl,f12⟩)
 have c1':(i.op != j.op)=false:=by unfold bne;rw[c1];rfl
 refine byTF (i.r==j.r) (fun c2=>?_) (fun c2=>by (have c2':(i.r != j.r)=true:=by (unfold bne;rw[c2];rfl));(repeat first|apply zSeq|apply zReg|refine wN ?_|refine wx ?_|refine wO ?_|refine wF ?_|refine wA ?_|refine wp ?_|refine wP ?_|refine wR ?_|refine wU ?_|refine wt ?_|refine wD O_Ins_Op ?_|refine wD O_Ins_R ?_|refine wB E_int ?_|refine wB E_uint8 ?_);exact WP.ret ⟨.inr rfl,_,rfl,by rw[c1,c2];rfl,f12⟩)
 have c2':(i.r != j.r)=false:=by unfold bne;rw[c2];rfl
 refine byTF (i.a==j.a) (fun c3=>?_) (fun c3=>by (have c3':(i.a != j.a)=true:=by (unfold bne;rw[c3];rfl));(repeat first|apply zSeq|apply zReg|refine wN ?_|refine wx ?_|refine wO ?_|refine wF ?_|refine wA ?_|refine wp ?_|refine wP ?_|refine wR ?_|refine wU ?_|refine wt ?_|refine wD O_Ins_Op ?_|refine wD O_Ins_R ?_|refine wD O_Ins_A ?_|refine wB E_int ?_|refine wB E_uint8 ?_);exact WP.ret ⟨.inr rfl,_,rfl,by rw[c1,c2,c3];rfl,f12⟩)
 have c3':(i.a != j.a)=false:=by unfold bne;rw[c3];rfl
 refine byTF (i.b==j.b) (fun c4=>?_) (fun c4=>by (have c4':(i.b != j.b)=true:=by (unfold bne;rw[c4];rfl));(repeat first|apply zSeq|apply zReg|refine wN ?_|refine wx ?_|refine wO ?_|refine wF ?_|refine wA ?_|refine wp ?_|refine wP ?_|refine wR ?_|refine wU ?_|refine wt ?_|refine wD O_Ins_Op ?_|refine wD O_Ins_R ?_|refine wD O_Ins_A ?_|refine wD O_Ins_B ?_|refine wB E_int ?_|refine wB E_uint8 ?_);exact WP.ret ⟨.inr rfl,_,rfl,by rw[c1,c2,c3,c4];rfl,f12⟩)
 have c4':(i.b != j.b)=false:=by unfold bne;rw[c4];rfl
 refine byTF (i.n==j.n) (fun c5=>?_) (fun c5=>by (have c5':(i.n != j.n)=true:=by (unfold bne;rw[c5];rfl));(repeat first|apply zSeq|apply zReg|refine wN ?_|refine wO ?_|refine wF ?_|refine wA ?_|refine wP ?_|refine wR ?_|refine wU ?_|refine wt ?_|refine wD O_Ins_Op ?_|refine wD O_Ins_R ?_|refine wD O_Ins_A ?_|refine wD O_Ins_B ?_|refine wD O_Ins_N ?_|refine wB E_int ?_|refine wB E_int64 ?_|refine wB E_uint8 ?_);exact WP.ret ⟨.inr rfl,_,rfl,by rw[c1,c2,c3,c4,c5];rfl,f12⟩)
 have c5':(i.n != j.n)=false:=by unfold bne;rw[c5];rfl
 rw[c1,c2,c3,c4,c5]
 simp only[Bool.true_and]
 cases c6:((i.args.length:Int) != j.args.length)
 case true=>
  have hne:(i.args==j.args)=false:=by
   rw[beq_eq_false_iff_ne]
   intro e
   rw[e] at c6;simp at c6
  repeat first|apply zSeq|apply zReg|refine wN ?_|refine wO ?_|refine wA ?_|refine wR ?_|refine wU ?_|refine wT ?_|refine wD O_Ins_Op ?_|refine wD O_Ins_R ?_|refine wD O_Ins_A ?_|refine wD O_Ins_B ?_|refine wD O_Ins_N ?_|refine wD O_Ins_Args ?_|refine wB E_int ?_|refine wB E_int64 ?_|refine wB E_uint8 ?_|refine wB E_s_int ?_|refine wK (hlen1 _) ?_|refine wK (hlen2 _) ?_
  exact WP.ret ⟨.inr rfl,_,rfl,by rw[hne];rfl,f12⟩
 have hll:i.args.length=j.args.length:=by
  have:(i.args.length:Int)=j.args.length:=by simpa using c6
  omega
 repeat first|apply zSeq|apply zReg|apply zBlk|apply zSkp|refine wN ?_|refine wO ?_|refine wA ?_|refine wR ?_|refine wU ?_|refine wE ?_|refine wD O_Ins_Op ?_|refine wD O_Ins_R ?_|refine wD O_Ins_A ?_|refine wD O_Ins_B ?_|refine wD O_Ins_N ?_|refine wD O_Ins_Args ?_|refine wB E_int ?_|refine wB E_int64 ?_|refine wB E_uint8 ?_|refine wB E_s_int ?_|refine wK (hlen1 _) ?_|refine wK (hlen2 _) ?_
 refine WP.loopH (σ:=Nat) (fun k=>[(2,.pointer (some ⟨H.next,0,none⟩)),(3,.pointer (some ⟨H1.next,0,none⟩)),(5,.int .i64 k)]) (fun k Hc=>Hc=H2∧k≤i.args.length∧∀ n (h:n<i.args.length) (h':n<j.args.length),n<k→i.args[n]=j.args[n]) (fun k=>i.args.length-k) 0 ⟨rfl,Nat.zero_le _,fun n _ _ h=>absurd h (by omega)⟩ ⟨rfl,rfl,rfl,trivial⟩ ?_
 rintro k Hc ⟨e,hk,hpre⟩
 subst e
 rcases Nat.lt_or_ge k i.args.length with h|h
 case inr=>
  have g1:decide ((k:Int)<i.args.length)=false:=dF
  have heq:(i.args==j.args)=true:=by
   rw[beq_iff_eq]
   exact List.ext_getElem hll fun n q1 q2=>hpre n q1 q2 (by omega)
  repeat first|apply zSeq|apply zReg|apply zExt|refine wN ?_|refine wG ?_|refine wA ?_|refine wL ?_|refine wE ?_|refine wD O_Ins_Args ?_|refine wB E_s_int ?_|refine wK (hlen1 _) ?_
  exact WP.ret ⟨.inr rfl,_,rfl,by rw[heq];rfl,f12⟩
 have g1:decide ((k:Int)<i.args.length)=true:=dT
 obtain⟨ba,oa,ha1,hl1⟩:=IntsR.at (h1.fr f12) E_s_int E_int (kd:=.i64) h
 obtain⟨bb,ob,ha2,hl2⟩:=IntsR.at (h2.fr f12) E_s_int E_int (kd:=.i64) (hll ▸ h)
 cases c7:i.args[k] != j.args[k]'(hll ▸ h)
 ·repeat first|apply zSeq|apply zReg|apply zBlk|apply zSkp|refine wN ?_|refine wG ?_|refine wL ?_|refine wU ?_|refine wS ?_|refine wT ?_|refine wE ?_|refine wD O_Ins_Args ?_|refine wB E_s_int ?_|refine wI ?_|refine wY ?_|refine wK (hlen1 _) ?_
  refine⟨k+1,⟨rfl,h,fun n q1 q2 hn=>?_⟩,by omega,rfl,rfl,rfl,trivial⟩
  by_cases e:n=k
  ·subst e;simpa using c7
  ·exact hpre n q1 q2 (by omega)
 ·have hne:(i.args==j.args)=false:=by
   rw[beq_eq_false_iff_ne]
   intro e
   have:i.args[k]=j.args[k]'(hll ▸ h):=by simp only[e]
   rw[this] at c7;simp at c7
  repeat first|apply zSeq|apply zReg|apply zBlk|apply zSkp|refine wN ?_|refine wG ?_|refine wA ?_|refine wL ?_|refine wU ?_|refine wT ?_|refine wD O_Ins_Args ?_|refine wB E_s_int ?_|refine wI ?_|refine wY ?_|refine wK (hlen1 _) ?_
  exact WP.ret ⟨.inr rfl,_,rfl,by rw[hne];rfl,f12⟩
end
section
attribute [local irreducible] WL WP WH W
theorem buildOp {op:Int}:aBuild V.E 47 [(0,.int .u8 op)]=some (.agg #[.int .u8 op,.int .i64 0,.int .i64 0,.int .i64 0,.int .i64 0,.slice none 0 0]):=by kernel_rfl
attribute [local irreducible] V
variable {O:Orc}{H:AH}
def keptI (o:Flo.OpD) (i:Ins):Ins:=⟨i.op,if o.r=true then i.r else 0,if o.a=true then i.a else 0,if o.b=true then i.b else 0,if (o.n != 0)=true then i.n else 0,if (o.n==6)=true then i.args else []⟩
theorem same_kept (o:Flo.OpD) (i:Ins):sameB i (keptI o i)=sameB (bareI o i) zeroI:=by
 rw[Bool.eq_iff_iff,sameB_iff,sameB_iff]
 obtain⟨op,r,a,b,n,args⟩:=i
 simp only[keptI,bareI,zeroI,Ins.mk.injEq]
 cases o.r<;>cases o.a<;>cases o.b<;>by_cases h1:o.n=0<;>by_cases h2:o.n=6<;>simp[h1,h2]
def Kp (H0:AH) (x y z:Nat) (i:Ins) (va:Value) (cs:List Value) (Hc:AH):Prop:=
 FrX [z] [] H0 Hc∧Bx Hc x 47 [.int .u8 i.op,.int .i64 i.r,.int .i64 i.a,.int .i64 i.b,.int .i64 i.n,va]∧Bx Hc y 47 [.int .u8 0,.int .i64 0,.int .i64 0,.int .i64 0,.int .i64 0,.slice none 0 0]∧Bx Hc z 47 cs
theorem Kp.put {H0 Hc H1:AH}{x y z:Nat}{i:Ins}{va:Value}{cs ds:List Value} (h:Kp H0 x y z i va cs Hc) (hx:x<z) (hy:y<z) (k:FrX [z] [] Hc H1) (hb:Bx H1 z 47 ds):Kp H0 x y z i va ds H1:=
 ⟨h.1.trans k (fun b hb _=>hb) (fun b hb _=>hb),h.2.1.frX k (by simp;omega),h.2.2.1.frX k (by simp;omega),hb⟩
set_option maxHeartbeats 16000000 in
theorem rKept_c (hO:NoO O) {A:Av}{i:Ins}{va:Value} (hv:IntsR A H va i.args) (hop:1≤i.op∧i.op<14) :
  ∃ u H',Lc V O F_ref07_kept [insV i va] H u H'∧(u=insV (keptI (Flo.opD i.op) i) (if ((Flo.opD i.op).n==6)=true then va else .slice none 0 0)∧Fr H H'):=by
 refine Lc.ref07_kept (hO _ _ _ (by decide)) ?_
 unfold P_ref07_kept
 have hv1:=hv.oneCell
 obtain⟨av,nv,cv,rfl⟩:=hv.isSl
 apply zSeq
 apply zReg
 refine zBox rfl (fun _=>rfl) fun H1 f1 b1 n1=>?_
 refine zAlc E_Ins zero39 fun H2 f2 b2 n2=>?_
 have b1':Bx H2 H.next 47 [.int .u8 i.op,.int .i64 i.r,.int .i64 i.a,.int .i64 i.b,.int .i64 i.n,.slice av nv cv]:=b1.fr f2
 have f12:=f1.trans f2
 clear b1
 repeat first|refine wN ?_
 apply zSeq
 repeat first|apply zReg|refine wD O_Ins_Op ?_|refine wB E_uint8 ?_
 refine WL.op (op_build rfl buildOp) ?_
 refine zAlc E_Ins zero39 fun H3 f3 b3 n3=>?_
 refine zStB b3 rfl rfl E_Ins (by rw[te_Ins_size];rfl) rfl (by simp[Value.cells]) (by simp[Value.cells]) fun H4 f4 b4 n4=>?_
 have b4':Bx H4 H2.next 47 [.int .u8 i.op,.int .i64 0,.int .i64 0,.int .i64 0,.int .i64 0,.slice none 0 0]:=b4
 have f24:Fr H2 H4:=f3.young f4 (by simp) (by simp)
 have b14:=b1'.fr f24
 have b24:=b2.fr f24
 have f04:=f12.trans f24
 obtain⟨_,H5,hc5,rfl,f5⟩:=rWrites_c (H:=H4) (i:=i) (va:=.slice av nv cv) hO ⟨by omega,by omega⟩
 have f05:=f04.trans f5
 have hxz:H.next<H2.next:=by omega
 have hyz:H1.next<H2.next:=by omega
 have q:Kp H5 H.next H1.next H2.next i (.slice av nv cv) [.int .u8 i.op,.int .i64 0,.int .i64 0,.int .i64 0,.int .i64 0,.slice none 0 0] H5:=⟨.refl _ _ _,b14.fr f5,b24.fr f5,b4'.fr f5⟩
 have hz5:H.next≤H2.next:=by omega
 have hy5:H.next≤H1.next:=by omega
 clear b1' b2 b3 b4 b24 f3 f4 f24 f1 f2 n1 n2 n3 n4
 repeat first|refine wN ?_
 apply zSeq
 repeat first|apply zReg
 refine zLd rfl (b14.lN E_Ins te_Ins_agg te_Ins_size) ?_
 refine WL.call rfl rfl fp_ref07_Writes.is hc5 ?_
 clear hc5 b14 b4'
 obtain⟨op,r,a,b,n,args⟩:=i
 simp only at hop q hv ⊢
 generalize ho:Flo.opD op=o at *
 repeat first|refine wN ?_|refine zXtr rfl ?_
 refine WP.seqS (σ:=Unit) (fun _=>[(1,.pointer (some ⟨H.next,0,none⟩)),(2,.pointer (some ⟨H1.next,0,none⟩)),(3,.pointer (some ⟨H2.next,0,none⟩))]) (fun _ Hc=>Kp H5 H.next H1.next H2.next ⟨op,r,a,b,n,args⟩ (.slice av nv cv) [.int .u8 op,.int .i64 (if o.r=true then r else 0),.int .i64 0,.int .i64 0,.int .i64 0,.slice none 0 0] Hc) ?_ ?_
 ·have b1:=q.2.1
  have b3:=q.2.2.2
  simp only at b1 b3
  cases c:o.r
  ·repeat first|apply zSeq|apply zReg|apply zSkp|refine wN ?_|refine wG ?_|refine wf ?_
   exact⟨(),q,rfl,rfl,rfl,trivial⟩
  ·repeat first|apply zSeq|apply zReg|refine wN ?_|refine wG ?_|refine wt ?_|refine wD O_Ins_R ?_|refine wB E_int ?_
   refine zStB b3 rfl rfl E_int rfl rfl (by simp[Value.cells]) (by simp[Value.cells]) fun H6 f6 b6 n6=>?_
   repeat first|refine wN ?_
   exact⟨(),q.put hxz hyz f6 b6,rfl,rfl,rfl,trivial⟩
 clear q
 rintro _ H6 q
 refine WP.seqS (σ:=Unit) (fun _=>[(1,.pointer (some ⟨H.next,0,none⟩)),(2,.pointer (some ⟨H1.next,0,none⟩)),(3,.pointer (some ⟨H2.next,0,none⟩))]) (fun _ Hc=>Kp H5 H.next H1.next H2.next ⟨op,r,a,b,n,args⟩ (.slice av nv cv) [.int .u8 op,.int .i64 (if o.r=true then r else 0),.int .i64 (if o.a=true then a else 0),.int .i64 0,.int .i64 0,.slice none 0 0] Hc) ?_ ?_
 ·have b1:=q.2.1
  have b3:=q.2.2.2
  simp only at b1 b3
  subst ho
  generalize (if (Flo.opD op).r=true then r else 0)=r' at *
  rcases op_cases' hop with rfl|rfl|rfl|rfl|rfl|rfl|rfl|rfl|rfl|rfl|rfl|rfl|rfl
  all_goals first|((repeat first|apply zSeq|apply zReg|apply zBlk|apply zSkp|refine wN ?_|refine wQ ?_|refine wt ?_|refine wf ?_|refine wD O_Ins_Op ?_|refine wD O_Ins_A ?_|refine wB E_int ?_|refine wB E_uint8 ?_);exact⟨(),q,rfl,rfl,rfl,trivial⟩)|((repeat first|apply zSeq|apply zReg|apply zBlk|apply zSkp|refine wN ?_|refine wQ ?_|refine wt ?_|refine wf ?_|refine wD O_Ins_Op ?_|refine wD O_Ins_A ?_|refine wB E_int ?_|refine wB E_uint8 ?_);refine zStB b3 rfl rfl E_int rfl rfl (by simp[Value.cells]) (by simp[Value.cells]) fun H5 f5 b5 n5=>?_;(repeat first|refine wN ?_);exact⟨(),q.put hxz hyz f5 b5,rfl,rfl,rfl,trivial⟩)
 clear q
 rintro _ H7 q
 refine WP.seqS (σ:=Unit) (fun _=>[(1,.pointer (some ⟨H.next,0,none⟩)),(2,.pointer (some ⟨H1.next,0,none⟩)),(3,.pointer (some ⟨H2.next,0,none⟩))]) (fun _ Hc=>Kp H5 H.next H1.next H2.next ⟨op,r,a,b,n,args⟩ (.slice av nv cv) [.int .u8 op,.int .i64 (if o.r=true then r else 0),.int .i64 (if o.a=true then a else 0),.int .i64 (if o.b=true then b else 0),.int .i64 0,.slice none 0 0] Hc) ?_ ?_
 ·have b1:=q.2.1
  have b3:=q.2.2.2
  simp only at b1 b3
  subst ho
  generalize (if (Flo.opD op).r=true then r else 0)=r' at *
  generalize (if (Flo.opD op).a=true then a else 0)=a' at *
  rcases op_cases' hop with rfl|rfl|rfl|rfl|rfl|rfl|rfl|rfl|rfl|rfl|rfl|rfl|rfl
  all_goals first|((repeat first|apply zSeq|apply zReg|apply zSkp|refine wN ?_|refine wo ?_|refine wx ?_|refine wp ?_|refine wq ?_|refine wQ ?_|refine wt ?_|refine wf ?_|refine wD O_Ins_Op ?_|refine wD O_Ins_B ?_|refine wB E_int ?_|refine wB E_uint8 ?_);exact⟨(),q,rfl,rfl,rfl,trivial⟩)|((repeat first|apply zSeq|apply zReg|refine wN ?_|refine wo ?_|refine wx ?_|refine wp ?_|refine wq ?_|refine wQ ?_|refine wt ?_|refine wD O_Ins_Op ?_|refine wD O_Ins_B ?_|refine wB E_int ?_|refine wB E_uint8 ?_);refine zStB b3 rfl rfl E_int rfl rfl (by simp[Value.cells]) (by simp[Value.cells]) fun H5 f5 b5 n5=>?_;(repeat first|refine wN ?_);exact⟨(),q.put hxz hyz f5 b5,rfl,rfl,rfl,trivial⟩)
 clear q
 rintro _ H8 q
 refine WP.seqS (σ:=Unit) (fun _=>[(1,.pointer (some ⟨H.next,0,none⟩)),(2,.pointer (some ⟨H1.next,0,none⟩)),(3,.pointer (some ⟨H2.next,0,none⟩))]) (fun _ Hc=>Kp H5 H.next H1.next H2.next ⟨op,r,a,b,n,args⟩ (.slice av nv cv) [.int .u8 op,.int .i64 (if o.r=true then r else 0),.int .i64 (if o.a=true then a else 0),.int .i64 (if o.b=true then b else 0),.int .i64 (if (o.n != 0)=true then n else 0),.slice none 0 0] Hc) ?_ ?_
 ·have b1:=q.2.1
  have b3:=q.2.2.2
  simp only at b1 b3
  subst ho
  generalize (if (Flo.opD op).r=true then r else 0)=r' at *
  generalize (if (Flo.opD op).a=true then a else 0)=a' at *
  generalize (if (Flo.opD op).b=true then b else 0)=b' at *
  rcases op_cases' hop with rfl|rfl|rfl|rfl|rfl|rfl|rfl|rfl|rfl|rfl|rfl|rfl|rfl
  all_goals first|((repeat first|apply zSeq|apply zReg|apply zSkp|refine wN ?_|refine wo ?_|refine wx ?_|refine wp ?_|refine wq ?_|refine wU ?_|refine wt ?_|refine wf ?_|refine wD O_Ins_Op ?_|refine wD O_Ins_N ?_|refine wB E_int64 ?_|refine wB E_uint8 ?_);exact⟨(),q,rfl,rfl,rfl,trivial⟩)|((repeat first|apply zSeq|apply zReg|refine wN ?_|refine wo ?_|refine wp ?_|refine wU ?_|refine wt ?_|refine wD O_Ins_Op ?_|refine wD O_Ins_N ?_|refine wB E_int64 ?_|refine wB E_uint8 ?_);refine zStB b3 rfl rfl E_int64 rfl rfl (by simp[Value.cells]) (by simp[Value.cells]) fun H5 f5 b5 n5=>?_;(repeat first|refine wN ?_);exact⟨(),q.put hxz hyz f5 b5,rfl,rfl,rfl,trivial⟩)
 clear q
 rintro _ H9 q
 refine WP.seqS (σ:=Unit) (fun _=>[(1,.pointer (some ⟨H.next,0,none⟩)),(2,.pointer (some ⟨H1.next,0,none⟩)),(3,.pointer (some ⟨H2.next,0,none⟩))]) (fun _ Hc=>Kp H5 H.next H1.next H2.next ⟨op,r,a,b,n,args⟩ (.slice av nv cv) ((keptI o ⟨op,r,a,b,n,args⟩).cells (if (o.n==6)=true then .slice av nv cv else .slice none 0 0)) Hc) ?_ ?_
 ·have b1:=q.2.1
  have b3:=q.2.2.2
  simp only at b1 b3
  subst ho
  unfold keptI Ins.cells
  simp only
  generalize (if (Flo.opD op).r=true then r else 0)=r' at *
  generalize (if (Flo.opD op).a=true then a else 0)=a' at *
  generalize (if (Flo.opD op).b=true then b else 0)=b' at *
  generalize (if ((Flo.opD op).n != 0)=true then n else 0)=n' at *
  rcases op_cases' hop with rfl|rfl|rfl|rfl|rfl|rfl|rfl|rfl|rfl|rfl|rfl|rfl|rfl
  all_goals first|((repeat first|apply zSeq|apply zReg|apply zSkp|refine wN ?_|refine wQ ?_|refine wt ?_|refine wf ?_|refine wD O_Ins_Op ?_|refine wD O_Ins_Args ?_|refine wB E_uint8 ?_|refine wB E_s_int ?_);exact⟨(),q,rfl,rfl,rfl,trivial⟩)|((repeat first|apply zSeq|apply zReg|refine wN ?_|refine wQ ?_|refine wt ?_|refine wD O_Ins_Op ?_|refine wD O_Ins_Args ?_|refine wB E_uint8 ?_|refine wB E_s_int ?_);refine zStB b3 rfl rfl E_s_int rfl rfl (by simp[Value.cells]) (by simp[Value.cells]) fun H5 f5 b5 n5=>?_;(repeat first|refine wN ?_);exact⟨(),q.put hxz hyz f5 b5,rfl,rfl,rfl,trivial⟩)
 clear q
 rintro _ Ha q
 have b2:=q.2.2.1
 have b3:=q.2.2.2
 repeat first|apply zSeq|apply zReg
 refine zLd rfl (b3.lN E_Ins te_Ins_agg te_Ins_size) ?_
 refine zStB b2 rfl rfl E_Ins (by rw[te_Ins_size];rfl) ?_ (by simp[Value.cells,Ins.cells]) (by simp[Value.cells,Ins.cells]) fun Hb fb bb nb=>?_
 ·cases c:o.n==6<;>simp[Value.cells,Ins.cells,Value.oneCell']
 repeat first|refine wN ?_
 exact WP.ret ⟨.inr rfl,_,resL_cell rfl (bb.lN E_Ins te_Ins_agg te_Ins_size) rfl,rfl,(f05.young q.1 (by simp;omega) (by simp)).young fb (by simp;omega) (by simp)⟩
end
section
attribute [local irreducible] WL WP WH W
attribute [local irreducible] V
variable {O:Orc}{H:AH}
theorem within_ok (regs r:Int):(decide (r≥0)&&decide (r<regs))=okR regs r:=by
 unfold okR
 by_cases h1:r<0<;>by_cases h2:r≥regs<;>simp[h1,h2]<;>omega
theorem mayG_of {p:Prog}{f:Fun}{i:Ins} (h1:Flo.isOp i.op=true) (h2:sameB i (keptI (Flo.opD i.op) i)=true) (h3:(readsG (Flo.opD i.op) i++if (Flo.opD i.op).r=true then [i.r] else []).all (okR f.regs)=true):mayG p f i=numG p f (Flo.opD i.op).n i:=by
 unfold mayG
 rw[h1,←same_kept,h2]
 rw[List.all_append,Bool.and_eq_true] at h3
 rw[h3.1]
 have:(!(Flo.opD i.op).r||(decide (i.r≥0)&&decide (i.r<f.regs)))=true:=by
  cases c:(Flo.opD i.op).r
  ·rfl
  ·rw[c] at h3
   have:=h3.2
   simp only[if_true,List.all_cons,List.all_nil,Bool.and_true] at this
   rw[within_ok,this];rfl
 rw[this]
 simp
theorem mayG_out1 {p:Prog}{f:Fun}{i:Ins} (h1:Flo.isOp i.op=false):mayG p f i=false:=by unfold mayG;rw[h1];rfl
theorem mayG_out2 {p:Prog}{f:Fun}{i:Ins} (h2:sameB i (keptI (Flo.opD i.op) i)=false):mayG p f i=false:=by unfold mayG;rw[←same_kept,h2];simp
theorem mayG_out3 {p:Prog}{f:Fun}{i:Ins} (h3:(readsG (Flo.opD i.op) i++if (Flo.opD i.op).r=true then [i.r] else []).all (okR f.regs)=false):mayG p f i=false:=by
 unfold mayG
 rw[List.all_append] at h3
 cases c:(readsG (Flo.opD i.op) i).all (okR f.regs)
 ·simp
 ·rw[c,Bool.true_and] at h3
  cases d:(Flo.opD i.op).r
  ·rw[d] at h3;simp at h3
  ·rw[d] at h3
   simp only[if_true,List.all_cons,List.all_nil,Bool.and_true] at h3
   rw[within_ok,h3];simp
set_option maxHeartbeats 16000000 in
theorem rMayIns_c (hO:NoO O) {A B C:Av}{p:Prog}{f:Fun}{i:Ins}{va vc vm vl vf:Value} (hp:PrR A H vm vl vf p) (hc:Els 6 InsR B H vc f.code) (hv:IntsR C H va i.args) (hL:i.args.length≤100000) (hop:0≤i.op∧i.op<256) :
 ∃ u H',Lc V O F_ref07_mayIns [.agg #[vm,vl,vf],.agg (f.cells vc).toArray,insV i va] H u H'∧(u=.bool (mayG p f i)∧Fr H H'):=by
 refine Lc.ref07_mayIns (hO _ _ _ (by decide)) ?_
 unfold P_ref07_mayIns
 have hv0:=hv
 obtain⟨av,nv,cv,rfl⟩:=hv.isSl
 apply zSeq
 apply zReg
 refine zBox rfl (fun _=>rfl) fun H1 f1 b1 n1=>?_
 refine zBox rfl (fun _=>rfl) fun H2 f2 b2 n2=>?_
 refine zBox rfl (fun _=>rfl) fun H3 f3 b3 n3=>?_
 have b1':Bx H3 H.next 74 [vm,vl,vf]:=(b1.fr f2).fr f3
 have b2':Bx H3 H1.next 78 [.string f.name,.bool f.thread,.int .i64 f.params,.int .i64 f.regs,vc]:=b2.fr f3
 have b3':Bx H3 H2.next 47 [.int .u8 i.op,.int .i64 i.r,.int .i64 i.a,.int .i64 i.b,.int .i64 i.n,.slice av nv cv]:=b3
 have f03:=(f1.trans f2).trans f3
 clear b1 b2 b3
 repeat first|refine wN ?_|refine wA ?_
 refine WP.seqS (σ:=AH) (fun _=>[(3,.pointer (some ⟨H.next,0,none⟩)),(4,.pointer (some ⟨H1.next,0,none⟩)),(5,.pointer (some ⟨H2.next,0,none⟩))]) (fun Hx Hc=>Hx=Hc∧Fr H3 Hc∧Flo.isOp i.op=true∧sameB i (keptI (Flo.opD i.op) i)=true) ?_ ?_
 ·apply zSeq
  refine WP.rega ?_
  cases c1:decide (i.op<1)
  case true =>
   have hio:Flo.isOp i.op=false:=by unfold Flo.isOp;rw[c1];rfl
   repeat first|refine yOff rfl rfl ?_|refine yOff rfl ‹_› ?_|refine yPT rfl rfl rfl ?_|refine yPT rfl ‹_› rfl ?_|refine yLss rfl rfl ?_|refine yFld rfl O_Ins_Op ?_|refine yLd (ty:=5) rfl (Bx.ld ‹_› (by rfl) E_uint8 rfl) ?_
   refine WH.nil ⟨fun y hy=>?_,_,rfl,?_⟩
   ·rw[List.mem_singleton] at hy;subst hy;exact .inl rfl
   repeat first|apply zSeq|apply zReg|refine wN ?_|refine wA ?_|refine wt ?_
   exact WP.ret ⟨.inr rfl,_,rfl,by rw[mayG_out1 hio];rfl,f03⟩
  cases c2:decide (i.op>13)
  case true =>
   have hio:Flo.isOp i.op=false:=by unfold Flo.isOp;rw[decide_eq_true (show i.op≥14 by have:=of_decide_eq_true c2;omega),Bool.or_true];rfl
   repeat first|refine yOn rfl ‹_› ?_|refine yOff rfl ‹_› ?_|refine yPT rfl ‹_› rfl ?_|refine yPF rfl ‹_› rfl ?_|refine yLss rfl rfl ?_|refine yGtr rfl rfl ?_|refine yFld rfl O_Ins_Op ?_|refine yLd (ty:=5) rfl (Bx.ld ‹_› (by rfl) E_uint8 rfl) ?_
   refine WH.nil ⟨fun y hy=>?_,_,rfl,?_⟩
   ·rw[List.mem_singleton] at hy;subst hy;exact .inl (by rw[c2];rfl)
   repeat first|apply zSeq|apply zReg|refine wN ?_|refine wA ?_|refine wt ?_
   exact WP.ret ⟨.inr rfl,_,rfl,by rw[mayG_out1 hio];rfl,f03⟩
  have hop1:1≤i.op∧i.op<14:=⟨by have:=of_decide_eq_false c1;omega,by have:=of_decide_eq_false c2;omega⟩
  have hio:Flo.isOp i.op=true:=by unfold Flo.isOp;rw[decide_eq_false (show ¬ i.op<1 by omega),decide_eq_false (show ¬ i.op≥14 by omega)];rfl
  obtain⟨_,H4,hc4,rfl,f4⟩:=rKept_c (H:=H3) hO (hv0.fr f03) hop1
  have hkR:IntsR C H4 (if ((Flo.opD i.op).n==6)=true then .slice av nv cv else .slice none 0 0) (keptI (Flo.opD i.op) i).args:=by
   unfold keptI
   cases c:(Flo.opD i.op).n==6
   ·exact .nil
   ·exact (hv0.fr f03).fr f4
  obtain⟨_,H5,hc5,rfl,f5⟩:=rSame_c (H:=H4) (i:=i) (j:=keptI (Flo.opD i.op) i) hO ((hv0.fr f03).fr f4) hkR (by omega)
  have b4':=b3'.fr f4
  have b5':=b4'.fr f5
  cases c3:sameB i (keptI (Flo.opD i.op) i)
  ·rw[c3] at hc5
   repeat first|refine yOn rfl ‹_› ?_|refine yPF rfl ‹_› rfl ?_|refine yLss rfl rfl ?_|refine yGtr rfl rfl ?_|refine yFld rfl O_Ins_Op ?_|refine yLd (ty:=5) rfl (Bx.ld ‹_› (by rfl) E_uint8 rfl) ?_
   refine yLd rfl (b3'.lN E_Ins te_Ins_agg te_Ins_size) ?_
   repeat first|refine yOn rfl ‹_› ?_
   refine yLd rfl (b3'.lN E_Ins te_Ins_agg te_Ins_size) ?_
   repeat first|refine yOn rfl ‹_› ?_
   refine WH.call rfl rfl fp_ref07_kept.is hc4 ?_
   repeat first|refine yOn rfl ‹_› ?_
   refine WH.call rfl rfl fp_ref07_SameIns.is hc5 ?_
   repeat first|refine yOn rfl ‹_› ?_|refine yPF rfl ‹_› rfl ?_|refine yNot rfl ?_
   refine WH.nil ⟨fun y hy=>?_,_,rfl,?_⟩
   ·rw[List.mem_singleton] at hy;subst hy
    exact .inr ⟨by rw[c2];rfl,_,_,_,rfl,rfl,op_load rfl (b4'.lN E_Ins te_Ins_agg te_Ins_size),by simp[sameV,sameL,same0]⟩
   repeat first|apply zSeq|apply zReg|refine wN ?_|refine wA ?_|refine wt ?_
   exact WP.ret ⟨.inr rfl,_,rfl,by rw[mayG_out2 c3];rfl,(f03.trans f4).trans f5⟩
  ·rw[c3] at hc5
   repeat first|refine yOn rfl ‹_› ?_|refine yPF rfl ‹_› rfl ?_|refine yLss rfl rfl ?_|refine yGtr rfl rfl ?_|refine yFld rfl O_Ins_Op ?_|refine yLd (ty:=5) rfl (Bx.ld ‹_› (by rfl) E_uint8 rfl) ?_
   refine yLd rfl (b3'.lN E_Ins te_Ins_agg te_Ins_size) ?_
   repeat first|refine yOn rfl ‹_› ?_
   refine yLd rfl (b3'.lN E_Ins te_Ins_agg te_Ins_size) ?_
   repeat first|refine yOn rfl ‹_› ?_
   refine WH.call rfl rfl fp_ref07_kept.is hc4 ?_
   repeat first|refine yOn rfl ‹_› ?_
   refine WH.call rfl rfl fp_ref07_SameIns.is hc5 ?_
   repeat first|refine yOn rfl ‹_› ?_|refine yPF rfl ‹_› rfl ?_|refine yNot rfl ?_
   refine WH.nil ⟨fun y hy=>?_,_,rfl,?_⟩
   ·rw[List.mem_singleton] at hy;subst hy
    exact .inr ⟨by rw[c2];rfl,_,_,_,rfl,rfl,op_load rfl (b4'.lN E_Ins te_Ins_agg te_Ins_size),by simp[sameV,sameL,same0]⟩
   repeat first|apply zSkp|refine wf ?_
   exact⟨H5,⟨rfl,f4.trans f5,hio,rfl⟩,rfl,rfl,rfl,trivial⟩
 rintro Hx' Hx ⟨e,f3x,hio,hsame⟩
 subst e
 have f0x:=f03.trans f3x
 have b1x:=b1'.fr f3x
 have b2x:=b2'.fr f3x
 have b3x:=b3'.fr f3x
 have hvx:=hv0.fr f0x
 clear b1' b2' b3' f3x f03 f1 f2 f3
 obtain⟨u4,H4,hc4,f4,o4,how4⟩:=rReads_c (H:=Hx') (i:=i) hO hvx hL hop
 have b3y:=b3x.fr f4
 have f04:=f0x.trans f4
 obtain⟨_,H5,hc5,rfl,f5⟩:=rWrites_c (H:=H4) (i:=i) (va:=.slice av nv cv) hO hop
 have how5:=how4.fr f5
 have f05:=f04.trans f5
 have fx5:=f4.trans f5
 have hrl:=readsG_len (Flo.opD i.op) i
 apply zSeq
 apply zReg
 refine zLd rfl (b3x.lN E_Ins te_Ins_agg te_Ins_size) ?_
 refine WL.call rfl rfl fp_ref07_Reads.is hc4 ?_
 repeat first|refine wN ?_
 apply zSeq
 apply zReg
 refine zLd rfl (b3y.lN E_Ins te_Ins_agg te_Ins_size) ?_
 refine WL.call rfl rfl fp_ref07_Writes.is hc5 ?_
 repeat first|refine wN ?_|refine zXtr rfl ?_
 refine WP.seqS (σ:=Value) (fun v=>[(3,.pointer (some ⟨H.next,0,none⟩)),(4,.pointer (some ⟨H1.next,0,none⟩)),(5,.pointer (some ⟨H2.next,0,none⟩)),(7,v)]) (fun v Hc=>Fr H5 Hc∧IntsR .no Hc v (readsG (Flo.opD i.op) i++if (Flo.opD i.op).r=true then [i.r] else [])) ?_ ?_
 ·cases c:(Flo.opD i.op).r
  ·repeat first|apply zSeq|apply zReg|apply zSkp|refine wN ?_|refine wG ?_|refine wf ?_
   exact⟨u4,⟨.refl _,by simp only[Bool.false_eq_true,if_false,List.append_nil];exact how5.rYoung .no⟩,rfl,rfl,rfl,rfl,trivial⟩
  ·have f6:=Fr.alloc H5 (.row 3 [] .exact 0 0)
   have w6:OwI 3 (H5.alloc (.row 3 [] .exact 0 0)) H5.next (.slice (some ⟨H5.next,0,none⟩) 0 0) [] (some (H5.next,H5.next)):=.new (Nat.le_refl _)
   obtain⟨v7,H7,o7,k1,k2,k3,k4⟩:=w6.app (V:=V) (m:=readsG (Flo.opD i.op) i) ((how5.fr f6).sl) (by simp;omega) f6.1 E_s_int E_s_int E_int (by decide)
   rw[List.nil_append] at k2
   have f57:Fr H5 H7:=f6.young k3 w6.young.1 w6.young.2.1
   obtain⟨v8,H8,o8,m1,m2,m3,m4⟩:=k2.app1 (V:=V) i.r (by omega) f57.1 E_s_int E_s_int E_int (by decide)
   have f58:Fr H5 H8:=f57.young m3 k2.young.1 k2.young.2.1
   repeat first|apply zSeq|apply zReg|refine wN ?_|refine wG ?_|refine wt ?_
   refine WL.op (op_buildSlice rfl E_s_int E_int (by decide) rfl) ?_
   repeat first|refine wG ?_
   refine WL.op (k1 rfl rfl) ?_
   repeat first|refine wG ?_
   refine WL.op (op_buildSlice rfl E_s_int E_int (by decide) fill_int) ?_
   refine WL.op (m1 rfl rfl) ?_
   repeat first|refine wN ?_
   exact⟨v8,⟨f58,by simp only[if_true];exact m2.rYoung .no⟩,rfl,rfl,rfl,rfl,trivial⟩
 rintro v Hc ⟨f5c,hvr⟩
 have hLl:(readsG (Flo.opD i.op) i++if (Flo.opD i.op).r=true then [i.r] else []).length≤i.args.length+3:=by
  rw[List.length_append]
  have:(if (Flo.opD i.op).r=true then [i.r] else []).length≤1:=by split<;>simp
  omega
 have hof:=mayG_of (p:=p) (f:=f) hio hsame
 have hout:=mayG_out3 (p:=p) (f:=f) (i:=i)
 generalize readsG (Flo.opD i.op) i++(if (Flo.opD i.op).r=true then [i.r] else [])=L at *
 have fxc:=fx5.trans f5c
 have f0c:=f0x.trans fxc
 have b1c:=b1x.fr fxc
 have b2c:=b2x.fr fxc
 have b3c:=b3x.fr fxc
 clear b1x b2x b3x b3y hc4 hc5 how4 how5 hvx
 have hlen1:=fun Hz=>hvr.len (V:=V) (H2:=Hz) E_s_int
 refine WP.seqS (σ:=Unit) (fun _=>[(3,.pointer (some ⟨H.next,0,none⟩)),(4,.pointer (some ⟨H1.next,0,none⟩)),(5,.pointer (some ⟨H2.next,0,none⟩))]) (fun _ Hd=>Hd=Hc∧L.all (okR f.regs)=true) ?_ ?_
 ·repeat first|apply zSeq|apply zReg|apply zBlk|refine wN ?_|refine wA ?_
  refine WP.loopH (σ:=Nat) (fun k=>[(3,.pointer (some ⟨H.next,0,none⟩)),(4,.pointer (some ⟨H1.next,0,none⟩)),(5,.pointer (some ⟨H2.next,0,none⟩)),(7,v),(10,.int .i64 k)]) (fun k Hd=>Hd=Hc∧k≤L.length∧∀ j (h:j<L.length),j<k→okR f.regs L[j]=true) (fun k=>L.length-k) 0 ⟨rfl,Nat.zero_le _,fun j _ h=>absurd h (by omega)⟩ ⟨rfl,rfl,rfl,rfl,rfl,trivial⟩ ?_
  rintro k Hd ⟨e,hk,hpre⟩
  subst e
  rcases Nat.lt_or_ge k L.length with h|h
  case inr =>
   have g1:decide ((k:Int)<L.length)=false:=dF
   repeat first|apply zSeq|apply zReg|apply zExt|refine wN ?_|refine wG ?_|refine wL ?_|refine wE ?_|refine wK (hlen1 _) ?_
   refine⟨(),⟨rfl,?_⟩,rfl,rfl,rfl,trivial⟩
   rw[List.all_eq_true]
   intro x hx
   obtain⟨j,hj,rfl⟩:=List.mem_iff_getElem.1 hx
   exact hpre j hj (by omega)
  have g1:decide ((k:Int)<L.length)=true:=dT
  obtain⟨ba,oa,ha1,hl1⟩:=IntsR.at hvr E_s_int E_int (kd:=.i64) h
  have hcw:=rWithin_c (H:=Hd) hO L[k] f.regs
  rw[within_ok] at hcw
  cases c:okR f.regs L[k]
  ·rw[c] at hcw
   repeat first|apply zSeq|apply zReg|apply zBlk|apply zSkp|refine wN ?_|refine wG ?_|refine wL ?_|refine wT ?_|refine wD O_Fun_Regs ?_|refine wB E_int ?_|refine wI ?_|refine wY ?_|refine wK (hlen1 _) ?_
   refine WL.call rfl rfl fp_ref07_within.is hcw ?_
   repeat first|apply zSeq|apply zReg|refine wN ?_|refine wA ?_|refine wZ ?_|refine wt ?_
   refine WP.ret ⟨.inr rfl,_,rfl,?_,f0c⟩
   rw[hout (by rw[List.all_eq_false];exact⟨_,List.getElem_mem h,by rw[c];decide⟩)];rfl
  ·rw[c] at hcw
   repeat first|apply zSeq|apply zReg|apply zBlk|apply zSkp|refine wN ?_|refine wG ?_|refine wL ?_|refine wT ?_|refine wD O_Fun_Regs ?_|refine wB E_int ?_|refine wI ?_|refine wY ?_|refine wK (hlen1 _) ?_
   refine WL.call rfl rfl fp_ref07_within.is hcw ?_
   repeat first|apply zReg|apply zSkp|refine wN ?_|refine wG ?_|refine wS ?_|refine wZ ?_|refine wf ?_
   refine⟨k+1,⟨rfl,h,fun j hj hjk=>?_⟩,by omega,rfl,rfl,rfl,rfl,rfl,trivial⟩
   by_cases e:j=k
   ·subst e;exact c
   ·exact hpre j hj (by omega)
 rintro _ Hd ⟨e,hall⟩
 subst e
 rw[hof hall]
 clear hof hout hvr hlen1
 have hop':=Flo.isOp_of hio
 have hlm:=fun Hz=>hp.m.len (V:=V) (H2:=Hz) E_s_api_Mem
 have hll:=fun Hz=>hp.l.len (V:=V) (H2:=Hz) E_s_string
 have hlf:=fun Hz=>hp.f.len (V:=V) (H2:=Hz) E_s_api_Fun
 have hlc:=fun Hz=>hc.len (V:=V) (H2:=Hz) E_s_api_Ins
 have hla:=fun Hz=>hv0.len (V:=V) (H2:=Hz) E_s_int
 have hpd:=hp.fr f0c
 clear hc hv hv0 hio hsame hrl hLl hall hop hp
 obtain⟨op,r,a,b,n,args⟩:=i
 simp only at hop' b3c hla hL ⊢
 rcases op_cases' hop' with rfl|rfl|rfl|rfl|rfl|rfl|rfl|rfl|rfl|rfl|rfl|rfl|rfl
 case inr.inr.inl =>
  cases c1:n==5
  ·repeat first|apply zSeq|apply zReg|apply zBlk|refine wN ?_|refine wO ?_|refine wR ?_|refine wQ ?_|refine wt ?_|refine wD O_Ins_Op ?_|refine wD O_Ins_N ?_|refine wB E_int64 ?_|refine wB E_uint8 ?_
   refine WP.ret ⟨.inr rfl,_,rfl,?_,f0c⟩
   have:numG p f (Flo.opD 3).n ⟨3,r,a,b,n,args⟩=(n==5||n==6):=rfl
   rw[this,c1];rfl
  ·repeat first|apply zSeq|apply zReg|apply zBlk|refine wN ?_|refine wF ?_|refine wP ?_|refine wQ ?_|refine wt ?_|refine wD O_Ins_Op ?_|refine wD O_Ins_N ?_|refine wB E_int64 ?_|refine wB E_uint8 ?_
   refine WP.ret ⟨.inr rfl,_,rfl,?_,f0c⟩
   have:numG p f (Flo.opD 3).n ⟨3,r,a,b,n,args⟩=(n==5||n==6):=rfl
   rw[this,c1];rfl
 case inr.inr.inr.inl =>
  cases c1:decide (n≥7)
  ·repeat first|apply zSeq|apply zReg|apply zBlk|refine wN ?_|refine wF ?_|refine wR ?_|refine wW ?_|refine wQ ?_|refine wt ?_|refine wf ?_|refine wD O_Ins_Op ?_|refine wD O_Ins_N ?_|refine wB E_int64 ?_|refine wB E_uint8 ?_
   refine WP.ret ⟨.inr rfl,_,rfl,?_,f0c⟩
   have:numG p f (Flo.opD 4).n ⟨4,r,a,b,n,args⟩=(decide (n≥7)&&decide (n≤17)):=rfl
   rw[this,c1];rfl
  ·repeat first|apply zSeq|apply zReg|apply zBlk|refine wN ?_|refine wO ?_|refine wP ?_|refine zLeq rfl rfl ?_|refine wW ?_|refine wQ ?_|refine wt ?_|refine wf ?_|refine wD O_Ins_Op ?_|refine wD O_Ins_N ?_|refine wB E_int64 ?_|refine wB E_uint8 ?_
   refine WP.ret ⟨.inr rfl,_,rfl,?_,f0c⟩
   have:numG p f (Flo.opD 4).n ⟨4,r,a,b,n,args⟩=(decide (n≥7)&&decide (n≤17)):=rfl
   rw[this,c1];rfl
 case inr.inr.inr.inr.inr.inr.inr.inr.inr.inl =>
  have hnum:numG p f (Flo.opD 10).n ⟨10,r,a,b,n,args⟩=(decide (n≥0)&&(decide (n<p.funs.length)&&match p.funs[n.toNat]? with|some g=>!g.thread&&(args.length:Int)==g.params|none=>false)):=rfl
  rw[hnum]
  have hcw:=rWithin_c (H:=Hd) hO n p.funs.length
  cases c1:decide (n≥0)
  ·rw[c1,Bool.false_and] at hcw
   repeat first|apply zSeq|apply zReg|apply zBlk|refine wN ?_|refine wQ ?_|refine wt ?_|refine wf ?_|refine wD O_Ins_Op ?_|refine wD O_Ins_N ?_|refine wD O_Prog_Funs ?_|refine wB E_int64 ?_|refine wB E_uint8 ?_|refine wB E_s_api_Fun ?_
   refine wK (hlf _) ?_
   refine WL.call rfl rfl fp_ref07_within.is hcw ?_
   repeat first|refine wN ?_|refine wx ?_|refine wq ?_
   exact WP.ret ⟨.inr rfl,_,rfl,rfl,f0c⟩
  cases c2:decide (n<p.funs.length)
  ·rw[c1,c2] at hcw
   have hcw:Lc V O F_ref07_within [.int .i64 n,.int .i64 p.funs.length] Hd (.bool false) Hd:=hcw
   repeat first|apply zSeq|apply zReg|apply zBlk|refine wN ?_|refine wQ ?_|refine wt ?_|refine wf ?_|refine wD O_Ins_Op ?_|refine wD O_Ins_N ?_|refine wD O_Prog_Funs ?_|refine wB E_int64 ?_|refine wB E_uint8 ?_|refine wB E_s_api_Fun ?_
   refine wK (hlf _) ?_
   refine WL.call rfl rfl fp_ref07_within.is hcw ?_
   repeat first|refine wN ?_|refine wx ?_|refine wq ?_
   exact WP.ret ⟨.inr rfl,_,rfl,rfl,f0c⟩
  rw[c1,c2] at hcw
  have hcw:Lc V O F_ref07_within [.int .i64 n,.int .i64 p.funs.length] Hd (.bool true) Hd:=hcw
  have h0:0≤n:=of_decide_eq_true c1
  have hlt:n.toNat<p.funs.length:=by have:=of_decide_eq_true c2;omega
  rw[List.getElem?_eq_getElem hlt]
  obtain⟨bf,off,cs,ha1,hrd,vcf,rfl,hcf⟩:=hpd.f.at E_s_api_Fun E_Fun te_Fun_size (kd:=.i64) hlt
  rw[show ((n.toNat:Nat):Int)=n by omega] at ha1
  have hl1:=(hrd.at1 (i:=1) rfl).load1 (V:=V) E_bool rfl
  have hl2:=(hrd.at1 (i:=2) rfl).load1 (V:=V) E_int rfl
  generalize p.funs[n.toNat]=g at *
  cases c3:g.thread
  ·rw[c3] at hl1
   repeat first|apply zSeq|apply zReg|apply zBlk|refine wN ?_|refine wQ ?_|refine wt ?_|refine wf ?_|refine wD O_Ins_Op ?_|refine wD O_Ins_N ?_|refine wD O_Prog_Funs ?_|refine wB E_int64 ?_|refine wB E_uint8 ?_|refine wB E_s_api_Fun ?_
   refine wK (hlf _) ?_
   refine WL.call rfl rfl fp_ref07_within.is hcw ?_
   repeat first|refine wo ?_|refine wp ?_|refine wZ ?_|refine wD O_Ins_N ?_|refine wD O_Ins_Args ?_|refine wD O_Fun_Thread ?_|refine wD O_Prog_Funs ?_|refine wB E_int64 ?_|refine wB E_s_int ?_|refine wB E_s_api_Fun ?_|refine wI ?_|refine wY ?_
   refine wK (hla _) ?_
   repeat first|refine wN ?_|refine wo ?_|refine wp ?_|refine wQ ?_|refine wD O_Ins_N ?_|refine wD O_Fun_Params ?_|refine wD O_Prog_Funs ?_|refine wB E_int64 ?_|refine wB E_s_api_Fun ?_|refine wI ?_|refine wY ?_
   exact WP.ret ⟨.inr rfl,_,rfl,by simp only[c3];rfl,f0c⟩
  ·rw[c3] at hl1
   repeat first|apply zSeq|apply zReg|apply zBlk|refine wN ?_|refine wQ ?_|refine wt ?_|refine wf ?_|refine wD O_Ins_Op ?_|refine wD O_Ins_N ?_|refine wD O_Prog_Funs ?_|refine wB E_int64 ?_|refine wB E_uint8 ?_|refine wB E_s_api_Fun ?_
   refine wK (hlf _) ?_
   refine WL.call rfl rfl fp_ref07_within.is hcw ?_
   repeat first|refine wN ?_|refine wo ?_|refine wx ?_|refine wp ?_|refine wq ?_|refine wZ ?_|refine wD O_Ins_N ?_|refine wD O_Fun_Thread ?_|refine wD O_Prog_Funs ?_|refine wB E_int64 ?_|refine wB E_s_api_Fun ?_|refine wI ?_|refine wY ?_
   exact WP.ret ⟨.inr rfl,_,rfl,by simp only[c3];rfl,f0c⟩
 all_goals
  first
  | ((repeat first|apply zSeq|apply zReg|apply zBlk|apply zSkp|refine wN ?_|refine wA ?_|refine wQ ?_|refine wt ?_|refine wf ?_|refine wD O_Ins_Op ?_|refine wD O_Ins_N ?_|refine wD O_Fun_Code ?_|refine wD O_Prog_Mems ?_|refine wD O_Prog_Locks ?_|refine wB E_int64 ?_|refine wB E_uint8 ?_|refine wB E_s_string ?_|refine wB E_s_api_Mem ?_|refine wB E_s_api_Ins ?_);exact WP.ret ⟨.inr rfl,_,rfl,rfl,f0c⟩)
  | ((repeat first|apply zSeq|apply zReg|apply zBlk|apply zSkp|refine wN ?_|refine wQ ?_|refine wt ?_|refine wf ?_|refine wD O_Ins_Op ?_|refine wD O_Ins_N ?_|refine wD O_Fun_Code ?_|refine wD O_Prog_Mems ?_|refine wD O_Prog_Locks ?_|refine wB E_int64 ?_|refine wB E_uint8 ?_|refine wB E_s_string ?_|refine wB E_s_api_Mem ?_|refine wB E_s_api_Ins ?_);refine wK (hlm _) ?_;refine WL.call rfl rfl fp_ref07_within.is (rWithin_c (H:=Hd) hO n p.mems.length) ?_;(repeat first|refine wN ?_);exact WP.ret ⟨.inr rfl,_,rfl,rfl,f0c⟩)
  | ((repeat first|apply zSeq|apply zReg|apply zBlk|apply zSkp|refine wN ?_|refine wQ ?_|refine wt ?_|refine wf ?_|refine wD O_Ins_Op ?_|refine wD O_Ins_N ?_|refine wD O_Fun_Code ?_|refine wD O_Prog_Locks ?_|refine wB E_int64 ?_|refine wB E_uint8 ?_|refine wB E_s_string ?_|refine wB E_s_api_Ins ?_);refine wK (hll _) ?_;refine WL.call rfl rfl fp_ref07_within.is (rWithin_c (H:=Hd) hO n p.locks.length) ?_;(repeat first|refine wN ?_);exact WP.ret ⟨.inr rfl,_,rfl,rfl,f0c⟩)
  | ((repeat first|apply zSeq|apply zReg|apply zBlk|apply zSkp|refine wN ?_|refine wQ ?_|refine wt ?_|refine wf ?_|refine wD O_Ins_Op ?_|refine wD O_Ins_N ?_|refine wD O_Fun_Code ?_|refine wB E_int64 ?_|refine wB E_uint8 ?_|refine wB E_s_api_Ins ?_);refine wK (hlc _) ?_;refine WL.call rfl rfl fp_ref07_within.is (rWithin_c (H:=Hd) hO n f.code.length) ?_;(repeat first|refine wN ?_);exact WP.ret ⟨.inr rfl,_,rfl,rfl,f0c⟩)
theorem rMayIns2_c (hO:NoO O) {A C:Av}{p:Prog}{i:Ins}{va vm vl vf:Value}{k:Nat} (hk:k<p.funs.length) (hp:PrR A H vm vl vf p) (hv:IntsR C H va i.args) (hL:i.args.length≤100000) (hop:0≤i.op∧i.op<256) :
  ∃ u H',Lc V O F_ref07_MayIns [.agg #[vm,vl,vf],.int .i64 k,insV i va] H u H'∧(u=.bool (mayG p p.funs[k] i)∧Fr H H'):=by
 refine Lc.ref07_MayIns (hO _ _ _ (by decide)) ?_
 unfold P_ref07_MayIns
 apply zSeq
 apply zReg
 refine zBox rfl (fun _=>rfl) fun H1 f1 b1 n1=>?_
 refine zBox rfl (fun _=>rfl) fun H2 f2 b2 n2=>?_
 have b1':Bx H2 H.next 74 [vm,vl,vf]:=b1.fr f2
 have b2':Bx H2 H1.next 47 (i.cells va):=b2
 have f12:=f1.trans f2
 have hp2:=hp.fr f12
 have hlen1:=fun Hz=>hp.f.len (V:=V) (H2:=Hz) E_s_api_Fun
 obtain⟨b,off,cs,ha1,hrd,vc,rfl,hc⟩:=hp2.f.at E_s_api_Fun E_Fun te_Fun_size (kd:=.i64) hk
 have hl3:=hrd.loadN (V:=V) E_Fun te_Fun_agg te_Fun_size
 have hcw:=rWithin_c (H:=H2) hO k p.funs.length
 have hw:(decide ((k:Int)≥0)&&decide ((k:Int)<p.funs.length))=true:=by rw[decide_eq_true (show (k:Int)≥0 by omega),decide_eq_true (show (k:Int)<p.funs.length by omega)];rfl
 rw[hw] at hcw
 obtain⟨_,H3,hc3,rfl,f3⟩:=rMayIns_c (H:=H2) hO hp2 hc (hv.fr f12) hL hop
 repeat first|apply zSeq|apply zReg|refine wN ?_|refine wG ?_|refine wA ?_|refine wD O_Prog_Funs ?_|refine wB E_s_api_Fun ?_|refine wK (hlen1 _) ?_
 refine WL.call rfl rfl fp_ref07_within.is hcw ?_
 repeat first|refine wo ?_
 refine zLd rfl (b1'.lN E_Prog te_Prog_agg te_Prog_size) ?_
 repeat first|refine wo ?_|refine wM ?_|refine wD O_Prog_Funs ?_|refine wB E_s_api_Fun ?_|refine wI ?_|refine wY ?_
 refine zLd rfl (b2'.lN E_Ins te_Ins_agg te_Ins_size) ?_
 repeat first|refine wo ?_
 refine WL.call rfl rfl fp_ref07_mayIns.is hc3 ?_
 repeat first|refine wN ?_|refine wp ?_
 exact WP.ret ⟨.inr rfl,_,rfl,rfl,f12.trans f3⟩
end
section
attribute [local irreducible] WL WP WH W
theorem buildMem0:aBuild V.E 60 []=some (.agg #[.string ⟨⟨[]⟩⟩,.int .i64 0,.int .i64 0]):=by kernel_rfl
theorem fillMem1 {a0 a1 a2:Value}:afill (fun i=>some (i*te_Mem.size,te_Mem.size)) (azeros te_Mem.zv.cells.toList 1) [(0,.agg #[a0,a1,a2])]=some [a0,a1,a2]:=by kernel_rfl
theorem buildFunA {r:Int}{a:Option Addr}{n c:Nat}:aBuild V.E 78 [(3,.int .i64 r),(4,.slice a n c)]=some (.agg #[.string ⟨⟨[]⟩⟩,.bool false,.int .i64 0,.int .i64 r,.slice a n c]):=by kernel_rfl
theorem buildFunB {r:Int}:aBuild V.E 78 [(2,.int .i64 r)]=some (.agg #[.string ⟨⟨[]⟩⟩,.bool false,.int .i64 r,.int .i64 0,.slice none 0 0]):=by kernel_rfl
theorem fillFun2 {a1 a2 a3 a4 a5 b1 b2 b3 b4 b5:Value}:afill (fun i=>some (i*te_Fun.size,te_Fun.size)) (azeros te_Fun.zv.cells.toList 2) [(0,.agg #[a1,a2,a3,a4,a5]),(1,.agg #[b1,b2,b3,b4,b5])]=some [a1,a2,a3,a4,a5,b1,b2,b3,b4,b5]:=by kernel_rfl
theorem buildProg3 {a1 a2 b1 b2 c1 c2:Nat}{p q r:Option Addr}:aBuild V.E 74 [(0,.slice p a1 a2),(1,.slice q b1 b2),(2,.slice r c1 c2)]=some (.agg #[.slice p a1 a2,.slice q b1 b2,.slice r c1 c2]):=by kernel_rfl
attribute [local irreducible] V
variable {O:Orc}{H:AH}
theorem rEnds_c (hO:NoO O) (op:Int):Lc V O F_ref11_ends [.int .u8 op] H (.bool (Flo.ends op)) H:=by
 refine Lc.of_eq (Lc.ref11_ends (R:=fun u H'=>u=.bool (Flo.ends op)∧H'=H) (hO _ _ _ (by decide)) ?_)
 unfold P_ref11_ends
 cases c1:op==11
 ·cases c2:op==12
  ·repeat first|apply zSeq|apply zReg|refine wN ?_|refine wG ?_|refine wO ?_|refine wM ?_|refine wA ?_|refine wR ?_|refine wQ ?_
   exact WP.ret ⟨.inr rfl,_,rfl,by unfold Flo.ends;rw[c1,c2];rfl,rfl⟩
  ·repeat first|apply zSeq|apply zReg|refine wN ?_|refine wG ?_|refine wO ?_|refine wF ?_|refine wM ?_|refine wA ?_|refine wP ?_|refine wR ?_|refine wQ ?_
   exact WP.ret ⟨.inr rfl,_,rfl,by unfold Flo.ends;rw[c1,c2];rfl,rfl⟩
 ·repeat first|apply zSeq|apply zReg|refine wN ?_|refine wG ?_|refine wx ?_|refine wF ?_|refine wA ?_|refine wp ?_|refine wP ?_|refine wQ ?_
  exact WP.ret ⟨.inr rfl,_,rfl,by unfold Flo.ends;rw[c1];rfl,rfl⟩
theorem rHas_c (hO:NoO O) {A:Av}{v:Value}{l:List Int} (hv:IntsR A H v l) (hL:l.length≤1000000) (x:Int):Lc V O F_ref11_has [v,.int .i64 x] H (.bool (l.contains x)) H:=by
 refine Lc.of_eq (Lc.ref11_has (R:=fun u H'=>u=.bool (l.contains x)∧H'=H) (hO _ _ _ (by decide)) ?_)
 unfold P_ref11_has
 have hlen1:=fun Hz=>hv.len (V:=V) (H2:=Hz) E_s_int
 repeat first|apply zSeq|apply zReg|apply zBlk|refine wN ?_|refine wA ?_
 refine WP.loopH (σ:=Nat) (fun i=>[(0,v),(1,.int .i64 x),(5,.int .i64 i)]) (fun i H'=>H'=H∧i≤l.length∧∀ j (h:j<l.length),j<i→(l[j]==x)=false) (fun i=>l.length-i) 0 ⟨rfl,by simp,fun j _ h=>absurd h (by omega)⟩ ⟨rfl,rfl,rfl,trivial⟩ ?_
 rintro i Hc ⟨e,hi,hn⟩
 subst e
 rcases Nat.lt_or_ge i l.length with h|h
 case inr =>
  have g1:decide ((i:Int)<l.length)=false:=dF
  have:l.contains x=false:=by
   cases hc:l.contains x
   ·rfl
   ·obtain⟨j,hj,e⟩:=List.mem_iff_getElem.1 (by simpa using hc)
    have:=hn j hj (by omega)
    simp[e] at this
  repeat first|apply zSeq|apply zReg|apply zExt|refine wN ?_|refine wG ?_|refine wA ?_|refine wL ?_|refine wE ?_|refine wK (hlen1 _) ?_
  exact WP.ret ⟨.inr rfl,_,rfl,by rw[this];rfl,rfl⟩
 have g1:decide ((i:Int)<l.length)=true:=dT
 obtain⟨b,off,ha1,hl1⟩:=IntsR.at hv E_s_int E_int (kd:=.i64) h
 cases c:l[i]==x
 ·repeat first|apply zSeq|apply zReg|apply zBlk|apply zSkp|refine wN ?_|refine wG ?_|refine wL ?_|refine wQ ?_|refine wS ?_|refine wT ?_|refine wE ?_|refine wI ?_|refine wY ?_|refine wK (hlen1 _) ?_
  refine⟨i+1,⟨rfl,h,fun j hj hji=>?_⟩,by omega,rfl,rfl,rfl,trivial⟩
  by_cases e:j=i
  ·subst e;exact c
  ·exact hn j hj (by omega)
 ·have:l.contains x=true:=by
   have e:l[i]=x:=by simpa using c
   simp only[List.contains_eq_mem,decide_eq_true_eq]
   rw[←e];exact List.getElem_mem h
  repeat first|apply zSeq|apply zReg|apply zBlk|apply zSkp|refine wN ?_|refine wG ?_|refine wA ?_|refine wL ?_|refine wQ ?_|refine wT ?_|refine wI ?_|refine wY ?_|refine wK (hlen1 _) ?_
  exact WP.ret ⟨.inr rfl,_,rfl,by rw[this];rfl,rfl⟩
theorem rWithinL_c (hO:NoO O) {A:Av}{v:Value}{l:List Int} (hv:IntsR A H v l) (hL:l.length≤1000000) (m:Int):Lc V O F_ref11_within [v,.int .i64 m] H (.bool (l.all (Flo.within m))) H:=by
 refine Lc.of_eq (Lc.ref11_within (R:=fun u H'=>u=.bool (l.all (Flo.within m))∧H'=H) (hO _ _ _ (by decide)) ?_)
 unfold P_ref11_within
 have hlen1:=fun Hz=>hv.len (V:=V) (H2:=Hz) E_s_int
 repeat first|apply zSeq|apply zReg|apply zBlk|refine wN ?_|refine wA ?_
 refine WP.loopH (σ:=Nat) (fun i=>[(0,v),(1,.int .i64 m),(5,.int .i64 i)]) (fun i H'=>H'=H∧i≤l.length∧∀ j (h:j<l.length),j<i→Flo.within m l[j]=true) (fun i=>l.length-i) 0 ⟨rfl,by simp,fun j _ h=>absurd h (by omega)⟩ ⟨rfl,rfl,rfl,trivial⟩ ?_
 rintro i Hc ⟨e,hi,hn⟩
 subst e
 rcases Nat.lt_or_ge i l.length with h|h
 case inr=>
  have g1:decide ((i:Int)<l.length)=false:=dF
  have:l.all (Flo.within m)=true:=by
   rw[List.all_eq_true]
   intro y hy
   obtain⟨j,hj,rfl⟩:=List.mem_iff_getElem.1 hy
   exact hn j hj (by omega)
  repeat first|apply zSeq|apply zReg|apply zExt|refine wN ?_|refine wG ?_|refine wA ?_|refine wL ?_|refine wE ?_|refine wK (hlen1 _) ?_
  exact WP.ret ⟨.inr rfl,_,rfl,by rw[this];rfl,rfl⟩
 have g1:decide ((i:Int)<l.length)=true:=dT
 obtain⟨b,off,ha1,hl1⟩:=IntsR.at hv E_s_int E_int (kd:=.i64) h
 have bad:Flo.within m l[i]=false→l.all (Flo.within m)=false:=fun hb=>by rw[List.all_eq_false];exact⟨_,List.getElem_mem h,by rw[hb];decide⟩
 cases c:decide (l[i]<0)
 ·cases c2:decide (l[i]≥m)
  ·repeat first|apply zSeq|apply zReg|apply zBlk|apply zSkp|refine wN ?_|refine wG ?_|refine wO ?_|refine wM ?_|refine wR ?_|refine wL ?_|refine wW ?_|refine wS ?_|refine wT ?_|refine wE ?_|refine wI ?_|refine wY ?_|refine wK (hlen1 _) ?_
   refine⟨i+1,⟨rfl,h,fun j hj hji=>?_⟩,by omega,rfl,rfl,rfl,trivial⟩
   by_cases e:j=i
   ·subst e;unfold Flo.within;rw[c,c2];rfl
   ·exact hn j hj (by omega)
  ·repeat first|apply zSeq|apply zReg|apply zBlk|apply zSkp|refine wN ?_|refine wG ?_|refine wO ?_|refine wM ?_|refine wA ?_|refine wR ?_|refine wL ?_|refine wW ?_|refine wT ?_|refine wI ?_|refine wY ?_|refine wK (hlen1 _) ?_
   exact WP.ret ⟨.inr rfl,_,rfl,by rw[bad (by unfold Flo.within;rw[c,c2];rfl)];rfl,rfl⟩
 ·repeat first|apply zSeq|apply zReg|apply zBlk|apply zSkp|refine wN ?_|refine wG ?_|refine wF ?_|refine wA ?_|refine wP ?_|refine wL ?_|refine wt ?_|refine wT ?_|refine wI ?_|refine wY ?_|refine wK (hlen1 _) ?_
  exact WP.ret ⟨.inr rfl,_,rfl,by rw[bad (by unfold Flo.within;rw[c];rfl)];rfl,rfl⟩
theorem rIntsEq_c (hO:NoO O) {A B:Av}{va vb:Value}{a b:List Int} (h1:IntsR A H va a) (h2:IntsR B H vb b) (hL:a.length≤1000000):Lc V O F_ref11_ints [va,vb] H (.bool (a==b)) H:=by
 refine Lc.of_eq (Lc.ref11_ints (R:=fun u H'=>u=.bool (a==b)∧H'=H) (hO _ _ _ (by decide)) ?_)
 unfold P_ref11_ints
 have hlen1:=fun Hz=>h1.len (V:=V) (H2:=Hz) E_s_int
 have hlen2:=fun Hz=>h2.len (V:=V) (H2:=Hz) E_s_int
 cases c6:((a.length:Int) != b.length)
 case true=>
  have hne:(a==b)=false:=by
   rw[beq_eq_false_iff_ne]
   intro e
   rw[e] at c6;simp at c6
  repeat first|apply zSeq|apply zReg|refine wN ?_|refine wG ?_|refine wA ?_|refine wU ?_|refine wT ?_|refine wK (hlen1 _) ?_|refine wK (hlen2 _) ?_
  exact WP.ret ⟨.inr rfl,_,rfl,by rw[hne];rfl,rfl⟩
 have hll:a.length=b.length:=by
  have:(a.length:Int)=b.length:=by simpa using c6
  omega
 repeat first|apply zSeq|apply zReg|apply zBlk|apply zSkp|refine wN ?_|refine wG ?_|refine wA ?_|refine wU ?_|refine wE ?_|refine wK (hlen1 _) ?_|refine wK (hlen2 _) ?_
 refine WP.loopH (σ:=Nat) (fun k=>[(0,va),(1,vb),(5,.int .i64 k)]) (fun k Hc=>Hc=H∧k≤a.length∧∀ n (h:n<a.length) (h':n<b.length),n<k→a[n]=b[n]) (fun k=>a.length-k) 0 ⟨rfl,Nat.zero_le _,fun n _ _ h=>absurd h (by omega)⟩ ⟨rfl,rfl,rfl,trivial⟩ ?_
 rintro k Hc ⟨e,hk,hpre⟩
 subst e
 rcases Nat.lt_or_ge k a.length with h|h
 case inr=>
  have g1:decide ((k:Int)<a.length)=false:=dF
  have heq:(a==b)=true:=by
   rw[beq_iff_eq]
   exact List.ext_getElem hll fun n q1 q2=>hpre n q1 q2 (by omega)
  repeat first|apply zSeq|apply zReg|apply zExt|refine wN ?_|refine wG ?_|refine wA ?_|refine wL ?_|refine wE ?_|refine wK (hlen1 _) ?_
  exact WP.ret ⟨.inr rfl,_,rfl,by rw[heq];rfl,rfl⟩
 have g1:decide ((k:Int)<a.length)=true:=dT
 obtain⟨ba,oa,ha1,hl1⟩:=IntsR.at h1 E_s_int E_int (kd:=.i64) h
 obtain⟨bb,ob,ha2,hl2⟩:=IntsR.at h2 E_s_int E_int (kd:=.i64) (hll ▸ h)
 cases c7:a[k] != b[k]'(hll ▸ h)
 ·repeat first|apply zSeq|apply zReg|apply zBlk|apply zSkp|refine wN ?_|refine wG ?_|refine wL ?_|refine wU ?_|refine wS ?_|refine wT ?_|refine wE ?_|refine wI ?_|refine wY ?_|refine wK (hlen1 _) ?_
  refine⟨k+1,⟨rfl,h,fun n q1 q2 hn=>?_⟩,by omega,rfl,rfl,rfl,trivial⟩
  by_cases e:n=k
  ·subst e;simpa using c7
  ·exact hpre n q1 q2 (by omega)
 ·have hne:(a==b)=false:=by
   rw[beq_eq_false_iff_ne]
   intro e
   have:a[k]=b[k]'(hll ▸ h):=by simp only[e]
   rw[this] at c7;simp at c7
  repeat first|apply zSeq|apply zReg|apply zBlk|apply zSkp|refine wN ?_|refine wG ?_|refine wA ?_|refine wL ?_|refine wU ?_|refine wT ?_|refine wI ?_|refine wY ?_|refine wK (hlen1 _) ?_
  exact WP.ret ⟨.inr rfl,_,rfl,by rw[hne];rfl,rfl⟩
theorem rFroms_c (hO:NoO O) {A:Av}{vl:Value}{l:List Block} (hvl:Els 4 BlockR A H vl l) (hL:l.length≤100000) (hLt:∀ b∈l,b.to.length≤1000000) (t:Int) :
  ∃ u H',Lc V O F_ref11_Froms [vl,.int .i64 t] H u H'∧(Fr H H'∧∃ o,OwI 3 H' H.next u (Flo.fromOf l l.length t) o):=by
 refine Lc.ref11_Froms (hO _ _ _ (by decide)) ?_
 unfold P_ref11_Froms
 have hlen1:=fun Hz=>hvl.len (V:=V) (H2:=Hz) E_s_api_Block
 repeat first|apply zSeq|apply zReg|apply zBlk|refine wN ?_|refine wA ?_
 refine WP.loopH (σ:=Nat×Value×Option (Nat×Nat)) (fun x=>[(0,vl),(1,.int .i64 t),(5,x.2.1),(6,.int .i64 x.1)]) (fun x Hc=>Fr H Hc∧OwI 3 Hc H.next x.2.1 (Flo.fromOf l x.1 t) x.2.2∧x.1≤l.length) (fun x=>l.length-x.1) (0,.slice none 0 0,none) ⟨.refl _,.nil,Nat.zero_le _⟩ ⟨rfl,rfl,rfl,rfl,trivial⟩ ?_
 rintro⟨k,bv,o⟩ Hc ⟨hfr,how,hk⟩
 simp only at hfr how hk ⊢
 rcases Nat.lt_or_ge k l.length with h|h
 case inr=>
  have g1:decide ((k:Int)<l.length)=false:=dF
  obtain rfl:k=l.length:=by omega
  repeat first|apply zSeq|apply zReg|apply zExt|refine wN ?_|refine wG ?_|refine wL ?_|refine wE ?_|refine wK (hlen1 _) ?_
  exact WP.ret ⟨.inr rfl,_,rfl,hfr,o,how⟩
 have g1:decide ((k:Int)<l.length)=true:=dT
 obtain⟨b,off,cs,ha1,hrd,vp,vc,vf,vt,rfl,hP,hC,hF,hT⟩:=(hvl.fr BlockR.m hfr).at E_s_api_Block E_Block te_Block_size (kd:=.i64) h
 have hl1:=(hrd.at1 (i:=3) rfl).load1 (V:=V) E_s_int rfl
 have hLk:=hLt l[k] (List.getElem_mem _)
 have hcc:=rHas_c (H:=Hc) hO hT hLk t
 have hfs:=fromOf_succ h t
 have hfl:=fromOf_length l k t
 have hn:=hfr.1
 cases c:l[k].to.contains t
 ·rw[c] at hcc hfs
  repeat first|apply zSeq|apply zReg|apply zBlk|apply zSkp|refine wN ?_|refine wG ?_|refine wL ?_|refine wT ?_|refine wD O_Block_To ?_|refine wI ?_|refine wY ?_|refine wK (hlen1 _) ?_
  refine WL.call rfl rfl fp_ref11_has.is hcc ?_
  repeat first|apply zReg|apply zSkp|refine wN ?_|refine wG ?_|refine wS ?_|refine wf ?_
  exact⟨(k+1,bv,o),⟨hfr,by rw[hfs];simp only[Bool.false_eq_true,if_false,List.append_nil];exact how,h⟩,by simp only;omega,rfl,rfl,rfl,rfl,trivial⟩
 ·rw[c] at hcc hfs
  obtain⟨bv',H6,o',k1,k2,k3,k4⟩:=how.app1 (V:=V) (k:Int) (by omega) (by omega) E_s_int E_s_int E_int (by decide)
  have hyo:=how.young
  repeat first|apply zSeq|apply zReg|apply zBlk|apply zSkp|refine wN ?_|refine wG ?_|refine wL ?_|refine wT ?_|refine wD O_Block_To ?_|refine wI ?_|refine wY ?_|refine wK (hlen1 _) ?_
  refine WL.call rfl rfl fp_ref11_has.is hcc ?_
  repeat first|apply zReg|refine wN ?_|refine wG ?_|refine wt ?_
  refine WL.op (op_buildSlice rfl E_s_int E_int (by decide) fill_int) ?_
  refine WL.op (k1 rfl rfl) ?_
  repeat first|apply zReg|refine wN ?_|refine wG ?_|refine wS ?_
  exact⟨(k+1,bv',o'),⟨hfr.young k3 hyo.1 hyo.2.1,by rw[hfs];simp only[if_true];exact k2,h⟩,by simp only;omega,rfl,rfl,rfl,rfl,trivial⟩
def p1 (regs:Int) (i:Ins):Prog:=⟨[⟨noS,0,0⟩],[noS],[⟨noS,false,0,regs,[zeroI]⟩,⟨noS,false,i.args.length,0,[]⟩]⟩
def f1 (regs:Int):Fun:=⟨noS,false,0,regs,[zeroI]⟩
def rmi (regs:Int) (i:Ins):Bool:=
 if (i.op==10)=true then !(decide (i.n<0)||decide ((i.args.length:Int)>8))&&mayG (p1 regs i) (f1 regs) { i with n:=1 }
 else if (decide (i.op≥5)&&decide (i.op≤8))=true then !decide (i.n<0)&&mayG (p1 regs i) (f1 regs) { i with n:=0 }
 else mayG (p1 regs i) (f1 regs) i
theorem mayG_p1 (regs:Int) (i j:Ins):mayG (p0 regs i) (f1 regs) j=mayG (p1 regs i) (f1 regs) j:=by
 unfold mayG
 rw[numG_congr (p:=p0 regs i) (q:=p1 regs i) rfl rfl rfl fun k h1 h2=>by
  have:k<2:=h1
  have:k=0∨k=1:=by omega
  rcases this with rfl|rfl<;>exact⟨rfl,rfl⟩]
theorem mayG_args {p:Prog}{f:Fun}{i:Ins} (h:i.op≠10) (hop:1≤i.op∧i.op<14) (ha:i.args≠[]):mayG p f i=false:=by
 have:sameB (bareI (Flo.opD i.op) i) zeroI=false:=by
  rw[←Bool.not_eq_true,sameB_iff]
  intro e
  have e:=congrArg Ins.args e
  simp only[bareI,zeroI] at e
  have hn:((Flo.opD i.op).n==6)=false:=by
   obtain⟨op,r,a,b,n,args⟩:=i
   simp only at h hop ⊢
   rcases op_cases' hop with rfl|rfl|rfl|rfl|rfl|rfl|rfl|rfl|rfl|rfl|rfl|rfl|rfl<;>first|rfl|exact absurd rfl h
  rw[hn] at e
  simp at e
  exact ha e
 unfold mayG;rw[this];simp
theorem mayG_neg {p:Prog}{f:Fun}{i:Ins} (h:i.op≠1) (hn:i.n<0):mayG p f i=false:=by
 cases hio:Flo.isOp i.op
 ·exact mayG_out1 hio
 have hop:=Flo.isOp_of hio
 unfold mayG numG sameB bareI zeroI
 obtain⟨op,r,a,b,n,args⟩:=i
 simp only at h hop hn ⊢
 have e0:(n==0)=false:=by rw[beq_eq_false_iff_ne];omega
 have e5:(n==5)=false:=by rw[beq_eq_false_iff_ne];omega
 have e6:(n==6)=false:=by rw[beq_eq_false_iff_ne];omega
 have g0:decide (n≥0)=false:=dF
 have g7:decide (n≥7)=false:=dF
 rcases op_cases' hop with rfl|rfl|rfl|rfl|rfl|rfl|rfl|rfl|rfl|rfl|rfl|rfl|rfl<;>first|exact absurd rfl h|(simp[Flo.opD,Flo.opL,e0,e5,e6,g0,g7,hn];try omega)
theorem rmi_mi (regs:Int) (i:Ins):rmi regs i=mi regs i:=by
 unfold mi
 rw[show (⟨noS,false,0,regs,[zeroI]⟩:Fun)=f1 regs from rfl,mayG_p1]
 cases hio:Flo.isOp i.op
 ·have h1:∀ p f n,mayG p f { i with n:=n }=false:=fun p f n=>mayG_out1 hio
  have h2:∀ p f,mayG p f i=false:=fun p f=>mayG_out1 hio
  unfold rmi numI
  rw[h1,h1,h2,h1]
  simp
 have hop:=Flo.isOp_of hio
 by_cases h10:i.op=10
 ·have e:(i.op==10)=true:=by simpa using h10
  have e1:(i.op != 1)=true:=by rw[h10];decide
  have hn:numI i={ i with n:=1 }:=by unfold numI num;rw[h10];rfl
  unfold rmi
  rw[if_pos e,hn,e1,Bool.and_true]
 have e:¬ (i.op==10)=true:=by simpa using h10
 unfold rmi
 rw[if_neg e]
 by_cases h58:5≤i.op∧i.op≤8
 ·have e2:(decide (i.op≥5)&&decide (i.op≤8))=true:=by simp[h58]
  have e1:(i.op != 1)=true:=by rw[bne_iff_ne];omega
  have hn:numI i={ i with n:=0 }:=by
   unfold numI num
   have:(i.op==5||i.op==6||i.op==7||i.op==8)=true:=by
    simp;omega
   rw[if_pos this]
  rw[if_pos e2,hn,e1,Bool.and_true]
  by_cases ha:i.args=[]
  ·rw[decide_eq_false (show ¬ (i.args.length:Int)>8 by rw[ha];simp),Bool.or_false]
  ·have:mayG (p1 regs i) (f1 regs) { i with n:=0 }=false:=mayG_args h10 hop ha
   rw[this];simp
 ·have e2:¬ (decide (i.op≥5)&&decide (i.op≤8))=true:=by simp;omega
  have hn:numI i=i:=by
   unfold numI num
   have:¬ (i.op==5||i.op==6||i.op==7||i.op==8)=true:=by
    simp;omega
   rw[if_neg this,if_neg e]
  rw[if_neg e2,hn]
  by_cases ha:i.args=[]
  ·rw[decide_eq_false (show ¬ (i.args.length:Int)>8 by rw[ha];simp),Bool.or_false]
   by_cases h1:i.op=1
   ·have:(i.op != 1)=false:=by rw[h1];rfl
    rw[this,Bool.and_false];simp
   ·by_cases hneg:i.n<0
    ·rw[mayG_neg h1 hneg];simp
    ·rw[decide_eq_false hneg,Bool.false_and];simp
  ·rw[mayG_args h10 hop ha];simp
end

end Go.Proofs.YtjiibfgopanbgaaGreatDoor.U