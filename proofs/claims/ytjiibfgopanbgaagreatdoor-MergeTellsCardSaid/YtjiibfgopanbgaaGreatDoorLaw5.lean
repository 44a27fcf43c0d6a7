/-
  Contracts of ref11: mayIns, block.
-/
import Derived.Test.YtjiibfgopanbgaaGreatDoorLaw4
import Derived.Test.YtjiibfgopanbgaaGreatDoorLaw3
set_option linter.all false
namespace Go.Ev
theorem Bx.elsA {α:Type}{A:Av}{sz:Nat}{R:Rq α}{H:AH}{b:Nat}{e:TypeId}{cs:List Value}{xs:List α}{cap:Nat} (hb:Bx H b e cs) (hn:b∉A.bs) (hc:cs.length=xs.length*sz) (hx:∀ i (h:i<xs.length),R A H ((cs.drop (i*sz)).take sz) xs[i]):Els sz R A H (.slice (some ⟨b,0,none⟩) xs.length cap) xs:=
 ⟨cs,⟨hc,.inr ⟨b,0,cap,rfl,fun _=>⟨hn,e,cs,.exact,0,0,hb.1,hb.2,.inl rfl,by omega,by rw[List.drop_zero,List.take_of_length_le (by omega)]⟩⟩⟩,hx⟩
end Go.Ev
namespace Go.Flo
open Go.Ev
variable (mi:Int→Ins→Bool)
def lastOp (l:List Ins):Int:=match l.getLast? with|some i=>i.op|none=>0
def toL (l:List Ins):Int:=if (lastOp l==13)=true then 0 else if (lastOp l==12)=true then 2 else 1
def phOk (n:Nat) (regs:Int) (nf:Nat) (p:Phi):Bool:=!(n==0)&&(within regs p.r&&(p.args.all (within regs)&&(p.args.length:Int)==nf))
def rblock (l:List Block) (n:Nat) (regs:Int) (b:Block):Bool:=
 codeOk mi regs b.code.length 0 b.code&&((b.to.length:Int)==toL b.code&&(b.to.all (within l.length)&&b.phis.all (phOk n regs b.frm.length)))
variable {mi}
theorem fold_toN {l:List Ins} (h:∀ i∈l,ends i.op=false) (t:Int):l.foldl toN t=t:=by
 induction l generalizing t with
 | nil=>rfl
 | cons a l ih=>
  rw[List.foldl_cons,ih fun i hi=>h i (by simp[hi])]
  have:=h a (by simp)
  unfold ends at this
  simp only[Bool.or_eq_false_iff] at this
  unfold toN
  rw[this.1.2,this.2];rfl
theorem toOf_eq {regs:Int}{l:List Ins} (h:codeOk mi regs l.length 0 l=true):toOf l=toL l:=by
 unfold toOf toL lastOp
 rcases List.eq_nil_or_concat l with rfl|⟨m,a,rfl⟩
 ·rfl
 ·rw[codeOk_iff] at h
  rw[List.concat_eq_append] at h ⊢
  rw[List.foldl_append,fold_toN (l:=m)]
  ·rw[List.getLast?_concat]
   simp only[List.foldl_cons,List.foldl_nil]
   unfold toN
   by_cases h1:a.op==12
   ·have:(a.op==13)=false:=by
     rw[beq_eq_false_iff_ne];have:a.op=12:=by simpa using h1
     omega
    rw[if_pos h1,this,h1];rfl
   ·rw[if_neg h1]
    have h1:(a.op==12)=false:=by simpa using h1
    rw[h1];simp
  ·intro i hi
   obtain⟨j,hj,rfl⟩:=List.mem_iff_getElem.1 hi
   have:=h j (by simp;omega)
   unfold insOk at this
   rw[Bool.and_eq_true] at this
   have h2:=this.2
   have hd:decide (0+j+1<(m++[a]).length)=true:=decide_eq_true (by simp;omega)
   rw[hd,List.getElem_append_left hj] at h2
   simpa using h2
theorem phiOk_of {n:Nat}{regs:Int}{nf:Nat}{p:Phi} (hn:n≠0):phOk n regs nf p=phiOk regs nf p:=by
 unfold phOk phiOk
 have:(n==0)=false:=by rw[beq_eq_false_iff_ne];exact hn
 rw[this]
 cases within regs p.r<;>cases p.args.all (within regs)<;>cases ((p.args.length:Int)==nf)<;>rfl
end Go.Flo
namespace Go.Proofs.YtjiibfgopanbgaaGreatDoor.U
open Go Go.Ev
section
attribute [local irreducible] WL WP WH W
attribute [local irreducible] V
variable {O:Orc}{H:AH}
theorem PrR.frZ {A:Av}{H H':AH}{vm vl vf:Value}{p:Prog} (h:PrR A H vm vl vf p) (k:FrX A.bs A.gs H H'):PrR A H' vm vl vf p:=⟨h.m.frX MemR.m k,h.l.frX StrR.m k,h.f.frX FunR.m k⟩
set_option maxHeartbeats 8000000 in
theorem rIns11_c (hO:NoO O) {A:Av}{i:Ins}{va:Value} (regs:Int) (hv:IntsR A H va i.args) (hL:i.args.length≤100000) (hop:0≤i.op∧i.op<256) :
 ∃ u H',Lc V O F_ref11_mayIns [insV i va,.int .i64 regs] H u H'∧(u=.bool (mi regs i)∧Fr H H'):=by
 rw[←rmi_mi]
 refine Lc.ref11_mayIns (hO _ _ _ (by decide)) ?_
 unfold P_ref11_mayIns
 have hv0:=hv
 obtain⟨av,nv,cv,rfl⟩:=hv.isSl
 apply zSeq
 apply zReg
 refine zBox rfl (fun _=>rfl) fun H1 f1' b1 n1=>?_
 have b1':Bx H1 H.next 47 [.int .u8 i.op,.int .i64 i.r,.int .i64 i.a,.int .i64 i.b,.int .i64 i.n,.slice av nv cv]:=b1
 clear b1
 repeat first|refine wN ?_|refine wA ?_
 apply zSeq
 repeat first|apply zReg|refine wG ?_
 refine WL.op (op_build rfl build39) ?_
 refine zLit rfl E_s_api_Ins E_Ins (by rw[te_Ins_size];decide) fillIns1 (by decide) fun H2 f2 b2 n2=>?_
 refine WL.op (op_build rfl buildFunA) ?_
 refine zAlc E_Fun zeroFun fun H3 f3 b3 n3=>?_
 refine zStB b3 rfl rfl E_Fun (by rw[te_Fun_size];rfl) rfl (by simp[Value.cells]) (by simp[Value.cells]) fun H4 f4 b4 n4=>?_
 have b4':Bx H4 H2.next 78 [.string ⟨⟨[]⟩⟩,.bool false,.int .i64 0,.int .i64 regs,.slice (some ⟨H1.next,0,none⟩) 1 1]:=b4
 have f24:Fr H2 H4:=f3.young f4 (by simp) (by simp)
 have f14:=f2.trans f24
 have b14:=b1'.fr f14
 have bi4:=b2.fr f24
 have hlen1:=fun Hz=>hv0.len (V:=V) (H2:=Hz) E_s_int
 clear b1' b2 b3 b4 f3 f4
 repeat first|refine wN ?_
 apply zSeq
 repeat first|apply zReg
 refine WL.op (op_build rfl buildMem0) ?_
 refine zLit rfl E_s_api_Mem E_Mem (by rw[te_Mem_size];decide) fillMem1 (by decide) fun H5 f5 b5 n5=>?_
 refine zLit rfl E_s_string E_string (by decide) fillStr (by decide) fun H6 f6 b6 n6=>?_
 have f46:=f5.trans f6
 have b46:=b4'.fr f46
 have b16:=b14.fr f46
 refine zLd rfl (b46.lN E_Fun te_Fun_agg te_Fun_size) ?_
 repeat first|refine wD O_Ins_Args ?_|refine wB E_s_int ?_|refine wK (hlen1 _) ?_
 refine WL.op (op_build rfl buildFunB) ?_
 refine zLit rfl E_s_api_Fun E_Fun (by rw[te_Fun_size];decide) fillFun2 (by decide) fun H7 f7 b7 n7=>?_
 refine WL.op (op_build rfl buildProg3) ?_
 refine zAlc E_Prog zeroProg fun H8 f8 b8 n8=>?_
 refine zStB b8 rfl rfl E_Prog (by rw[te_Prog_size];rfl) rfl (by simp[Value.cells]) (by simp[Value.cells]) fun H9 f9 b9 n9=>?_
 have bq0:Bx H9 H7.next 74 [.slice (some ⟨H4.next,0,none⟩) 1 1,.slice (some ⟨H5.next,0,none⟩) 1 1,.slice (some ⟨H6.next,0,none⟩) 2 2]:=b9
 have f79:Fr H7 H9:=f8.young f9 (by simp) (by simp)
 have f69:=f7.trans f79
 have f59:=f6.trans f69
 have f49:=f5.trans f59
 have f09:=(f1'.trans f14).trans f49
 have b19:=b16.fr f69
 have hm1:=f14.1
 have hm2:=f49.1
 have hm3:=f79.1
 have hm4:=f46.1
 have hm5:=f7.1
 have hm6:=f5.1
 have hm7:=f2.1
 have hm8:=f6.1
 have hp:PrR (.box H.next) H9 (.slice (some ⟨H4.next,0,none⟩) 1 1) (.slice (some ⟨H5.next,0,none⟩) 1 1) (.slice (some ⟨H6.next,0,none⟩) 2 2) (p1 regs i):=by
  refine⟨(b5.fr f59).elsA (α:=Ev.Mem) (xs:=[⟨noS,0,0⟩]) (by simp[Av.box];omega) rfl fun k hk=>?_,(b6.fr f69).elsA (α:=ByteArray) (xs:=[noS]) (by simp[Av.box];omega) rfl fun k hk=>?_,(b7.fr f79).elsA (α:=Ev.Fun) (xs:=[⟨noS,false,0,regs,[zeroI]⟩,⟨noS,false,i.args.length,0,[]⟩]) (by simp[Av.box];omega) rfl fun k hk=>?_⟩
  ·have:k=0:=by simp at hk;omega
   subst this;rfl
  ·have:k=0:=by simp at hk;omega
   subst this;rfl
  ·have:k=0∨k=1:=by simp at hk;omega
   rcases this with rfl|rfl
   ·refine⟨_,rfl,?_⟩
    refine (bi4.fr f49).elsA (xs:=[zeroI]) (sz:=6) (by simp[Av.box];omega) rfl fun k hk=>?_
    have:k=0:=by simp at hk;omega
    subst this
    exact⟨.slice none 0 0,rfl,.nil⟩
   ·exact⟨.slice none 0 0,rfl,.nil⟩
 have hv9:=(hv0.gr (B:=.box H.next) ⟨fun x hx=>.inr (by simp[Av.box] at hx;omega),fun x hx=>by simp[Av.box] at hx⟩).fr f09
 have hx7:H.next≠H7.next:=by omega
 clear b4' b14 bi4 b5 b6 b46 b16 b7 b8 b9 f8 f9 hv
 repeat first|refine wN ?_
 cases c10:i.op==10
 case true =>
  have h10:i.op=10:=by simpa using c10
  have hr:rmi regs i=(!(decide (i.n<0)||decide ((i.args.length:Int)>8))&&mayG (p1 regs i) (f1 regs) { i with n:=1 }):=by unfold rmi;rw[if_pos c10]
  rw[hr]
  cases d1:decide (i.n<0)
  case true =>
   repeat first|apply zSeq|apply zReg|refine wN ?_|refine wF ?_|refine wA ?_|refine wP ?_|refine wL ?_|refine wQ ?_|refine wt ?_|refine wT ?_|refine wD O_Ins_Op ?_|refine wD O_Ins_N ?_|refine wB E_int64 ?_|refine wB E_uint8 ?_
   exact WP.ret ⟨.inr rfl,_,rfl,rfl,f09⟩
  cases d2:decide ((i.args.length:Int)>8)
  case true =>
   repeat first|apply zSeq|apply zReg|refine wN ?_|refine wO ?_|refine wA ?_|refine wR ?_|refine wL ?_|refine wV ?_|refine wQ ?_|refine wT ?_|refine wD O_Ins_Op ?_|refine wD O_Ins_N ?_|refine wD O_Ins_Args ?_|refine wB E_int64 ?_|refine wB E_uint8 ?_|refine wB E_s_int ?_|refine wK (hlen1 _) ?_
   exact WP.ret ⟨.inr rfl,_,rfl,rfl,f09⟩
  have g1:decide (i.op≥5)=true:=dT
  have g2:decide (i.op≤8)=false:=dF
  repeat first|apply zSeq|apply zReg|apply zSkp|refine wN ?_|refine wO ?_|refine wR ?_|refine wL ?_|refine wV ?_|refine wQ ?_|refine wT ?_|refine wE ?_|refine wD O_Ins_Op ?_|refine wD O_Ins_N ?_|refine wD O_Ins_Args ?_|refine wB E_int64 ?_|refine wB E_uint8 ?_|refine wB E_s_int ?_|refine wK (hlen1 _) ?_
  refine zStB b19 rfl rfl E_int64 rfl rfl (by simp[Value.cells]) (by simp[Value.cells]) fun Ha fa ba na=>?_
  have bi:Bx Ha H.next 47 [.int .u8 i.op,.int .i64 i.r,.int .i64 i.a,.int .i64 i.b,.int .i64 1,.slice av nv cv]:=ba
  have bq:=bq0.frX fa (by simpa using Ne.symm hx7)
  have hpa:=hp.frZ fa
  have hcm:=rMayIns2_c (H:=Ha) (k:=0) (i:={ i with n:=1 }) hO (show 0<(p1 regs i).funs.length from Nat.zero_lt_succ 1) hpa (hv9.frX fa) hL hop
  obtain⟨_,Hb,hcm,rfl,fb⟩:=hcm
  repeat first|apply zSeq|apply zReg|apply zSkp|refine wN ?_|refine wO ?_|refine wP ?_|refine zLeq rfl rfl ?_|refine wW ?_|refine wE ?_|refine wD O_Ins_Op ?_|refine wB E_uint8 ?_
  (refine zLd rfl (bq.lN E_Prog te_Prog_agg te_Prog_size) ?_;refine zLd rfl (bi.lN E_Ins te_Ins_agg te_Ins_size) ?_;refine WL.call rfl rfl fp_ref07_MayIns.is hcm ?_;(repeat first|refine wN ?_))
  exact WP.ret ⟨.inr rfl,_,rfl,rfl,(f09.young fa (by simp) (by simp)).trans fb⟩
 have h10:¬ i.op=10:=by simpa using c10
 cases d1:decide (i.op≥5)
 case false =>
  have hr:rmi regs i=mayG (p1 regs i) (f1 regs) i:=by unfold rmi;rw[if_neg (by rw[c10];decide),d1];rfl
  rw[hr]
  have bi:=b19
  have bq:=bq0
  obtain⟨_,Hb,hcm,rfl,fb⟩:=rMayIns2_c (H:=H9) (k:=0) (i:=i) hO (show 0<(p1 regs i).funs.length from Nat.zero_lt_succ 1) hp hv9 hL hop
  repeat first|apply zSeq|apply zReg|apply zSkp|refine wN ?_|refine wF ?_|refine wR ?_|refine wW ?_|refine wQ ?_|refine wf ?_|refine wE ?_|refine wD O_Ins_Op ?_|refine wB E_uint8 ?_
  (refine zLd rfl (bq.lN E_Prog te_Prog_agg te_Prog_size) ?_;refine zLd rfl (bi.lN E_Ins te_Ins_agg te_Ins_size) ?_;refine WL.call rfl rfl fp_ref07_MayIns.is hcm ?_;(repeat first|refine wN ?_))
  exact WP.ret ⟨.inr rfl,_,rfl,rfl,f09.trans fb⟩
 cases d2:decide (i.op≤8)
 case false =>
  have hr:rmi regs i=mayG (p1 regs i) (f1 regs) i:=by unfold rmi;rw[if_neg (by rw[c10];decide),d1,d2];rfl
  rw[hr]
  have bi:=b19
  have bq:=bq0
  obtain⟨_,Hb,hcm,rfl,fb⟩:=rMayIns2_c (H:=H9) (k:=0) (i:=i) hO (show 0<(p1 regs i).funs.length from Nat.zero_lt_succ 1) hp hv9 hL hop
  repeat first|apply zSeq|apply zReg|apply zSkp|refine wN ?_|refine wO ?_|refine wP ?_|refine zLeq rfl rfl ?_|refine wW ?_|refine wQ ?_|refine wE ?_|refine wD O_Ins_Op ?_|refine wB E_uint8 ?_
  (refine zLd rfl (bq.lN E_Prog te_Prog_agg te_Prog_size) ?_;refine zLd rfl (bi.lN E_Ins te_Ins_agg te_Ins_size) ?_;refine WL.call rfl rfl fp_ref07_MayIns.is hcm ?_;(repeat first|refine wN ?_))
  exact WP.ret ⟨.inr rfl,_,rfl,rfl,f09.trans fb⟩
 have hr:rmi regs i=(!decide (i.n<0)&&mayG (p1 regs i) (f1 regs) { i with n:=0 }):=by unfold rmi;rw[if_neg (by rw[c10];decide),d1,d2];rfl
 rw[hr]
 cases d3:decide (i.n<0)
 case true =>
  repeat first|apply zSeq|apply zReg|apply zSkp|refine wN ?_|refine wO ?_|refine wA ?_|refine wP ?_|refine wL ?_|refine zLeq rfl rfl ?_|refine wW ?_|refine wQ ?_|refine wT ?_|refine wE ?_|refine wD O_Ins_Op ?_|refine wD O_Ins_N ?_|refine wB E_int64 ?_|refine wB E_uint8 ?_
  exact WP.ret ⟨.inr rfl,_,rfl,rfl,f09⟩
 repeat first|apply zSeq|apply zReg|apply zSkp|refine wN ?_|refine wO ?_|refine wP ?_|refine wL ?_|refine zLeq rfl rfl ?_|refine wW ?_|refine wQ ?_|refine wT ?_|refine wE ?_|refine wD O_Ins_Op ?_|refine wD O_Ins_N ?_|refine wB E_int64 ?_|refine wB E_uint8 ?_
 refine zStB b19 rfl rfl E_int64 rfl rfl (by simp[Value.cells]) (by simp[Value.cells]) fun Ha fa ba na=>?_
 have bi:Bx Ha H.next 47 [.int .u8 i.op,.int .i64 i.r,.int .i64 i.a,.int .i64 i.b,.int .i64 0,.slice av nv cv]:=ba
 have bq:=bq0.frX fa (by simpa using Ne.symm hx7)
 have hpa:=hp.frZ fa
 obtain⟨_,Hb,hcm,rfl,fb⟩:=rMayIns2_c (H:=Ha) (k:=0) (i:={ i with n:=0 }) hO (show 0<(p1 regs i).funs.length from Nat.zero_lt_succ 1) hpa (hv9.frX fa) hL hop
 repeat first|apply zSeq|apply zReg|refine wN ?_
 (refine zLd rfl (bq.lN E_Prog te_Prog_agg te_Prog_size) ?_;refine zLd rfl (bi.lN E_Ins te_Ins_agg te_Ins_size) ?_;refine WL.call rfl rfl fp_ref07_MayIns.is hcm ?_;(repeat first|refine wN ?_))
 exact WP.ret ⟨.inr rfl,_,rfl,rfl,(f09.young fa (by simp) (by simp)).trans fb⟩
theorem rLast_c (hO:NoO O) {A:Av}{b:Block}{cs:List Value} (hb:BlockR A H cs b) (hL:b.code.length≤1000000) :
  ∃ u H',Lc V O F_ref11_last [.agg cs.toArray] H u H'∧(u=.int .u8 (Flo.lastOp b.code)∧Fr H H'):=by
 obtain⟨vp,vc,vf,vt,rfl,hP,hC,hF,hT⟩:=hb
 refine Lc.ref11_last (hO _ _ _ (by decide)) ?_
 unfold P_ref11_last
 apply zSeq
 apply zReg
 refine zBox rfl (fun _=>rfl) fun H1 f1 b1 n1=>?_
 have b1':Bx H1 H.next 45 [vp,vc,vf,vt]:=b1
 have hlen1:=fun Hz=>hC.len (V:=V) (H2:=Hz) E_s_api_Ins
 have hC1:=hC.fr InsR.m f1
 cases c:(b.code.length:Int)==0
 case true=>
  have hz:(b.code.length:Int)=0:=by simpa using c
  have h0:b.code=[]:=List.length_eq_zero_iff.1 (by omega)
  repeat first|apply zSeq|apply zReg|refine wN ?_|refine wA ?_|refine wQ ?_|refine wT ?_|refine wD O_Block_Code ?_|refine wB E_s_api_Ins ?_|refine wK (hlen1 _) ?_
  exact WP.ret ⟨.inr rfl,_,rfl,by rw[h0];rfl,f1⟩
 have hpos:0<b.code.length:=by
  have:¬ (b.code.length:Int)=0:=by simpa using c
  omega
 obtain⟨ba,off,cs,ha1,hrd,va,rfl,hva⟩:=hC1.at E_s_api_Ins E_Ins te_Ins_size (kd:=.i64) (i:=b.code.length-1) (by omega)
 rw[show ((b.code.length-1:Nat):Int)=(b.code.length:Int)-1 by omega] at ha1
 have hl1:=(hrd.at1 (i:=0) rfl).load1 (V:=V) E_uint8 rfl
 have hlo:Flo.lastOp b.code=(b.code[b.code.length-1]'(by omega)).op:=by
  unfold Flo.lastOp
  rw[List.getLast?_eq_getElem?,List.getElem?_eq_getElem (by omega)]
 rw[hlo]
 repeat first|apply zSeq|apply zReg|apply zSkp|refine wN ?_|refine wA ?_|refine wQ ?_|refine zSub rfl rfl (by omega) ?_|refine wE ?_|refine wD O_Ins_Op ?_|refine wD O_Block_Code ?_|refine wB E_s_api_Ins ?_|refine wI ?_|refine wY ?_|refine wK (hlen1 _) ?_
 exact WP.ret ⟨.inr rfl,_,rfl,rfl,f1⟩
end
section
attribute [local irreducible] WL WP WH W
attribute [local irreducible] V
variable {O:Orc}{H:AH}
set_option maxHeartbeats 16000000 in
theorem rBlock_c (hO:NoO O) {A:Av}{l:List Block}{vl:Value} (hvl:Els 4 BlockR A H vl l) {n:Nat} (hn:n<l.length) (regs:Int) (hlL:l.length≤100000) (hLc:l[n].code.length≤1000000) (hLt:l[n].to.length≤1000000) (hLp:l[n].phis.length≤1000000) (hLa:∀ p∈l[n].phis,p.args.length≤1000000) (hargs:∀ i∈l[n].code,i.args.length≤100000) (hop:∀ i∈l[n].code,0≤i.op∧i.op<256) :
 ∃ u H',Lc V O F_ref11_block [vl,.int .i64 n,.int .i64 regs] H u H'∧(u=.bool (Flo.rblock mi l n regs l[n])∧Fr H H'):=by
 refine Lc.ref11_block (hO _ _ _ (by decide)) ?_
 unfold P_ref11_block
 have hlenl:=fun Hz=>hvl.len (V:=V) (H2:=Hz) E_s_api_Block
 obtain⟨bb,off,cs,ha1,hrd,hR⟩:=hvl.at E_s_api_Block E_Block te_Block_size (kd:=.i64) hn
 have hl1:=hrd.loadN (V:=V) E_Block te_Block_agg te_Block_size
 have hone:=(BlockR.one hR).1
 have hR0:=hR
 obtain⟨vp,vc,vf,vt,rfl,hP,hC,hF,hT⟩:=hR
 generalize l[n]=b at *
 skip
 apply zSeq
 repeat first|apply zReg|refine wN ?_|refine wA ?_
 apply zSeq
 repeat first|apply zReg|refine wG ?_|refine wI ?_|refine wY ?_
 refine zAlc E_Block zero34 fun H1 f1 b1 n1=>?_
 refine zStB b1 rfl rfl E_Block (by rw[te_Block_size];rfl) (by simpa[Value.cells] using hone) (by simp[Value.cells]) (by simp[Value.cells]) fun H2 f2 b2 n2=>?_
 have b2':Bx H2 H.next 45 [vp,vc,vf,vt]:=b2
 have f02:Fr H H2:=f1.young f2 (by simp) (by simp)
 have hP:=hP.fr PhiR.m f02
 have hC:=hC.fr InsR.m f02
 have hF:=hF.fr f02
 have hT:=hT.fr f02
 have hR2:=BlockR.m.fr hR0 f02
 clear b1 b2 f1 f2 ha1 hl1 hrd hR0
 have hlen1:=fun Hz=>hC.len (V:=V) (H2:=Hz) E_s_api_Ins
 have badC:Flo.codeOk mi regs b.code.length 0 b.code=false→Flo.rblock mi l n regs b=false:=fun h=>by unfold Flo.rblock;rw[h];rfl
 repeat first|refine wN ?_
 refine WP.seqS (σ:=Unit) (fun _=>[(0,vl),(1,.int .i64 n),(2,.int .i64 regs),(7,.pointer (some ⟨H.next,0,none⟩))]) (fun _ Hc=>Fr H2 Hc∧Flo.codeOk mi regs b.code.length 0 b.code=true) ?_ ?_
 ·repeat first|apply zSeq|apply zReg|apply zBlk|refine wN ?_|refine wA ?_
  refine WP.loopH (σ:=Nat) (fun k=>[(0,vl),(1,.int .i64 n),(2,.int .i64 regs),(7,.pointer (some ⟨H.next,0,none⟩)),(8,.int .i64 k)]) (fun k Hc=>Fr H2 Hc∧k≤b.code.length∧∀ j (h:j<b.code.length),j<k→Flo.insOk mi regs b.code.length j b.code[j]=true) (fun k=>b.code.length-k) 0 ⟨.refl _,Nat.zero_le _,fun j _ h=>absurd h (by omega)⟩ ⟨rfl,rfl,rfl,rfl,rfl,trivial⟩ ?_
  rintro k Hc ⟨f2c,hk,hpre⟩
  have bc:=b2'.fr f2c
  rcases Nat.lt_or_ge k b.code.length with h|h
  case inr =>
   have g1:decide ((k:Int)<b.code.length)=false:=dF
   repeat first|apply zSeq|apply zReg|apply zExt|refine wN ?_|refine wG ?_|refine wL ?_|refine wE ?_|refine wD O_Block_Code ?_|refine wB E_s_api_Ins ?_|refine wK (hlen1 _) ?_
   exact⟨(),⟨f2c,Flo.codeOk_iff.2 fun j hj=>by rw[Nat.zero_add];exact hpre j hj (by omega)⟩,rfl,rfl,rfl,rfl,trivial⟩
  have g1:decide ((k:Int)<b.code.length)=true:=dT
  have hCc:=hC.fr InsR.m f2c
  obtain⟨ba,oa,cs,ha1,hrd,va,rfl,hva⟩:=hCc.at E_s_api_Ins E_Ins te_Ins_size (kd:=.i64) h
  have hl1:=hrd.loadN (V:=V) E_Ins te_Ins_agg te_Ins_size
  obtain⟨_,Hd,hcd,rfl,fd⟩:=rIns11_c (H:=Hc) hO regs hva (hargs _ (List.getElem_mem h)) (hop _ (List.getElem_mem h))
  have bd:=bc.fr fd
  have hrd2:=hrd.fr fd
  have hl2:=(hrd2.at1 (i:=0) rfl).load1 (V:=V) E_uint8 rfl
  have bad:Flo.insOk mi regs b.code.length k b.code[k]=false→Flo.rblock mi l n regs b=false:=fun hb=>badC (by
   cases hc:Flo.codeOk mi regs b.code.length 0 b.code
   ·rfl
   ·have:=Flo.codeOk_iff.1 hc k h
    rw[Nat.zero_add,hb] at this;cases this)
  have good:Flo.insOk mi regs b.code.length k b.code[k]=true→∀ j (h:j<b.code.length),j<k+1→Flo.insOk mi regs b.code.length j b.code[j]=true:=fun hg j hj hjk=>by
   by_cases e:j=k
   ·subst e;exact hg
   ·exact hpre j hj (by omega)
  have hins:Flo.insOk mi regs b.code.length k b.code[k]=(mi regs b.code[k]&&!(Flo.ends b.code[k].op&&decide (k+1<b.code.length))):=rfl
  have hf0:=(f02.trans f2c).trans fd
  have f2d:=f2c.trans fd
  clear hvl hT hF hP
  generalize b.code[k]=i at *
  cases c1:mi regs i
  ·rw[c1] at hcd
   repeat first|apply zSeq|apply zReg|apply zBlk|apply zSkp|refine wN ?_|refine wG ?_|refine wL ?_|refine wT ?_|refine wD O_Block_Code ?_|refine wB E_s_api_Ins ?_|refine wI ?_|refine wY ?_|refine wK (hlen1 _) ?_
   refine WL.call rfl rfl fp_ref11_mayIns.is hcd ?_
   repeat first|apply zSeq|apply zReg|refine wN ?_|refine wx ?_|refine zU rfl ?_|refine wA ?_|refine wp ?_|refine wZ ?_|refine wt ?_
   exact WP.ret ⟨.inr rfl,_,rfl,by rw[bad (by rw[hins,c1];rfl)];rfl,hf0⟩
  rw[c1] at hcd
  cases c2:decide ((k:Int)<(b.code.length:Int)-1)
  ·have hd:decide (k+1<b.code.length)=false:=decide_eq_false (by have:=of_decide_eq_false c2;omega)
   repeat first|apply zSeq|apply zReg|apply zBlk|apply zSkp|refine wN ?_|refine wG ?_|refine wL ?_|refine wT ?_|refine wD O_Block_Code ?_|refine wB E_s_api_Ins ?_|refine wI ?_|refine wY ?_|refine wK (hlen1 _) ?_
   refine WL.call rfl rfl fp_ref11_mayIns.is hcd ?_
   repeat first|apply zReg|apply zSkp|refine wN ?_|refine wG ?_|refine wo ?_|refine wF ?_|refine wM ?_|refine wq ?_|refine wR ?_|refine wL ?_|refine wS ?_|refine zSub rfl rfl (by omega) ?_|refine wZ ?_|refine wf ?_|refine wD O_Block_Code ?_|refine wB E_s_api_Ins ?_|refine wK (hlen1 _) ?_
   exact⟨k+1,⟨f2d,h,good (by rw[hins,c1,hd];simp)⟩,by omega,rfl,rfl,rfl,rfl,rfl,trivial⟩
  have hd:decide (k+1<b.code.length)=true:=decide_eq_true (by have:=of_decide_eq_true c2;omega)
  have hce:=rEnds_c (H:=Hd) hO i.op
  cases c3:Flo.ends i.op
  ·rw[c3] at hce
   repeat first|apply zSeq|apply zReg|apply zBlk|apply zSkp|refine wN ?_|refine wG ?_|refine wL ?_|refine wT ?_|refine wD O_Block_Code ?_|refine wB E_s_api_Ins ?_|refine wI ?_|refine wY ?_|refine wK (hlen1 _) ?_
   refine WL.call rfl rfl fp_ref11_mayIns.is hcd ?_
   repeat first|refine wo ?_|refine wO ?_|refine wM ?_|refine wL ?_|refine zSub rfl rfl (by omega) ?_|refine wZ ?_|refine wD O_Ins_Op ?_|refine wD O_Block_Code ?_|refine wB E_s_api_Ins ?_|refine wI ?_|refine wY ?_|refine wK (hlen1 _) ?_
   refine WL.call rfl rfl fp_ref11_ends.is hce ?_
   repeat first|apply zReg|apply zSkp|refine wN ?_|refine wG ?_|refine wo ?_|refine wq ?_|refine wP ?_|refine wS ?_|refine wf ?_
   exact⟨k+1,⟨f2d,h,good (by rw[hins,c1,c3];rfl)⟩,by omega,rfl,rfl,rfl,rfl,rfl,trivial⟩
  ·rw[c3] at hce
   repeat first|apply zSeq|apply zReg|apply zBlk|apply zSkp|refine wN ?_|refine wG ?_|refine wL ?_|refine wT ?_|refine wD O_Block_Code ?_|refine wB E_s_api_Ins ?_|refine wI ?_|refine wY ?_|refine wK (hlen1 _) ?_
   refine WL.call rfl rfl fp_ref11_mayIns.is hcd ?_
   repeat first|refine wo ?_|refine wO ?_|refine wM ?_|refine wL ?_|refine zSub rfl rfl (by omega) ?_|refine wZ ?_|refine wD O_Ins_Op ?_|refine wD O_Block_Code ?_|refine wB E_s_api_Ins ?_|refine wI ?_|refine wY ?_|refine wK (hlen1 _) ?_
   refine WL.call rfl rfl fp_ref11_ends.is hce ?_
   repeat first|apply zSeq|apply zReg|refine wN ?_|refine wo ?_|refine wA ?_|refine wq ?_|refine wP ?_|refine wt ?_
   exact WP.ret ⟨.inr rfl,_,rfl,by rw[bad (by rw[hins,c1,c3,hd];rfl)];rfl,hf0⟩
 clear badC
 rintro _ H3 ⟨f23,hcode⟩
 have b3:=b2'.fr f23
 have f03:=f02.trans f23
 obtain⟨_,H4,hc4,rfl,f4⟩:=rLast_c (H:=H3) hO (BlockR.m.fr hR2 f23) hLc
 have b4:=b3.fr f4
 obtain⟨_,H5,hc5,rfl,f5⟩:=rLast_c (H:=H4) hO (BlockR.m.fr (BlockR.m.fr hR2 f23) f4) hLc
 have b5:=b4.fr f5
 have f35:=f4.trans f5
 have f05:=f03.trans f35
 have hrb:Flo.rblock mi l n regs b=((b.to.length:Int)==Flo.toL b.code&&(b.to.all (Flo.within l.length)&&b.phis.all (Flo.phOk n regs b.frm.length))):=by unfold Flo.rblock;rw[hcode];rfl
 have htoL:Flo.toL b.code=if (Flo.lastOp b.code==13)=true then 0 else if (Flo.lastOp b.code==12)=true then 2 else 1:=rfl
 rw[hrb]
 generalize Flo.lastOp b.code=lo at *
 skip
 apply zSeq
 repeat first|apply zReg|refine wN ?_|refine wA ?_
 refine WP.seqS (σ:=Unit) (fun _=>[(0,vl),(1,.int .i64 n),(2,.int .i64 regs),(7,.pointer (some ⟨H.next,0,none⟩)),(9,.int .i64 (if (lo==12)=true then 2 else 1))]) (fun _ Hc=>Hc=H4) ?_ ?_
 ·cases c:lo==12
  ·repeat first|apply zSeq|apply zReg
   refine zLd rfl (b3.lN E_Block te_Block_agg te_Block_size) ?_
   refine WL.call rfl rfl fp_ref11_last.is hc4 ?_
   repeat first|apply zSkp|refine wN ?_|refine wQ ?_|refine wE ?_
   exact⟨(),rfl,rfl,rfl,rfl,rfl,rfl,trivial⟩
  ·repeat first|apply zSeq|apply zReg
   refine zLd rfl (b3.lN E_Block te_Block_agg te_Block_size) ?_
   refine WL.call rfl rfl fp_ref11_last.is hc4 ?_
   repeat first|apply zReg|refine wN ?_|refine wA ?_|refine wQ ?_|refine wT ?_
   exact⟨(),rfl,rfl,rfl,rfl,rfl,rfl,trivial⟩
 rintro _ Hc e
 subst e
 refine WP.seqS (σ:=Unit) (fun _=>[(0,vl),(1,.int .i64 n),(2,.int .i64 regs),(7,.pointer (some ⟨H.next,0,none⟩)),(9,.int .i64 (Flo.toL b.code))]) (fun _ Hd=>Hd=H5) ?_ ?_
 ·rw[htoL]
  cases c:lo==13
  ·repeat first|apply zSeq|apply zReg
   refine zLd rfl (b4.lN E_Block te_Block_agg te_Block_size) ?_
   refine WL.call rfl rfl fp_ref11_last.is hc5 ?_
   repeat first|apply zSkp|refine wN ?_|refine wQ ?_|refine wE ?_
   exact⟨(),rfl,rfl,rfl,rfl,rfl,rfl,trivial⟩
  ·repeat first|apply zSeq|apply zReg
   refine zLd rfl (b4.lN E_Block te_Block_agg te_Block_size) ?_
   refine WL.call rfl rfl fp_ref11_last.is hc5 ?_
   repeat first|apply zReg|refine wN ?_|refine wA ?_|refine wQ ?_|refine wT ?_
   exact⟨(),rfl,rfl,rfl,rfl,rfl,rfl,trivial⟩
 rintro _ Hd e
 subst e
 clear hc4 hc5 htoL hcode hrb hR2 b2' b3 b4 hlen1
 have f2d:=f23.trans f35
 have hT5:=hT.fr f2d
 have hP5:=hP.fr PhiR.m f2d
 have hF5:=hF.fr f2d
 have hlen1:=fun Hz=>hT5.len (V:=V) (H2:=Hz) E_s_int
 have hlen2:=hlenl
 refine WP.seqS (σ:=Unit) (fun _=>[(0,vl),(1,.int .i64 n),(2,.int .i64 regs),(7,.pointer (some ⟨H.next,0,none⟩))]) (fun _ He=>He=Hd∧((b.to.length:Int)==Flo.toL b.code)=true∧b.to.all (Flo.within l.length)=true) ?_ ?_
 ·have hcw:=rWithinL_c (H:=Hd) hO hT5 hLt l.length
  refine byTF ((b.to.length:Int)==Flo.toL b.code) (fun c1=>?_) (fun c1=>?_)
  ·have c1':((b.to.length:Int) != Flo.toL b.code)=false:=by unfold bne;rw[c1];rfl
   cases c2:b.to.all (Flo.within l.length)
   ·rw[c2] at hcw
    repeat first|apply zSeq|apply zReg|refine wG ?_|refine wO ?_|refine wM ?_|refine wU ?_|refine wD O_Block_To ?_|refine wB E_s_int ?_|refine wK (hlen1 _) ?_|refine wK (hlen2 _) ?_
    refine WL.call rfl rfl fp_ref11_within.is hcw ?_
    repeat first|apply zSeq|apply zReg|refine wN ?_|refine wO ?_|refine wA ?_|refine wR ?_|refine wZ ?_|refine wt ?_
    exact WP.ret ⟨.inr rfl,_,rfl,by rw[Bool.false_and,Bool.and_false];rfl,f05⟩
   ·rw[c2] at hcw
    repeat first|apply zSeq|apply zReg|refine wG ?_|refine wO ?_|refine wM ?_|refine wU ?_|refine wD O_Block_To ?_|refine wB E_s_int ?_|refine wK (hlen1 _) ?_|refine wK (hlen2 _) ?_
    refine WL.call rfl rfl fp_ref11_within.is hcw ?_
    repeat first|apply zSkp|refine wN ?_|refine wO ?_|refine wR ?_|refine wZ ?_|refine wf ?_
    exact⟨(),⟨rfl,c1,rfl⟩,rfl,rfl,rfl,rfl,trivial⟩
  ·have c1':((b.to.length:Int) != Flo.toL b.code)=true:=by unfold bne;rw[c1];rfl
   repeat first|apply zSeq|apply zReg|refine wN ?_|refine wG ?_|refine wF ?_|refine wA ?_|refine wP ?_|refine wU ?_|refine wt ?_|refine wD O_Block_To ?_|refine wB E_s_int ?_|refine wK (hlen1 _) ?_
   exact WP.ret ⟨.inr rfl,_,rfl,by rw[c1];rfl,f05⟩
 rintro _ He ⟨e,c1,c2⟩
 subst e
 rw[c1,c2,Bool.true_and,Bool.true_and]
 clear hlen1 hlen2
 have hlen1:=fun Hz=>hP5.len (V:=V) (H2:=Hz) E_s_api_Phi
 have hlenF:=fun Hz=>hF5.len (V:=V) (H2:=Hz) E_s_int
 repeat first|apply zSeq|apply zReg|apply zBlk|refine wN ?_|refine wA ?_
 refine WP.loopH (σ:=Nat) (fun k=>[(0,vl),(1,.int .i64 n),(2,.int .i64 regs),(7,.pointer (some ⟨H.next,0,none⟩)),(10,.int .i64 k)]) (fun k Hf=>Fr He Hf∧k≤b.phis.length∧∀ j (h:j<b.phis.length),j<k→Flo.phOk n regs b.frm.length b.phis[j]=true) (fun k=>b.phis.length-k) 0 ⟨.refl _,Nat.zero_le _,fun j _ h=>absurd h (by omega)⟩ ⟨rfl,rfl,rfl,rfl,rfl,trivial⟩ ?_
 rintro k Hf ⟨fef,hk,hpre⟩
 have bf:=b5.fr fef
 have f0f:=f05.trans fef
 rcases Nat.lt_or_ge k b.phis.length with h|h
 case inr =>
  have g1:decide ((k:Int)<b.phis.length)=false:=dF
  have:b.phis.all (Flo.phOk n regs b.frm.length)=true:=by
   rw[List.all_eq_true]
   intro x hx
   obtain⟨j,hj,rfl⟩:=List.mem_iff_getElem.1 hx
   exact hpre j hj (by omega)
  repeat first|apply zSeq|apply zReg|apply zExt|refine wN ?_|refine wG ?_|refine wA ?_|refine wL ?_|refine wE ?_|refine wD O_Block_Phis ?_|refine wB E_s_api_Phi ?_|refine wK (hlen1 _) ?_
  exact WP.ret ⟨.inr rfl,_,rfl,by rw[this];rfl,f0f⟩
 have g1:decide ((k:Int)<b.phis.length)=true:=dT
 obtain⟨ba,oa,cs,ha1,hrd,va,rfl,hva⟩:=(hP5.fr PhiR.m fef).at E_s_api_Phi E_Phi te_Phi_size (kd:=.i64) h
 have hl1:=(hrd.at1 (i:=0) rfl).load1 (V:=V) E_int rfl
 have hLk:=hLa _ (List.getElem_mem h)
 have bad:Flo.phOk n regs b.frm.length b.phis[k]=false→b.phis.all (Flo.phOk n regs b.frm.length)=false:=fun hb=>by rw[List.all_eq_false];exact⟨_,List.getElem_mem h,by rw[hb];decide⟩
 have good:Flo.phOk n regs b.frm.length b.phis[k]=true→∀ j (h:j<b.phis.length),j<k+1→Flo.phOk n regs b.frm.length b.phis[j]=true:=fun hg j hj hjk=>by
  by_cases e:j=k
  ·subst e;exact hg
  ·exact hpre j hj (by omega)
 have hph:Flo.phOk n regs b.frm.length b.phis[k]=(!(n==0)&&(Flo.within regs b.phis[k].r&&(b.phis[k].args.all (Flo.within regs)&&(b.phis[k].args.length:Int)==b.frm.length))):=rfl
 clear hvl hT hF hP hC hT5
 generalize b.phis[k]=p at *
 cases c3:(n:Int)==0
 case true =>
  have c3':(n==0)=true:=by
   have:(n:Int)=0:=by simpa using c3
   simp;omega
  repeat first|apply zSeq|apply zReg|apply zBlk|apply zSkp|refine wN ?_|refine wG ?_|refine wx ?_|refine wF ?_|refine wA ?_|refine wp ?_|refine wP ?_|refine wL ?_|refine wQ ?_|refine wt ?_|refine wT ?_|refine wD O_Block_Phis ?_|refine wB E_s_api_Phi ?_|refine wK (hlen1 _) ?_
  exact WP.ret ⟨.inr rfl,_,rfl,by rw[bad (by rw[hph,c3'];rfl)];rfl,f0f⟩
 have c3':(n==0)=false:=by
  have:¬ (n:Int)=0:=by simpa using c3
  rw[beq_eq_false_iff_ne];omega
 rw[c3'] at hph
 repeat first|apply zSeq|apply zReg|apply zBlk|apply zSkp|refine wN ?_|refine wG ?_|refine wO ?_|refine wM ?_|refine wL ?_|refine wQ ?_|refine wT ?_|refine wD O_Phi_R ?_|refine wD O_Block_Phis ?_|refine wB E_s_api_Phi ?_|refine wI ?_|refine wY ?_|refine wK (hlen1 _) ?_
 refine zLit (cs:=[.int .i64 p.r]) rfl E_s_int E_int (by decide) fill_int (by decide) fun Hg fg bg ng=>?_
 have hvr:IntsR .no Hg (.slice (some ⟨Hf.next,0,none⟩) 1 1) [p.r]:=⟨rfl,.inr ⟨_,0,1,rfl,fun _=>(bg.rd rfl).a⟩⟩
 have hcr:=rWithinL_c (H:=Hg) hO hvr (by simp) regs
 have hr1:[p.r].all (Flo.within regs)=Flo.within regs p.r:=by simp
 rw[hr1] at hcr
 have bfg:=bf.fr fg
 have hrg:=hrd.fr fg
 have hl2:=(hrg.at1 (i:=1) rfl).load1 (V:=V) E_s_int rfl
 have hvg:=hva.fr fg
 have hca:=rWithinL_c (H:=Hg) hO hvg hLk regs
 have hlen2:=fun Hz=>hvg.len (V:=V) (H2:=Hz) E_s_int
 have hlen3:=hlenF
 have f0g:=f0f.trans fg
 cases c4:Flo.within regs p.r
 ·rw[c4] at hcr
  repeat first|refine wO ?_|refine wM ?_
  refine WL.call rfl rfl fp_ref11_within.is hcr ?_
  repeat first|apply zSeq|apply zReg|refine wN ?_|refine wx ?_|refine wO ?_|refine wA ?_|refine wp ?_|refine wR ?_|refine wZ ?_|refine wt ?_
  exact WP.ret ⟨.inr rfl,_,rfl,by rw[bad (by rw[hph,c4];rfl)];rfl,f0g⟩
 rw[c4] at hcr
 cases c5:p.args.all (Flo.within regs)
 ·rw[c5] at hca
  repeat first|refine wO ?_|refine wM ?_
  refine WL.call rfl rfl fp_ref11_within.is hcr ?_
  repeat first|refine wo ?_|refine wO ?_|refine wM ?_|refine wR ?_|refine wZ ?_|refine wD O_Phi_Args ?_|refine wD O_Block_Phis ?_|refine wB E_s_api_Phi ?_|refine wI ?_|refine wY ?_
  refine WL.call rfl rfl fp_ref11_within.is hca ?_
  repeat first|apply zSeq|apply zReg|refine wN ?_|refine wo ?_|refine wx ?_|refine wA ?_|refine wp ?_|refine wq ?_|refine wZ ?_|refine wt ?_
  exact WP.ret ⟨.inr rfl,_,rfl,by rw[bad (by rw[hph,c4,c5];rfl)];rfl,f0g⟩
 rw[c5] at hca
 refine byTF ((p.args.length:Int)==b.frm.length) (fun c6=>?_) (fun c6=>?_)
 ·have c6':((p.args.length:Int) != b.frm.length)=false:=by unfold bne;rw[c6];rfl
  repeat first|refine wO ?_|refine wM ?_
  refine WL.call rfl rfl fp_ref11_within.is hcr ?_
  repeat first|refine wo ?_|refine wO ?_|refine wM ?_|refine wR ?_|refine wZ ?_|refine wD O_Phi_Args ?_|refine wD O_Block_Phis ?_|refine wB E_s_api_Phi ?_|refine wI ?_|refine wY ?_
  refine WL.call rfl rfl fp_ref11_within.is hca ?_
  repeat first|apply zReg|apply zSkp|refine wN ?_|refine wG ?_|refine wo ?_|refine wM ?_|refine wq ?_|refine wU ?_|refine wS ?_|refine wZ ?_|refine wE ?_|refine wD O_Phi_Args ?_|refine wD O_Block_Phis ?_|refine wD O_Block_From ?_|refine wB E_s_int ?_|refine wB E_s_api_Phi ?_|refine wI ?_|refine wY ?_|refine wK (hlen2 _) ?_|refine wK (hlen3 _) ?_
  exact⟨k+1,⟨fef.trans fg,h,good (by rw[hph,c4,c5,c6];rfl)⟩,by omega,rfl,rfl,rfl,rfl,rfl,trivial⟩
 ·have c6':((p.args.length:Int) != b.frm.length)=true:=by unfold bne;rw[c6];rfl
  repeat first|refine wO ?_|refine wM ?_
  refine WL.call rfl rfl fp_ref11_within.is hcr ?_
  repeat first|refine wo ?_|refine wO ?_|refine wM ?_|refine wR ?_|refine wZ ?_|refine wD O_Phi_Args ?_|refine wD O_Block_Phis ?_|refine wB E_s_api_Phi ?_|refine wI ?_|refine wY ?_
  refine WL.call rfl rfl fp_ref11_within.is hca ?_
  repeat first|apply zSeq|apply zReg|refine wN ?_|refine wo ?_|refine wM ?_|refine wA ?_|refine wq ?_|refine wU ?_|refine wZ ?_|refine wT ?_|refine wD O_Phi_Args ?_|refine wD O_Block_Phis ?_|refine wD O_Block_From ?_|refine wB E_s_int ?_|refine wB E_s_api_Phi ?_|refine wI ?_|refine wY ?_|refine wK (hlen2 _) ?_|refine wK (hlen3 _) ?_
  exact WP.ret ⟨.inr rfl,_,rfl,by rw[bad (by rw[hph,c4,c5,c6];rfl)];rfl,f0g⟩
end
end Go.Proofs.YtjiibfgopanbgaaGreatDoor.U
namespace Go.Flo
open Go.Ev
variable {mi:Int→Ins→Bool}{g:Graph}
def oddR (g:Graph):Bool:=
 decide (g.params<0)||(decide (g.params>8)||((g.thread&&decide (g.params>0))||(decide (g.regs<g.params)||(decide (g.regs>65536)||(decide ((g.blocks.length:Int)<1)||decide ((g.blocks.length:Int)>32768))))))
theorem odd_eq (g:Graph):odd g=(oddR g||(match g.blocks[0]? with|some b=>decide ((b.phis.length:Int)>0)|none=>false)):=by
 unfold odd oddR
 cases g.blocks[0]?<;>simp only[Bool.or_assoc]
theorem may_odd (h:oddR g=true):may mi g=false:=by unfold may;rw[odd_eq,h];rfl
theorem may_parts (h:may mi g=true):odd g=false∧(∀ b∈g.blocks,blockOk mi g.regs b=true)∧froms g.blocks=true∧∀ k,k<g.blocks.length→circ g.blocks k g.blocks.length k=false:=by
 unfold may at h
 simp only[Bool.and_eq_true,Bool.not_eq_true',List.all_eq_true,List.mem_range] at h
 exact⟨h.1,h.2.1,h.2.2.1,h.2.2.2⟩
theorem froms_parts {l:List Block} (h:froms l=true):(∀ b∈l,b.to.all (within l.length)=true)∧(∀ n (hn:n<l.length),l[n].frm=fromOf l l.length n)∧∀ (h0:0<l.length),l[0].frm=[]:=by
 unfold froms at h
 simp only[Bool.and_eq_true,List.all_eq_true,List.mem_range] at h
 refine⟨fun b hb=>List.all_eq_true.2 (h.1.1 b hb),fun n hn=>?_,fun h0=>?_⟩
 ·have:=h.1.2 n hn
  rw[List.getElem?_eq_getElem hn] at this
  simpa using this
 ·have:=h.2
  rw[List.getElem?_eq_getElem h0] at this
  simpa using this
theorem rb_of_may (h:may mi g=true) {n:Nat} (hn:n<g.blocks.length):rblock mi g.blocks n g.regs g.blocks[n]=true:=by
 obtain⟨h1,h2,h3,_⟩:=may_parts h
 obtain⟨k1,_,_⟩:=froms_parts h3
 have hb:=h2 _ (List.getElem_mem hn)
 unfold blockOk at hb
 simp only[Bool.and_eq_true] at hb
 unfold rblock
 rw[hb.1.1,←toOf_eq hb.1.1,hb.1.2,k1 _ (List.getElem_mem hn)]
 simp only[Bool.true_and]
 rw[List.all_eq_true]
 intro p hp
 by_cases e:n=0
 ·subst e
  rw[odd_eq,List.getElem?_eq_getElem hn] at h1
  simp only[Bool.or_eq_false_iff,decide_eq_false_iff_not] at h1
  have:0<g.blocks[0].phis.length:=List.length_pos_of_mem hp
  omega
 ·rw[phiOk_of e]
  exact List.all_eq_true.1 hb.2 p hp
theorem may_rb {n:Nat} (hn:n<g.blocks.length) (h:rblock mi g.blocks n g.regs g.blocks[n]=false):may mi g=false:=by
 cases hm:may mi g
 ·rfl
 ·rw[rb_of_may hm hn] at h;cases h
theorem may_frm0 (h0:0<g.blocks.length) (h:g.blocks[0].frm≠[]):may mi g=false:=by
 cases hm:may mi g
 ·rfl
 ·exact absurd ((froms_parts (may_parts hm).2.2.1).2.2 h0) h
theorem may_frm {n:Nat} (hn:n<g.blocks.length) (h:g.blocks[n].frm≠fromOf g.blocks g.blocks.length n):may mi g=false:=by
 cases hm:may mi g
 ·rfl
 ·exact absurd ((froms_parts (may_parts hm).2.2.1).2.1 n hn) h
theorem may_circ {k:Nat} (hk:k<g.blocks.length) (h:circ g.blocks k g.blocks.length k=true):may mi g=false:=by
 cases hm:may mi g
 ·rfl
 ·rw[(may_parts hm).2.2.2 k hk] at h;cases h
theorem rb_parts {l:List Block}{n:Nat}{regs:Int}{b:Block} (h:rblock mi l n regs b=true):codeOk mi regs b.code.length 0 b.code=true∧((b.to.length:Int)==toL b.code)=true∧b.to.all (within l.length)=true∧∀ p∈b.phis,phOk n regs b.frm.length p=true:=by
 unfold rblock at h
 simp only[Bool.and_eq_true] at h
 exact⟨h.1,h.2.1,h.2.2.1,List.all_eq_true.1 h.2.2.2⟩
theorem may_all (ho:oddR g=false) (hb:∀ n (h:n<g.blocks.length),rblock mi g.blocks n g.regs g.blocks[n]=true) (h0:∀ (h:0<g.blocks.length),g.blocks[0].frm=[]) (hf:∀ n (h:n<g.blocks.length),g.blocks[n].frm=fromOf g.blocks g.blocks.length n) (hc:∀ k,k<g.blocks.length→circ g.blocks k g.blocks.length k=false):may mi g=true:=by
 have hodd:odd g=false:=by
  rw[odd_eq,ho,Bool.false_or]
  by_cases h:0<g.blocks.length
  ·rw[List.getElem?_eq_getElem h]
   simp only[decide_eq_false_iff_not]
   intro hp
   obtain⟨p,hp⟩:=List.exists_mem_of_length_pos (l:=g.blocks[0].phis) (by omega)
   have:=(rb_parts (hb 0 h)).2.2.2 p hp
   unfold phOk at this
   simp at this
  ·rw[List.getElem?_eq_none (by omega)]
 have hblk:∀ b∈g.blocks,blockOk mi g.regs b=true:=fun b hb'=>by
  obtain⟨n,hn,rfl⟩:=List.mem_iff_getElem.1 hb'
  obtain⟨q1,q2,q3,q4⟩:=rb_parts (hb n hn)
  unfold blockOk
  rw[q1,toOf_eq q1,q2,Bool.true_and,Bool.true_and,List.all_eq_true]
  intro p hp
  have:=q4 p hp
  by_cases e:n=0
  ·subst e;unfold phOk at this;simp at this
  ·rwa [phiOk_of e] at this
 have hfr:froms g.blocks=true:=by
  unfold froms
  simp only[Bool.and_eq_true]
  refine⟨⟨List.all_eq_true.2 fun b hb'=>?_,List.all_eq_true.2 fun n hn=>?_⟩,?_⟩
  ·obtain⟨n,hn,rfl⟩:=List.mem_iff_getElem.1 hb'
   exact (rb_parts (hb n hn)).2.2.1
  ·have hn:=List.mem_range.1 hn
   rw[List.getElem?_eq_getElem hn]
   simp only[hf n hn,beq_self_eq_true]
  ·by_cases h:0<g.blocks.length
   ·rw[List.getElem?_eq_getElem h]
    simp only[h0 h];rfl
   ·exfalso
    have hlen:g.blocks.length=0:=by omega
    unfold oddR at ho
    simp[hlen] at ho
 unfold may
 rw[hodd,hfr,List.all_eq_true.2 hblk]
 simp only[Bool.not_false,Bool.true_and,List.all_eq_true,List.mem_range,Bool.not_eq_true']
 exact hc
end Go.Flo
namespace Go.Proofs.YtjiibfgopanbgaaGreatDoor.U
open Go Go.Ev
section
attribute [local irreducible] WL WP WH W
attribute [local irreducible] V
variable {O:Orc}{H:AH}
set_option maxHeartbeats 16000000 in
theorem rMay_c (hO:NoO O) {A:Av}{g:Graph}{cs:List Value} (hR:GraphR A H cs g) (hsm:Small g) (hargs:∀ b∈g.blocks,∀ i∈b.code,i.args.length≤100000) (hop:∀ b∈g.blocks,∀ i∈b.code,0≤i.op∧i.op<256) :
 ∃ u H',Lc V O F_ref11_May [.agg cs.toArray] H u H'∧(u=.bool (Flo.may mi g)∧Fr H H'):=by
 obtain⟨vb,rfl,hvl0⟩:=hR
 refine Lc.ref11_May (hO _ _ _ (by decide)) ?_
 unfold P_ref11_May
 have hnb:=hsm.nb
 obtain⟨avb,nvb,cvb,rfl⟩:∃ a n c,vb=.slice a n c:=let ⟨_,h,_⟩:=hvl0;h.isSl
 apply zSeq
 apply zReg
 refine zBox rfl (fun _=>rfl) fun H1 f1 b1 n1=>?_
 have b1':Bx H1 H.next 24 [.string g.name,.bool g.thread,.int .i64 g.params,.int .i64 g.regs,.slice avb nvb cvb]:=b1
 have hvl:=hvl0.fr BlockR.m f1
 have hlen1:=fun Hz=>hvl.len (V:=V) (H2:=Hz) E_s_api_Block
 clear b1
 have bad:Flo.oddR g=true→Flo.may mi g=false:=Flo.may_odd
 repeat first|refine wN ?_|refine wA ?_
 apply zSeq
 repeat first|apply zReg|refine wN ?_|refine wD O_Graph_Blocks ?_|refine wB E_s_api_Block ?_|refine wK (hlen1 _) ?_
 refine WP.seqS (σ:=Unit) (fun _=>[(1,.pointer (some ⟨H.next,0,none⟩)),(3,.int .i64 g.blocks.length)]) (fun _ Hc=>Hc=H1∧Flo.oddR g=false) ?_ ?_
 ·cases d1:decide (g.params<0)
  case true =>
   have e:=bad (by unfold Flo.oddR;rw[d1];rfl)
   repeat first|apply zSeq|apply zReg|refine wN ?_|refine wx ?_|refine zU rfl ?_|refine wF ?_|refine wA ?_|refine wp ?_|refine wP ?_|refine wL ?_|refine wt ?_|refine wD O_Graph_Params ?_|refine wB E_int ?_
   exact WP.ret ⟨.inr rfl,_,rfl,by rw[e];rfl,f1⟩
  cases d2:decide (g.params>8)
  case true =>
   have e:=bad (by unfold Flo.oddR;rw[d1,d2];rfl)
   repeat first|apply zSeq|apply zReg|refine wN ?_|refine wx ?_|refine zU rfl ?_|refine wO ?_|refine wF ?_|refine wA ?_|refine wp ?_|refine wP ?_|refine wR ?_|refine wL ?_|refine wV ?_|refine wt ?_|refine wD O_Graph_Params ?_|refine wB E_int ?_
   exact WP.ret ⟨.inr rfl,_,rfl,by rw[e];rfl,f1⟩
  have rest:∀ (c3:(g.thread&&decide (g.params>0))=false),Flo.oddR g=(decide (g.regs<g.params)||(decide (g.regs>65536)||(decide ((g.blocks.length:Int)<1)||decide ((g.blocks.length:Int)>32768)))):=fun c3=>by
   unfold Flo.oddR;rw[d1,d2,c3];rfl
  cases t1:g.thread
  ·have rest:=rest (by rw[t1];rfl)
   refine byTF (decide (g.regs<g.params)) (fun d4=>by (have e:=bad (by rw[rest,d4];rfl);(repeat first|apply zSeq|apply zReg|refine wN ?_|refine wo ?_|refine wx ?_|refine wO ?_|refine wF ?_|refine wM ?_|refine wA ?_|refine wp ?_|refine wq ?_|refine wP ?_|refine wR ?_|refine wL ?_|refine wV ?_|refine wt ?_|refine wD O_Graph_Thread ?_|refine wD O_Graph_Params ?_|refine wD O_Graph_Regs ?_|refine wB E_int ?_|refine wB E_bool ?_);exact WP.ret ⟨.inr rfl,_,rfl,by rw[e];rfl,f1⟩)) (fun d4=>?_);refine byTF (decide (g.regs>65536)) (fun d5=>by (have e:=bad (by rw[rest,d4,d5];rfl);(repeat first|apply zSeq|apply zReg|refine wN ?_|refine wo ?_|refine wx ?_|refine wO ?_|refine wF ?_|refine wM ?_|refine wA ?_|refine wp ?_|refine wq ?_|refine wP ?_|refine wR ?_|refine wL ?_|refine wV ?_|refine wt ?_|refine wD O_Graph_Thread ?_|refine wD O_Graph_Params ?_|refine wD O_Graph_Regs ?_|refine wB E_int ?_|refine wB E_bool ?_);exact WP.ret ⟨.inr rfl,_,rfl,by rw[e];rfl,f1⟩)) (fun d5=>?_);refine byTF (decide ((g.blocks.length:Int)<1)) (fun d6=>by (have e:=bad (by rw[rest,d4,d5,d6];rfl);(repeat first|apply zSeq|apply zReg|refine wN ?_|refine wo ?_|refine wO ?_|refine wF ?_|refine wM ?_|refine wA ?_|refine wq ?_|refine wP ?_|refine wR ?_|refine wL ?_|refine wV ?_|refine wt ?_|refine wD O_Graph_Thread ?_|refine wD O_Graph_Params ?_|refine wD O_Graph_Regs ?_|refine wB E_int ?_|refine wB E_bool ?_);exact WP.ret ⟨.inr rfl,_,rfl,by rw[e];rfl,f1⟩)) (fun d6=>?_);refine byTF (decide ((g.blocks.length:Int)>32768)) (fun d7=>by (have e:=bad (by rw[rest,d4,d5,d6,d7];rfl);(repeat first|apply zSeq|apply zReg|refine wN ?_|refine wo ?_|refine wO ?_|refine wF ?_|refine wM ?_|refine wA ?_|refine wq ?_|refine wR ?_|refine wL ?_|refine wV ?_|refine wT ?_|refine wD O_Graph_Thread ?_|refine wD O_Graph_Params ?_|refine wD O_Graph_Regs ?_|refine wB E_int ?_|refine wB E_bool ?_);exact WP.ret ⟨.inr rfl,_,rfl,by rw[e];rfl,f1⟩)) (fun d7=>?_);((repeat first|apply zSeq|apply zReg|apply zSkp|refine wN ?_|refine wo ?_|refine wO ?_|refine wF ?_|refine wM ?_|refine wq ?_|refine wR ?_|refine wL ?_|refine wV ?_|refine wE ?_|refine wD O_Graph_Thread ?_|refine wD O_Graph_Params ?_|refine wD O_Graph_Regs ?_|refine wB E_int ?_|refine wB E_bool ?_);exact⟨(),⟨rfl,by rw[rest,d4,d5,d6,d7];rfl⟩,rfl,rfl,trivial⟩)
  ·cases t2:g.params != 0
   ·have hz:g.params=0:=by simpa using t2
    have rest:=rest (by rw[decide_eq_false (show ¬ g.params>0 by omega),Bool.and_false])
    refine byTF (decide (g.regs<g.params)) (fun d4=>by (have e:=bad (by rw[rest,d4];rfl);(repeat first|apply zSeq|apply zReg|refine wN ?_|refine wx ?_|refine wO ?_|refine wF ?_|refine wM ?_|refine wA ?_|refine wp ?_|refine wP ?_|refine wR ?_|refine wL ?_|refine wV ?_|refine wU ?_|refine wt ?_|refine wD O_Graph_Thread ?_|refine wD O_Graph_Params ?_|refine wD O_Graph_Regs ?_|refine wB E_int ?_|refine wB E_bool ?_);exact WP.ret ⟨.inr rfl,_,rfl,by rw[e];rfl,f1⟩)) (fun d4=>?_);refine byTF (decide (g.regs>65536)) (fun d5=>by (have e:=bad (by rw[rest,d4,d5];rfl);(repeat first|apply zSeq|apply zReg|refine wN ?_|refine wx ?_|refine wO ?_|refine wF ?_|refine wM ?_|refine wA ?_|refine wp ?_|refine wP ?_|refine wR ?_|refine wL ?_|refine wV ?_|refine wU ?_|refine wt ?_|refine wD O_Graph_Thread ?_|refine wD O_Graph_Params ?_|refine wD O_Graph_Regs ?_|refine wB E_int ?_|refine wB E_bool ?_);exact WP.ret ⟨.inr rfl,_,rfl,by rw[e];rfl,f1⟩)) (fun d5=>?_);refine byTF (decide ((g.blocks.length:Int)<1)) (fun d6=>by (have e:=bad (by rw[rest,d4,d5,d6];rfl);(repeat first|apply zSeq|apply zReg|refine wN ?_|refine wO ?_|refine wF ?_|refine wM ?_|refine wA ?_|refine wP ?_|refine wR ?_|refine wL ?_|refine wV ?_|refine wU ?_|refine wt ?_|refine wD O_Graph_Thread ?_|refine wD O_Graph_Params ?_|refine wD O_Graph_Regs ?_|refine wB E_int ?_|refine wB E_bool ?_);exact WP.ret ⟨.inr rfl,_,rfl,by rw[e];rfl,f1⟩)) (fun d6=>?_);refine byTF (decide ((g.blocks.length:Int)>32768)) (fun d7=>by (have e:=bad (by rw[rest,d4,d5,d6,d7];rfl);(repeat first|apply zSeq|apply zReg|refine wN ?_|refine wO ?_|refine wM ?_|refine wA ?_|refine wP ?_|refine wR ?_|refine wL ?_|refine wV ?_|refine wU ?_|refine wT ?_|refine wD O_Graph_Thread ?_|refine wD O_Graph_Params ?_|refine wD O_Graph_Regs ?_|refine wB E_int ?_|refine wB E_bool ?_);exact WP.ret ⟨.inr rfl,_,rfl,by rw[e];rfl,f1⟩)) (fun d7=>?_);((repeat first|apply zSeq|apply zReg|apply zSkp|refine wN ?_|refine wO ?_|refine wM ?_|refine wP ?_|refine wR ?_|refine wL ?_|refine wV ?_|refine wU ?_|refine wE ?_|refine wD O_Graph_Thread ?_|refine wD O_Graph_Params ?_|refine wD O_Graph_Regs ?_|refine wB E_int ?_|refine wB E_bool ?_);exact⟨(),⟨rfl,by rw[rest,d4,d5,d6,d7];rfl⟩,rfl,rfl,trivial⟩)
   ·have hz:¬ g.params=0:=by simpa using t2
    have hz2:=of_decide_eq_false d1
    have e:=bad (by unfold Flo.oddR;rw[d1,d2,t1,decide_eq_true (show g.params>0 by omega)];rfl)
    repeat first|apply zSeq|apply zReg|refine wN ?_|refine wx ?_|refine wO ?_|refine wF ?_|refine wM ?_|refine wA ?_|refine wp ?_|refine wP ?_|refine wR ?_|refine wL ?_|refine wV ?_|refine wU ?_|refine wt ?_|refine wD O_Graph_Thread ?_|refine wD O_Graph_Params ?_|refine wB E_int ?_|refine wB E_bool ?_
    exact WP.ret ⟨.inr rfl,_,rfl,by rw[e];rfl,f1⟩
 rintro _ Hx ⟨e,hodd⟩
 subst e
 clear bad
 have hpos:0<g.blocks.length:=by
  unfold Flo.oddR at hodd
  simp only[Bool.or_eq_false_iff] at hodd
  have:=of_decide_eq_false hodd.2.2.2.2.2.1
  omega
 refine WP.seqS (σ:=Unit) (fun _=>[(1,.pointer (some ⟨H.next,0,none⟩)),(3,.int .i64 g.blocks.length)]) (fun _ Hc=>Fr Hx Hc∧∀ n (h:n<g.blocks.length),Flo.rblock mi g.blocks n g.regs g.blocks[n]=true) ?_ ?_
 ·repeat first|apply zSeq|apply zReg|apply zBlk|refine wN ?_|refine wA ?_
  refine WP.loopH (σ:=Nat) (fun k=>[(1,.pointer (some ⟨H.next,0,none⟩)),(3,.int .i64 g.blocks.length),(4,.int .i64 k)]) (fun k Hc=>Fr Hx Hc∧k≤g.blocks.length∧∀ n (h:n<g.blocks.length),n<k→Flo.rblock mi g.blocks n g.regs g.blocks[n]=true) (fun k=>g.blocks.length-k) 0 ⟨.refl _,Nat.zero_le _,fun n _ h=>absurd h (by omega)⟩ ⟨rfl,rfl,rfl,trivial⟩ ?_
  rintro k Hc ⟨fxc,hk,hpre⟩
  have bc:=b1'.fr fxc
  rcases Nat.lt_or_ge k g.blocks.length with h|h
  case inr =>
   have g1:decide ((k:Int)<g.blocks.length)=false:=dF
   repeat first|apply zSeq|apply zReg|apply zExt|refine wN ?_|refine wG ?_|refine wL ?_|refine wE ?_
   exact⟨(),⟨fxc,fun n hn=>hpre n hn (by omega)⟩,rfl,rfl,trivial⟩
  have g1:decide ((k:Int)<g.blocks.length)=true:=dT
  obtain⟨_,Hd,hcd,rfl,fd⟩:=rBlock_c (H:=Hc) hO (hvl.fr BlockR.m fxc) h g.regs hnb (hsm.code _ (List.getElem_mem h)) (hsm.to _ (List.getElem_mem h)) (hsm.phis _ (List.getElem_mem h)) (hsm.args _ (List.getElem_mem h)) (hargs _ (List.getElem_mem h)) (hop _ (List.getElem_mem h))
  cases c:Flo.rblock mi g.blocks k g.regs g.blocks[k]
  ·rw[c] at hcd
   repeat first|apply zSeq|apply zReg|apply zBlk|apply zSkp|refine wN ?_|refine wG ?_|refine wL ?_|refine wT ?_|refine wD O_Graph_Regs ?_|refine wD O_Graph_Blocks ?_|refine wB E_int ?_|refine wB E_s_api_Block ?_
   refine WL.call rfl rfl fp_ref11_block.is hcd ?_
   repeat first|apply zSeq|apply zReg|refine wN ?_|refine wA ?_|refine wZ ?_|refine wt ?_
   exact WP.ret ⟨.inr rfl,_,rfl,by rw[Flo.may_rb h c];rfl,(f1.trans fxc).trans fd⟩
  ·rw[c] at hcd
   repeat first|apply zSeq|apply zReg|apply zBlk|apply zSkp|refine wN ?_|refine wG ?_|refine wL ?_|refine wT ?_|refine wD O_Graph_Regs ?_|refine wD O_Graph_Blocks ?_|refine wB E_int ?_|refine wB E_s_api_Block ?_
   refine WL.call rfl rfl fp_ref11_block.is hcd ?_
   repeat first|apply zReg|apply zSkp|refine wN ?_|refine wG ?_|refine wS ?_|refine wZ ?_|refine wf ?_
   refine⟨k+1,⟨fxc.trans fd,h,fun n hn hnk=>?_⟩,by omega,rfl,rfl,rfl,trivial⟩
   by_cases e:n=k
   ·subst e;exact c
   ·exact hpre n hn (by omega)
 rintro _ H2 ⟨fx2,hrb⟩
 have b2:=b1'.fr fx2
 have f02:=f1.trans fx2
 have hvl2:=hvl.fr BlockR.m fx2
 refine WP.seqS (σ:=Unit) (fun _=>[(1,.pointer (some ⟨H.next,0,none⟩)),(3,.int .i64 g.blocks.length)]) (fun _ Hc=>Hc=H2∧g.blocks[0].frm=[]) ?_ ?_
 ·obtain⟨bb,off,cs,ha1,hrd,vp,vc,vf,vt,rfl,hP,hC,hF,hT⟩:=hvl2.at E_s_api_Block E_Block te_Block_size (kd:=.i64) hpos
  have hl1:=(hrd.at1 (i:=2) rfl).load1 (V:=V) E_s_int rfl
  have hlen2:=fun Hz=>hF.len (V:=V) (H2:=Hz) E_s_int
  have ha1:aIndex V.E 22 (.slice avb nvb cvb) (.int .i64 0)=some (.pointer (some ⟨bb,off,none⟩)):=ha1
  cases c:decide ((g.blocks[0].frm.length:Int)>0)
  ·have:g.blocks[0].frm=[]:=List.length_eq_zero_iff.1 (by have:=of_decide_eq_false c;omega)
   repeat first|apply zSeq|apply zReg|apply zSkp|refine wN ?_|refine wV ?_|refine wE ?_|refine wD O_Block_From ?_|refine wD O_Graph_Blocks ?_|refine wB E_s_api_Block ?_|refine wI ?_|refine wY ?_|refine wK (hlen2 _) ?_
   exact⟨(),⟨rfl,this⟩,rfl,rfl,trivial⟩
  ·have hne:g.blocks[0].frm≠[]:=fun e=>by rw[e] at c;simp at c
   repeat first|apply zSeq|apply zReg|refine wN ?_|refine wA ?_|refine wV ?_|refine wT ?_|refine wD O_Block_From ?_|refine wD O_Graph_Blocks ?_|refine wB E_s_api_Block ?_|refine wI ?_|refine wY ?_|refine wK (hlen2 _) ?_
   exact WP.ret ⟨.inr rfl,_,rfl,by rw[Flo.may_frm0 hpos hne];rfl,f02⟩
 rintro _ Hy ⟨e,hf0⟩
 subst e
 repeat first|apply zSeq|apply zReg|apply zBlk|refine wN ?_|refine wA ?_
 refine WP.loopH (σ:=Nat) (fun k=>[(1,.pointer (some ⟨H.next,0,none⟩)),(3,.int .i64 g.blocks.length),(5,.int .i64 k)]) (fun k Hc=>Fr Hy Hc∧k≤g.blocks.length∧∀ n (h:n<g.blocks.length),n<k→g.blocks[n].frm=Flo.fromOf g.blocks g.blocks.length n∧Flo.circ g.blocks n g.blocks.length n=false) (fun k=>g.blocks.length-k) 0 ⟨.refl _,Nat.zero_le _,fun n _ h=>absurd h (by omega)⟩ ⟨rfl,rfl,rfl,trivial⟩ ?_
 rintro k Hc ⟨fyc,hk,hpre⟩
 have bc:=b2.fr fyc
 have f0c:=f02.trans fyc
 rcases Nat.lt_or_ge k g.blocks.length with h|h
 case inr =>
  have g1:decide ((k:Int)<g.blocks.length)=false:=dF
  have hall:=Flo.may_all hodd hrb (fun _=>hf0) (fun n hn=>(hpre n hn (by omega)).1) (fun n hn=>(hpre n hn (by omega)).2)
  repeat first|apply zSeq|apply zReg|apply zExt|refine wN ?_|refine wG ?_|refine wA ?_|refine wL ?_|refine wE ?_
  exact WP.ret ⟨.inr rfl,_,rfl,by rw[hall];rfl,f0c⟩
 have g1:decide ((k:Int)<g.blocks.length)=true:=dT
 have hvlc:=hvl2.fr BlockR.m fyc
 obtain⟨bb,off,cs,ha1,hrd,vp,vc,vf,vt,rfl,hP,hC,hF,hT⟩:=hvlc.at E_s_api_Block E_Block te_Block_size (kd:=.i64) h
 have hl1:=(hrd.at1 (i:=2) rfl).load1 (V:=V) E_s_int rfl
 obtain⟨af,nf,cf,rfl⟩:=hF.isSl
 obtain⟨u4,Hd,hcd,fd,o4,how4⟩:=rFroms_c (H:=Hc) hO hvlc hnb hsm.to (k:Int)
 have hce:=rIntsEq_c (H:=Hd) hO (hF.fr fd) (how4.rYoung .no) (hsm.frm _ (List.getElem_mem h))
 have bd:=bc.fr fd
 have hrdd:=hrd.fr fd
 have fyd:=fyc.trans fd
 have f0d:=f02.trans fyd
 skip
 apply zSeq
 skip
 apply zSeq
 repeat first|apply zReg|apply zSkp|refine wN ?_|refine wG ?_|refine wL ?_|refine wT ?_
 apply zSeq
 apply zBlk
 apply zSeq
 apply zSeq
 refine WP.rega ?_
 repeat first|refine yGet rfl ?_|refine yFld rfl O_Block_From ?_|refine yFld rfl O_Graph_Blocks ?_|refine yLd (ty:=22) rfl (Bx.ld ‹_› (by rfl) E_s_api_Block rfl) ?_|refine yIdx rfl rfl ‹_› ?_|refine yLd rfl ‹_› ?_
 refine WH.call rfl rfl fp_ref11_Froms.is hcd ?_
 refine WH.call rfl rfl fp_ref11_ints.is hce ?_
 repeat first|refine yNot rfl ?_
 refine WH.nil ⟨?_,_,rfl,?_⟩
 ·intro y hy
  rw[List.mem_cons,List.mem_singleton] at hy
  rcases hy with rfl|rfl
  ·exact .inr ⟨rfl,_,_,_,rfl,rfl,op_load rfl (bd.ld (off:=4) rfl E_s_api_Block rfl),sameV_sl⟩
  ·exact .inr ⟨rfl,_,_,_,rfl,rfl,op_load rfl ((hrdd.at1 (i:=2) rfl).load1 (V:=V) E_s_int rfl),sameV_sl⟩
 cases c:g.blocks[k].frm==Flo.fromOf g.blocks g.blocks.length k
 ·have hne:g.blocks[k].frm≠Flo.fromOf g.blocks g.blocks.length k:=by simpa using c
  repeat first|apply zSeq|apply zReg|refine wN ?_|refine wA ?_|refine wt ?_
  exact WP.ret ⟨.inr rfl,_,rfl,by rw[Flo.may_frm h hne];rfl,f0d⟩
 have hfk:g.blocks[k].frm=Flo.fromOf g.blocks g.blocks.length k:=by simpa using c
 have hvld:=hvlc.fr BlockR.m fd
 clear hcd hce how4 ha1 hl1 hrd hrdd hP hC hF hT
 repeat first|apply zSeq|apply zReg|apply zBlk|apply zSkp|refine wN ?_|refine wG ?_|refine wA ?_|refine wf ?_
 refine WP.loopH (σ:=Nat×Nat) (fun x=>[(1,.pointer (some ⟨H.next,0,none⟩)),(3,.int .i64 g.blocks.length),(5,.int .i64 k),(6,.int .i64 x.2),(7,.int .i64 x.1)]) (fun x Hz=>Hz=Hd∧x.1≤g.blocks.length∧x.2<g.blocks.length∧Flo.circ g.blocks k g.blocks.length k=Flo.circ g.blocks k (g.blocks.length-x.1) x.2) (fun x=>g.blocks.length-x.1) (0,k) ⟨rfl,Nat.zero_le _,h,rfl⟩ ⟨rfl,rfl,rfl,rfl,rfl,trivial⟩ ?_
 rintro⟨i,at_⟩ Hz ⟨e,hi,hat,he⟩
 subst e
 simp only at hi hat he ⊢
 have next:Flo.circ g.blocks k g.blocks.length k=false→∀ n (h:n<g.blocks.length),n<k+1→g.blocks[n].frm=Flo.fromOf g.blocks g.blocks.length n∧Flo.circ g.blocks n g.blocks.length n=false:=fun hc n hn hnk=>by
  by_cases e:n=k
  ·subst e;exact⟨hfk,hc⟩
  ·exact hpre n hn (by omega)
 rcases Nat.lt_or_ge i g.blocks.length with h2|h2
 case inr =>
  have g2:decide ((i:Int)<g.blocks.length)=false:=dF
  have hc:Flo.circ g.blocks k g.blocks.length k=false:=by rw[he,show g.blocks.length-i=0 by omega];rfl
  repeat first|apply zSeq|apply zReg|apply zExt|refine wN ?_|refine wG ?_|refine wF ?_|refine wR ?_|refine wL ?_|refine wS ?_|refine wf ?_
  exact⟨k+1,⟨fyd,h,next hc⟩,by omega,rfl,rfl,rfl,trivial⟩
 have g2:decide ((i:Int)<g.blocks.length)=true:=dT
 obtain⟨bb,off,cs,ha1,hrd,vp,vc,vf,vt,rfl,hP,hC,hF,hT⟩:=hvld.at E_s_api_Block E_Block te_Block_size (kd:=.i64) hat
 have hl1:=(hrd.at1 (i:=1) rfl).load1 (V:=V) E_s_api_Ins rfl
 have hl2:=(hrd.at1 (i:=3) rfl).load1 (V:=V) E_s_int rfl
 have hlen2:=fun Hz=>hC.len (V:=V) (H2:=Hz) E_s_api_Ins
 have hsuc:Flo.circ g.blocks k (g.blocks.length-i) at_=if g.blocks[at_].code.length>0 then false else match g.blocks[at_].to with
  | t::_=>if t=k then true else Flo.circ g.blocks k (g.blocks.length-(i+1)) t.toNat
  | []=>false:=by
  rw[show g.blocks.length-i=(g.blocks.length-(i+1))+1 by omega]
  simp only[Flo.circ,List.getElem?_eq_getElem hat]
  split
  ·rfl
  ·cases g.blocks[at_].to<;>rfl
 rw[hsuc] at he
 cases c1:(g.blocks[at_].code.length:Int)==0
 ·have hne:g.blocks[at_].code.length>0:=by
   have:¬ (g.blocks[at_].code.length:Int)=0:=by simpa using c1
   omega
  have hc:Flo.circ g.blocks k g.blocks.length k=false:=by rw[he,if_pos hne]
  repeat first|apply zSeq|apply zReg|apply zExt|refine wN ?_|refine wG ?_|refine wO ?_|refine wM ?_|refine wP ?_|refine wL ?_|refine wQ ?_|refine wS ?_|refine wE ?_|refine wD O_Block_Code ?_|refine wD O_Graph_Blocks ?_|refine wB E_s_api_Block ?_|refine wI ?_|refine wY ?_|refine wK (hlen2 _) ?_
  exact⟨k+1,⟨fyd,h,next hc⟩,by omega,rfl,rfl,rfl,trivial⟩
 have hz0:(g.blocks[at_].code.length:Int)=0:=by simpa using c1
 have hc0:g.blocks[at_].code=[]:=List.length_eq_zero_iff.1 (by omega)
 rw[if_neg (by omega)] at he
 obtain⟨q1,q2,q3,q4⟩:=Flo.rb_parts (hrb at_ hat)
 have hto1:g.blocks[at_].to.length=1:=by
  rw[hc0] at q2
  have:(g.blocks[at_].to.length:Int)=1:=by simpa[Flo.toL,Flo.lastOp] using q2
  omega
 obtain⟨t,hts⟩:=List.length_eq_one_iff.1 hto1
 have htr:0≤t∧t<g.blocks.length:=by
  rw[hts] at q3
  simp only[List.all_cons,List.all_nil,Bool.and_true] at q3
  unfold Flo.within at q3
  simp at q3
  omega
 obtain⟨bi,oi,ha2,hl3⟩:=IntsR.at hT E_s_int E_int (kd:=.i64) (i:=0) (by omega)
 have h00:g.blocks[at_].to[0]=t:=by simp[hts]
 rw[h00] at hl3
 have ha2:aIndex V.E 43 vt (.int .i64 0)=some (.pointer (some ⟨bi,oi,none⟩)):=ha2
 rw[hts] at he
 simp only at he
 cases c2:t==(k:Int)
 ·have hne:t≠(k:Int):=beq_eq_false_iff_ne.1 c2
  rw[if_neg hne] at he
  repeat first|apply zSeq|apply zReg|apply zBlk|apply zSkp|refine wN ?_|refine wG ?_|refine wO ?_|refine wM ?_|refine wP ?_|refine wL ?_|refine wQ ?_|refine wS ?_|refine wT ?_|refine wE ?_|refine wD O_Block_Code ?_|refine wD O_Block_To ?_|refine wD O_Graph_Blocks ?_|refine wB E_s_api_Block ?_|refine wI ?_|refine wY ?_|refine wK (hlen2 _) ?_
  refine⟨(i+1,t.toNat),⟨rfl,h2,by simp only;omega,he⟩,by simp only;omega,rfl,rfl,rfl,?_,rfl,trivial⟩
  have:((t.toNat:Nat):Int)=t:=by omega
  simp only[this];rfl
 ·have heq:t=(k:Int):=by simpa using c2
  rw[if_pos heq] at he
  repeat first|apply zSeq|apply zReg|apply zBlk|apply zSkp|refine wN ?_|refine wG ?_|refine wO ?_|refine wM ?_|refine wA ?_|refine wP ?_|refine wL ?_|refine wQ ?_|refine wT ?_|refine wD O_Block_Code ?_|refine wD O_Block_To ?_|refine wD O_Graph_Blocks ?_|refine wB E_s_api_Block ?_|refine wI ?_|refine wY ?_|refine wK (hlen2 _) ?_
  exact WP.ret ⟨.inr rfl,_,rfl,by rw[Flo.may_circ h he];rfl,f0d⟩
end
section
attribute [local irreducible] WL WP WH W
theorem mgBuildG {s:ByteArray}{t:Bool}{p q:Int}:aBuild V.E 24 [(0,.string s),(1,.bool t),(2,.int .i64 p),(3,.int .i64 q)]=some (.agg #[.string s,.bool t,.int .i64 p,.int .i64 q,.slice none 0 0]):=by kernel_rfl
attribute [local irreducible] V
variable {O:Orc}{H:AH}
def PairIs (l:List Ins) (p q:Int):Prop:=(p=-1∧q=-1∧Mer.NoPair l)∨∃ i k:Nat,Mer.First l i k∧p=i∧q=k
theorem pairI_c (hO:NoO O) {A:Av}{v:Value}{l:List Ins} (hc:Els 6 InsR A H v l) (hL:l.length≤1000000) :
  ∃ u H',Lc V O F_ref26_Pair [v] H u H'∧(∃ p q,u=.tuple #[.int .i64 p,.int .i64 q]∧PairIs l p q∧Fr H H'):=by
 obtain⟨u,H',h1,h2,h3⟩:=pairF_c hO hc hL
 refine⟨u,H',h1,?_⟩
 rcases h2 with ⟨rfl,h2⟩|⟨i,k,h2,rfl⟩
 ·exact⟨-1,-1,rfl,.inl ⟨rfl,rfl,h2⟩,h3⟩
 ·exact⟨i,k,rfl,.inr ⟨i,k,h2,rfl,rfl⟩,h3⟩
theorem Av.and_gr {C B:Av}{o:Option (Nat×Nat)}{n m:Nat} (h:(Av.of o).Lt m) (hn:∀ b∈obs o,n≤b) (hg:∀ b∈ogs o,n≤b):C.Gr (C.and (.of o)) n:=
 ⟨fun b hb=>(List.mem_append.1 hb).imp id fun hb=>hn b hb,fun b hb=>(List.mem_append.1 hb).imp id fun hb=>hg b hb⟩
set_option maxHeartbeats 16000000 in
theorem rof_c (hO:NoO O) {A:Av}{g:Graph}{cs:List Value} (hR:GraphR A H cs g) (hsm:SmallG g) (hop:∀ b∈g.blocks,∀ i∈b.code,0≤i.op∧i.op<256) :
 ∃ u H',Lc V O F_ref26_Of [.agg cs.toArray] H u H'∧(∃ cs':List Value,u=.tuple #[.agg cs'.toArray,.int .i64 (errG g)]∧GraphR (.old H.next) H' cs' (outG g)∧Fr H H'):=by
 have hR0:=hR
 obtain⟨vb,rfl,hb⟩:=hR
 have hlb:=hsm.nb
 obtain⟨ab,nb,cb,rfl⟩:∃ a n c,vb=.slice a n c:=let ⟨_,h,_⟩:=hb;h.isSl
 refine Lc.ref26_Of (hO _ _ _ (by decide)) ?_
 unfold P_ref26_Of
 apply zSeq
 apply zReg
 refine zBox rfl (fun _=>rfl) fun H1 f1 b1 n1=>?_
 have b1':Bx H1 H.next 24 (graphC g (.slice ab nb cb)):=b1
 refine zAlc E_Graph zero24 fun H2 f2 b2 n2=>?_
 replace b1':=b1'.fr f2
 have f12:=f1.trans f2
 clear b1 f1 f2
 obtain⟨_,H3,hc3,rfl,f3⟩:=rMay_c (H:=H2) hO (GraphR.m.fr hR0 f12) hsm.small (fun b hb=>(hsm.b b hb).cargs) hop
 have b13:=b1'.fr f3
 have b23:=b2.fr f3
 cases hm1:Flo.may mi g
 ·rw[hm1] at hc3
  repeat first|apply zSeq|apply zReg|refine wN ?_|refine wA ?_
  refine zLd rfl (b1'.lN E_Graph te_Graph_agg te_Graph_size) ?_
  refine WL.call rfl rfl fp_ref11_May.is hc3 ?_
  repeat first|apply zSeq|apply zReg|refine wN ?_|refine wZ ?_|refine wt ?_
  refine WL.op (op_build rfl build24) ?_
  refine zStB b23 rfl rfl E_Graph (by rw[te_Graph_size];rfl) rfl (by simp[Value.cells]) (by simp[Value.cells]) fun H4 f4 b4 n4=>?_
  have b4':Bx H4 H1.next 24 [.string ⟨⟨[]⟩⟩,.bool false,.int .i64 0,.int .i64 0,.slice none 0 0]:=b4
  repeat first|refine wN ?_|refine wA ?_
  have ho:okG g=false:=by unfold okG;rw[hm1];rfl
  refine WP.ret ⟨.inr rfl,_,resL_cell rfl (b4'.lN E_Graph te_Graph_agg te_Graph_size) rfl,_,by rw[errG,ho];rfl,by rw[outG,ho];exact zeroG_R0,(f12.trans f3).young f4 (by simp;omega) (by simp)⟩
 rw[hm1] at hc3
 repeat first|apply zSeq|apply zReg|refine wN ?_|refine wA ?_
 refine zLd rfl (b1'.lN E_Graph te_Graph_agg te_Graph_size) ?_
 refine WL.call rfl rfl fp_ref11_May.is hc3 ?_
 repeat first|apply zSeq|apply zReg|apply zSkp|refine wN ?_|refine wZ ?_|refine wf ?_|refine wD O_Graph_Name ?_|refine wD O_Graph_Thread ?_|refine wD O_Graph_Params ?_|refine wD O_Graph_Regs ?_|refine wB E_int ?_|refine wB E_bool ?_|refine wB E_string ?_
 refine WL.op (op_build rfl mgBuildG) ?_
 refine zAlc E_Graph zero24 fun H4 f4 b4 n4=>?_
 refine zStB b4 rfl rfl E_Graph (by rw[te_Graph_size];rfl) rfl (by simp[Value.cells]) (by simp[Value.cells]) fun H5 f5 b5 n5=>?_
 have b6':Bx H5 H3.next 24 (graphC g (.slice none 0 0)):=b5
 have f35:Fr H3 H5:=f4.young f5 (by simp) (by simp)
 have b15:=b13.fr f35
 have b25:=b23.fr f35
 have f15:Fr H H5:=(f12.trans f3).trans f35
 have hn6:H3.next<H5.next:=b6'.1
 have hn23:=f3.1
 have hn02:=f12.1
 have hBG:∀ {n:Nat},(Av.old H5.next).Gr (.old H.next) n:=Av.old_gr (Av.old_lt.mono (by omega))
 have hBlt:(Av.old H5.next).Lt H5.next:=Av.old_lt
 have hBsub:∀ {Hx Hy:AH}{c:Nat},c<H5.next→FrX [c] [] Hx Hy→FrX (Av.old H5.next).bs (Av.old H5.next).gs Hx Hy:=fun hc h=>h.sub (fun b hb=>by simp[Av.old] at hb ⊢;omega) (by simp)
 generalize hB:Av.old H5.next=B at *
 clear b1' b2 b13 b23 b4 b5 f3 f4 f5 f12 f35 hc3
 refine wN ?_
 refine WP.seqS (σ:=Value×Option (Nat×Nat)) (fun x=>[(2,.pointer (some ⟨H1.next,0,none⟩)),(4,.pointer (some ⟨H3.next,0,none⟩))]) (fun x Hc=>FrX [H3.next] [] H5 Hc∧Bx Hc H3.next 24 (graphC g x.1)∧OwR 45 4 BlockR B Hc H5.next x.1 (g.blocks.map Mer.block) x.2) ?_ ?_
 ·have hlen1:=fun Hz=>hb.len (V:=V) (H2:=Hz) E_s_api_Block
  repeat first|apply zSeq|apply zReg|apply zBlk|refine wN ?_|refine wA ?_
  refine WP.loopH (σ:=Nat×Value×Option (Nat×Nat)) (fun x=>[(1,.pointer (some ⟨H.next,0,none⟩)),(2,.pointer (some ⟨H1.next,0,none⟩)),(4,.pointer (some ⟨H3.next,0,none⟩)),(5,.int .i64 x.1)]) (fun x Hc=>FrX [H3.next] [] H5 Hc∧Bx Hc H3.next 24 (graphC g x.2.1)∧OwR 45 4 BlockR B Hc H5.next x.2.1 ((g.blocks.take x.1).map Mer.block) x.2.2∧x.1≤g.blocks.length) (fun x=>g.blocks.length-x.1) (0,.slice none 0 0,none) ⟨.refl _ _ _,b6',.nil,Nat.zero_le _⟩ ⟨rfl,rfl,rfl,rfl,trivial⟩ ?_
  rintro⟨k,bv,o⟩ Hc ⟨hfr,hbx,how,hk⟩
  simp only at hfr hbx how hk ⊢
  have b1c:=b15.frX hfr (by simp;omega)
  rcases Nat.lt_or_ge k g.blocks.length with h|h
  case inr =>
   have g1:decide ((k:Int)<g.blocks.length)=false:=dF
   rw[List.take_of_length_le h] at how
   repeat first|apply zSeq|apply zReg|apply zExt|refine wN ?_|refine wG ?_|refine wL ?_|refine wE ?_|refine wD O_Graph_Blocks ?_|refine wB E_s_api_Block ?_|refine wK (hlen1 _) ?_
   exact⟨(bv,o),⟨hfr,hbx,how⟩,rfl,rfl,trivial⟩
  have g1:decide ((k:Int)<g.blocks.length)=true:=dT
  have frH:Fr H Hc:=f15.young hfr (by simp;omega) (by simp)
  have hpc:Els 4 BlockR A Hc (.slice ab nb cb) g.blocks:=hb.fr BlockR.m frH
  obtain⟨bb,off,cs,ha1,hrd,hR⟩:=hpc.at E_s_api_Block E_Block te_Block_size (kd:=.i64) h
  have hl1:=hrd.loadN (V:=V) E_Block te_Block_agg te_Block_size
  have hsb:=hsm.b g.blocks[k] (List.getElem_mem _)
  generalize hb0:g.blocks[k]=x at *
  obtain⟨_,Hd,hcd,cs',rfl,⟨vp,vc,vf,vt,oc,rfl,hvp,hvc,hvf,hvt⟩,fcd⟩:=copy_c (H:=Hc) hO hR hsb
  obtain⟨p1,p2,p3,rfl⟩:∃ a n c,vp=.slice a n c:=let ⟨_,h,_⟩:=hvp;h.isSl
  obtain⟨c1,c2,c3,rfl⟩:=hvc.isSl
  obtain⟨q1,q2,q3,rfl⟩:=hvf.isSl
  obtain⟨t1,t2,t3,rfl⟩:=hvt.isSl
  have hn5c:=hfr.1
  have hncd:=fcd.1
  have hyo:=how.young
  have hyv:=hvc.young
  repeat first|apply zSeq|apply zReg|apply zBlk|apply zSkp|refine wN ?_|refine wG ?_|refine wL ?_|refine wT ?_|refine wD O_Graph_Blocks ?_|refine wB E_s_api_Block ?_|refine wI ?_|refine wY ?_|refine wK (hlen1 _) ?_
  refine WL.call rfl rfl fp_ref24_Copy.is hcd ?_
  refine zAlc E_Block elBlk0 fun He fe be ne=>?_
  refine zStB be rfl rfl E_Block (by rw[te_Block_size];rfl) rfl (by simp[Value.cells]) (by simp[Value.cells]) fun Hx fx bx nx=>?_
  have bx':Bx Hx Hd.next 45 [.slice p1 p2 p3,.slice c1 c2 c3,.slice q1 q2 q3,.slice t1 t2 t3]:=bx
  have fdx:Fr Hd Hx:=fe.young fx (by simp) (by simp)
  clear be bx fe fx
  have hndx:=bx'.1
  have hup:∀ {n:Nat},n=Hd.next→(Av.old Hc.next).Gr ((Av.old Hc.next).and (.box Hd.next)) n:=fun e=>⟨fun b hb=>(List.mem_append.1 hb).imp id fun hb=>by simp[Av.box] at hb;omega,fun b hb=>(List.mem_append.1 hb).imp id fun hb=>by simp[Av.box] at hb⟩
  have hCB:∀ {n:Nat},((Av.old Hc.next).and (.box Hd.next)).Gr (B.and (.of o)) n:=⟨fun b hb=>.inl (List.mem_append_left _ (List.mem_range.2 (by
   rcases List.mem_append.1 hb with hb|hb
   ·have:=hBlt.1 b hb;omega
   ·exact hyo.2.2.1 b hb))),fun b hb=>.inl (List.mem_append_left _ (List.mem_range.2 (by
   rcases List.mem_append.1 hb with hb|hb
   ·have:=hBlt.2 b hb;omega
   ·exact hyo.2.2.2 b hb)))⟩
  have hCsub:∀ {Hy Hz:AH},FrX [Hd.next] [] Hy Hz→FrX ((Av.old Hc.next).and (.box Hd.next)).bs ((Av.old Hc.next).and (.box Hd.next)).gs Hy Hz:=fun h=>h.sub (fun b hb=>List.mem_append_right _ (by simpa[Av.box] using hb)) (by simp)
  have hCo:∀ b,Hc.next≤b→b≠Hd.next→b∉((Av.old Hc.next).and (.box Hd.next)).bs:=fun b h1 h2 h3=>by
   rcases List.mem_append.1 h3 with h3|h3
   ·have:=List.mem_range.1 h3;omega
   ·simp[Av.box] at h3;exact h2 h3
  have hCg:∀ b,Hc.next≤b→b∉((Av.old Hc.next).and (.box Hd.next)).gs:=fun b h1 h3=>by
   rcases List.mem_append.1 h3 with h3|h3
   ·have:=List.mem_range.1 h3;omega
   ·simp[Av.box] at h3
  have wvp:=(hvp.gr PhiR.m (hup rfl)).fr PhiR.m fdx
  have wvc:=(hvc.gr InsR.m (hup rfl)).fr InsR.m fdx
  have wvf:=(hvf.gr (hup rfl)).fr fdx
  have wvt:=(hvt.gr (hup rfl)).fr fdx
  have hClt:((Av.old Hc.next).and (.box Hd.next)).Lt Hx.next:=((Av.old_lt).mono (by omega)).and (.box (by omega))
  generalize hC:(Av.old Hc.next).and (.box Hd.next)=C at *
  obtain⟨_,Hp,hcp,p,q,rfl,hpq,fxp⟩:=pairI_c (H:=Hx) hO (wvc.els InsR.m (fun b hb=>hCo b (hyv.1 b hb |> fun h=>by omega) (by have:=hyv.2.2.1 b hb;omega)) (fun b hb=>hCg b (by have:=hyv.2.1 b hb;omega))) (by have:=hsb.code;omega)
  have fcx:Fr Hc Hx:=fcd.trans fdx
  have frHx:Fr H Hx:=frH.trans fcx
  have hbxx:=hbx.fr fcx
  have b1x:=b1c.fr fcx
  have hcl:=hsb.code
  repeat first|apply zSeq|apply zReg|refine wN ?_|refine wD O_Block_Code ?_|refine wB E_s_api_Ins ?_
  refine WL.call rfl rfl fp_ref26_Pair.is hcp ?_
  repeat first|refine wN ?_|refine zXtr rfl ?_
  refine WP.seqS (σ:=Value×Option (Nat×Nat)) (fun y=>[(1,.pointer (some ⟨H.next,0,none⟩)),(2,.pointer (some ⟨H1.next,0,none⟩)),(4,.pointer (some ⟨H3.next,0,none⟩)),(5,.int .i64 k),(6,.pointer (some ⟨Hd.next,0,none⟩))]) (fun y Hz=>FrX [Hd.next] [] Hp Hz∧Bx Hz Hd.next 45 [.slice p1 p2 p3,y.1,.slice q1 q2 q3,.slice t1 t2 t3]∧OwN 47 6 InsR C Hz Hc.next y.1 (Mer.code x.code) y.2∧∀ b∈obs y.2,b≠Hd.next) ?_ ?_
  ·repeat first|apply zBlk
   refine WP.loopH (σ:=List Ins×Value×Option (Nat×Nat)×Int×Int) (fun y=>[(1,.pointer (some ⟨H.next,0,none⟩)),(2,.pointer (some ⟨H1.next,0,none⟩)),(4,.pointer (some ⟨H3.next,0,none⟩)),(5,.int .i64 k),(6,.pointer (some ⟨Hd.next,0,none⟩)),(7,.int .i64 y.2.2.2.1),(8,.int .i64 y.2.2.2.2)]) (fun y Hz=>FrX [Hd.next] [] Hp Hz∧Bx Hz Hd.next 45 [.slice p1 p2 p3,y.2.1,.slice q1 q2 q3,.slice t1 t2 t3]∧OwN 47 6 InsR C Hz Hc.next y.2.1 y.1 y.2.2.1∧(∀ b∈obs y.2.2.1,b≠Hd.next)∧Mer.code y.1=Mer.code x.code∧y.1.length≤x.code.length∧PairIs y.1 y.2.2.2.1 y.2.2.2.2) (fun y=>y.1.length) (x.code,.slice c1 c2 c3,oc,p,q) ⟨.refl _ _ _,bx'.fr fxp,(wvc.fr InsR.m fxp).old (Nat.le_refl _),fun b hb=>by have:=hyv.2.2.1 b hb;omega,rfl,Nat.le_refl _,hpq⟩ ⟨rfl,rfl,rfl,rfl,rfl,rfl,rfl,trivial⟩ ?_
   rintro⟨l,cv,ol,p,q⟩ Hz ⟨hfz,hbz,hoz,hod,hcode,hlen,hpz⟩
   simp only at hfz hbz hoz hod hcode hlen hpz ⊢
   rcases hpz with ⟨rfl,rfl,hno⟩|⟨i,j,hfi,rfl,rfl⟩
   ·have g2:decide ((-1:Int)≥0)=false:=by decide
    have hl:l=Mer.code x.code:=by rw[←hcode,Mer.code_same hno]
    subst hl
    repeat first|apply zSeq|apply zReg|apply zExt|refine wN ?_|refine wG ?_|refine wW ?_|refine wf ?_
    exact⟨(cv,ol),⟨hfz,hbz,hoz,hod⟩,rfl,rfl,rfl,rfl,rfl,trivial⟩
   have g2:decide ((i:Int)≥0)=true:=dT
   obtain⟨hij,hj,_⟩:=hfi.1
   have hcut:=Mer.cut_length hfi.1
   have hce:=Mer.cut_eq hfi.1
   have hyz:=hoz.young
   have hnpz:=hfz.1
   have hnxp:=fxp.1
   repeat first|apply zSeq|apply zReg|apply zBlk|apply zSkp|refine wN ?_|refine wG ?_|refine wW ?_|refine wt ?_
   refine zNew E_s_api_Ins E_Ins fun Ha fa na wa=>?_
   have ba:=hbz.fr fa
   have hoA:OwN 47 6 InsR (C.and (.of (some (Hz.next,Hz.next)))) Ha Hc.next cv l ol:=(hoz.gr InsR.m (Av.and_gr (B:=C) (m:=Hz.next+1) ⟨by simp[Av.of,obs],by simp[Av.of,ogs]⟩ (by simp[obs]) (by simp[ogs]))).fr InsR.m fa
   have hnob:∀ {o':Option (Nat×Nat)},(∀ b∈obs o',Hz.next≤b)→∀ b∈obs ol,b∉(C.and (.of o')).bs:=fun ho b hb h=>by
    rcases List.mem_append.1 h with h|h
    ·exact hCo b (hyz.1 b hb) (hod b hb) h
    ·have:=ho b h;have:=hyz.2.2.1 b hb;omega
   have hnog:∀ {o':Option (Nat×Nat)},(∀ b∈ogs o',Hz.next≤b)→∀ b∈ogs ol,b∉(C.and (.of o')).gs:=fun ho b hb h=>by
    rcases List.mem_append.1 h with h|h
    ·exact hCg b (hyz.2.1 b hb) h
    ·have:=ho b h;have:=hyz.2.2.2 b hb;omega
   obtain⟨s1,e1,hs1⟩:=hoA.slice InsR.m (hnob (by simp[obs])) (hnog (by simp[ogs])) E_s_api_Ins E_Ins te_Ins_size (by decide) (l:=0) (u:=i) (Nat.zero_le _) (by omega) (by omega) (lo:=none) (hi:=some (.int .i64 i)) (fun y hy=>(bound_int (by omega)).2 _) rfl
   have wl0:OwN 47 6 InsR C Ha Hz.next (.slice (some ⟨Hz.next,0,none⟩) 0 0) ([]:List Ins) (some (Hz.next,Hz.next)):=⟨[],wa 6 _ (Nat.le_refl _),fun i h=>absurd h (by simp)⟩
   obtain⟨v1,Hb,o1,k1,w1,x1,r1⟩:=wl0.app (V:=V) InsR.m hs1 (fun h=>(InsR.one h).1) (by decide) (bytes:=64) (by simp;omega) (by simp;omega) (by omega) E_s_api_Ins E_s_api_Ins E_Ins te_Ins_size te_Ins_bytes
   rw[List.nil_append,List.drop_zero] at w1
   have fzb:Fr Hz Hb:=fa.young x1 (by simp[obs]) (by simp[ogs])
   have hy1:=w1.young
   have hoB:OwN 47 6 InsR (C.and (.of o1)) Hb Hc.next cv l ol:=(hoz.gr InsR.m (Av.and_gr (B:=C) w1.lt hy1.1 hy1.2.1)).fr InsR.m fzb
   obtain⟨s2,e2,hs2⟩:=hoB.slice InsR.m (hnob hy1.1) (hnog hy1.2.1) E_s_api_Ins E_Ins te_Ins_size (by decide) (l:=i+1) (u:=j) (by omega) (by omega) (by omega) (lo:=some (.int .i64 ((i+1:Nat):Int))) (hi:=some (.int .i64 j)) (fun y hy=>(bound_int (by omega)).2 _) (bound_int (by omega)).1
   have hlen2:((l.take j).drop (i+1)).length≤l.length:=by rw[List.length_drop,List.length_take];omega
   have hlen3:(l.take i).length≤l.length:=by rw[List.length_take];omega
   obtain⟨v2,Hg,o2,k2,w2,x2,r2⟩:=w1.app (V:=V) InsR.m hs2 (fun h=>(InsR.one h).1) (by decide) (bytes:=64) (by omega) (by omega) (by have:=fzb.1;omega) E_s_api_Ins E_s_api_Ins E_Ins te_Ins_size te_Ins_bytes
   have fzg:Fr Hz Hg:=fzb.young x2 hy1.1 hy1.2.1
   have hy2:=w2.young
   have hoG:OwN 47 6 InsR (C.and (.of o2)) Hg Hc.next cv l ol:=(hoz.gr InsR.m (Av.and_gr (B:=C) w2.lt hy2.1 hy2.2.1)).fr InsR.m fzg
   obtain⟨s3,e3,hs3⟩:=hoG.slice InsR.m (hnob hy2.1) (hnog hy2.2.1) E_s_api_Ins E_Ins te_Ins_size (by decide) (l:=j+1) (u:=l.length) (by omega) (by omega) (by omega) (lo:=some (.int .i64 ((j+1:Nat):Int))) (hi:=none) (fun y hy=>rfl) (bound_int (by omega)).1
   rw[List.take_length] at hs3
   have hlen4:(l.drop (j+1)).length≤l.length:=by rw[List.length_drop];omega
   obtain⟨v3,Hh,o3,k3,w3,x3,r3⟩:=w2.app (V:=V) InsR.m hs3 (fun h=>(InsR.one h).1) (by decide) (bytes:=64) (by rw[List.length_append];omega) (by rw[List.length_append];omega) (by have:=fzg.1;omega) E_s_api_Ins E_s_api_Ins E_Ins te_Ins_size te_Ins_bytes
   rw[←hce] at w3
   have fzh:Fr Hz Hh:=fzg.young x3 hy2.1 hy2.2.1
   have hy3:=w3.young
   have bb':=hbz.fr fzb
   have bg:=hbz.fr fzg
   have bh:=hbz.fr fzh
   have hin1:((i+1:Nat):Int)=(i:Int)+1:=by omega
   have hin2:((j+1:Nat):Int)=(j:Int)+1:=by omega
   rw[hin1] at e2
   rw[hin2] at e3
   obtain⟨d1,d2,d3,rfl⟩:=w3.isSl
   obtain⟨d4,d5,d6,rfl⟩:=hoz.isSl
   repeat first|refine wG ?_|refine wD O_Block_Code ?_|refine wB E_s_api_Ins ?_
   refine WL.op (op_slice rfl rfl rfl rfl e1) ?_
   refine WL.op (k1 rfl rfl) ?_
   repeat first|apply zSeq|apply zReg|refine wN ?_|refine wG ?_|refine wS ?_|refine wD O_Block_Code ?_|refine wB E_s_api_Ins ?_
   refine WL.op (op_slice rfl rfl rfl rfl e2) ?_
   refine WL.op (k2 rfl rfl) ?_
   repeat first|apply zSeq|apply zReg|refine wN ?_|refine wG ?_|refine wS ?_|refine wD O_Block_Code ?_|refine wB E_s_api_Ins ?_
   refine WL.op (op_slice rfl rfl rfl rfl e3) ?_
   refine WL.op (k3 rfl rfl) ?_
   repeat first|refine wD O_Block_Code ?_
   refine zStB bh rfl rfl E_s_api_Ins rfl rfl (by simp[Value.cells]) (by simp[Value.cells]) fun Hi fi bi ni=>?_
   have bi':Bx Hi Hd.next 45 [.slice p1 p2 p3,.slice d1 d2 d3,.slice q1 q2 q3,.slice t1 t2 t3]:=bi
   have hno3:∀ b∈obs o3,b∉C.bs:=fun b hb=>hCo b (by have:=hy3.1 b hb;omega) (by have:=hy3.1 b hb;omega)
   have hnog3:∀ b∈ogs o3,b∉C.gs:=fun b hb=>hCg b (by have:=hy3.2.1 b hb;omega)
   have w4:=w3.frX InsR.m (hCsub fi) hno3 hnog3
   obtain⟨_,Hj,hcj,p',q',rfl,hpq',fij⟩:=pairI_c (H:=Hi) hO (w4.els InsR.m hno3 hnog3) (by omega)
   repeat first|apply zReg|refine wN ?_|refine wD O_Block_Code ?_|refine wB E_s_api_Ins ?_
   refine WL.call rfl rfl fp_ref26_Pair.is hcj ?_
   repeat first|refine wN ?_|refine zXtr rfl ?_
   exact⟨(Mer.cut l i j,.slice d1 d2 d3,o3,p',q'),⟨(hfz.trans ((fzh.x [] [])) (by simp) (by simp)).trans (fi.trans (fij.x [] []) (by simp) (by simp)) (fun b hb _=>hb) (by simp),bi'.fr fij,(w4.fr InsR.m fij).old (by omega),fun b hb=>by have:=hy3.1 b hb;omega,by rw[←hcode];exact Mer.code_cut hfi,by simp only;omega,hpq'⟩,by simp only;omega,rfl,rfl,rfl,rfl,rfl,rfl,rfl,trivial⟩
  ·rintro⟨cv,ol⟩ Hz ⟨hfz,hbz,hoz,hod⟩
   simp only at hfz hbz hoz hod ⊢
   have hyz:=hoz.young
   obtain⟨d4,d5,d6,rfl⟩:=hoz.isSl
   have fcz:Fr Hc Hz:=(fcx.trans fxp).young hfz (by simp;omega) (by simp)
   have hbxz:=hbx.fr fcz
   have hRz:BlockR C Hz [.slice p1 p2 p3,.slice d4 d5 d6,.slice q1 q2 q3,.slice t1 t2 t3] (Mer.block x):=⟨_,_,_,_,rfl,(wvp.fr PhiR.m fxp).frX PhiR.m (hCsub hfz),hoz.els InsR.m (fun b hb=>hCo b (hyz.1 b hb) (hod b hb)) (fun b hb=>hCg b (hyz.2.1 b hb)),(wvf.fr fxp).frX (hCsub hfz),(wvt.fr fxp).frX (hCsub hfz)⟩
   obtain⟨bv',He,o',k1,k2,k3,k4,_⟩:=(how.fr BlockR.m fcz).app1 (V:=V) (x:=Mer.block x) (cx:=[.slice p1 p2 p3,.slice d4 d5 d6,.slice q1 q2 q3,.slice t1 t2 t3]) BlockR.m (hBlt.mono (by have:=fcz.1;omega)) (BlockR.m.gr hCB hRz) BlockR.one (by decide) (bytes:=96) (by rw[List.length_map,List.length_take];omega) (by rw[List.length_map,List.length_take];omega) (by have:=fcz.1;omega) E_s_api_Block E_s_api_Block E_Block te_Block_size te_Block_bytes'
   have hbxe:=hbxz.frX k3 (fun hb=>by have:=hyo.1 _ hb;omega)
   obtain⟨pa',pn',pc',rfl⟩:=OwR.isSl' k2
   repeat first|apply zReg|refine wD O_Graph_Blocks ?_|refine wB E_s_api_Block ?_
   refine zLd rfl (hbz.lN E_Block te_Block_agg te_Block_size) ?_
   refine WL.op (op_buildSlice rfl E_s_api_Block E_Block (by rw[te_Block_size];decide) fill34) ?_
   refine WL.op (k1 rfl rfl) ?_
   repeat first|refine wD O_Graph_Blocks ?_
   refine zStB hbxe rfl rfl E_s_api_Block rfl rfl (by simp[Value.cells]) (by simp[Value.cells,graphC]) fun Hk fk bk nk=>?_
   have bk':Bx Hk H3.next 24 (graphC g (.slice pa' pn' pc')):=bk
   repeat first|apply zReg|refine wN ?_|refine wG ?_|refine wS ?_
   have hfin:FrX [H3.next] [] H5 Hk:=((hfr.trans (fcz.x [] []) (by simp) (by simp)).trans k3 (fun b hb hlt=>absurd (hyo.1 b hb) (by omega)) (fun b hb hlt=>absurd (hyo.2.1 b hb) (by omega))).trans fk (fun b hb _=>hb) (by simp)
   have hy2:=k2.young
   exact⟨(k+1,.slice pa' pn' pc',o'),⟨hfin,bk',by rw[List.take_succ_eq_append_getElem h,hb0,List.map_append];exact k2.frX BlockR.m (hBsub (by omega) fk) (fun b hb h2=>by have:=hy2.1 b hb;have:=hBlt.1 b h2;omega) (fun b hb h2=>by have:=hy2.2.1 b hb;have:=hBlt.2 b h2;omega),h⟩,by simp only;omega,rfl,rfl,rfl,rfl,trivial⟩
 ·rintro⟨bv,o⟩ Hp ⟨hfrp,hbxp,howp⟩
  simp only at hfrp hbxp howp ⊢
  have f1p:Fr H Hp:=f15.young hfrp (by simp;omega) (by simp)
  have b2p:=b25.frX hfrp (by simp;omega)
  have hyp:=howp.young
  have hRp:GraphR B Hp (graphC g bv) (Mer.graph g):=⟨bv,rfl,howp.els BlockR.m (fun b hb h2=>by have:=hyp.1 b hb;have:=hBlt.1 b h2;omega) (fun b hb h2=>by have:=hyp.2.1 b hb;have:=hBlt.2 b h2;omega)⟩
  obtain⟨_,Hq,hcq,rfl,fq⟩:=rMay_c (H:=Hp) hO hRp hsm.mer.small (fun b hb=>(hsm.mer.b b hb).cargs) (ops_mer (p:=fun x=>0≤x∧x<256) hop)
  obtain⟨a1,a2,a3,rfl⟩:=OwR.isSl' howp
  have b2q:=b2p.fr fq
  have hbxq:=hbxp.fr fq
  cases hm2:Flo.may mi (Mer.graph g)
  ·rw[hm2] at hcq
   repeat first|apply zSeq|apply zReg
   refine zLd rfl (hbxp.lN E_Graph te_Graph_agg te_Graph_size) ?_
   refine WL.call rfl rfl fp_ref11_May.is hcq ?_
   repeat first|apply zSeq|apply zReg|refine wN ?_|refine wZ ?_|refine wt ?_
   refine WL.op (op_build rfl build24) ?_
   refine zStB b2q rfl rfl E_Graph (by rw[te_Graph_size];rfl) rfl (by simp[Value.cells]) (by simp[Value.cells]) fun H7 f7 b7 n7=>?_
   have b7':Bx H7 H1.next 24 [.string ⟨⟨[]⟩⟩,.bool false,.int .i64 0,.int .i64 0,.slice none 0 0]:=b7
   repeat first|refine wN ?_|refine wA ?_
   have ho:okG g=false:=by unfold okG;rw[hm1,hm2];rfl
   refine WP.ret ⟨.inr rfl,_,resL_cell rfl (b7'.lN E_Graph te_Graph_agg te_Graph_size) rfl,_,by rw[errG,ho];rfl,by rw[outG,ho];exact zeroG_R0,(f1p.trans fq).young f7 (by simp;omega) (by simp)⟩
  ·rw[hm2] at hcq
   repeat first|apply zSeq|apply zReg
   refine zLd rfl (hbxp.lN E_Graph te_Graph_agg te_Graph_size) ?_
   refine WL.call rfl rfl fp_ref11_May.is hcq ?_
   repeat first|apply zSeq|apply zReg|apply zSkp|refine wN ?_|refine wZ ?_|refine wf ?_
   refine zLd rfl (hbxq.lN E_Graph te_Graph_agg te_Graph_size) ?_
   refine zStB b2q rfl rfl E_Graph (by rw[te_Graph_size];rfl) rfl (by simp[Value.cells,graphC]) (by simp[Value.cells,graphC]) fun H7 f7 b7 n7=>?_
   have b7':Bx H7 H1.next 24 (graphC g (.slice a1 a2 a3)):=b7
   repeat first|refine wN ?_|refine wA ?_
   have ho:okG g=true:=by unfold okG;rw[hm1,hm2];rfl
   exact WP.ret ⟨.inr rfl,_,resL_cell rfl (b7'.lN E_Graph te_Graph_agg te_Graph_size) rfl,_,by rw[errG,ho];rfl,by rw[outG,ho];exact⟨_,rfl,((howp.fr BlockR.m fq).frX BlockR.m (hBsub (by omega) f7) (fun b hb h2=>by have:=hyp.1 b hb;have:=hBlt.1 b h2;omega) (fun b hb h2=>by have:=hyp.2.1 b hb;have:=hBlt.2 b h2;omega)).els BlockR.m (fun b hb h2=>by have:=hyp.1 b hb;have:=hBlt.1 b h2;omega) (fun b hb h2=>by have:=hyp.2.1 b hb;have:=hBlt.2 b h2;omega) |>.gr BlockR.m hBG⟩,(f1p.trans fq).young f7 (by simp;omega) (by simp)⟩
end
end Go.Proofs.YtjiibfgopanbgaaGreatDoor.U
namespace Go.For
open Go.Ev
def letterB (c:Int):Bool:=(decide (c≥97)&&decide (c≤122))||((decide (c≥65)&&decide (c≤90))||c==95)
def markB (c:Int):Bool:=letterB c||digit c
theorem marks_has (c:UInt8):marks.data.toList.contains c=markB (c.toNat:Int):=by
 have h:∀ n:Fin 256,marks.data.toList.contains (UInt8.ofNat n.val)=markB (n.val:Int):=by decide +kernel
 have:=h ⟨c.toNat,c.toNat_lt⟩
 simpa using this
theorem letter_digit {c:Int} (h:letterB c=true):digit c=false:=by
 unfold letterB at h
 unfold digit
 simp at h ⊢
 omega
def okAt (i:Nat) (c:UInt8):Bool:=letterB (c.toNat:Int)||(!(i==0)&&digit (c.toNat:Int))
theorem nameB_iff {s:ByteArray} (h1:(s.data.toList==[])=false) (h2:decide ((s.size:Int)>32)=false) (h3:has resv s=false):nameB s=true↔∀ i (h:i<s.data.toList.length),okAt i s.data.toList[i]=true:=by
 unfold nameB
 rw[h1,h2,h3]
 simp only[Bool.false_or,Bool.and_eq_true,Bool.not_eq_true']
 have e:s.data.toList.all (marks.data.toList.contains ·)=true↔∀ i (h:i<s.data.toList.length),markB (s.data.toList[i].toNat:Int)=true:=by
  rw[List.all_eq_true]
  constructor
  ·intro h i hi
   rw[←marks_has];exact h _ (List.getElem_mem hi)
  ·intro h x hx
   obtain⟨i,hi,rfl⟩:=List.mem_iff_getElem.1 hx
   rw[marks_has];exact h i hi
 rw[e]
 obtain⟨b,t,hbt⟩:∃ b t,s.data.toList=b::t:=by
  cases e:s.data.toList with
  | nil=>rw[e] at h1;cases h1
  | cons b t=>exact⟨b,t,rfl⟩
 have hb0:byte0 s=(b.toNat:Int):=by unfold byte0;rw[hbt];rfl
 rw[hb0]
 constructor
 ·rintro⟨hd,h⟩ i hi
  have hm:=h i hi
  unfold okAt
  unfold markB at hm
  cases hl:letterB (s.data.toList[i].toNat:Int)
  ·rw[hl,Bool.false_or] at hm
   rw[hm]
   by_cases e0:i=0
   ·subst e0
    have:s.data.toList[0]=b:=by simp[hbt]
    rw[this] at hm
    rw[hd] at hm;cases hm
   ·have:(i==0)=false:=by rw[beq_eq_false_iff_ne];exact e0
    rw[this];rfl
  ·rfl
 ·intro h
  have h0:0<s.data.toList.length:=by rw[hbt];simp
  have hf:=h 0 h0
  have e0:s.data.toList[0]=b:=by simp[hbt]
  rw[e0] at hf
  refine⟨?_,fun i hi=>?_⟩
  ·unfold okAt at hf
   simp only[beq_self_eq_true,Bool.not_true,Bool.false_and,Bool.or_false] at hf
   exact letter_digit hf
  ·have:=h i hi
   unfold okAt at this
   unfold markB
   cases hl:letterB (s.data.toList[i].toNat:Int)
   ·rw[hl,Bool.false_or,Bool.and_eq_true] at this
    rw[this.2];rfl
   ·rfl
end Go.For
namespace Go.Proofs.YtjiibfgopanbgaaGreatDoor.U
open Go Go.Ev
section
attribute [local irreducible] WL WP WH W
attribute [local irreducible] V
variable {O:Orc}{H:AH}
theorem rReserved_c (hO:NoO O) (s:ByteArray) :
  ∃ u H',Lc V O F_ref02_Reserved [.string s] H u H'∧(u=.bool (For.has For.resv s)∧Fr H H'):=by
 refine Lc.ref02_Reserved (hO _ _ _ (by decide)) ?_
 unfold P_ref02_Reserved
 repeat first|apply zSeq|apply zReg|refine wN ?_|refine wA ?_
 refine zLit (cs:=strs For.resv) rfl E_s_string E_string (by decide) rfl (by decide) fun H1 f1 b1 n1=>?_
 have hv:Els 1 StrR .no H1 (.slice (some ⟨H.next,0,none⟩) 15 15) For.resv:=strs_els ⟨rfl,.inr ⟨H.next,0,15,rfl,fun _=>(b1.rd rfl).a⟩⟩
 have hlen1:=fun Hz=>hv.len (V:=V) (H2:=Hz) E_s_string
 have hrl:For.resv.length=15:=rfl
 repeat first|apply zBlk|refine wN ?_|refine wM ?_|refine wK (hlen1 _) ?_
 refine WP.loopH (σ:=Nat) (fun i=>[(0,.string s),(5,.slice (some ⟨H.next,0,none⟩) 15 15),(6,.int .i64 For.resv.length),(7,.int .i64 i)]) (fun i H'=>H'=H1∧i≤For.resv.length∧∀ j (h:j<For.resv.length),j<i→(s.data.toList==For.resv[j].data.toList)=false) (fun i=>For.resv.length-i) 0 ⟨rfl,by simp,fun j _ h=>absurd h (by omega)⟩ ⟨rfl,rfl,rfl,rfl,trivial⟩ ?_
 rintro i Hc ⟨e1,hi,hn⟩
 subst e1
 rcases Nat.lt_or_ge i For.resv.length with h|h
 ·have hd:decide ((i:Int)<For.resv.length)=true:=dT
  obtain⟨b,off,cs,ha1,hrd,hR⟩:=hv.at E_s_string E_string rfl (kd:=.i64) h
  have hR:cs=[.string For.resv[i]]:=hR
  subst hR
  have hl1:=hrd.load1 (V:=V) E_string rfl
  cases he:s.data.toList==For.resv[i].data.toList
  ·repeat first|apply zSeq|apply zReg|apply zBlk|apply zSkp|refine wN ?_|refine wG ?_|refine wL ?_|refine wS ?_|refine zEqS rfl rfl ?_|refine wT ?_|refine wE ?_|refine wI ?_|refine wY ?_
   refine⟨i+1,⟨rfl,by omega,fun j hj hji=>?_⟩,by omega,rfl,rfl,rfl,rfl,trivial⟩
   by_cases e:j=i
   ·subst e;exact he
   ·exact hn j hj (by omega)
  ·repeat first|apply zSeq|apply zReg|apply zBlk|apply zSkp|refine wN ?_|refine wG ?_|refine wA ?_|refine wL ?_|refine zEqS rfl rfl ?_|refine wT ?_|refine wI ?_|refine wY ?_
   refine WP.ret ⟨.inr rfl,_,rfl,?_,f1⟩
   have:For.has For.resv s=true:=List.any_eq_true.2 ⟨_,List.getElem_mem h,he⟩
   rw[this];rfl
 ·have hd:decide ((i:Int)<For.resv.length)=false:=dF
  repeat first|apply zSeq|apply zReg|apply zExt|refine wN ?_|refine wA ?_|refine wL ?_|refine wE ?_
  refine WP.ret ⟨.inr rfl,_,rfl,?_,f1⟩
  have:For.has For.resv s=false:=by
   rw[For.has,List.any_eq_false]
   intro x hx
   obtain⟨j,hj,rfl⟩:=List.mem_iff_getElem.1 hx
   rw[hn j hj (by omega)];decide
  rw[this];rfl
set_option maxHeartbeats 4000000 in
theorem rName_c (hO:NoO O) (s:ByteArray) :
 ∃ u H',Lc V O F_ref02_Name [.string s] H u H'∧(u=.bool (For.nameB s)∧Fr H H'):=by
 refine Lc.ref02_Name (hO _ _ _ (by decide)) ?_
 unfold P_ref02_Name
 cases c1:s.data.toList==[]
 case true =>
  repeat first|apply zSeq|apply zReg|refine wN ?_|refine wG ?_|refine wx ?_|refine wF ?_|refine wA ?_|refine wp ?_|refine wP ?_|refine zEqS rfl rfl ?_|refine wt ?_
  exact WP.ret ⟨.inr rfl,_,rfl,by unfold For.nameB;rw[c1];rfl,.refl _⟩
 cases c2:decide ((s.size:Int)>32)
 case true =>
  repeat first|apply zSeq|apply zReg|refine wN ?_|refine wG ?_|refine wO ?_|refine wF ?_|refine wM ?_|refine wA ?_|refine wP ?_|refine wR ?_|refine wV ?_|refine zLenS rfl E_string ?_|refine zEqS rfl rfl ?_|refine wt ?_
  exact WP.ret ⟨.inr rfl,_,rfl,by unfold For.nameB;rw[c1,c2];rfl,.refl _⟩
 obtain⟨_,H1,hc1,rfl,f1⟩:=rReserved_c (H:=H) hO s
 cases c3:For.has For.resv s
 case true =>
  rw[c3] at hc1
  repeat first|apply zSeq|apply zReg|refine wN ?_|refine wG ?_|refine wO ?_|refine wM ?_|refine wA ?_|refine wR ?_|refine wV ?_|refine zLenS rfl E_string ?_|refine zEqS rfl rfl ?_
  refine WL.call rfl rfl fp_ref02_Reserved.is hc1 ?_
  repeat first|apply zSeq|apply zReg|refine wN ?_|refine wA ?_|refine wR ?_|refine wt ?_
  exact WP.ret ⟨.inr rfl,_,rfl,by unfold For.nameB;rw[c1,c2,c3];rfl,f1⟩
 rw[c3] at hc1
 have hiff:=For.nameB_iff c1 c2 c3
 have hsz:s.size=s.data.toList.length:=rfl
 have hs32:s.size≤32:=by have:=of_decide_eq_false c2;omega
 repeat first|apply zSeq|apply zReg|refine wN ?_|refine wG ?_|refine wO ?_|refine wM ?_|refine wA ?_|refine wR ?_|refine wV ?_|refine zLenS rfl E_string ?_|refine zEqS rfl rfl ?_
 refine WL.call rfl rfl fp_ref02_Reserved.is hc1 ?_
 repeat first|apply zSeq|apply zReg|apply zBlk|apply zSkp|refine wN ?_|refine wA ?_|refine wR ?_|refine wf ?_
 refine WP.loopH (σ:=Nat) (fun i=>[(0,.string s),(3,.int .i64 i)]) (fun i Hc=>Hc=H1∧i≤s.size∧∀ j (h:j<s.data.toList.length),j<i→For.okAt j s.data.toList[j]=true) (fun i=>s.size-i) 0 ⟨rfl,Nat.zero_le _,fun j _ h=>absurd h (by omega)⟩ ⟨rfl,rfl,trivial⟩ ?_
 rintro i Hc ⟨e,hi,hpre⟩
 subst e
 rcases Nat.lt_or_ge i s.size with h|h
 case inr =>
  have hd:decide ((i:Int)<s.size)=false:=dF
  repeat first|apply zSeq|apply zReg|apply zExt|refine wN ?_|refine wG ?_|refine wA ?_|refine wL ?_|refine zLenS rfl E_string ?_|refine wE ?_
  refine WP.ret ⟨.inr rfl,_,rfl,?_,f1⟩
  rw[hiff.2 fun j hj=>hpre j hj (by omega)];rfl
 have hd:decide ((i:Int)<s.size)=true:=dT
 have hlt:i<s.data.toList.length:=h
 have hx:s.data.toList[(i:Int).toNat]?=some s.data.toList[i]:=by simp[hlt]
 have bad:For.okAt i s.data.toList[i]=false→For.nameB s=false:=fun hb=>by
  cases hn:For.nameB s
  ·rfl
  ·have:=hiff.1 hn i hlt
   rw[this] at hb;cases hb
 have good:For.okAt i s.data.toList[i]=true→∀ j (h:j<s.data.toList.length),j<i+1→For.okAt j s.data.toList[j]=true:=fun hg j hj hji=>by
  by_cases e:j=i
  ·subst e;exact hg
  ·exact hpre j hj (by omega)
 unfold For.okAt at bad good
 generalize hcc:(s.data.toList[i].toNat:Int)=c at *
 apply zSeq
 repeat first|apply zSeq|apply zReg|apply zBlk|apply zSkp|refine wN ?_|refine wG ?_|refine wL ?_|refine zLenS rfl E_string ?_|refine wT ?_
 refine WL.op (op_indexS rfl rfl E_string (by omega) hx) ?_
 rw[hcc]
 repeat first|refine wN ?_
 refine WP.seqS (σ:=Unit) (fun _=>[(0,.string s),(3,.int .i64 i),(4,.int .u8 c),(5,.bool (For.letterB c))]) (fun _ Hd=>Hd=Hc) ?_ ?_
 ·cases d1:decide (c≥97)
  ·cases d3:decide (c≥65)
   ·cases d5:c==95
    ·repeat first|apply zReg|refine wN ?_|refine wG ?_|refine wo ?_|refine wF ?_|refine wM ?_|refine wq ?_|refine wR ?_|refine wW ?_|refine wQ ?_
     exact⟨(),rfl,rfl,rfl,rfl,by unfold For.letterB;rw[d1,d3,d5];rfl,trivial⟩
    ·repeat first|apply zReg|refine wN ?_|refine wG ?_|refine wo ?_|refine wF ?_|refine wM ?_|refine wq ?_|refine wR ?_|refine wW ?_|refine wQ ?_
     exact⟨(),rfl,rfl,rfl,rfl,by unfold For.letterB;rw[d1,d3,d5];rfl,trivial⟩
   ·cases d4:decide (c≤90)
    ·cases d5:c==95
     ·repeat first|apply zReg|refine wN ?_|refine wG ?_|refine wo ?_|refine wO ?_|refine wF ?_|refine wM ?_|refine wq ?_|refine wP ?_|refine wR ?_|refine zLeq rfl rfl ?_|refine wW ?_|refine wQ ?_
      exact⟨(),rfl,rfl,rfl,rfl,by unfold For.letterB;rw[d1,d3,d4,d5];rfl,trivial⟩
     ·repeat first|apply zReg|refine wN ?_|refine wG ?_|refine wo ?_|refine wO ?_|refine wF ?_|refine wM ?_|refine wq ?_|refine wP ?_|refine wR ?_|refine zLeq rfl rfl ?_|refine wW ?_|refine wQ ?_
      exact⟨(),rfl,rfl,rfl,rfl,by unfold For.letterB;rw[d1,d3,d4,d5];rfl,trivial⟩
    ·repeat first|apply zReg|refine wN ?_|refine wG ?_|refine wo ?_|refine wO ?_|refine wF ?_|refine wM ?_|refine wq ?_|refine wP ?_|refine wR ?_|refine zLeq rfl rfl ?_|refine wW ?_
     exact⟨(),rfl,rfl,rfl,rfl,by unfold For.letterB;rw[d1,d3,d4];rfl,trivial⟩
  ·cases d2:decide (c≤122)
   ·cases d3:decide (c≥65)
    ·cases d5:c==95
     ·repeat first|apply zReg|refine wN ?_|refine wG ?_|refine wo ?_|refine wO ?_|refine wF ?_|refine wM ?_|refine wq ?_|refine wP ?_|refine wR ?_|refine zLeq rfl rfl ?_|refine wW ?_|refine wQ ?_
      exact⟨(),rfl,rfl,rfl,rfl,by unfold For.letterB;rw[d1,d2,d3,d5];rfl,trivial⟩
     ·repeat first|apply zReg|refine wN ?_|refine wG ?_|refine wo ?_|refine wO ?_|refine wF ?_|refine wM ?_|refine wq ?_|refine wP ?_|refine wR ?_|refine zLeq rfl rfl ?_|refine wW ?_|refine wQ ?_
      exact⟨(),rfl,rfl,rfl,rfl,by unfold For.letterB;rw[d1,d2,d3,d5];rfl,trivial⟩
    ·cases d4:decide (c≤90)
     ·cases d5:c==95
      ·repeat first|apply zReg|refine wN ?_|refine wG ?_|refine wO ?_|refine wM ?_|refine wP ?_|refine wR ?_|refine zLeq rfl rfl ?_|refine wW ?_|refine wQ ?_
       exact⟨(),rfl,rfl,rfl,rfl,by unfold For.letterB;rw[d1,d2,d3,d4,d5];rfl,trivial⟩
      ·repeat first|apply zReg|refine wN ?_|refine wG ?_|refine wO ?_|refine wM ?_|refine wP ?_|refine wR ?_|refine zLeq rfl rfl ?_|refine wW ?_|refine wQ ?_
       exact⟨(),rfl,rfl,rfl,rfl,by unfold For.letterB;rw[d1,d2,d3,d4,d5];rfl,trivial⟩
     ·repeat first|apply zReg|refine wN ?_|refine wG ?_|refine wO ?_|refine wF ?_|refine wM ?_|refine wP ?_|refine wR ?_|refine zLeq rfl rfl ?_|refine wW ?_
      exact⟨(),rfl,rfl,rfl,rfl,by unfold For.letterB;rw[d1,d2,d3,d4];rfl,trivial⟩
   ·repeat first|apply zReg|refine wN ?_|refine wG ?_|refine wx ?_|refine zU rfl ?_|refine wO ?_|refine wF ?_|refine wM ?_|refine wp ?_|refine wP ?_|refine zLeq rfl rfl ?_|refine wW ?_
    exact⟨(),rfl,rfl,rfl,rfl,by unfold For.letterB;rw[d1,d2];rfl,trivial⟩
 rintro _ Hd e
 subst e
 cases c4:For.letterB c
 case true =>
  repeat first|apply zSeq|apply zReg|apply zSkp|refine wN ?_|refine wG ?_|refine wx ?_|refine zU rfl ?_|refine wq ?_|refine wS ?_|refine wZ ?_|refine wf ?_
  exact⟨i+1,⟨rfl,h,good (by rw[c4];rfl)⟩,by omega,rfl,rfl,trivial⟩
 cases c5:(i:Int)==0
 case true =>
  have hi0:(i==0)=true:=by have:(i:Int)=0:=by simpa using c5
                           simp;omega
  repeat first|apply zSeq|apply zReg|refine wN ?_|refine wG ?_|refine wo ?_|refine wx ?_|refine wF ?_|refine wM ?_|refine wA ?_|refine wp ?_|refine wP ?_|refine wQ ?_|refine wZ ?_|refine wt ?_
  exact WP.ret ⟨.inr rfl,_,rfl,by rw[bad (by rw[c4,hi0];rfl)];rfl,f1⟩
 have hi0:(i==0)=false:=by
  have:¬ (i:Int)=0:=by simpa using c5
  rw[beq_eq_false_iff_ne];omega
 cases c6:decide (c<48)
 case true =>
  have:For.digit c=false:=by unfold For.digit;rw[decide_eq_false (show ¬ c≥48 by have:=of_decide_eq_true c6;omega)];rfl
  repeat first|apply zSeq|apply zReg|refine wN ?_|refine wG ?_|refine wo ?_|refine wO ?_|refine wF ?_|refine wM ?_|refine wA ?_|refine wp ?_|refine wP ?_|refine wR ?_|refine wL ?_|refine wQ ?_|refine wZ ?_|refine wt ?_
  exact WP.ret ⟨.inr rfl,_,rfl,by rw[bad (by rw[c4,hi0,this];rfl)];rfl,f1⟩
 cases c7:decide (c>57)
 case true =>
  have:For.digit c=false:=by unfold For.digit;rw[decide_eq_false (show ¬ c≤57 by have:=of_decide_eq_true c7;omega),Bool.and_false]
  repeat first|apply zSeq|apply zReg|refine wN ?_|refine wG ?_|refine wo ?_|refine wO ?_|refine wM ?_|refine wA ?_|refine wp ?_|refine wR ?_|refine wL ?_|refine wV ?_|refine wQ ?_|refine wZ ?_|refine wT ?_
  exact WP.ret ⟨.inr rfl,_,rfl,by rw[bad (by rw[c4,hi0,this];rfl)];rfl,f1⟩
 have:For.digit c=true:=by unfold For.digit;rw[decide_eq_true (show c≥48 by have:=of_decide_eq_false c6;omega),decide_eq_true (show c≤57 by have:=of_decide_eq_false c7;omega)];rfl
 repeat first|apply zSeq|apply zReg|apply zSkp|refine wN ?_|refine wG ?_|refine wo ?_|refine wO ?_|refine wM ?_|refine wp ?_|refine wR ?_|refine wL ?_|refine wV ?_|refine wQ ?_|refine wS ?_|refine wZ ?_|refine wE ?_
 exact⟨i+1,⟨rfl,h,good (by rw[c4,hi0,this];rfl)⟩,by omega,rfl,rfl,trivial⟩
theorem rThreads_c (hO:NoO O) {A:Av}{p:Prog}{vm vl vf:Value} (hp:PrR A H vm vl vf p) (hs:SmallP p) :
  ∃ u H',Lc V O F_ref07_Threads [.agg #[vm,vl,vf]] H u H'∧((∀ Hz,aLen V.E Hz 43 u=some (.int .i64 (For.threads p).length))∧Fr H H'):=by
 refine Lc.ref07_Threads (hO _ _ _ (by decide)) ?_
 unfold P_ref07_Threads
 have hsf:=hs.funs
 apply zSeq
 apply zReg
 refine zBox rfl (fun _=>rfl) fun H1 f1 b1 n1=>?_
 have b1':Bx H1 H.next 74 [vm,vl,vf]:=b1
 clear b1
 have hlen1:=fun Hz=>hp.f.len (V:=V) (H2:=Hz) E_s_api_Fun
 let T:Nat→List Int:=fun k=>((List.range k).filter fun n=>match p.funs[n]? with|some f=>f.thread|none=>false).map fun n:Nat=>(n:Int)
 have T0:T 0=[]:=rfl
 have TL:(T p.funs.length).length=(For.threads p).length:=by simp only[T,List.length_map];rfl
 have Tle:∀ k,(T k).length≤k:=fun k=>by
  simp only[T,List.length_map]
  exact Nat.le_trans (List.length_filter_le _ _) (by simp)
 have TS:∀ k (h:k<p.funs.length),T (k+1)=T k++if p.funs[k].thread=true then [(k:Int)] else []:=fun k h=>by
  simp only[T]
  rw[List.range_succ,List.filter_append,List.map_append]
  congr 1
  rw[List.filter_cons,List.filter_nil,List.getElem?_eq_getElem h]
  simp only
  split<;>rfl
 generalize T=T at *
 repeat first|apply zSeq|apply zReg|apply zBlk|refine wN ?_|refine wA ?_
 refine WP.loopH (σ:=Nat×Value×Option (Nat×Nat)) (fun x=>[(1,.pointer (some ⟨H.next,0,none⟩)),(3,x.2.1),(4,.int .i64 x.1)]) (fun x Hc=>Fr H1 Hc∧OwI 3 Hc H1.next x.2.1 (T x.1) x.2.2∧x.1≤p.funs.length) (fun x=>p.funs.length-x.1) (0,.slice none 0 0,none) ⟨.refl _,by simp only;rw[T0];exact .nil,Nat.zero_le _⟩ ⟨rfl,rfl,rfl,trivial⟩ ?_
 rintro⟨k,bv,o⟩ Hc ⟨hfr,how,hk⟩
 simp only at hfr how hk ⊢
 have b1c:=b1'.fr hfr
 rcases Nat.lt_or_ge k p.funs.length with h|h
 case inr=>
  have g1:decide ((k:Int)<p.funs.length)=false:=dF
  obtain rfl:k=p.funs.length:=by omega
  repeat first|apply zSeq|apply zReg|apply zExt|refine wN ?_|refine wG ?_|refine wL ?_|refine wE ?_|refine wD O_Prog_Funs ?_|refine wB E_s_api_Fun ?_|refine wK (hlen1 _) ?_
  refine WP.ret ⟨.inr rfl,_,rfl,fun Hz=>?_,f1.trans hfr⟩
  have:=how.sl.sr.len (V:=V) (H2:=Hz) E_s_int
  rw[TL] at this
  exact this
 have g1:decide ((k:Int)<p.funs.length)=true:=dT
 obtain⟨b,off,cs,ha1,hrd,vc,rfl,hcode⟩:=(hp.f.fr FunR.m (f1.trans hfr)).at E_s_api_Fun E_Fun te_Fun_size (kd:=.i64) h
 have hl1:=(hrd.at1 (i:=1) rfl).load1 (V:=V) E_bool rfl
 have hTS:=TS k h
 have hTl:=Tle k
 have hn:=hfr.1
 cases t1:p.funs[k].thread
 ·rw[t1] at hTS hl1
  repeat first|apply zSeq|apply zReg|apply zBlk|apply zSkp|refine wN ?_|refine wG ?_|refine wL ?_|refine wS ?_|refine wf ?_|refine wT ?_|refine wD O_Fun_Thread ?_|refine wD O_Prog_Funs ?_|refine wB E_s_api_Fun ?_|refine wI ?_|refine wY ?_|refine wK (hlen1 _) ?_
  exact⟨(k+1,bv,o),⟨hfr,by rw[hTS];simp only[Bool.false_eq_true,if_false,List.append_nil];exact how,h⟩,by simp only;omega,rfl,rfl,rfl,trivial⟩
 ·rw[t1] at hTS hl1
  obtain⟨bv',H6,o',k1,k2,k3,k4⟩:=how.app1 (V:=V) (k:Int) (by omega) (by omega) E_s_int E_s_int E_int (by decide)
  have hyo:=how.young
  repeat first|apply zSeq|apply zReg|apply zBlk|apply zSkp|refine wN ?_|refine wG ?_|refine wL ?_|refine wt ?_|refine wT ?_|refine wD O_Fun_Thread ?_|refine wD O_Prog_Funs ?_|refine wB E_s_api_Fun ?_|refine wI ?_|refine wY ?_|refine wK (hlen1 _) ?_
  refine WL.op (op_buildSlice rfl E_s_int E_int (by decide) fill_int) ?_
  refine WL.op (k1 rfl rfl) ?_
  repeat first|apply zReg|refine wN ?_|refine wG ?_|refine wS ?_
  exact⟨(k+1,bv',o'),⟨hfr.young k3 hyo.1 hyo.2.1,by rw[hTS];simp only[if_true];exact k2,h⟩,by simp only;omega,rfl,rfl,rfl,trivial⟩
end
end Go.Proofs.YtjiibfgopanbgaaGreatDoor.U
namespace Go.For
open Go.Ev
variable {mg:Prog→Fun→Ins→Bool}{p:Prog}
theorem mayP_mem {m:Mem} (h:m∈p.mems) (hb:memOk m=false):mayP mg p=false:=by
 have:p.mems.any (fun m=>!memOk m)=true:=List.any_eq_true.2 ⟨m,h,by rw[hb];rfl⟩
 unfold mayP;rw[this];simp
theorem mayP_fun {f:Fun} (h:f∈p.funs) (hb:mayFun mg p f=false):mayP mg p=false:=by
 have:p.funs.all (mayFun mg p)=false:=by rw[List.all_eq_false];exact⟨f,h,by rw[hb];decide⟩
 unfold mayP;rw[this,Bool.and_false]
theorem mayP_named (hb:named p=false):mayP mg p=false:=by unfold mayP;rw[hb];rfl
theorem mayP_len (h:256<(namesOf p).length):mayP mg p=false:=mayP_named (by unfold named;rw[dF];rfl)
theorem mayP_name {s:ByteArray} (h:s∈namesOf p) (hb:nameB s=false):mayP mg p=false:=mayP_named (by
 unfold named
 have:(namesOf p).all nameB=false:=by rw[List.all_eq_false];exact⟨s,h,by rw[hb];decide⟩
 rw[this];simp)
theorem mayP_dup (h:¬ (bL (namesOf p)).Nodup):mayP mg p=false:=mayP_named (by unfold named;rw[decide_eq_false h];simp)
theorem mayP_thr (h:decide (((threads p).length:Int)>16)=true):mayP mg p=false:=by unfold mayP;rw[h];simp
theorem mayP_true (h1:∀ m∈p.mems,memOk m=true) (h2:∀ f∈p.funs,mayFun mg p f=true) (h3:(namesOf p).length≤256) (h4:∀ s∈namesOf p,nameB s=true) (h5:(bL (namesOf p)).Nodup) (h6:decide (((threads p).length:Int)>16)=false):mayP mg p=true:=by
 have e1:p.mems.any (fun m=>!memOk m)=false:=by rw[List.any_eq_false];intro m hm;rw[h1 m hm];decide
 have e2:p.funs.all (mayFun mg p)=true:=List.all_eq_true.2 h2
 have e3:(namesOf p).all nameB=true:=List.all_eq_true.2 h4
 unfold mayP named
 rw[e1,e2,e3,h6,decide_eq_true h3,decide_eq_true h5];rfl
theorem nodup_of {l:List ByteArray} (h:∀ i (hi:i<l.length) k (hk:k<i),(l[k].data.toList==l[i].data.toList)=false):(bL l).Nodup:=by
 rw[List.nodup_iff_pairwise_ne,List.pairwise_iff_getElem]
 intro a b ha hb hab
 rw[bL_length] at ha hb
 have:=h b hb a hab
 simp only[bL,List.getElem_map]
 exact beq_eq_false_iff_ne.1 this
theorem dup_of {l:List ByteArray}{i k:Nat} (hi:i<l.length) (hk:k<i) (h:(l[k].data.toList==l[i].data.toList)=true):¬ (bL l).Nodup:=fun hn=>by
 rw[List.nodup_iff_pairwise_ne,List.pairwise_iff_getElem] at hn
 have:=hn k i (by rw[bL_length];omega) (by rw[bL_length];omega) hk
 simp only[bL,List.getElem_map] at this
 exact this (by simpa using h)
end Go.For
namespace Go.Proofs.YtjiibfgopanbgaaGreatDoor.U
open Go Go.Ev
section
attribute [local irreducible] WL WP WH W
attribute [local irreducible] V
variable {O:Orc}{H:AH}
theorem PrR.gr {A B:Av}{H:AH}{vm vl vf:Value}{p:Prog} (h:PrR A H vm vl vf p) (k:A.Gr B H.next):PrR B H vm vl vf p:=⟨h.m.gr MemR.m k,h.l.gr StrR.m k,h.f.gr FunR.m k⟩
set_option maxHeartbeats 16000000 in
theorem rMayP_c (hO:NoO O) {A:Av}{p:Prog}{vm vl vf:Value} (hp:PrR A H vm vl vf p) (hs:SmallP p) (hsf:∀ f∈p.funs,SmallF f) :
 ∃ u H',Lc V O F_ref07_May [.agg #[vm,vl,vf]] H u H'∧(u=.bool (For.mayP mayG p)∧Fr H H'):=by
 refine Lc.ref07_May (hO _ _ _ (by decide)) ?_
 unfold P_ref07_May
 have hsm:=hs.mems
 have hsl:=hs.locks
 have hsn:=hs.funs
 apply zSeq
 apply zReg
 refine zBox rfl (fun _=>rfl) fun H1 f1 b1 n1=>?_
 have b1':Bx H1 H.next 74 [vm,vl,vf]:=b1
 clear b1
 repeat first|refine wN ?_|refine wA ?_
 apply zSeq
 repeat first|apply zReg|refine wN ?_|refine wA ?_
 refine WP.seqS (σ:=Value×Option (Nat×Nat)) (fun x=>[(1,.pointer (some ⟨H.next,0,none⟩)),(3,x.1)]) (fun x Hc=>Fr H1 Hc∧OwR 9 1 StrR .no Hc H1.next x.1 (p.mems.map Mem.name) x.2∧∀ m∈p.mems,For.memOk m=true) ?_ ?_
 ·have hlen1:=fun Hz=>hp.m.len (V:=V) (H2:=Hz) E_s_api_Mem
  repeat first|apply zSeq|apply zReg|apply zBlk|refine wN ?_|refine wA ?_
  refine WP.loopH (σ:=Nat×Value×Option (Nat×Nat)) (fun x=>[(1,.pointer (some ⟨H.next,0,none⟩)),(3,x.2.1),(4,.int .i64 x.1)]) (fun x Hc=>Fr H1 Hc∧OwR 9 1 StrR .no Hc H1.next x.2.1 ((p.mems.take x.1).map Mem.name) x.2.2∧x.1≤p.mems.length∧∀ j (h:j<p.mems.length),j<x.1→For.memOk p.mems[j]=true) (fun x=>p.mems.length-x.1) (0,.slice none 0 0,none) ⟨.refl _,.nil,Nat.zero_le _,fun j _ h=>absurd h (by simp)⟩ ⟨rfl,rfl,rfl,trivial⟩ ?_
  rintro⟨k,bv,o⟩ Hc ⟨hfr,how,hk,hpre⟩
  simp only at hfr how hk hpre ⊢
  have b1c:=b1'.fr hfr
  rcases Nat.lt_or_ge k p.mems.length with h|h
  case inr =>
   have g1:decide ((k:Int)<p.mems.length)=false:=dF
   rw[List.take_of_length_le h] at how
   repeat first|apply zSeq|apply zReg|apply zExt|refine wN ?_|refine wG ?_|refine wL ?_|refine wE ?_|refine wD O_Prog_Mems ?_|refine wB E_s_api_Mem ?_|refine wK (hlen1 _) ?_
   refine⟨(bv,o),⟨hfr,how,fun m hm=>?_⟩,rfl,rfl,trivial⟩
   obtain⟨j,hj,rfl⟩:=List.mem_iff_getElem.1 hm
   exact hpre j hj (by omega)
  have g1:decide ((k:Int)<p.mems.length)=true:=dT
  obtain⟨b,off,cs,ha1,hrd,hR⟩:=(hp.m.fr MemR.m (f1.trans hfr)).at E_s_api_Mem E_Mem te_Mem_size (kd:=.i64) h
  have hR:cs=[.string p.mems[k].name,.int .i64 p.mems[k].size,.int .i64 p.mems[k].first]:=hR
  subst hR
  have hl1:=(hrd.at1 (i:=1) rfl).load1 (V:=V) E_int rfl
  have hl2:=(hrd.at1 (i:=0) rfl).load1 (V:=V) E_string rfl
  have hn:=hfr.1
  cases d1:decide (p.mems[k].size<1)
  case true =>
   repeat first|apply zSeq|apply zReg|apply zBlk|apply zSkp|refine wN ?_|refine wG ?_|refine wF ?_|refine wA ?_|refine wP ?_|refine wL ?_|refine wt ?_|refine wT ?_|refine wD O_Mem_Size ?_|refine wD O_Prog_Mems ?_|refine wB E_s_api_Mem ?_|refine wI ?_|refine wY ?_|refine wK (hlen1 _) ?_
   exact WP.ret ⟨.inr rfl,_,rfl,by rw[For.mayP_mem (List.getElem_mem h) (by unfold For.memOk;rw[d1];rfl)];rfl,f1.trans hfr⟩
  cases d2:decide (p.mems[k].size>1024)
  case true =>
   repeat first|apply zSeq|apply zReg|apply zBlk|apply zSkp|refine wN ?_|refine wG ?_|refine wO ?_|refine wM ?_|refine wA ?_|refine wR ?_|refine wL ?_|refine wV ?_|refine wT ?_|refine wD O_Mem_Size ?_|refine wD O_Prog_Mems ?_|refine wB E_s_api_Mem ?_|refine wI ?_|refine wY ?_|refine wK (hlen1 _) ?_
   exact WP.ret ⟨.inr rfl,_,rfl,by rw[For.mayP_mem (List.getElem_mem h) (by unfold For.memOk;rw[d1,d2];rfl)];rfl,f1.trans hfr⟩
  obtain⟨bv',H4,o',k1,k2,k3,k4,k5⟩:=how.app1 (V:=V) (x:=p.mems[k].name) (cx:=[.string p.mems[k].name]) StrR.m .no rfl StrR.one (by decide) (bytes:=16) (by rw[List.length_map,List.length_take];omega) (by rw[List.length_map,List.length_take];omega) (by omega) E_s_string E_s_string E_string rfl rfl
  have hyo:=how.young
  repeat first|apply zSeq|apply zReg|apply zBlk|apply zSkp|refine wN ?_|refine wG ?_|refine wO ?_|refine wM ?_|refine wR ?_|refine wL ?_|refine wV ?_|refine wT ?_|refine wE ?_|refine wD O_Mem_Name ?_|refine wD O_Mem_Size ?_|refine wD O_Prog_Mems ?_|refine wB E_s_api_Mem ?_|refine wI ?_|refine wY ?_|refine wK (hlen1 _) ?_
  refine WL.op (op_buildSlice rfl E_s_string E_string (by decide) fillStr) ?_
  refine WL.op (k1 rfl rfl) ?_
  repeat first|apply zReg|refine wN ?_|refine wG ?_|refine wS ?_
  refine⟨(k+1,bv',o'),⟨hfr.young k3 hyo.1 hyo.2.1,by rw[List.take_succ_eq_append_getElem h,List.map_append];exact k2,h,fun j hj hjk=>?_⟩,by simp only;omega,rfl,rfl,rfl,trivial⟩
  by_cases e:j=k
  ·subst e;unfold For.memOk;rw[d1,d2];rfl
  ·exact hpre j hj (by simp only at hjk;omega)
 rintro⟨bv,o⟩ H2 ⟨f2,how,hmem⟩
 simp only at f2 how ⊢
 have hyo:=how.young
 have hn2:=f2.1
 have f02:=f1.trans f2
 have b2':=b1'.fr f2
 have hl2:Els 1 StrR (Av.no.and (.of o)) H2 vl p.locks:=(hp.l.gr StrR.m (B:=Av.no.and (.of o)) ⟨fun b hb=>.inr (by simp[Av.and,Av.no,Av.of] at hb;have:=hyo.1 b hb;omega),fun b hb=>.inr (by simp[Av.and,Av.no,Av.of] at hb;have:=hyo.2.1 b hb;omega)⟩).fr StrR.m f02
 obtain⟨bv',H3,o',k1,k2,k3,k4⟩:=how.app (V:=V) StrR.m hl2 (fun hr=>(StrR.one hr).1) (by decide) (bytes:=16) (by rw[List.length_map];omega) (by rw[List.length_map];omega) (by omega) E_s_string E_s_string E_string rfl rfl
 have f13:Fr H1 H3:=f2.young k3 (fun b hb=>by have:=hyo.1 b hb;omega) (fun b hb=>by have:=hyo.2.1 b hb;omega)
 clear k3 k4 how hyo hl2
 repeat first|apply zSeq|apply zReg|refine wG ?_|refine wD O_Prog_Locks ?_|refine wB E_s_string ?_
 refine WL.op (k1 rfl rfl) ?_
 clear k1
 repeat first|refine wN ?_
 refine WP.seqS (σ:=Value×Option (Nat×Nat)) (fun x=>[(1,.pointer (some ⟨H.next,0,none⟩)),(3,x.1)]) (fun x Hc=>Fr H1 Hc∧OwR 9 1 StrR .no Hc H1.next x.1 (For.namesOf p) x.2∧∀ f∈p.funs,For.mayFun mayG p f=true) ?_ ?_
 ·have hlen1:=fun Hz=>hp.f.len (V:=V) (H2:=Hz) E_s_api_Fun
  repeat first|apply zSeq|apply zReg|apply zBlk|refine wN ?_|refine wA ?_
  refine WP.loopH (σ:=Nat×Value×Option (Nat×Nat)) (fun x=>[(1,.pointer (some ⟨H.next,0,none⟩)),(3,x.2.1),(5,.int .i64 x.1)]) (fun x Hc=>Fr H1 Hc∧OwR 9 1 StrR .no Hc H1.next x.2.1 (p.mems.map Mem.name++p.locks++(p.funs.take x.1).map Fun.name) x.2.2∧x.1≤p.funs.length∧∀ j (h:j<p.funs.length),j<x.1→For.mayFun mayG p p.funs[j]=true) (fun x=>p.funs.length-x.1) (0,bv',o') ⟨f13,by rw[List.take_zero,List.map_nil,List.append_nil];exact k2,Nat.zero_le _,fun j _ h=>absurd h (by simp)⟩ ⟨rfl,rfl,rfl,trivial⟩ ?_
  clear k2 f13 bv' o' b2' f02 hn2 f2
  rintro⟨k,bv,o⟩ Hc ⟨hfr,how,hk,hpre⟩
  simp only at hfr how hk hpre ⊢
  have b1c:=b1'.fr hfr
  rcases Nat.lt_or_ge k p.funs.length with h|h
  case inr =>
   have g1:decide ((k:Int)<p.funs.length)=false:=dF
   rw[List.take_of_length_le h] at how
   repeat first|apply zSeq|apply zReg|apply zExt|refine wN ?_|refine wG ?_|refine wL ?_|refine wE ?_|refine wD O_Prog_Funs ?_|refine wB E_s_api_Fun ?_|refine wK (hlen1 _) ?_
   refine⟨(bv,o),⟨hfr,how,fun m hm=>?_⟩,rfl,rfl,trivial⟩
   obtain⟨j,hj,rfl⟩:=List.mem_iff_getElem.1 hm
   exact hpre j hj (by omega)
  have g1:decide ((k:Int)<p.funs.length)=true:=dT
  have hyo:=how.young
  have hpo:PrR (.of o) H vm vl vf p:=hp.gr ⟨fun b hb=>.inr (by have:=hyo.1 b hb;have:=f1.1;omega),fun b hb=>.inr (by have:=hyo.2.1 b hb;have:=f1.1;omega)⟩
  have hpc:=hpo.fr (f1.trans hfr)
  obtain⟨b,off,cs,ha1,hrd,vc,rfl,hcode⟩:=hpc.f.at E_s_api_Fun E_Fun te_Fun_size (kd:=.i64) h
  have hl1:=hrd.loadN (V:=V) E_Fun te_Fun_agg te_Fun_size
  have hv1:=hcode.oneCell
  have hsfk:=hsf p.funs[k] (List.getElem_mem _)
  have hmemk:=List.getElem_mem h
  have hpush:∀ (hok:For.mayFun mayG p p.funs[k]=true) j (hj:j<p.funs.length),j<k+1→For.mayFun mayG p p.funs[j]=true:=fun hok j hj hjk=>by
   by_cases e:j=k
   ·subst e;exact hok
   ·exact hpre j hj (by omega)
  repeat first|apply zSeq|apply zReg|apply zBlk|apply zSkp|refine wN ?_|refine wG ?_|refine wL ?_|refine wT ?_|refine wD O_Prog_Funs ?_|refine wB E_s_api_Fun ?_|refine wI ?_|refine wY ?_|refine wK (hlen1 _) ?_
  refine zAlc E_Fun zeroFun fun H4 f4 b4 n4=>?_
  refine zStB b4 rfl rfl E_Fun (by rw[te_Fun_size];rfl) (by simp[Value.cells,Fun.cells,Value.oneCell'] at hv1 ⊢;exact hv1) (by simp[Value.cells,Fun.cells]) (by simp[Value.cells,Fun.cells]) fun H5 f5 b5 n5=>?_
  have b5':Bx H5 Hc.next 78 [.string p.funs[k].name,.bool p.funs[k].thread,.int .i64 p.funs[k].params,.int .i64 p.funs[k].regs,vc]:=b5
  have f45:Fr Hc H5:=f4.young f5 (by simp) (by simp)
  have how5:=how.fr StrR.m f45
  have hn:=hfr.1
  have hn5:=f45.1
  obtain⟨bv',H6,o',k1,k2,k3,k4,k5⟩:=how5.app1 (V:=V) (x:=p.funs[k].name) (cx:=[.string p.funs[k].name]) StrR.m .no rfl StrR.one (by decide) (bytes:=16) (by simp;omega) (by simp;omega) (by omega) E_s_string E_s_string E_string rfl rfl
  have b6':=b5'.frX k3 (fun hb=>by have:=hyo.2.2.1 _ hb;omega)
  have f16:Fr H1 H6:=(hfr.trans f45).young k3 hyo.1 hyo.2.1
  have f0x:=f1.trans f16
  have b16:=b1'.fr f16
  have hp6:=hp.fr f0x
  have hc6:Els 6 InsR (.of o) H6 vc p.funs[k].code:=(hcode.fr InsR.m f45).frX InsR.m k3
  have how7:OwR 9 1 StrR .no H6 H1.next bv' (p.mems.map Mem.name++p.locks++(p.funs.take (k+1)).map Fun.name) o':=by rw[List.take_succ_eq_append_getElem h,List.map_append,←List.append_assoc];exact k2
  have bad0:For.mayFun mayG p p.funs[k]=false→For.mayP mayG p=false:=For.mayP_fun hmemk
  repeat first|apply zSeq|apply zReg|refine wN ?_|refine wG ?_|refine wD O_Fun_Name ?_|refine wB E_string ?_
  refine WL.op (op_buildSlice rfl E_s_string E_string (by decide) fillStr) ?_
  refine WL.op (k1 rfl rfl) ?_
  clear k1 ha1 hl1 b1c b5 b5' how how5 k2 k3 k4 k5 hrd hpc hpo hcode
  generalize p.funs[k]=f at *
  have hlenc:=fun Hz=>hc6.len (V:=V) (H2:=Hz) E_s_api_Ins
  repeat first|refine wN ?_
  have bad:For.oddF f=true→For.mayP mayG p=false:=fun h=>bad0 (by unfold For.mayFun;rw[h];rfl)
  refine WP.seqS (σ:=Unit) (fun _=>[(1,.pointer (some ⟨H.next,0,none⟩)),(3,bv'),(5,.int .i64 k),(6,.pointer (some ⟨Hc.next,0,none⟩))]) (fun _ Hd=>Hd=H6∧For.oddF f=false) ?_ ?_
  ·have hlen2:=hlenc
   cases d1:decide (f.params<0)
   case true =>
    have e:=bad (by unfold For.oddF;rw[d1];rfl)
    repeat first|apply zSeq|apply zReg|refine wN ?_|refine wx ?_|refine zU rfl ?_|refine wF ?_|refine wA ?_|refine wp ?_|refine wP ?_|refine wL ?_|refine wt ?_|refine wD O_Fun_Params ?_|refine wB E_int ?_
    exact WP.ret ⟨.inr rfl,_,rfl,by rw[e];rfl,f0x⟩
   cases d2:decide (f.params>8)
   case true =>
    have e:=bad (by unfold For.oddF;rw[d1,d2];rfl)
    repeat first|apply zSeq|apply zReg|refine wN ?_|refine wx ?_|refine zU rfl ?_|refine wO ?_|refine wF ?_|refine wA ?_|refine wp ?_|refine wP ?_|refine wR ?_|refine wL ?_|refine wV ?_|refine wt ?_|refine wD O_Fun_Params ?_|refine wB E_int ?_
    exact WP.ret ⟨.inr rfl,_,rfl,by rw[e];rfl,f0x⟩
   have rest:∀ (c3:(f.thread&&decide (f.params>0))=false),For.oddF f=(decide (f.regs<f.params)||(decide (f.regs>4096)||(decide ((f.code.length:Int)<1)||decide ((f.code.length:Int)>16384)))):=fun c3=>by
    unfold For.oddF;rw[d1,d2,c3];rfl
   cases t1:f.thread
   ·have rest:=rest (by rw[t1];rfl)
    refine byTF (decide (f.regs<f.params)) (fun d4=>by (have e:=bad (by rw[rest,d4];rfl);(repeat first|apply zSeq|apply zReg|refine wN ?_|refine wo ?_|refine wx ?_|refine wO ?_|refine wF ?_|refine wM ?_|refine wA ?_|refine wp ?_|refine wq ?_|refine wP ?_|refine wR ?_|refine wL ?_|refine wV ?_|refine wt ?_|refine wD O_Fun_Thread ?_|refine wD O_Fun_Params ?_|refine wD O_Fun_Regs ?_|refine wB E_int ?_|refine wB E_bool ?_);exact WP.ret ⟨.inr rfl,_,rfl,by rw[e];rfl,f0x⟩)) (fun d4=>?_);refine byTF (decide (f.regs>4096)) (fun d5=>by (have e:=bad (by rw[rest,d4,d5];rfl);(repeat first|apply zSeq|apply zReg|refine wN ?_|refine wo ?_|refine wx ?_|refine wO ?_|refine wF ?_|refine wM ?_|refine wA ?_|refine wp ?_|refine wq ?_|refine wP ?_|refine wR ?_|refine wL ?_|refine wV ?_|refine wt ?_|refine wD O_Fun_Thread ?_|refine wD O_Fun_Params ?_|refine wD O_Fun_Regs ?_|refine wB E_int ?_|refine wB E_bool ?_);exact WP.ret ⟨.inr rfl,_,rfl,by rw[e];rfl,f0x⟩)) (fun d5=>?_);refine byTF (decide ((f.code.length:Int)<1)) (fun d6=>by (have e:=bad (by rw[rest,d4,d5,d6];rfl);(repeat first|apply zSeq|apply zReg|refine wN ?_|refine wo ?_|refine wO ?_|refine wF ?_|refine wM ?_|refine wA ?_|refine wq ?_|refine wP ?_|refine wR ?_|refine wL ?_|refine wV ?_|refine wt ?_|refine wD O_Fun_Thread ?_|refine wD O_Fun_Params ?_|refine wD O_Fun_Regs ?_|refine wD O_Fun_Code ?_|refine wB E_int ?_|refine wB E_bool ?_|refine wB E_s_api_Ins ?_|refine wK (hlen2 _) ?_);exact WP.ret ⟨.inr rfl,_,rfl,by rw[e];rfl,f0x⟩)) (fun d6=>?_);refine byTF (decide ((f.code.length:Int)>16384)) (fun d7=>by (have e:=bad (by rw[rest,d4,d5,d6,d7];rfl);(repeat first|apply zSeq|apply zReg|refine wN ?_|refine wo ?_|refine wO ?_|refine wF ?_|refine wM ?_|refine wA ?_|refine wq ?_|refine wR ?_|refine wL ?_|refine wV ?_|refine wT ?_|refine wD O_Fun_Thread ?_|refine wD O_Fun_Params ?_|refine wD O_Fun_Regs ?_|refine wD O_Fun_Code ?_|refine wB E_int ?_|refine wB E_bool ?_|refine wB E_s_api_Ins ?_|refine wK (hlen2 _) ?_);exact WP.ret ⟨.inr rfl,_,rfl,by rw[e];rfl,f0x⟩)) (fun d7=>?_);((repeat first|apply zSeq|apply zReg|apply zSkp|refine wN ?_|refine wo ?_|refine wO ?_|refine wF ?_|refine wM ?_|refine wq ?_|refine wR ?_|refine wL ?_|refine wV ?_|refine wE ?_|refine wD O_Fun_Thread ?_|refine wD O_Fun_Params ?_|refine wD O_Fun_Regs ?_|refine wD O_Fun_Code ?_|refine wB E_int ?_|refine wB E_bool ?_|refine wB E_s_api_Ins ?_|refine wK (hlen2 _) ?_);exact⟨(),⟨rfl,by rw[rest,d4,d5,d6,d7];rfl⟩,rfl,rfl,rfl,rfl,trivial⟩)
   ·cases t2:f.params != 0
    ·have t2':decide (f.params>0)=false:=decide_eq_false (by have:f.params=0:=(by simpa using t2);omega)
     have rest:=rest (by rw[t2',Bool.and_false])
     refine byTF (decide (f.regs<f.params)) (fun d4=>by (have e:=bad (by rw[rest,d4];rfl);(repeat first|apply zSeq|apply zReg|refine wN ?_|refine wx ?_|refine wO ?_|refine wF ?_|refine wM ?_|refine wA ?_|refine wp ?_|refine wP ?_|refine wR ?_|refine wL ?_|refine wV ?_|refine wU ?_|refine wt ?_|refine wD O_Fun_Thread ?_|refine wD O_Fun_Params ?_|refine wD O_Fun_Regs ?_|refine wB E_int ?_|refine wB E_bool ?_);exact WP.ret ⟨.inr rfl,_,rfl,by rw[e];rfl,f0x⟩)) (fun d4=>?_);refine byTF (decide (f.regs>4096)) (fun d5=>by (have e:=bad (by rw[rest,d4,d5];rfl);(repeat first|apply zSeq|apply zReg|refine wN ?_|refine wx ?_|refine wO ?_|refine wF ?_|refine wM ?_|refine wA ?_|refine wp ?_|refine wP ?_|refine wR ?_|refine wL ?_|refine wV ?_|refine wU ?_|refine wt ?_|refine wD O_Fun_Thread ?_|refine wD O_Fun_Params ?_|refine wD O_Fun_Regs ?_|refine wB E_int ?_|refine wB E_bool ?_);exact WP.ret ⟨.inr rfl,_,rfl,by rw[e];rfl,f0x⟩)) (fun d5=>?_);refine byTF (decide ((f.code.length:Int)<1)) (fun d6=>by (have e:=bad (by rw[rest,d4,d5,d6];rfl);(repeat first|apply zSeq|apply zReg|refine wN ?_|refine wO ?_|refine wF ?_|refine wM ?_|refine wA ?_|refine wP ?_|refine wR ?_|refine wL ?_|refine wV ?_|refine wU ?_|refine wt ?_|refine wD O_Fun_Thread ?_|refine wD O_Fun_Params ?_|refine wD O_Fun_Regs ?_|refine wD O_Fun_Code ?_|refine wB E_int ?_|refine wB E_bool ?_|refine wB E_s_api_Ins ?_|refine wK (hlen2 _) ?_);exact WP.ret ⟨.inr rfl,_,rfl,by rw[e];rfl,f0x⟩)) (fun d6=>?_);refine byTF (decide ((f.code.length:Int)>16384)) (fun d7=>by (have e:=bad (by rw[rest,d4,d5,d6,d7];rfl);(repeat first|apply zSeq|apply zReg|refine wN ?_|refine wO ?_|refine wM ?_|refine wA ?_|refine wP ?_|refine wR ?_|refine wL ?_|refine wV ?_|refine wU ?_|refine wT ?_|refine wD O_Fun_Thread ?_|refine wD O_Fun_Params ?_|refine wD O_Fun_Regs ?_|refine wD O_Fun_Code ?_|refine wB E_int ?_|refine wB E_bool ?_|refine wB E_s_api_Ins ?_|refine wK (hlen2 _) ?_);exact WP.ret ⟨.inr rfl,_,rfl,by rw[e];rfl,f0x⟩)) (fun d7=>?_);((repeat first|apply zSeq|apply zReg|apply zSkp|refine wN ?_|refine wO ?_|refine wM ?_|refine wP ?_|refine wR ?_|refine wL ?_|refine wV ?_|refine wU ?_|refine wE ?_|refine wD O_Fun_Thread ?_|refine wD O_Fun_Params ?_|refine wD O_Fun_Regs ?_|refine wD O_Fun_Code ?_|refine wB E_int ?_|refine wB E_bool ?_|refine wB E_s_api_Ins ?_|refine wK (hlen2 _) ?_);exact⟨(),⟨rfl,by rw[rest,d4,d5,d6,d7];rfl⟩,rfl,rfl,rfl,rfl,trivial⟩)
    ·have t2':decide (f.params>0)=true:=decide_eq_true (by have h1:¬ f.params=0:=by simpa using t2
                                                           have:=of_decide_eq_false d1
                                                           omega)
     have e:=bad (by unfold For.oddF;rw[d1,d2,t1,t2'];rfl)
     repeat first|apply zSeq|apply zReg|refine wN ?_|refine wx ?_|refine wO ?_|refine wF ?_|refine wM ?_|refine wA ?_|refine wp ?_|refine wP ?_|refine wR ?_|refine wL ?_|refine wV ?_|refine wU ?_|refine wt ?_|refine wD O_Fun_Thread ?_|refine wD O_Fun_Params ?_|refine wB E_int ?_|refine wB E_bool ?_
     exact WP.ret ⟨.inr rfl,_,rfl,by rw[e];rfl,f0x⟩
  rintro _ Hd ⟨e,hodd⟩
  subst e
  have hpos:0<f.code.length:=by
   unfold For.oddF at hodd
   simp only[Bool.or_eq_false_iff] at hodd
   have:=of_decide_eq_false hodd.2.2.2.2.2.1
   omega
  obtain⟨b,off,cs,ha1,hrd,va,rfl,hva⟩:=hc6.at E_s_api_Ins E_Ins te_Ins_size (kd:=.i64) (i:=f.code.length-1) (by omega)
  rw[show ((f.code.length-1:Nat):Int)=(f.code.length:Int)-1 by omega] at ha1
  have hl1:=(hrd.at1 (i:=0) rfl).load1 (V:=V) E_uint8 rfl
  have hlo:For.lastOp f=(f.code[f.code.length-1]'(by omega)).op:=by
   unfold For.lastOp
   rw[List.getLast?_eq_getElem?,List.getElem?_eq_getElem (by omega)]
  have hmf:For.mayFun mayG p f=(!((f.code[f.code.length-1]'(by omega)).op != 11&&(f.code[f.code.length-1]'(by omega)).op != 13)&&f.code.all (mayG p f)):=by
   unfold For.mayFun;rw[hodd,hlo];rfl
  generalize (f.code[f.code.length-1]'(by omega)).op=lo at *
  have hsc:=hsfk.code
  have hlen2:=hlenc
  refine byTF (lo != 11&&lo != 13) (fun c1=>?_) (fun c1=>?_)
  ·have c2:(lo != 11)=true:=by cases h:lo != 11<;>simp_all
   have c3:(lo != 13)=true:=by cases h:lo != 13<;>simp_all
   repeat first|apply zSeq|apply zReg|refine wN ?_|refine wG ?_|refine wO ?_|refine wM ?_|refine wA ?_|refine wP ?_|refine wU ?_|refine zSub rfl rfl (by omega) ?_|refine wT ?_|refine wD O_Ins_Op ?_|refine wD O_Fun_Code ?_|refine wB E_s_api_Ins ?_|refine wI ?_|refine wY ?_|refine wK (hlen2 _) ?_
   exact WP.ret ⟨.inr rfl,_,rfl,by rw[bad0 (by rw[hmf,c1];rfl)];rfl,f0x⟩
  have hmf:For.mayFun mayG p f=f.code.all (mayG p f):=by rw[hmf,c1];rfl
  refine WP.seqS (σ:=Unit) (fun _=>[(1,.pointer (some ⟨H.next,0,none⟩)),(3,bv'),(5,.int .i64 k),(6,.pointer (some ⟨Hc.next,0,none⟩)),(7,.int .u8 lo)]) (fun _ He=>He=Hd) ?_ ?_
  ·repeat first|apply zReg|refine wN ?_|refine zSub rfl rfl (by omega) ?_|refine wD O_Ins_Op ?_|refine wD O_Fun_Code ?_|refine wB E_s_api_Ins ?_|refine wI ?_|refine wY ?_|refine wK (hlen2 _) ?_
   exact⟨(),rfl,rfl,rfl,rfl,rfl,rfl,trivial⟩
  rintro _ He e
  subst e
  refine WP.seqS (σ:=Unit) (fun _=>[(1,.pointer (some ⟨H.next,0,none⟩)),(3,bv'),(5,.int .i64 k),(6,.pointer (some ⟨Hc.next,0,none⟩))]) (fun _ Hf=>Hf=He) ?_ ?_
  ·cases c2:lo != 11
   ·repeat first|apply zSeq|apply zReg|apply zSkp|refine wN ?_|refine wG ?_|refine wF ?_|refine wR ?_|refine wU ?_|refine wf ?_
    exact⟨(),rfl,rfl,rfl,rfl,rfl,trivial⟩
   ·have c3:(lo != 13)=false:=by rw[c2] at c1;simpa using c1
    repeat first|apply zSeq|apply zReg|apply zSkp|refine wN ?_|refine wG ?_|refine wO ?_|refine wM ?_|refine wP ?_|refine wU ?_|refine wE ?_
    exact⟨(),rfl,rfl,rfl,rfl,rfl,trivial⟩
  rintro _ Hf e
  subst e
  clear ha1 hl1 hrd
  repeat first|apply zSeq|apply zReg|apply zBlk|refine wN ?_|refine wA ?_
  refine WP.loopH (σ:=Nat) (fun j=>[(1,.pointer (some ⟨H.next,0,none⟩)),(3,bv'),(5,.int .i64 k),(6,.pointer (some ⟨Hc.next,0,none⟩)),(8,.int .i64 j)]) (fun j Hg=>Fr Hf Hg∧j≤f.code.length∧∀ n (h:n<f.code.length),n<j→mayG p f f.code[n]=true) (fun j=>f.code.length-j) 0 ⟨.refl _,Nat.zero_le _,fun n _ h=>absurd h (by omega)⟩ ⟨rfl,rfl,rfl,rfl,rfl,trivial⟩ ?_
  rintro j Hg ⟨ffg,hj,hpj⟩
  have b1g:=b16.fr ffg
  have b6g:=b6'.fr ffg
  rcases Nat.lt_or_ge j f.code.length with h2|h2
  case inr =>
   have g2:decide ((j:Int)<f.code.length)=false:=dF
   have hok:For.mayFun mayG p f=true:=by
    rw[hmf,List.all_eq_true]
    intro x hx
    obtain⟨n,hn,rfl⟩:=List.mem_iff_getElem.1 hx
    exact hpj n hn (by omega)
   repeat first|apply zSeq|apply zReg|apply zExt|refine wN ?_|refine wG ?_|refine wL ?_|refine wS ?_|refine wE ?_|refine wD O_Fun_Code ?_|refine wB E_s_api_Ins ?_|refine wK (hlen2 _) ?_
   exact⟨(k+1,bv',o'),⟨f16.trans ffg,how7.fr StrR.m ffg,h,hpush hok⟩,by simp only;omega,rfl,rfl,rfl,trivial⟩
  have g2:decide ((j:Int)<f.code.length)=true:=dT
  have hcg:=hc6.fr InsR.m ffg
  obtain⟨b,off,cs,ha1,hrd,va,rfl,hva⟩:=hcg.at E_s_api_Ins E_Ins te_Ins_size (kd:=.i64) h2
  have hl1:=hrd.loadN (V:=V) E_Ins te_Ins_agg te_Ins_size
  obtain⟨_,Hh,hch,rfl,fh⟩:=rMayIns_c (H:=Hg) hO (hp6.fr ffg) hcg hva (hsfk.args _ (List.getElem_mem h2)) (hsfk.op _ (List.getElem_mem h2))
  cases c4:mayG p f f.code[j]
  ·rw[c4] at hch
   repeat first|apply zSeq|apply zReg|apply zBlk|apply zSkp|refine wN ?_|refine wG ?_|refine wL ?_|refine wT ?_|refine wD O_Fun_Code ?_|refine wB E_s_api_Ins ?_|refine wK (hlen2 _) ?_
   refine zLd rfl (b1g.lN E_Prog te_Prog_agg te_Prog_size) ?_
   refine zLd rfl (b6g.lN E_Fun te_Fun_agg te_Fun_size) ?_
   repeat first|refine wG ?_|refine wD O_Fun_Code ?_|refine wB E_s_api_Ins ?_|refine wI ?_|refine wY ?_
   refine WL.call rfl rfl fp_ref07_mayIns.is hch ?_
   repeat first|apply zSeq|apply zReg|refine wN ?_|refine wA ?_|refine wZ ?_|refine wt ?_
   refine WP.ret ⟨.inr rfl,_,rfl,?_,(f0x.trans ffg).trans fh⟩
   rw[bad0 (by rw[hmf,List.all_eq_false];exact⟨_,List.getElem_mem h2,by rw[c4];decide⟩)];rfl
  ·rw[c4] at hch
   repeat first|apply zSeq|apply zReg|apply zBlk|apply zSkp|refine wN ?_|refine wG ?_|refine wL ?_|refine wT ?_|refine wD O_Fun_Code ?_|refine wB E_s_api_Ins ?_|refine wK (hlen2 _) ?_
   refine zLd rfl (b1g.lN E_Prog te_Prog_agg te_Prog_size) ?_
   refine zLd rfl (b6g.lN E_Fun te_Fun_agg te_Fun_size) ?_
   repeat first|refine wG ?_|refine wD O_Fun_Code ?_|refine wB E_s_api_Ins ?_|refine wI ?_|refine wY ?_
   refine WL.call rfl rfl fp_ref07_mayIns.is hch ?_
   repeat first|apply zReg|apply zSkp|refine wN ?_|refine wG ?_|refine wS ?_|refine wZ ?_|refine wf ?_
   refine⟨j+1,⟨ffg.trans fh,h2,fun n hn hnj=>?_⟩,by omega,rfl,rfl,rfl,rfl,rfl,trivial⟩
   by_cases e:n=j
   ·subst e;exact c4
   ·exact hpj n hn (by omega)
 clear k2 f13 bv' o' b2' f02 hn2 f2
 rintro⟨bv,o⟩ H4 ⟨f4,how,hfun⟩
 simp only at f4 how ⊢
 have hnl:(For.namesOf p).length≤30000:=by simp[For.namesOf];omega
 have hlenP:256<(For.namesOf p).length→For.mayP mayG p=false:=For.mayP_len
 have hnameP:∀ s,s∈For.namesOf p→For.nameB s=false→For.mayP mayG p=false:=fun s=>For.mayP_name
 have hdupP:¬ (bL (For.namesOf p)).Nodup→For.mayP mayG p=false:=For.mayP_dup
 have htrue:=For.mayP_true (mg:=mayG) hmem hfun
 have hel:=how.els StrR.m (by simp[Av.no]) (by simp[Av.no])
 generalize For.namesOf p=nm at *
 have f04:=f1.trans f4
 have b4':=b1'.fr f4
 obtain⟨vt,H5,hc5,hlt,f5⟩:=rThreads_c (H:=H4) hO (hp.fr f04) hs
 have f05:=f04.trans f5
 have hel5:=hel.fr StrR.m f5
 have hlen1:=fun Hz=>hel.len (V:=V) (H2:=Hz) E_s_string
 refine WP.seqS (σ:=Unit) (fun _=>[(3,bv)]) (fun _ Hx=>Hx=H5∧nm.length≤256∧decide (((For.threads p).length:Int)>16)=false) ?_ ?_
 ·cases c1:decide ((nm.length:Int)>256)
  case true =>
   repeat first|apply zSeq|apply zReg|refine wN ?_|refine wG ?_|refine wF ?_|refine wA ?_|refine wP ?_|refine wV ?_|refine wt ?_|refine wK (hlen1 _) ?_
   exact WP.ret ⟨.inr rfl,_,rfl,by rw[hlenP (by have:=of_decide_eq_true c1;omega)];rfl,f04⟩
  cases c2:decide (((For.threads p).length:Int)>16)
  ·repeat first|apply zSeq|apply zReg|refine wG ?_|refine wO ?_|refine wV ?_|refine wK (hlen1 _) ?_
   refine zLd rfl (b4'.lN E_Prog te_Prog_agg te_Prog_size) ?_
   repeat first|refine wO ?_
   refine WL.call rfl rfl fp_ref07_Threads.is hc5 ?_
   repeat first|refine wO ?_
   refine wK (hlt _) ?_
   repeat first|apply zSkp|refine wN ?_|refine wO ?_|refine wR ?_|refine wV ?_|refine wE ?_
   exact⟨(),⟨rfl,by have:=of_decide_eq_false c1;omega,rfl⟩,rfl,trivial⟩
  ·repeat first|apply zSeq|apply zReg|refine wG ?_|refine wO ?_|refine wV ?_|refine wK (hlen1 _) ?_
   refine zLd rfl (b4'.lN E_Prog te_Prog_agg te_Prog_size) ?_
   repeat first|refine wO ?_
   refine WL.call rfl rfl fp_ref07_Threads.is hc5 ?_
   repeat first|refine wO ?_
   refine wK (hlt _) ?_
   repeat first|apply zSeq|apply zReg|refine wN ?_|refine wO ?_|refine wA ?_|refine wR ?_|refine wV ?_|refine wT ?_
   exact WP.ret ⟨.inr rfl,_,rfl,by rw[For.mayP_thr c2];rfl,f05⟩
 rintro _ Hx ⟨e,h256,hthr⟩
 subst e
 clear hc5 hel how
 repeat first|apply zSeq|apply zReg|apply zBlk|refine wN ?_|refine wA ?_
 refine WP.loopH (σ:=Nat) (fun i=>[(3,bv),(9,.int .i64 i)]) (fun i Hc=>Fr Hx Hc∧i≤nm.length∧∀ j (h:j<nm.length),j<i→For.nameB nm[j]=true∧∀ k (hk:k<j),(nm[k].data.toList==nm[j].data.toList)=false) (fun i=>nm.length-i) 0 ⟨.refl _,Nat.zero_le _,fun j _ h=>absurd h (by omega)⟩ ⟨rfl,rfl,trivial⟩ ?_
 rintro i Hc ⟨fxc,hi,hpi⟩
 have f0c:=f05.trans fxc
 have helc:=hel5.fr StrR.m fxc
 rcases Nat.lt_or_ge i nm.length with h|h
 case inr =>
  have g1:decide ((i:Int)<nm.length)=false:=dF
  have ht:=htrue h256 (fun s hs=>by
   obtain⟨j,hj,rfl⟩:=List.mem_iff_getElem.1 hs
   exact (hpi j hj (by omega)).1) (For.nodup_of fun j hj k hk=>(hpi j hj (by omega)).2 k hk) hthr
  repeat first|apply zSeq|apply zReg|apply zExt|refine wN ?_|refine wG ?_|refine wA ?_|refine wL ?_|refine wE ?_|refine wK (hlen1 _) ?_
  exact WP.ret ⟨.inr rfl,_,rfl,by rw[ht];rfl,f0c⟩
 have g1:decide ((i:Int)<nm.length)=true:=dT
 obtain⟨b,off,cs,ha1,hrd,hR⟩:=helc.at E_s_string E_string rfl (kd:=.i64) h
 have hR:cs=[.string nm[i]]:=hR
 subst hR
 have hl1:=hrd.load1 (V:=V) E_string rfl
 obtain⟨_,Hd,hcd,rfl,fd⟩:=rName_c (H:=Hc) hO nm[i]
 cases c1:For.nameB nm[i]
 ·rw[c1] at hcd
  repeat first|apply zSeq|apply zReg|apply zBlk|apply zSkp|refine wN ?_|refine wG ?_|refine wL ?_|refine wT ?_|refine wI ?_|refine wY ?_|refine wK (hlen1 _) ?_
  refine WL.call rfl rfl fp_ref02_Name.is hcd ?_
  repeat first|apply zSeq|apply zReg|refine wN ?_|refine wA ?_|refine wZ ?_|refine wt ?_
  exact WP.ret ⟨.inr rfl,_,rfl,by rw[hnameP _ (List.getElem_mem h) c1];rfl,f0c.trans fd⟩
 rw[c1] at hcd
 have f0d:=f0c.trans fd
 have held:=helc.fr StrR.m fd
 repeat first|apply zSeq|apply zReg|apply zBlk|apply zSkp|refine wN ?_|refine wG ?_|refine wL ?_|refine wT ?_|refine wI ?_|refine wY ?_|refine wK (hlen1 _) ?_
 refine WL.call rfl rfl fp_ref02_Name.is hcd ?_
 repeat first|apply zSeq|apply zReg|apply zBlk|apply zSkp|refine wN ?_|refine wA ?_|refine wZ ?_|refine wf ?_
 clear ha1 hl1 hrd
 refine WP.loopH (σ:=Nat) (fun k=>[(3,bv),(9,.int .i64 i),(10,.int .i64 k)]) (fun k He=>He=Hd∧k≤i∧∀ n (hn:n<i),n<k→(nm[n].data.toList==nm[i].data.toList)=false) (fun k=>i-k) 0 ⟨rfl,Nat.zero_le _,fun n _ h=>absurd h (by omega)⟩ ⟨rfl,rfl,rfl,trivial⟩ ?_
 rintro k He ⟨e,hk,hpk⟩
 subst e
 rcases Nat.lt_or_ge k i with h2|h2
 case inr =>
  have g2:decide ((k:Int)<i)=false:=dF
  repeat first|apply zSeq|apply zReg|apply zExt|refine wN ?_|refine wG ?_|refine wL ?_|refine wS ?_|refine wE ?_
  refine⟨i+1,⟨fxc.trans fd,h,fun j hj hji=>?_⟩,by omega,rfl,rfl,trivial⟩
  by_cases e:j=i
  ·subst e;exact⟨c1,fun k' hk'=>hpk k' hk' (by omega)⟩
  ·exact hpi j hj (by omega)
 have g2:decide ((k:Int)<i)=true:=dT
 obtain⟨b,off,cs,ha1,hrd,hR⟩:=held.at E_s_string E_string rfl (kd:=.i64) h
 have hR:cs=[.string nm[i]]:=hR
 subst hR
 have hl1:=hrd.load1 (V:=V) E_string rfl
 obtain⟨b2,off2,cs2,ha2,hrd2,hR2⟩:=held.at E_s_string E_string rfl (kd:=.i64) (i:=k) (by omega)
 have hR2:cs2=[.string nm[k]]:=hR2
 subst hR2
 have hl2:=hrd2.load1 (V:=V) E_string rfl
 cases c2:nm[k].data.toList==nm[i].data.toList
 ·repeat first|apply zSeq|apply zReg|apply zBlk|apply zSkp|refine wN ?_|refine wG ?_|refine wL ?_|refine wS ?_|refine zEqS rfl rfl ?_|refine wT ?_|refine wE ?_|refine wI ?_|refine wY ?_
  refine⟨k+1,⟨rfl,h2,fun n hn hnk=>?_⟩,by omega,rfl,rfl,rfl,trivial⟩
  by_cases e:n=k
  ·subst e;exact c2
  ·exact hpk n hn (by omega)
 ·repeat first|apply zSeq|apply zReg|apply zBlk|apply zSkp|refine wN ?_|refine wG ?_|refine wA ?_|refine wL ?_|refine zEqS rfl rfl ?_|refine wT ?_|refine wI ?_|refine wY ?_
  exact WP.ret ⟨.inr rfl,_,rfl,by rw[hdupP (For.dup_of h h2 c2)];rfl,f0d⟩
end
section
attribute [local irreducible] WL WP WH W
attribute [local irreducible] V
variable {O:Orc}{H:AH}
set_option maxHeartbeats 16000000 in
theorem rMayForm_c (hO:NoO O) {A:Av}{f:For.Form}{vm vl vf:Value} (hf:FmR A H vm vl vf f) (hs:SmallFm f) :
 ∃ u H',Lc V O F_ref11_MayForm [.agg #[vm,vl,vf]] H u H'∧(u=.bool (For.may mayG mi f)∧Fr H H'):=by
 refine Lc.ref11_MayForm (hO _ _ _ (by decide)) ?_
 unfold P_ref11_MayForm
 have hsn:=hs.funs
 have hlen1:=fun Hz=>hf.f.len (V:=V) (H2:=Hz) E_s_api_Graph
 have hvl:=hf.l.oneCell
 have hvm:=hf.m.oneCell
 obtain⟨am,nm,cm,rfl⟩:∃ a n c,vm=.slice a n c:=let ⟨_,h,_⟩:=hf.m;h.isSl
 obtain⟨al,nl,cl,rfl⟩:∃ a n c,vl=.slice a n c:=let ⟨_,h,_⟩:=hf.l;h.isSl
 apply zSeq
 apply zReg
 refine zBox rfl (fun _=>rfl) fun H1 f1 b1 n1=>?_
 have b1':Bx H1 H.next 29 [.slice am nm cm,.slice al nl cl,vf]:=b1
 clear b1
 repeat first|refine wN ?_|refine wA ?_
 apply zSeq
 repeat first|apply zReg|refine wD O_Form_Mems ?_|refine wD O_Form_Locks ?_|refine wB E_s_string ?_|refine wB E_s_api_Mem ?_
 refine WL.op (op_build rfl buildProg2) ?_
 refine zAlc E_Prog zeroProg fun H3 f3 b3 n3=>?_
 refine zStB b3 rfl rfl E_Prog (by rw[te_Prog_size];rfl) rfl (by simp[Value.cells]) (by simp[Value.cells]) fun H4 f4 b4 n4=>?_
 have b4':Bx H4 H1.next 74 [.slice am nm cm,.slice al nl cl,.slice none 0 0]:=b4
 have f14:Fr H1 H4:=f3.young f4 (by simp) (by simp)
 have b14:=b1'.fr f14
 have f04:=f1.trans f14
 have hn4:H1.next<H4.next:=b4'.1
 have hn02:=f1.1
 have hn0:H.next<H1.next:=b1'.1
 have hBG:∀ {n:Nat},(Av.old H4.next).Gr (.old H.next) n:=Av.old_gr (Av.old_lt.mono (by omega))
 have hBo:∀ b∈(Av.old H4.next).bs,b<H4.next:=fun b hb=>List.mem_range.1 hb
 have hBog:∀ b∈(Av.old H4.next).gs,b<H4.next:=fun b hb=>List.mem_range.1 hb
 have hBlt:(Av.old H4.next).Lt H4.next:=Av.old_lt
 have hBin:∀ {Hx Hy:AH}{c:Nat},c<H4.next→FrX [c] [] Hx Hy→FrX (Av.old H4.next).bs (Av.old H4.next).gs Hx Hy:=fun hc h=>h.sub (fun b hb=>by simp[Av.old] at hb ⊢;omega) (by simp)
 generalize Av.old H4.next=B at *
 clear b1' b3 b4 f3 f4
 repeat first|refine wN ?_
 refine WP.seqS (σ:=Value×Option (Nat×Nat)) (fun x=>[(1,.pointer (some ⟨H.next,0,none⟩)),(3,.pointer (some ⟨H1.next,0,none⟩))]) (fun x Hc=>FrX [H1.next] [] H4 Hc∧Bx Hc H1.next 74 [.slice am nm cm,.slice al nl cl,x.1]∧OwR 78 5 FunR B Hc H4.next x.1 (f.funs.map fun g=>For.bareF g g.params) x.2) ?_ ?_
 ·repeat first|apply zSeq|apply zReg|apply zBlk|refine wN ?_|refine wA ?_
  refine WP.loopH (σ:=Nat×Value×Option (Nat×Nat)) (fun x=>[(1,.pointer (some ⟨H.next,0,none⟩)),(3,.pointer (some ⟨H1.next,0,none⟩)),(4,.int .i64 x.1)]) (fun x Hc=>FrX [H1.next] [] H4 Hc∧Bx Hc H1.next 74 [.slice am nm cm,.slice al nl cl,x.2.1]∧OwR 78 5 FunR B Hc H4.next x.2.1 ((f.funs.take x.1).map fun g=>For.bareF g g.params) x.2.2∧x.1≤f.funs.length) (fun x=>f.funs.length-x.1) (0,.slice none 0 0,none) ⟨.refl _ _ _,b4',.nil,Nat.zero_le _⟩ ⟨rfl,rfl,rfl,trivial⟩ ?_
  rintro⟨k,bv,o⟩ Hc ⟨hfr,hbx,how,hk⟩
  simp only at hfr hbx how hk ⊢
  have b1c:=b14.frX hfr (by simp;omega)
  rcases Nat.lt_or_ge k f.funs.length with h|h
  case inr =>
   have g1:decide ((k:Int)<f.funs.length)=false:=dF
   rw[List.take_of_length_le h] at how
   repeat first|apply zSeq|apply zReg|apply zExt|refine wN ?_|refine wG ?_|refine wL ?_|refine wE ?_|refine wD O_Form_Funs ?_|refine wB E_s_api_Graph ?_|refine wK (hlen1 _) ?_
   exact⟨(bv,o),⟨hfr,hbx,how⟩,rfl,rfl,trivial⟩
  have g1:decide ((k:Int)<f.funs.length)=true:=dT
  have frH:Fr H Hc:=f04.young hfr (by simp;omega) (by simp)
  obtain⟨b,off,cs,ha1,hrd,vb,rfl,hbl⟩:=(hf.f.fr GraphR.m frH).at E_s_api_Graph E_Graph te_Graph_size (kd:=.i64) h
  have hl1:=hrd.loadN (V:=V) E_Graph te_Graph_agg te_Graph_size
  have hv1:=hbl.oneCell
  repeat first|apply zSeq|apply zReg|apply zBlk|apply zSkp|refine wN ?_|refine wG ?_|refine wL ?_|refine wT ?_|refine wD O_Form_Funs ?_|refine wB E_s_api_Graph ?_|refine wI ?_|refine wY ?_|refine wK (hlen1 _) ?_
  refine zAlc E_Graph zeroGraph fun H5 f5 b5 n5=>?_
  refine zStB b5 rfl rfl E_Graph (by rw[te_Graph_size];rfl) (by simp[Value.cells,Value.oneCell'] at hv1 ⊢;exact hv1) (by simp[Value.cells]) (by simp[Value.cells]) fun H6 f6 b6 n6=>?_
  have b6':Bx H6 Hc.next 24 [.string f.funs[k].name,.bool f.funs[k].thread,.int .i64 f.funs[k].params,.int .i64 f.funs[k].regs,vb]:=b6
  have f56:Fr Hc H6:=f5.young f6 (by simp) (by simp)
  have hbx6:=hbx.fr f56
  have how6:=how.fr FunR.m f56
  have hnc:=hfr.1
  have hn6:=f56.1
  repeat first|apply zReg|refine wN ?_|refine wD O_Graph_Name ?_|refine wD O_Graph_Thread ?_|refine wD O_Graph_Params ?_|refine wD O_Prog_Funs ?_|refine wB E_int ?_|refine wB E_bool ?_|refine wB E_string ?_|refine wB E_s_api_Fun ?_
  refine WL.op (op_build rfl buildJump) ?_
  refine zLit rfl E_s_api_Ins E_Ins (by rw[te_Ins_size];decide) fillIns1 (by decide) fun H7 f7 b7 n7=>?_
  have hbx7:=hbx6.fr f7
  have how7:=how6.fr FunR.m f7
  have hy7:=how7.young
  have hjr:Els 6 InsR (B.and (.of o)) H7 (.slice (some ⟨H6.next,0,none⟩) 1 1) [For.jumpI]:=by
   refine⟨[.int .u8 11,.int .i64 0,.int .i64 0,.int .i64 0,.int .i64 0,.slice none 0 0],⟨rfl,.inr ⟨H6.next,0,1,rfl,fun _=>?_⟩⟩,fun i hi=>?_⟩
   ·exact Rd.aLt (H0:=H6) ((hBlt.mono (by omega)).and (how6.lt)) (Nat.le_refl _) b7.1 b7.2 (.inl rfl) (by simp) (by simp)
   ·have:i=0:=by simp at hi;omega
    subst this
    exact jumpC_R
  refine WL.op (op_build rfl buildFun) ?_
  obtain⟨bv',H8,o',k1,k2,k3,k4,k5⟩:=how7.app1 (V:=V) (x:=For.bareF f.funs[k] f.funs[k].params) (cx:=[.string f.funs[k].name,.bool f.funs[k].thread,.int .i64 f.funs[k].params,.int .i64 f.funs[k].params,.slice (some ⟨H6.next,0,none⟩) 1 1]) FunR.m (hBlt.mono (by omega)) ⟨_,rfl,hjr⟩ FunR.one (by decide) (bytes:=64) (by simp;omega) (by simp;omega) (by omega) E_s_api_Fun E_s_api_Fun E_Fun te_Fun_size te_Fun_bytes'
  refine WL.op (op_buildSlice rfl E_s_api_Fun E_Fun (by rw[te_Fun_size];decide) fillFun1) ?_
  refine WL.op (k1 rfl rfl) ?_
  have hyc:=how.young
  have hbx8:=hbx7.frX k3 (fun hb=>by have:=hyc.1 _ hb;omega)
  have hyo':=k2.young
  have hk2:=k2.els FunR.m (fun b hb hb2=>by have:=hyo'.1 b hb;have:=hBo b hb2;omega) (fun b hb hb2=>by have:=hyo'.2.1 b hb;have:=hBog b hb2;omega)
  have h1v:=hk2.oneCell
  obtain⟨a8,n8,c8,rfl⟩:∃ a n c,bv'=.slice a n c:=let ⟨_,h,_⟩:=hk2;h.isSl
  repeat first|refine wD O_Prog_Funs ?_
  refine zStB hbx8 rfl rfl E_s_api_Fun rfl rfl (by simp[Value.cells]) (by simp[Value.cells]) fun H9 f9 b9 n9=>?_
  have b9':Bx H9 H1.next 74 [.slice am nm cm,.slice al nl cl,.slice a8 n8 c8]:=b9
  repeat first|apply zReg|refine wN ?_|refine wG ?_|refine wS ?_
  have f67:=f56.trans f7
  have hfin:FrX [H1.next] [] H4 H9:=((hfr.trans (f67.x [] []) (by simp) (by simp)).trans k3 (fun b hb hlt=>absurd (hyc.1 b hb) (by omega)) (fun b hb hlt=>absurd (hyc.2.1 b hb) (by omega))).trans f9 (fun b hb _=>hb) (by simp)
  have k2':=k2.frX FunR.m (hBin hn4 f9) (fun b hb hb2=>by have:=hyo'.1 b hb;have:=hBo b hb2;omega) (fun b hb hb2=>by have:=hyo'.2.1 b hb;have:=hBog b hb2;omega)
  exact⟨(k+1,_,o'),⟨hfin,b9',by rw[List.take_succ_eq_append_getElem h,List.map_append];exact k2',h⟩,by simp only;omega,rfl,rfl,rfl,trivial⟩
 ·rintro⟨bv,o⟩ H5 ⟨hfr5,hbx5,how5⟩
  simp only at hfr5 hbx5 how5 ⊢
  have f05:Fr H H5:=f04.young hfr5 (by simp;omega) (by simp)
  have b15:=b14.frX hfr5 (by simp;omega)
  have hyo:=how5.young
  have hnb:∀ b∈obs o,b∉B.bs:=fun b hb hb2=>by have:=hyo.1 b hb;have:=hBo b hb2;omega
  have hng:∀ b∈ogs o,b∉B.gs:=fun b hb hb2=>by have:=hyo.2.1 b hb;have:=hBog b hb2;omega
  have hel:=how5.els FunR.m hnb hng
  have hp5:PrR .no H5 (.slice am nm cm) (.slice al nl cl) bv (For.bareP f):=⟨(hf.m.fr MemR.m f05).gr MemR.m .no,(hf.l.fr StrR.m f05).gr StrR.m .no,hel.gr FunR.m .no⟩
  have hfo:FmR (.of o) H (.slice am nm cm) (.slice al nl cl) vf f:=hf.gr ⟨fun b hb=>.inr (by have:=hyo.1 b hb;omega),fun b hb=>.inr (by have:=hyo.2.1 b hb;omega)⟩
  obtain⟨_,H6,hc6,rfl,f6⟩:=rMayP_c (H:=H5) hO hp5 hs.p hs.bareF
  have f06:=f05.trans f6
  have b16:=b15.fr f6
  have b6p:=hbx5.fr f6
  have how6:=how5.fr FunR.m f6
  have hob:∀ b∈obs o,H.next≤b:=fun b hb=>by have:=hyo.1 b hb;omega
  have hog:∀ b∈ogs o,H.next≤b:=fun b hb=>by have:=hyo.2.1 b hb;omega
  have hbxn:H1.next∉obs o:=fun hb=>by have:=hyo.1 _ hb;omega
  have hbxf:H.next∉obs o:=fun hb=>by have:=hyo.1 _ hb;omega
  have hm45:=hfr5.1
  have hm56:=f6.1
  clear how5 hel b14
  repeat first|apply zSeq|apply zReg
  refine zLd rfl (hbx5.lN E_Prog te_Prog_agg te_Prog_size) ?_
  refine WL.call rfl rfl fp_ref07_May.is hc6 ?_
  cases c0:For.mayP mayG (For.bareP f)
  ·repeat first|apply zSeq|apply zReg|refine wN ?_|refine wA ?_|refine wZ ?_|refine wt ?_
   refine WP.ret ⟨.inr rfl,_,rfl,?_,f06⟩
   unfold For.may;rw[c0];rfl
  have hmay:For.may mayG mi f=f.funs.all (For.funOk mayG mi f):=by unfold For.may;rw[c0];rfl
  rw[hmay]
  repeat first|apply zSeq|apply zReg|apply zBlk|apply zSkp|refine wN ?_|refine wA ?_|refine wZ ?_|refine wf ?_
  refine WP.loopH (σ:=Nat) (fun k=>[(1,.pointer (some ⟨H.next,0,none⟩)),(3,.pointer (some ⟨H1.next,0,none⟩)),(6,.int .i64 k)]) (fun k Hc=>FrX (obs o) (ogs o) H6 Hc∧Fr H Hc∧Bx Hc H1.next 74 [.slice am nm cm,.slice al nl cl,bv]∧OwR 78 5 FunR B Hc H4.next bv (For.bareK f k).funs o∧k≤f.funs.length∧∀ j (h:j<f.funs.length),j<k→For.funOk mayG mi f f.funs[j]=true) (fun k=>f.funs.length-k) 0 ⟨.refl _ _ _,f06,b6p,how6,Nat.zero_le _,fun j _ h=>absurd h (by omega)⟩ ⟨rfl,rfl,rfl,trivial⟩ ?_
  rintro k Hc ⟨hfr,f0c,hbx,how,hk,hpre⟩
  have b1c:=b16.frX hfr hbxf
  rcases Nat.lt_or_ge k f.funs.length with h|h
  case inr =>
   have g1:decide ((k:Int)<f.funs.length)=false:=dF
   repeat first|apply zSeq|apply zReg|apply zExt|refine wN ?_|refine wG ?_|refine wA ?_|refine wL ?_|refine wE ?_|refine wD O_Form_Funs ?_|refine wB E_s_api_Graph ?_|refine wK (hlen1 _) ?_
   refine WP.ret ⟨.inr rfl,_,rfl,?_,f0c⟩
   have:f.funs.all (For.funOk mayG mi f)=true:=by
    rw[List.all_eq_true]
    intro x hx
    obtain⟨j,hj,rfl⟩:=List.mem_iff_getElem.1 hx
    exact hpre j hj (by omega)
   rw[this];rfl
  have g1:decide ((k:Int)<f.funs.length)=true:=dT
  have bad:For.funOk mayG mi f f.funs[k]=false→f.funs.all (For.funOk mayG mi f)=false:=fun hb=>by
   rw[List.all_eq_false]
   exact⟨f.funs[k],List.getElem_mem _,by rw[hb];decide⟩
  obtain⟨b,off,cs,ha1,hrd,hgr⟩:=(hfo.f.fr GraphR.m f0c).at E_s_api_Graph E_Graph te_Graph_size (kd:=.i64) h
  have hl1:=hrd.loadN (V:=V) E_Graph te_Graph_agg te_Graph_size
  have hsg:=hs.gs f.funs[k] (List.getElem_mem _)
  have hsa:=hs.args f.funs[k] (List.getElem_mem _)
  have hso:=hs.op f.funs[k] (List.getElem_mem _)
  obtain⟨_,Ha,hca,rfl,fa⟩:=rMay_c (H:=Hc) hO hgr hsg hsa hso
  have f0a:=f0c.trans fa
  have baf:=b1c.fr fa
  have bap:=hbx.fr fa
  have howa:=how.fr FunR.m fa
  obtain⟨vb,rfl,hbl⟩:=hgr
  have hrda:=hrd.fr fa
  have hl2:=(hrda.at1 (i:=3) rfl).load1 (V:=V) E_int rfl
  cases c1:Flo.may mi f.funs[k]
  ·rw[c1] at hca
   repeat first|apply zSeq|apply zReg|apply zBlk|apply zSkp|refine wN ?_|refine wG ?_|refine wL ?_|refine wT ?_|refine wD O_Form_Funs ?_|refine wB E_s_api_Graph ?_|refine wI ?_|refine wY ?_|refine wK (hlen1 _) ?_
   refine WL.call rfl rfl fp_ref11_May.is hca ?_
   repeat first|apply zSeq|apply zReg|refine wN ?_|refine wA ?_|refine wZ ?_|refine wt ?_
   refine WP.ret ⟨.inr rfl,_,rfl,?_,f0a⟩
   rw[bad (by unfold For.funOk;rw[c1];rfl)];rfl
  rw[c1] at hca
  obtain⟨bw,ow,Hw,w1,w2,w3,w4,w5⟩:=howa.set (V:=V) (i:=k) (x':=For.bareF f.funs[k] f.funs[k].regs) (off:=3) (vs:=[.int .i64 f.funs[k].regs]) FunR.m (by rw[For.bareK_length];exact h) (by simp) (by simp) (fun {A H cs} hR=>by
   rw[For.bareK_at h] at hR
   obtain⟨vc,rfl,hc⟩:=hR
   exact⟨vc,rfl,hc⟩) E_s_api_Fun E_Fun te_Fun_size (kd:=.i64)
  rw[For.bareK_set h] at w3
  have bwf:=baf.frX w4 hbxf
  have bwp:=bap.frX w4 hbxn
  have f0w:Fr H Hw:=f0a.young w4 hob hog
  repeat first|apply zSeq|apply zReg|apply zBlk|apply zSkp|refine wN ?_|refine wG ?_|refine wL ?_|refine wT ?_|refine wD O_Form_Funs ?_|refine wB E_s_api_Graph ?_|refine wI ?_|refine wY ?_|refine wK (hlen1 _) ?_
  refine WL.call rfl rfl fp_ref11_May.is hca ?_
  repeat first|apply zSeq|apply zReg|apply zSkp|refine wN ?_|refine wG ?_|refine wZ ?_|refine wf ?_|refine wD O_Graph_Regs ?_|refine wD O_Fun_Regs ?_|refine wD O_Prog_Funs ?_|refine wD O_Form_Funs ?_|refine wB E_s_api_Fun ?_|refine wB E_s_api_Graph ?_|refine wI ?_|refine wY ?_
  refine WL.op (op_store rfl rfl E_int rfl rfl w2) ?_
  clear ha1 hl1 hrd hrda hl2 hbl hca
  obtain⟨b,off,cs,ha1,hrd,vb,rfl,hblw⟩:=(hfo.f.fr GraphR.m f0w).at E_s_api_Graph E_Graph te_Graph_size (kd:=.i64) h
  have helw:=w3.els FunR.m hnb hng
  have hpw:PrR .no Hw (.slice am nm cm) (.slice al nl cl) bv (For.bareK f (k+1)):=⟨(hf.m.fr MemR.m f0w).gr MemR.m .no,(hf.l.fr StrR.m f0w).gr StrR.m .no,helw.gr FunR.m .no⟩
  have hkw:k<(For.bareK f (k+1)).funs.length:=by rw[For.bareK_length];exact h
  have hmg:∀ i,mayG (For.bareK f (k+1)) (For.bareK f (k+1)).funs[k] i=mayG (For.bareP f) (For.bareF f.funs[k] f.funs[k].regs) i:=fun i=>by
   rw[mayG_bareK,For.bareK_at h,if_pos (by omega)]
  have hlen3:=fun Hz=>hblw.len (V:=V) (H2:=Hz) E_s_api_Block
  have hfk:For.funOk mayG mi f f.funs[k]=f.funs[k].blocks.all fun b=>b.code.all (mayG (For.bareP f) (For.bareF f.funs[k] f.funs[k].regs)):=by unfold For.funOk;rw[c1];rfl
  have hfrw:FrX (obs o) (ogs o) H6 Hw:=(hfr.trans (fa.x [] []) (by simp) (by simp)).trans w4 (fun b hb _=>hb) (fun b hb _=>hb)
  have hnbs:=hsg.nb
  clear howa how w1 w2 bap baf helw
  repeat first|apply zSeq|apply zReg|apply zBlk|refine wN ?_|refine wA ?_
  refine WP.loopH (σ:=Nat) (fun j=>[(1,.pointer (some ⟨H.next,0,none⟩)),(3,.pointer (some ⟨H1.next,0,none⟩)),(6,.int .i64 k),(7,.int .i64 j)]) (fun j Hd=>Fr Hw Hd∧j≤f.funs[k].blocks.length∧∀ n (h:n<f.funs[k].blocks.length),n<j→f.funs[k].blocks[n].code.all (mayG (For.bareP f) (For.bareF f.funs[k] f.funs[k].regs))=true) (fun j=>f.funs[k].blocks.length-j) 0 ⟨.refl _,Nat.zero_le _,fun n _ h=>absurd h (by omega)⟩ ⟨rfl,rfl,rfl,rfl,trivial⟩ ?_
  rintro j Hd ⟨fwd,hj,hpj⟩
  have f0d:=f0w.trans fwd
  have bdf:=bwf.fr fwd
  have bdp:=bwp.fr fwd
  have hrd1:=hrd.fr fwd
  have hl2:=(hrd1.at1 (i:=4) rfl).load1 (V:=V) E_s_api_Block rfl
  rcases Nat.lt_or_ge j f.funs[k].blocks.length with h2|h2
  case inr =>
   have g2:decide ((j:Int)<f.funs[k].blocks.length)=false:=dF
   have hok:For.funOk mayG mi f f.funs[k]=true:=by
    rw[hfk,List.all_eq_true]
    intro x hx
    obtain⟨n,hn,rfl⟩:=List.mem_iff_getElem.1 hx
    exact hpj n hn (by omega)
   repeat first|apply zSeq|apply zReg|apply zExt|refine wN ?_|refine wG ?_|refine wL ?_|refine wS ?_|refine wE ?_|refine wD O_Graph_Blocks ?_|refine wD O_Form_Funs ?_|refine wB E_s_api_Graph ?_|refine wI ?_|refine wY ?_|refine wK (hlen3 _) ?_
   refine⟨k+1,⟨hfrw.trans (fwd.x [] []) (by simp) (by simp),f0d,bdp,w3.fr FunR.m fwd,h,fun n hn hnk=>?_⟩,by omega,rfl,rfl,rfl,trivial⟩
   by_cases e:n=k
   ·subst e;exact hok
   ·exact hpre n hn (by omega)
  have g2:decide ((j:Int)<f.funs[k].blocks.length)=true:=dT
  obtain⟨b2,off2,cs2,ha2,hrd2,vp,vc,vfr,vto,rfl,hP,hC,hF,hT⟩:=(hblw.fr BlockR.m fwd).at E_s_api_Block E_Block te_Block_size (kd:=.i64) h2
  have hl3:=(hrd2.at1 (i:=1) rfl).load1 (V:=V) E_s_api_Ins rfl
  have hsa2:=hsa f.funs[k].blocks[j] (List.getElem_mem _)
  have hso2:=hso f.funs[k].blocks[j] (List.getElem_mem _)
  have hsc2:=hsg.code f.funs[k].blocks[j] (List.getElem_mem _)
  have badj:f.funs[k].blocks[j].code.all (mayG (For.bareP f) (For.bareF f.funs[k] f.funs[k].regs))=false→f.funs.all (For.funOk mayG mi f)=false:=fun hb=>bad (by
   rw[hfk,List.all_eq_false]
   exact⟨_,List.getElem_mem h2,by rw[hb];decide⟩)
  have goodj:f.funs[k].blocks[j].code.all (mayG (For.bareP f) (For.bareF f.funs[k] f.funs[k].regs))=true→∀ n (h:n<f.funs[k].blocks.length),n<j+1→f.funs[k].blocks[n].code.all (mayG (For.bareP f) (For.bareF f.funs[k] f.funs[k].regs))=true:=fun hg n hn hnj=>by
   by_cases e:n=j
   ·subst e;exact hg
   ·exact hpj n hn (by omega)
  clear hP hF hT hrd2
  generalize f.funs[k].blocks[j].code=code at *
  have hlen2:=fun Hz=>hC.len (V:=V) (H2:=Hz) E_s_api_Ins
  repeat first|apply zSeq|apply zReg|apply zBlk|apply zSkp|refine wN ?_|refine wG ?_|refine wA ?_|refine wL ?_|refine wT ?_|refine wD O_Block_Code ?_|refine wD O_Graph_Blocks ?_|refine wD O_Form_Funs ?_|refine wB E_s_api_Graph ?_|refine wI ?_|refine wY ?_|refine wK (hlen3 _) ?_
  refine WP.loopH (σ:=Nat) (fun m=>[(1,.pointer (some ⟨H.next,0,none⟩)),(3,.pointer (some ⟨H1.next,0,none⟩)),(6,.int .i64 k),(7,.int .i64 j),(8,vc),(9,.int .i64 m)]) (fun m He=>Fr Hd He∧m≤code.length∧∀ n (h:n<code.length),n<m→mayG (For.bareP f) (For.bareF f.funs[k] f.funs[k].regs) code[n]=true) (fun m=>code.length-m) 0 ⟨.refl _,Nat.zero_le _,fun n _ h=>absurd h (by omega)⟩ ⟨rfl,rfl,rfl,rfl,rfl,rfl,trivial⟩ ?_
  rintro m He ⟨fde,hm,hpm⟩
  have f0e:=f0d.trans fde
  have fwe:=fwd.trans fde
  have bep:=bdp.fr fde
  rcases Nat.lt_or_ge m code.length with h3|h3
  case inr =>
   have g3:decide ((m:Int)<code.length)=false:=dF
   have hall:code.all (mayG (For.bareP f) (For.bareF f.funs[k] f.funs[k].regs))=true:=by
    rw[List.all_eq_true]
    intro x hx
    obtain⟨n,hn,rfl⟩:=List.mem_iff_getElem.1 hx
    exact hpm n hn (by omega)
   repeat first|apply zSeq|apply zReg|apply zExt|refine wN ?_|refine wG ?_|refine wL ?_|refine wS ?_|refine wE ?_|refine wK (hlen2 _) ?_
   exact⟨j+1,⟨fwe,h2,goodj hall⟩,by omega,rfl,rfl,rfl,rfl,trivial⟩
  have g3:decide ((m:Int)<code.length)=true:=dT
  obtain⟨b4,off4,cs4,ha4,hrd4,va,rfl,hva⟩:=(hC.fr InsR.m fde).at E_s_api_Ins E_Ins te_Ins_size (kd:=.i64) h3
  have hl4:=hrd4.loadN (V:=V) E_Ins te_Ins_agg te_Ins_size
  obtain⟨_,Hg,hcg,rfl,fg⟩:=rMayIns2_c (H:=He) (k:=k) hO hkw (hpw.fr fwe) hva (hsa2 _ (List.getElem_mem h3)) (hso2 _ (List.getElem_mem h3))
  rw[hmg] at hcg
  cases c4:mayG (For.bareP f) (For.bareF f.funs[k] f.funs[k].regs) code[m]
  ·rw[c4] at hcg
   repeat first|apply zSeq|apply zReg|apply zBlk|apply zSkp|refine wN ?_|refine wG ?_|refine wL ?_|refine wT ?_|refine wK (hlen2 _) ?_
   refine zLd rfl (bep.lN E_Prog te_Prog_agg te_Prog_size) ?_
   repeat first|refine wG ?_|refine wI ?_|refine wY ?_
   refine WL.call rfl rfl fp_ref07_MayIns.is hcg ?_
   repeat first|apply zSeq|apply zReg|refine wN ?_|refine wA ?_|refine wZ ?_|refine wt ?_
   refine WP.ret ⟨.inr rfl,_,rfl,?_,f0e.trans fg⟩
   rw[badj (by rw[List.all_eq_false];exact⟨_,List.getElem_mem h3,by rw[c4];decide⟩)];rfl
  ·rw[c4] at hcg
   repeat first|apply zSeq|apply zReg|apply zBlk|apply zSkp|refine wN ?_|refine wG ?_|refine wL ?_|refine wT ?_|refine wK (hlen2 _) ?_
   refine zLd rfl (bep.lN E_Prog te_Prog_agg te_Prog_size) ?_
   repeat first|refine wG ?_|refine wI ?_|refine wY ?_
   refine WL.call rfl rfl fp_ref07_MayIns.is hcg ?_
   repeat first|apply zReg|apply zSkp|refine wN ?_|refine wG ?_|refine wS ?_|refine wZ ?_|refine wf ?_
   refine⟨m+1,⟨fde.trans fg,h3,fun n hn hnm=>?_⟩,by omega,rfl,rfl,rfl,rfl,rfl,rfl,trivial⟩
   by_cases e:n=m
   ·subst e;exact c4
   ·exact hpm n hn (by omega)
end

end Go.Proofs.YtjiibfgopanbgaaGreatDoor.U