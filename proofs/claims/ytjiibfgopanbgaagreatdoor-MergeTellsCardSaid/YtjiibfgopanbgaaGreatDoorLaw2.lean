/-
  Contracts of flow: an instruction in a graph.
-/
import Derived.Test.YtjiibfgopanbgaaGreatDoorLaw1
import Derived.Test.YtjiibfgopanbgaaGreatDoorEv6
import Derived.Test.YtjiibfgopanbgaaGreatDoorProg
import Derived.KernelRfl
set_option linter.all false
namespace Go.Proofs.YtjiibfgopanbgaaGreatDoor.U
open Go Go.Ev
section
attribute [local irreducible] WL WP WH W
theorem build163a {r:Int}{a:Option Addr}{n c:Nat}:aBuild V.E 78 [(3,.int .i64 r),(4,.slice a n c)]=some (.agg #[.string ⟨⟨[]⟩⟩,.bool false,.int .i64 0,.int .i64 r,.slice a n c]):=by kernel_rfl
theorem build163b {r:Int}{a:Option Addr}{n c:Nat}:aBuild V.E 78 [(2,.int .i64 r),(4,.slice a n c)]=some (.agg #[.string ⟨⟨[]⟩⟩,.bool false,.int .i64 r,.int .i64 0,.slice a n c]):=by kernel_rfl
theorem build166 {a a' a'':Option Addr}{n c n' c' n'' c'':Nat}:aBuild V.E 74 [(0,.slice a n c),(1,.slice a' n' c'),(2,.slice a'' n'' c'')]=some (.agg #[.slice a n c,.slice a' n' c',.slice a'' n'' c'']):=by kernel_rfl
theorem fill164 {a1 a2 a3 a4 a5 b1 b2 b3 b4 b5:Value}:afill (fun i=>some (i*te_Fun.size,te_Fun.size)) (azeros te_Fun.zv.cells.toList 2) [(0,.agg #[a1,a2,a3,a4,a5]),(1,.agg #[b1,b2,b3,b4,b5])]=some [a1,a2,a3,a4,a5,b1,b2,b3,b4,b5]:=by kernel_rfl
theorem fill39z:afill (fun i=>some (i*te_Ins.size,te_Ins.size)) (azeros te_Ins.zv.cells.toList 1) [(0,.agg #[.int .u8 0,.int .i64 0,.int .i64 0,.int .i64 0,.int .i64 0,.slice none 0 0])]=some [.int .u8 0,.int .i64 0,.int .i64 0,.int .i64 0,.int .i64 0,.slice none 0 0]:=by kernel_rfl
theorem mk160:azeros te_Mem.zv.cells.toList 1=[.string ⟨⟨[]⟩⟩,.int .i64 0,.int .i64 0]:=by kernel_rfl
theorem zero166:te_Prog.zv.cells.toList=[.slice none 0 0,.slice none 0 0,.slice none 0 0]:=by kernel_rfl
attribute [local irreducible] V
variable {O:Orc}{H:AH}
theorem codeMayIns2_c (hO:NoO O) (hg:GH H) {A C:Av}{p:Prog}{i:Ins}{va vm vl vf:Value}{k:Nat} (hk:k<p.funs.length) (hm:Els 3 MemR A H vm p.mems) (hl:Els 1 StrR A H vl p.locks) (hf:Els 5 FunR A H vf p.funs) (hv:IntsR C H va i.args) (hL:i.args.length≤100000) (hop:0≤i.op∧i.op<256) :
  ∃ v H',Lc V O F_code_MayIns [.agg #[vm,vl,vf],.int .i64 k,insV i va] H v H'∧(v=.bool (mayG p p.funs[k] i)∧Fr H H'):=by
 refine Lc.code_MayIns (hO _ _ _ (by decide)) ?_
 unfold P_code_MayIns
 apply zSeq
 apply zReg
 refine zBox rfl (fun _=>rfl) fun H1 f1 b1 n1=>?_
 refine zBox rfl (fun _=>rfl) fun H2 f2 b2 n2=>?_
 replace b1:=b1.fr f2
 have f12:=f1.trans f2
 replace hm:=hm.fr MemR.m f12
 replace hl:=hl.fr StrR.m f12
 replace hf:=hf.fr FunR.m f12
 replace hv:=hv.fr f12
 replace hg:=hg.fr f12
 have g1:decide ((k:Int)≥0)=true:=dT
 have g2:decide ((k:Int)<p.funs.length)=true:=dT
 obtain ⟨b,off,cs,ha1,hrd,vc,rfl,hc⟩:=hf.at E_s_api_Fun E_Fun te_Fun_size (kd:=.i64) hk
 have hl3:=hrd.loadN (V:=V) E_Fun te_Fun_agg te_Fun_size
 obtain ⟨_,H3,hc3,rfl,f3⟩:=codeMayIns_c (H:=H2) hO hg hm hl hf hc hv hL hop
 repeat first|apply zSeq|apply zReg|refine wN ?_|refine wG ?_|refine wo ?_|refine wO ?_|refine wM ?_|refine wA ?_|refine wp ?_|refine wL ?_|refine wW ?_|refine wD O_Prog_Funs ?_|refine wB E_s_api_Fun ?_|refine wK (hf.len E_s_api_Fun) ?_
 refine zLd rfl (b1.lN E_Prog te_Prog_agg te_Prog_size) ?_
 repeat first|refine wO ?_|refine wM ?_|refine wD O_Prog_Funs ?_|refine wB E_s_api_Fun ?_|refine zIdx rfl rfl ha1 ?_|refine zLd rfl hl3 ?_
 refine zLd rfl (b2.lN E_Ins te_Ins_agg te_Ins_size) ?_
 repeat first|refine wO ?_
 refine WL.call rfl rfl fp_code_mayIns.is hc3 ?_
 repeat first|refine wN ?_|refine wP ?_
 exact WP.ret ⟨.inr rfl,_,rfl,rfl,f12.trans f3⟩
theorem ends_c (hO:NoO O) (op:Int):Lc V O F_flow_ends [.int .u8 op] H (.bool (Flo.ends op)) H:=by
 refine Lc.of_eq (Lc.flow_ends (R:=fun u H'=>u=.bool (Flo.ends op)∧H'=H) (hO _ _ _ (by decide)) ?_)
 unfold P_flow_ends
 cases c1:op==11
 ·cases c2:op==12
  ·repeat first|apply zSeq|apply zReg|refine wN ?_|refine wG ?_|refine wO ?_|refine wM ?_|refine wA ?_|refine wR ?_|refine wQ ?_
   exact WP.ret ⟨.inr rfl,_,rfl,by unfold Flo.ends;rw [c1,c2];rfl,rfl⟩
  ·repeat first|apply zSeq|apply zReg|refine wN ?_|refine wG ?_|refine wO ?_|refine wF ?_|refine wM ?_|refine wA ?_|refine wP ?_|refine wR ?_|refine wQ ?_
   exact WP.ret ⟨.inr rfl,_,rfl,by unfold Flo.ends;rw [c1,c2];rfl,rfl⟩
 ·repeat first|apply zSeq|apply zReg|refine wN ?_|refine wG ?_|refine wx ?_|refine wF ?_|refine wA ?_|refine wp ?_|refine wP ?_|refine wQ ?_
  exact WP.ret ⟨.inr rfl,_,rfl,by unfold Flo.ends;rw [c1];rfl,rfl⟩
def noS:ByteArray:=⟨⟨[]⟩⟩
def num (i:Ins):Int:=if (i.op==5||i.op==6||i.op==7||i.op==8)=true then 0 else if (i.op==10)=true then 1 else i.n
def numI (i:Ins):Ins:={ i with n:=num i }
def p0 (regs:Int) (i:Ins):Prog:=⟨[⟨noS,0,0⟩],[noS],[⟨noS,false,0,regs,[zeroI]⟩,⟨noS,false,i.args.length,0,[zeroI]⟩]⟩
def mi (regs:Int) (i:Ins):Bool:=
 !((decide (i.n<0)&&i.op != 1)||decide ((i.args.length:Int)>8))&&mayG (p0 regs i) ⟨noS,false,0,regs,[zeroI]⟩ (numI i)
theorem mi_op (r:Int) (i:Ins) (h:mi r i=true):Flo.isOp i.op=true:=by
 unfold mi mayG at h
 rw [Bool.and_eq_true,Bool.and_eq_true] at h
 exact h.2.1
set_option maxHeartbeats 2000000 in
theorem flowMayIns_c (hO:NoO O) (hg:GH H) {C:Av}{i:Ins}{va:Value} (regs:Int) (hv:IntsR C H va i.args) (hop:0≤i.op∧i.op<256) :
 ∃ v H',Lc V O F_flow_mayIns [insV i va,.int .i64 regs] H v H'∧(v=.bool (mi regs i)∧Fr H H'):=by
 refine Lc.flow_mayIns (hO _ _ _ (by decide)) ?_
 unfold P_flow_mayIns
 apply zSeq
 apply zReg
 refine zBox rfl (fun _=>rfl) fun H1 f1 b1 n1=>?_
 replace hv:=(hv.gr (B:=.box H.next) ⟨fun x hx=>.inr (by simp [Av.box] at hx;omega),fun x hx=>by simp [Av.box] at hx⟩).fr f1
 have hmi:((decide (i.n<0)&&i.op != 1)||decide ((i.args.length:Int)>8))=true→mi regs i=false:=fun h=>by unfold mi;rw [h];rfl
 repeat first|refine wN ?_|refine wA ?_
 refine WP.seqS (σ:=Unit) (fun _=>[(1,.int .i64 regs),(2,.pointer (some ⟨H.next,0,none⟩))]) (fun _ Hc=>Hc=H1∧((decide (i.n<0)&&i.op != 1)||decide ((i.args.length:Int)>8))=false) ?_ ?_
 ·cases c1:decide (i.n<0)
  ·cases c3:decide ((i.args.length:Int)>8)
   ·repeat first|apply zSeq|apply zReg|apply zSkp|refine wN ?_|refine wo ?_|refine wF ?_|refine wq ?_|refine wR ?_|refine wL ?_|refine wV ?_|refine wE ?_|refine wD O_Ins_N ?_|refine wD O_Ins_Args ?_|refine wB E_int64 ?_|refine wB E_s_int ?_|refine wK (hv.len E_s_int) ?_
    exact ⟨(),⟨rfl,rfl⟩,rfl,rfl,trivial⟩
   ·repeat first|apply zSeq|apply zReg|refine wN ?_|refine wo ?_|refine wF ?_|refine wA ?_|refine wq ?_|refine wR ?_|refine wL ?_|refine wV ?_|refine wT ?_|refine wD O_Ins_N ?_|refine wD O_Ins_Args ?_|refine wB E_int64 ?_|refine wB E_s_int ?_|refine wK (hv.len E_s_int) ?_
    exact WP.ret ⟨.inr rfl,_,rfl,by rw [hmi (by rw [c1,c3];rfl)];rfl,f1⟩
  ·cases c2:i.op != 1
   ·cases c3:decide ((i.args.length:Int)>8)
    ·repeat first|apply zSeq|apply zReg|apply zSkp|refine wN ?_|refine wO ?_|refine wP ?_|refine wR ?_|refine wL ?_|refine wV ?_|refine wU ?_|refine wE ?_|refine wD O_Ins_Op ?_|refine wD O_Ins_N ?_|refine wD O_Ins_Args ?_|refine wB E_int64 ?_|refine wB E_uint8 ?_|refine wB E_s_int ?_|refine wK (hv.len E_s_int) ?_
     exact ⟨(),⟨rfl,rfl⟩,rfl,rfl,trivial⟩
    ·repeat first|apply zSeq|apply zReg|refine wN ?_|refine wO ?_|refine wA ?_|refine wP ?_|refine wR ?_|refine wL ?_|refine wV ?_|refine wU ?_|refine wT ?_|refine wD O_Ins_Op ?_|refine wD O_Ins_N ?_|refine wD O_Ins_Args ?_|refine wB E_int64 ?_|refine wB E_uint8 ?_|refine wB E_s_int ?_|refine wK (hv.len E_s_int) ?_
     exact WP.ret ⟨.inr rfl,_,rfl,by rw [hmi (by rw [c1,c2,c3];rfl)];rfl,f1⟩
   ·repeat first|apply zSeq|apply zReg|refine wN ?_|refine wO ?_|refine wF ?_|refine wA ?_|refine wP ?_|refine wL ?_|refine wU ?_|refine wt ?_|refine wD O_Ins_Op ?_|refine wD O_Ins_N ?_|refine wB E_int64 ?_|refine wB E_uint8 ?_
    exact WP.ret ⟨.inr rfl,_,rfl,by rw [hmi (by rw [c1,c2];rfl)];rfl,f1⟩
 rintro _ Hy ⟨hy,hsm⟩
 replace hy:=hy.symm
 subst hy
 have hLa:i.args.length≤8:=by
  have:=(Bool.or_eq_false_iff.1 hsm).2
  have:=of_decide_eq_false this
  omega
 replace hmi:mi regs i=mayG (p0 regs i) ⟨noS,false,0,regs,[zeroI]⟩ (numI i):=by unfold mi;rw [hsm];rfl
 rw [hmi]
 clear hmi hsm
 refine WP.seqS (σ:=Unit) (fun _=>[(1,.int .i64 regs),(2,.pointer (some ⟨H.next,0,none⟩))]) (fun _ Hc=>FrX [H.next] [] H1 Hc∧Bx Hc H.next 47 ((numI i).cells va)) ?_ ?_
 ·have st:∀ {x:Int},(∀ H2,FrX [H.next] [] H1 H2→Bx H2 H.next 47 (splice (insV i va).cells.toList 4 [.int .i64 x])→num i=x→FrX [H.next] [] H1 H2∧Bx H2 H.next 47 ((numI i).cells va)):=fun {x} H2 f2 b2 e=>⟨f2,by unfold numI;rw [e];exact b2⟩
  cases c5:i.op==5
  case true =>
   have e:num i=0:=by unfold num;rw [c5];rfl
   repeat first|apply zSeq|apply zReg|apply zBlk|apply zSkp|refine wN ?_|refine wQ ?_|refine wT ?_|refine wD O_Ins_Op ?_|refine wD O_Ins_N ?_|refine wB E_uint8 ?_
   refine zStB b1 rfl rfl E_int64 rfl rfl (by simp [Value.cells]) (by simp [Value.cells,insV,Ins.cells]) fun H2 f2 b2 n2=>?_
   repeat first|refine wN ?_
   exact ⟨(),st H2 f2 b2 e,rfl,rfl,trivial⟩
  cases c6:i.op==6
  case true =>
   have e:num i=0:=by unfold num;rw [c6];simp
   repeat first|apply zSeq|apply zReg|apply zBlk|apply zSkp|refine wN ?_|refine wQ ?_|refine wT ?_|refine wE ?_|refine wD O_Ins_Op ?_|refine wD O_Ins_N ?_|refine wB E_uint8 ?_
   refine zStB b1 rfl rfl E_int64 rfl rfl (by simp [Value.cells]) (by simp [Value.cells,insV,Ins.cells]) fun H2 f2 b2 n2=>?_
   repeat first|refine wN ?_
   exact ⟨(),st H2 f2 b2 e,rfl,rfl,trivial⟩
  cases c7:i.op==7
  case true =>
   have e:num i=0:=by unfold num;rw [c7];simp
   repeat first|apply zSeq|apply zReg|apply zBlk|apply zSkp|refine wN ?_|refine wQ ?_|refine wT ?_|refine wE ?_|refine wD O_Ins_Op ?_|refine wD O_Ins_N ?_|refine wB E_uint8 ?_
   refine zStB b1 rfl rfl E_int64 rfl rfl (by simp [Value.cells]) (by simp [Value.cells,insV,Ins.cells]) fun H2 f2 b2 n2=>?_
   repeat first|refine wN ?_
   exact ⟨(),st H2 f2 b2 e,rfl,rfl,trivial⟩
  cases c8:i.op==8
  case true =>
   have e:num i=0:=by unfold num;rw [c8];simp
   repeat first|apply zSeq|apply zReg|apply zBlk|refine wN ?_|refine wQ ?_|refine wT ?_|refine wE ?_|refine wD O_Ins_Op ?_|refine wD O_Ins_N ?_|refine wB E_uint8 ?_
   refine zStB b1 rfl rfl E_int64 rfl rfl (by simp [Value.cells]) (by simp [Value.cells,insV,Ins.cells]) fun H2 f2 b2 n2=>?_
   repeat first|refine wN ?_
   exact ⟨(),st H2 f2 b2 e,rfl,rfl,trivial⟩
  cases c10:i.op==10
  case true =>
   have e:num i=1:=by unfold num;rw [c5,c6,c7,c8,c10];rfl
   repeat first|apply zSeq|apply zReg|apply zBlk|refine wN ?_|refine wQ ?_|refine wT ?_|refine wE ?_|refine wD O_Ins_Op ?_|refine wD O_Ins_N ?_|refine wB E_uint8 ?_
   refine zStB b1 rfl rfl E_int64 rfl rfl (by simp [Value.cells]) (by simp [Value.cells,insV,Ins.cells]) fun H2 f2 b2 n2=>?_
   repeat first|refine wN ?_
   exact ⟨(),st H2 f2 b2 e,rfl,rfl,trivial⟩
  have e:num i=i.n:=by unfold num;rw [c5,c6,c7,c8,c10];rfl
  repeat first|apply zSeq|apply zReg|apply zBlk|apply zSkp|refine wN ?_|refine wQ ?_|refine wE ?_|refine wD O_Ins_Op ?_|refine wB E_uint8 ?_
  exact ⟨(),⟨.refl _ _ _,by unfold numI;rw [e];exact b1⟩,rfl,rfl,trivial⟩
 rintro _ H2 ⟨f2,b2⟩
 have f12:Fr H H2:=f1.young f2 (by simp) (by simp)
 have hn2:=f2.1
 replace hv:=hv.frX f2
 replace hg:=hg.fr f12
 have hv2:=hv
 have hg2:=hg
 clear b1 f1 f2
 repeat first|apply zSeq|apply zReg
 refine WL.op (op_build rfl build39) ?_
 refine zLit rfl E_s_api_Ins E_Ins (by rw [te_Ins_size];decide) fill39z (by decide) fun H3 f3 b3 n3=>?_
 repeat first|apply zSeq|apply zReg|refine wN ?_
 refine zMkS (n:=1) (m:=1) rfl rfl E_s_api_Mem E_Mem (by decide) (by rw [te_Mem_bytes];decide) (by decide) mk160 fun H4 f4 b4 n4=>?_
 refine zMkS (n:=1) (m:=1) rfl rfl E_s_string E_string (by decide) (by decide) (by decide) rfl fun H5 f5 b5 n5=>?_
 replace b4:=b4.fr f5
 replace b3:=(b3.fr f4).fr f5
 replace b2:=((b2.fr f3).fr f4).fr f5
 repeat first|refine wG ?_
 refine WL.op (op_build rfl build163a) ?_
 repeat first|refine wG ?_|refine wD O_Ins_Args ?_|refine wB E_s_int ?_|refine wK (hv.len E_s_int) ?_
 refine WL.op (op_build rfl build163b) ?_
 refine zLit rfl E_s_api_Fun E_Fun (by rw [te_Fun_size];decide) fill164 (by decide) fun H6 f6 b6 n6=>?_
 refine WL.op (op_build rfl build166) ?_
 refine zAlc E_Prog zero166 fun H7 f7 b7 n7=>?_
 replace b6:=b6.fr f7
 replace b5:=(b5.fr f6).fr f7
 replace b4:=(b4.fr f6).fr f7
 replace b3:=(b3.fr f6).fr f7
 replace b2:=(b2.fr f6).fr f7
 have f27:=((((f3.trans f4).trans f5).trans f6).trans f7)
 replace hv:=hv.fr f27
 replace hg:=hg.fr f27
 have hn7:=f27.1
 refine zStB b7 rfl rfl E_Prog (by rw [te_Prog_size];rfl) rfl (by simp [Value.cells]) (by simp [Value.cells]) fun H8 f8 b8 n8=>?_
 have h6:∀ b,b<H6.next→b∉[H6.next]:=fun b h=>by simp;omega
 replace b6:=b6.frX f8 (h6 _ (by omega))
 replace b5:=b5.frX f8 (h6 _ (by omega))
 replace b4:=b4.frX f8 (h6 _ (by omega))
 replace b3:=b3.frX f8 (h6 _ (by omega))
 replace b2:=b2.frX f8 (h6 _ (by omega))
 have f28:Fr H2 H8:=(((f3.trans f4).trans f5).trans f6).young ((f7.x _ _).trans f8 (fun b hb _=>hb) (fun b hb _=>hb)) (by simp;omega) (by simp)
 have hcode:Els 6 InsR .no H8 (.slice (some ⟨H2.next,0,none⟩) 1 1) [zeroI]:=b3.els (by simp) fun j hj=>by
  obtain rfl:j=0:=by simp at hj;omega
  exact ⟨.slice none 0 0,rfl,Sr.nil⟩
 have hm:Els 3 MemR .no H8 (.slice (some ⟨H3.next,0,none⟩) 1 1) (p0 regs i).mems:=b4.els (by simp [p0]) fun j hj=>by
  obtain rfl:j=0:=by simp [p0] at hj;omega
  rfl
 have hl:Els 1 StrR .no H8 (.slice (some ⟨H4.next,0,none⟩) 1 1) (p0 regs i).locks:=b5.els (by simp [p0];rfl) fun j hj=>by
  obtain rfl:j=0:=by simp [p0] at hj;omega
  rfl
 have hf:Els 5 FunR .no H8 (.slice (some ⟨H5.next,0,none⟩) 2 2) (p0 regs i).funs:=b6.els (by simp [p0]) fun j hj=>by
  have:j=0∨j=1:=by simp [p0] at hj;omega
  rcases this with rfl|rfl
  ·exact ⟨_,rfl,hcode⟩
  ·exact ⟨_,rfl,hcode⟩
 obtain ⟨_,H9,hc9,rfl,f9⟩:=codeMayIns2_c (H:=H8) (p:=p0 regs i) (i:=numI i) (k:=0) hO (hg2.fr f28) (by simp [p0]) hm hl hf (hv2.fr f28) (by show i.args.length≤100000;omega) hop
 repeat first|apply zSeq|apply zReg|refine wN ?_
 refine zLd rfl (b8.lN E_Prog te_Prog_agg te_Prog_size) ?_
 refine zLd rfl (b2.lN E_Ins te_Ins_agg te_Ins_size) ?_
 refine WL.call rfl rfl fp_code_MayIns.is hc9 ?_
 repeat first|refine wN ?_
 exact WP.ret ⟨.inr rfl,_,rfl,rfl,(f12.trans f28).trans f9⟩
end
section
attribute [local irreducible] WL WP WH W
noncomputable def te_f122:TI:=match V.E 84 with
 | some t=>t
 | none=>⟨.bool,0,0,.nilFunc⟩
theorem E_f122:V.E 84=some te_f122:=by kernel_rfl
theorem te_f122_size:te_f122.size=1:=by kernel_rfl
theorem te_f122_agg:Desc.agg te_f122.desc=false:=by kernel_rfl
theorem te_f122_zero:te_f122.zv.cells.toList=[.nilFunc]:=by kernel_rfl
attribute [local irreducible] V
variable {O:Orc}{H:AH}
theorem blockQ1_c (hO:NoO O) {b:Nat}{regs:Int} (hb:Bx H b 3 [.int .i64 regs]) (r:Int):Lc V O F_flow_block_q1 [.int .i64 r,.pointer (some ⟨b,0,none⟩)] H (.bool (!Flo.within regs r)) H:=by
 refine Lc.of_eq (Lc.flow_block_q1 (R:=fun u H'=>u=.bool (!Flo.within regs r)∧H'=H) (hO _ _ _ (by decide)) ?_)
 unfold P_flow_block_q1
 cases c1:decide (r<0)
 ·repeat first|apply zSeq|apply zReg|refine wN ?_|refine wG ?_|refine wO ?_|refine wM ?_|refine wA ?_|refine wR ?_|refine wL ?_|refine wW ?_|refine wB E_int ?_
  exact WP.ret ⟨.inr rfl,_,rfl,by unfold Flo.within;rw [c1,Bool.false_or,Bool.not_not];rfl,rfl⟩
 ·repeat first|apply zSeq|apply zReg|refine wN ?_|refine wG ?_|refine wF ?_|refine wA ?_|refine wP ?_|refine wL ?_
  exact WP.ret ⟨.inr rfl,_,rfl,by unfold Flo.within;rw [c1];rfl,rfl⟩
theorem any_not {α:Type} (p:α→Bool) (l:List α):(l.any fun x=>!p x)=!l.all p:=by
 rw [List.not_all_eq_any_not]
theorem blockQ2_c (hO:NoO O) {A:Av}{b1 b2 b3:Nat}{regs:Int}{vp vc vf vt:Value}{nf:Nat} (h1:Bx H b1 84 [.func (.func 49) #[] #[.pointer (some ⟨b2,0,none⟩)]]) (h2:Bx H b2 3 [.int .i64 regs]) (h3:Bx H b3 45 [vp,vc,vf,vt]) (hf2:∀ Hz,aLen V.E Hz 43 vf=some (.int .i64 nf)) {p:Ev.Phi}{cs:List Value} (hp:PhiR A H cs p) (hL:p.args.length≤1000000) :
  ∃ u H',Lc V O F_flow_block_q2 [.agg cs.toArray,.pointer (some ⟨b1,0,none⟩),.pointer (some ⟨b3,0,none⟩)] H u H'∧(u=.bool (!Flo.phiOk regs nf p)∧Fr H H'):=by
 obtain ⟨va,rfl,hv⟩:=hp
 refine Lc.flow_block_q2 (hO _ _ _ (by decide)) ?_
 unfold P_flow_block_q2
 apply zSeq
 apply zReg
 refine zBox rfl (fun _=>rfl) fun H1 f1 b0 n1=>?_
 replace h1:=h1.fr f1
 replace h2:=h2.fr f1
 replace h3:=h3.fr f1
 replace hv:=hv.fr f1
 repeat first|apply zSeq|apply zReg|refine wN ?_|refine wA ?_|refine wB E_int ?_|refine wD O_Phi_R ?_|refine zLd rfl (Bx.ld ‹_› (by rfl) E_f122 te_f122_agg) ?_
 refine WL.call rfl rfl (by rw [fn_flow_block_q1];rfl) (blockQ1_c hO h2 p.r) ?_
 cases c1:Flo.within regs p.r
 ·repeat first|refine wN ?_|refine wx ?_|refine wp ?_
  exact WP.ret ⟨.inr rfl,_,rfl,by unfold Flo.phiOk;rw [c1];rfl,f1⟩
 cases c2:(p.args.length:Int) != nf
 case true=>
  repeat first|refine wo ?_|refine wB E_s_int ?_|refine wK (hv.len E_s_int) ?_|refine wD O_Block_From ?_|refine wD O_Phi_Args ?_
  refine wK (hf2 _) ?_
  repeat first|refine wN ?_|refine wo ?_|refine wF ?_|refine wq ?_|refine wP ?_|refine wU ?_
  refine WP.ret ⟨.inr rfl,_,rfl,?_,f1⟩
  have:((p.args.length:Int)==nf)=false:=by simpa [bne] using c2
  unfold Flo.phiOk;rw [c1,this];rfl
 obtain ⟨H2,hc2,f2⟩:=containsFunc_int_c (H:=H1) (f:=49) (cap:=#[.pointer (some ⟨b2,0,none⟩)]) (p:=fun r=>!Flo.within regs r) hO hv hL (by rw [fn_flow_block_q1];rfl) (fun x _ Hx fx=>⟨Hx,blockQ1_c hO (h2.fr fx) x,.refl _⟩)
 repeat first|refine wo ?_|refine wB E_s_int ?_|refine wK (hv.len E_s_int) ?_|refine wD O_Block_From ?_|refine wD O_Phi_Args ?_
 refine wK (hf2 _) ?_
 repeat first|refine wo ?_|refine wO ?_|refine wq ?_|refine wU ?_|refine wB E_s_int ?_|refine wD O_Phi_Args ?_|refine zLd rfl (Bx.ld ‹_› (by rfl) E_f122 te_f122_agg) ?_
 refine WL.call rfl rfl fp_slices_ContainsFunc_s_int_int.is hc2 ?_
 repeat first|refine wN ?_|refine wR ?_
 refine WP.ret ⟨.inr rfl,_,rfl,?_,f1.trans f2⟩
 have:((p.args.length:Int)==nf)=true:=by simpa [bne] using c2
 unfold Flo.phiOk;rw [c1,this,any_not];rfl
set_option maxHeartbeats 2000000 in
theorem block_c (hO:NoO O) (hg:GH H) {A:Av}{b:Block}{cs:List Value} (hb:BlockR A H cs b) (regs:Int) (hop:∀ i∈b.code,0≤i.op∧i.op<256) (hLc:b.code.length≤1000000) (hLp:b.phis.length≤1000000) (hLa:∀ p∈b.phis,p.args.length≤1000000) :
 ∃ u H',Lc V O F_flow_block [.agg cs.toArray,.int .i64 regs] H u H'∧(u=.bool (Flo.blockOk mi regs b)∧Fr H H'):=by
 obtain ⟨vp,vc,vf,vt,rfl,hp,hc,hf,ht2⟩:=hb
 refine Lc.flow_block (hO _ _ _ (by decide)) ?_
 unfold P_flow_block
 apply zSeq
 apply zReg
 refine zBox rfl (fun _=>rfl) fun H1 f1 b1 n1=>?_
 refine zBox rfl (fun _=>rfl) fun H2 f2 b2 n2=>?_
 replace b1:=b1.fr f2
 have b1':Bx H2 H.next 45 [vp,vc,vf,vt]:=b1
 have b2':Bx H2 H1.next 3 [.int .i64 regs]:=b2
 have f12:=f1.trans f2
 replace hg:=hg.fr f12
 replace hp:=hp.fr PhiR.m f12
 replace hc:=hc.fr InsR.m f12
 clear b1 b2
 repeat first|refine wN ?_|refine wA ?_
 apply zSeq
 repeat first|apply zReg|refine wN ?_|refine wA ?_
 refine WP.seqS (σ:=Unit) (fun _=>[(2,.pointer (some ⟨H.next,0,none⟩)),(3,.pointer (some ⟨H1.next,0,none⟩)),(5,.int .i64 (Flo.toOf b.code))]) (fun _ Hc=>Fr H2 Hc∧Flo.codeOk mi regs b.code.length 0 b.code=true) ?_ ?_
 ·have hlen:∀ Hz,aLen V.E Hz 42 vc=some (.int .i64 b.code.length):=fun Hz=>hc.len E_s_api_Ins
  repeat first|apply zSeq|apply zReg|apply zBlk|refine wN ?_|refine wM ?_|refine wB E_s_api_Ins ?_|refine wK (hc.len E_s_api_Ins) ?_|refine wD O_Block_Code ?_
  refine WP.loopH (σ:=Nat) (fun k=>[(2,.pointer (some ⟨H.next,0,none⟩)),(3,.pointer (some ⟨H1.next,0,none⟩)),(5,.int .i64 ((b.code.take k).foldl Flo.toN 1)),(10,vc),(11,.int .i64 b.code.length),(12,.int .i64 k)])
   (fun k Hc=>Fr H2 Hc∧k≤b.code.length∧∀ j (h:j<b.code.length),j<k→Flo.insOk mi regs b.code.length j b.code[j]=true) (fun k=>b.code.length-k) 0 ⟨.refl _,Nat.zero_le _,fun j _ h=>absurd h (by omega)⟩ ⟨rfl,rfl,rfl,rfl,rfl,rfl,trivial⟩ ?_
  rintro k Hc ⟨hfr,hk,hpre⟩
  rcases Nat.lt_or_ge k b.code.length with h|h
  ·have g1:decide ((k:Int)<b.code.length)=true:=dT
   obtain ⟨bl,off,cs,ha1,hrd,va,rfl,hv⟩:=(hc.fr InsR.m hfr).at E_s_api_Ins E_Ins te_Ins_size (kd:=.i64) h
   have hl1:=hrd.loadN (V:=V) E_Ins te_Ins_agg te_Ins_size
   generalize hi:b.code[k]=i at *
   have hopi:0≤i.op∧i.op<256:=hop i (by rw [←hi];exact List.getElem_mem _)
   have hb1:=b1'.fr hfr
   have hb2:=b2'.fr hfr
   repeat first|apply zSeq|apply zReg|apply zBlk|apply zSkp|refine wN ?_|refine wG ?_|refine wL ?_|refine wT ?_|refine zIdx rfl rfl ha1 ?_|refine zLd rfl hl1 ?_
   refine zAlc E_Ins zero39 fun H3 f3 b3 n3=>?_
   refine zStB b3 rfl rfl E_Ins (by rw [te_Ins_size];rfl) (by have:=hv.oneCell;simp [Value.cells,Ins.cells,Value.oneCell'] at this ⊢;exact this) (by simp [Value.cells,Ins.cells]) (by simp [Value.cells,Ins.cells]) fun H4 f4 b4 n4=>?_
   have b4':Bx H4 Hc.next 47 (i.cells va):=b4
   have f34:Fr Hc H4:=f3.young f4 (by simp) (by simp)
   obtain ⟨_,H5,hc5,rfl,f5⟩:=flowMayIns_c (H:=H4) (i:=i) (va:=va) hO ((hg.fr hfr).fr f34) regs (hv.fr f34) hopi
   have f35:=f34.trans f5
   have fr5:=hfr.trans f35
   replace b4':=b4'.fr f5
   replace hb1:=hb1.fr f34
   replace hb2:=hb2.fr f34
   repeat first|apply zSeq|apply zReg|refine wN ?_
   refine zLd rfl (b4.lN E_Ins te_Ins_agg te_Ins_size) ?_
   repeat first|refine wB E_int ?_
   refine WL.call rfl rfl fp_flow_mayIns.is hc5 ?_
   replace hb1:=hb1.fr f5
   replace hb2:=hb2.fr f5
   clear b3 b4 f3 f4 hc5
   have bad:Flo.insOk mi regs b.code.length k b.code[k]=false→Flo.blockOk mi regs b=false:=fun hbad=>by
    have:Flo.codeOk mi regs b.code.length 0 b.code=false:=by
     cases e:Flo.codeOk mi regs b.code.length 0 b.code with
     | false=>rfl
     | true=>have:=Flo.codeOk_iff.1 e k h;rw [Nat.zero_add,hbad] at this;cases this
    unfold Flo.blockOk;rw [this];rfl
   rw [hi] at bad
   unfold Flo.insOk at bad
   cases c1:mi regs i
   ·rw [c1] at bad
    repeat first|apply zSeq|apply zReg|refine wN ?_|refine wx ?_|refine zU rfl ?_|refine wA ?_|refine wp ?_|refine wZ ?_|refine wt ?_
    exact WP.ret ⟨.inr rfl,_,rfl,by rw [bad rfl];rfl,f12.trans fr5⟩
   have hfold:(b.code.take (k+1)).foldl Flo.toN 1=Flo.toN ((b.code.take k).foldl Flo.toN 1) i:=by
    rw [List.take_add_one,List.getElem?_eq_getElem h,hi,Option.toList_some,List.foldl_append];rfl
   have hpre':Flo.insOk mi regs b.code.length k i=true→∀ j (h:j<b.code.length),j<k+1→Flo.insOk mi regs b.code.length j b.code[j]=true:=fun hok j hj hjk=>by
    by_cases e:j=k
    ·subst e;rw [hi];exact hok
    ·exact hpre j hj (by omega)
   have fin:Flo.insOk mi regs b.code.length k i=true→∀ {lz:SL},Kn lz [(2,.pointer (some ⟨H.next,0,none⟩)),(3,.pointer (some ⟨H1.next,0,none⟩)),(5,.int .i64 (Flo.toN ((b.code.take k).foldl Flo.toN 1) i)),(10,vc),(11,.int .i64 b.code.length),(12,.int .i64 ((k:Int)+1))] →
    ∃ s',(Fr H2 H5∧s'≤b.code.length∧∀ j (h:j<b.code.length),j<s'→Flo.insOk mi regs b.code.length j b.code[j]=true)∧b.code.length-s'<b.code.length-k∧Kn lz [(2,.pointer (some ⟨H.next,0,none⟩)),(3,.pointer (some ⟨H1.next,0,none⟩)),(5,.int .i64 ((b.code.take s').foldl Flo.toN 1)),(10,vc),(11,.int .i64 b.code.length),(12,.int .i64 s')]:=fun hok lz hk =>
    ⟨k+1,⟨fr5,h,hpre' hok⟩,by omega,by rw [hfold];exact hk⟩
   cases c2:Flo.ends i.op
   ·have hok:Flo.insOk mi regs b.code.length k i=true:=by unfold Flo.insOk;rw [c1,c2];rfl
    cases d1:i.op==12
    ·cases d2:i.op==13
     ·have et:∀ t,Flo.toN t i=t:=fun t=>by unfold Flo.toN;rw [d1,d2];rfl
      rw [et] at fin
      repeat first|refine wo ?_|refine wZ ?_|refine wD O_Ins_Op ?_|refine wB E_uint8 ?_
      refine WL.call rfl rfl fp_flow_ends.is (ends_c hO i.op) ?_
      repeat first|apply zSeq|apply zReg|apply zBlk|apply zSkp|refine wN ?_|refine wo ?_|refine wF ?_|refine wM ?_|refine wq ?_|refine wR ?_|refine wQ ?_|refine wS ?_|refine wf ?_|refine wE ?_|refine wD O_Ins_Op ?_|refine wB E_uint8 ?_
      exact fin hok ⟨rfl,rfl,rfl,rfl,rfl,rfl,trivial⟩
     ·exfalso;unfold Flo.ends at c2;rw [d2] at c2;simp at c2
    ·exfalso;unfold Flo.ends at c2;rw [d1] at c2;simp at c2
   ·cases c3:decide ((k:Int)+1<b.code.length)
    case true =>
     have hbad:Flo.blockOk mi regs b=false:=bad (by
      have:decide (k+1<b.code.length)=true:=decide_eq_true (by have:=of_decide_eq_true c3;omega)
      rw [c1,c2,this];rfl)
     repeat first|refine wo ?_|refine wZ ?_|refine wD O_Ins_Op ?_|refine wB E_uint8 ?_
     refine WL.call rfl rfl fp_flow_ends.is (ends_c hO i.op) ?_
     repeat first|apply zSeq|apply zReg|refine wN ?_|refine wo ?_|refine wO ?_|refine wM ?_|refine wA ?_|refine wq ?_|refine wP ?_|refine wL ?_|refine wS ?_|refine wT ?_|refine wB E_s_api_Ins ?_|refine wK (hc.len E_s_api_Ins) ?_|refine wD O_Block_Code ?_
     exact WP.ret ⟨.inr rfl,_,rfl,by rw [hbad];rfl,f12.trans fr5⟩
    have hok:Flo.insOk mi regs b.code.length k i=true:=by
     have:decide (k+1<b.code.length)=false:=decide_eq_false (by have:=of_decide_eq_false c3;omega)
     unfold Flo.insOk;rw [c1,c2,this];rfl
    cases d1:i.op==12
    ·cases d2:i.op==13
     ·have et:∀ t,Flo.toN t i=t:=fun t=>by unfold Flo.toN;rw [d1,d2];rfl
      rw [et] at fin
      repeat first|refine wo ?_|refine wZ ?_|refine wD O_Ins_Op ?_|refine wB E_uint8 ?_
      refine WL.call rfl rfl fp_flow_ends.is (ends_c hO i.op) ?_
      repeat first|apply zSeq|apply zReg|apply zBlk|apply zSkp|refine wN ?_|refine wo ?_|refine wO ?_|refine wM ?_|refine wq ?_|refine wP ?_|refine wL ?_|refine wQ ?_|refine wS ?_|refine wE ?_|refine wD O_Ins_Op ?_|refine wB E_uint8 ?_|refine wB E_s_api_Ins ?_|refine wK (hc.len E_s_api_Ins) ?_|refine wD O_Block_Code ?_
      exact fin hok ⟨rfl,rfl,rfl,rfl,rfl,rfl,trivial⟩
     ·have et:∀ t,Flo.toN t i=0:=fun t=>by unfold Flo.toN;rw [d1,d2];rfl
      rw [et] at fin
      repeat first|refine wo ?_|refine wZ ?_|refine wD O_Ins_Op ?_|refine wB E_uint8 ?_
      refine WL.call rfl rfl fp_flow_ends.is (ends_c hO i.op) ?_
      repeat first|apply zSeq|apply zReg|apply zBlk|apply zSkp|refine wN ?_|refine wo ?_|refine wO ?_|refine wM ?_|refine wA ?_|refine wq ?_|refine wP ?_|refine wL ?_|refine wQ ?_|refine wS ?_|refine wT ?_|refine wE ?_|refine wD O_Ins_Op ?_|refine wB E_uint8 ?_|refine wB E_s_api_Ins ?_|refine wK (hc.len E_s_api_Ins) ?_|refine wD O_Block_Code ?_
      exact fin hok ⟨rfl,rfl,rfl,rfl,rfl,rfl,trivial⟩
    ·have et:∀ t,Flo.toN t i=2:=fun t=>by unfold Flo.toN;rw [d1];rfl
     rw [et] at fin
     repeat first|refine wo ?_|refine wZ ?_|refine wD O_Ins_Op ?_|refine wB E_uint8 ?_
     refine WL.call rfl rfl fp_flow_ends.is (ends_c hO i.op) ?_
     repeat first|apply zSeq|apply zReg|apply zBlk|apply zSkp|refine wN ?_|refine wo ?_|refine wO ?_|refine wM ?_|refine wA ?_|refine wq ?_|refine wP ?_|refine wL ?_|refine wQ ?_|refine wS ?_|refine wT ?_|refine wE ?_|refine wD O_Ins_Op ?_|refine wB E_uint8 ?_|refine wB E_s_api_Ins ?_|refine wK (hc.len E_s_api_Ins) ?_|refine wD O_Block_Code ?_
     exact fin hok ⟨rfl,rfl,rfl,rfl,rfl,rfl,trivial⟩
  ·have g1:decide ((k:Int)<b.code.length)=false:=dF
   rw [List.take_of_length_le h]
   repeat first|apply zSeq|apply zReg|apply zExt|refine wN ?_|refine wL ?_|refine wE ?_
   exact ⟨(),⟨hfr,Flo.codeOk_iff.2 fun j hj=>by rw [Nat.zero_add];exact hpre j hj (by omega)⟩,rfl,rfl,rfl,trivial⟩
 rintro _ H3 ⟨f3,hcode⟩
 replace b1':=b1'.fr f3
 replace b2':=b2'.fr f3
 replace hp:=hp.fr PhiR.m f3
 have f13:=f12.trans f3
 have hn3:=f3.1
 have hbo:Flo.blockOk mi regs b=((b.to.length:Int)==Flo.toOf b.code&&b.phis.all (Flo.phiOk regs b.frm.length)):=by unfold Flo.blockOk;rw [hcode];rfl
 rw [hbo]
 clear hbo hc f3 hg
 apply zSeq
 apply zReg
 refine WL.op (v:=.func (.func 49) #[] #[.pointer (some ⟨H1.next,0,none⟩)]) (H1:=H3) rfl ?_
 refine zAlc E_f122 te_f122_zero fun H4 f4 b4 n4=>?_
 refine zStB b4 rfl rfl E_f122 (by rw [te_f122_size];rfl) rfl (by simp [Value.cells]) (by simp [Value.cells]) fun H5 f5 b5 n5=>?_
 have b5':Bx H5 H3.next 84 [.func (.func 49) #[] #[.pointer (some ⟨H1.next,0,none⟩)]]:=b5
 have f35:Fr H3 H5:=f4.young f5 (by simp) (by simp)
 replace b1':=b1'.fr f35
 replace b2':=b2'.fr f35
 replace hp:=hp.fr PhiR.m f35
 have f15:=f13.trans f35
 clear f4 f5 b4 b5
 cases c1:(b.to.length:Int)==Flo.toOf b.code
 ·repeat first|apply zSeq|apply zReg|refine wN ?_|refine wG ?_|refine wF ?_|refine wR ?_|refine wQ ?_|refine wB E_s_int ?_|refine wD O_Block_To ?_|refine wK (ht2.len E_s_int) ?_
  exact WP.ret ⟨.inr rfl,_,rfl,rfl,f15⟩
 ·obtain ⟨H6,hc6,f6⟩:=containsFunc_phi_c (H:=H5) (f:=51) (cap:=#[.pointer (some ⟨H3.next,0,none⟩),.pointer (some ⟨H.next,0,none⟩)]) (p:=fun p=>!Flo.phiOk regs b.frm.length p) hO hp hLp (by rw [fn_flow_block_q2];rfl) (fun x hx cs Hx fx hR=>by
   obtain ⟨_,Hy,h,rfl,fy⟩:=blockQ2_c (H:=Hx) hO (b5'.fr fx) (b2'.fr fx) (b1'.fr fx) (fun Hz=>hf.len E_s_int) hR (hLa x hx)
   exact ⟨Hy,h,fy⟩)
  repeat first|apply zSeq|apply zReg|refine wN ?_|refine wG ?_|refine wO ?_|refine wQ ?_|refine wB E_s_int ?_|refine wD O_Block_Phis ?_|refine wD O_Block_To ?_|refine wB E_s_api_Phi ?_|refine wK (ht2.len E_s_int) ?_
  refine WL.op (v:=.func (.func 51) #[] #[.pointer (some ⟨H3.next,0,none⟩),.pointer (some ⟨H.next,0,none⟩)]) (H1:=H5) rfl ?_
  repeat first|refine wO ?_
  refine WL.call rfl rfl fp_slices_ContainsFunc_s_api_Phi_api_Phi.is hc6 ?_
  repeat first|refine wN ?_|refine wO ?_|refine wP ?_|refine wZ ?_
  refine WP.ret ⟨.inr rfl,_,rfl,?_,f15.trans f6⟩
  rw [any_not,Bool.not_not];rfl
end
section
attribute [local irreducible] WL WP WH W
attribute [local irreducible] V
variable {O:Orc}{H:AH}
abbrev FV:=Nat→Value×Option (Nat×Nat)
def wc (fv:FV) (tv:Nat→Value) (k:Nat):List Value:=[.slice none 0 0,.slice none 0 0,(fv k).1,tv k]
theorem wc_len (fv:FV) (tv:Nat→Value) (k:Nat):(wc fv tv k).length=4:=rfl
def Dj (o1 o2:Option (Nat×Nat)):Prop:=(∀ b∈obs o1,b∉obs o2)∧(∀ g∈ogs o1,g∉ogs o2)
structure WS (Hc:AH) (w n0 n:Nat) (fv:FV) (tv:Nat→Value) (F:Nat→List Int):Prop where
 bx:Bx Hc w 45 (rng n (wc fv tv))
 own:∀ k,k<n→OwI 3 Hc n0 (fv k).1 (F k) (fv k).2
 dj:∀ j k,j<n→k<n→j≠k→Dj (fv j).2 (fv k).2
 lt:w<n0
 nx:n0≤Hc.next
section
variable {Hc H':AH}{w n0 n:Nat}{fv:FV}{tv:Nat→Value}{F:Nat→List Int}
theorem WS.fr (h:WS Hc w n0 n fv tv F) (k:Fr Hc H'):WS H' w n0 n fv tv F:=⟨h.bx.fr k,fun j hj=>(h.own j hj).fr k,h.dj,h.lt,Nat.le_trans h.nx k.1⟩
theorem WS.of_eq (h:WS Hc w n0 n fv tv F) {G:Nat→List Int} (e:∀ k,k<n→F k=G k):WS Hc w n0 n fv tv G:=⟨h.bx,fun j hj=>by rw [←e j hj];exact h.own j hj,h.dj,h.lt,h.nx⟩
theorem WS.at (h:WS Hc w n0 n fv tv F) (hn:n<4611686018427387904) {i:Nat} (hi:i<n):aIndex V.E 22 (.slice (some ⟨w,0,none⟩) n n) (.int .i64 i)=some (.pointer (some ⟨w,0+i*4,none⟩))∧aLoad V.E Hc 43 (.pointer (some ⟨w,0+i*4+2,none⟩))=some (fv i).1∧aLoad V.E Hc 43 (.pointer (some ⟨w,0+i*4+3,none⟩))=some (tv i):=by
 have hl:=rng_len (wc_len fv tv) n
 have hr:Rd Hc w 0 (n*4) (rng n (wc fv tv)):=h.bx.rd hl
 have hle:(i+1)*4≤n*4:=Nat.mul_le_mul_right 4 hi
 have h4:=hr.sub (i*4) 4 (by omega)
 rw [rng_chunk (wc_len fv tv) hi] at h4
 refine ⟨?_,(h4.at1 (i:=2) rfl).load1 E_s_int rfl,(h4.at1 (i:=3) rfl).load1 E_s_int rfl⟩
 simp only [aIndex,E_s_api_Block,E_Block,te_Block_size]
 rw [if_pos ⟨by omega,by omega⟩];rfl
theorem WS.setTo (h:WS Hc w n0 n fv tv F) {i:Nat} (hi:i<n) (v:Value):∃ H1,Hc.wr w (0+i*4+3) [v]=some H1∧WS H1 w n0 n fv (fun j=>if j=i then v else tv j) F∧FrX [w] [] Hc H1:=by
 have hl:=rng_len (wc_len fv tv) n
 have hle:(i+1)*4≤n*4:=Nat.mul_le_mul_right 4 hi
 obtain ⟨H1,k1,k2,k3,k4⟩:=h.bx.wr (off:=i*4+3) (vs:=[v]) (by simp) (by rw [hl];simp;omega)
 rw [rng_splice (wc_len fv tv) hi (by simp)] at k2
 refine ⟨H1,by rw [Nat.zero_add];exact k1,⟨?_,fun j hj=>(h.own j hj).frX k3 (fun b hb=>by have:=(h.own j hj).young.1 b hb;have:=h.lt;simp;omega) (by simp),h.dj,h.lt,by rw [k4];exact h.nx⟩,k3⟩
 have e:(rng n fun j=>if j=i then splice (wc fv tv i) 3 [v] else wc fv tv j)=rng n (wc fv fun j=>if j=i then v else tv j):=rng_congr fun j _=>by
  by_cases e:j=i
  ·subst e;simp [wc,splice]
  ·simp [wc,e]
 rw [e] at k2;exact k2
theorem WS.push (h:WS Hc w n0 n fv tv F) {i:Nat} (hi:i<n) (x:Int) (hL:(F i).length≤999999):∃ v' H1 H2 o',(∀ {g:Ft}{y z:Operand},g y=some (fv i).1→g z=some (.slice (some ⟨Hc.next,0,none⟩) 1 1)→aopG V g (Hc.alloc (.row 3 [.int .i64 x] .exact 0 0)) (.call ⟨.builtin .append,#[y,z],#[43,43]⟩)=some (v',H1))∧Value.oneCell' v'=true∧v'.cells.toList=[v']∧H1.wr w (0+i*4+2) [v']=some H2∧WS H2 w n0 n (fun j=>if j=i then (v',o') else fv j) tv (fun j=>if j=i then F i++[x] else F j)∧(∀ Hb,Fr Hb Hc→Hb.next≤w→Fr Hb H2):=by
 obtain ⟨v',H1,o',k1,k2,k3,k4⟩:=(h.own i hi).app1 (V:=V) x hL h.nx E_s_int E_s_int E_int (by decide)
 have hl:=rng_len (wc_len fv tv) n
 have hle:(i+1)*4≤n*4:=Nat.mul_le_mul_right 4 hi
 have hw:=h.lt
 have b1:=h.bx.frX k3 (fun hb=>by have:=(h.own i hi).young.1 w hb;omega)
 obtain ⟨H2,m1,m2,m3,m4⟩:=b1.wr (off:=i*4+2) (vs:=[v']) (by simp) (by rw [hl];simp;omega)
 rw [rng_splice (wc_len fv tv) hi (by simp)] at m2
 have ho':=k2.young
 have e:(rng n fun j=>if j=i then splice (wc fv tv i) 2 [v'] else wc fv tv j)=rng n (wc (fun j=>if j=i then (v',o') else fv j) tv):=rng_congr fun j _=>by
  by_cases e:j=i
  ·subst e;simp [wc,splice]
  ·simp [wc,e]
 rw [e] at m2
 have hv1:Value.oneCell' v'=true∧v'.cells.toList=[v']:=by
  have hr:IntsR .no H1 v' (F i++[x]):=k2.rYoung .no
  obtain ⟨_,⟨rfl,_⟩|⟨b,off,cap,rfl,_⟩⟩:=hr<;>exact ⟨rfl,rfl⟩
 refine ⟨v',H1,H2,o',k1,hv1.1,hv1.2,by rw [Nat.zero_add];exact m1,⟨m2,fun j hj=>?_,fun j k hj hk hjk=>?_,hw,by rw [m4];exact Nat.le_trans h.nx k3.1⟩,fun Hb fb hbw=>?_⟩
 ·by_cases e:j=i
  ·subst e
   simp only [if_true]
   exact k2.frX m3 (fun b hb=>by have:=ho'.1 b hb;simp;omega) (by simp)
  ·simp only [if_neg e]
   have d:=h.dj j i hj hi e
   exact ((h.own j hj).frX k3 d.1 d.2).frX m3 (fun b hb=>by have:=(h.own j hj).young.1 b hb;simp;omega) (by simp)
 ·have grow:∀ j,j<n→j≠i→Dj (fv j).2 o':=fun j hj e=>by
   have d:=h.dj j i hj hi e
   have y:=(h.own j hj).young
   exact ⟨fun b hb hb'=>(k4.1 b hb').elim (fun h'=>d.1 b hb h') (fun h'=>by have:=y.2.2.1 b hb;omega),fun g hg hg'=>(k4.2 g hg').elim (fun h'=>d.2 g hg h') (fun h'=>by have:=y.2.2.2 g hg;omega)⟩
  by_cases ej:j=i
  ·subst ej
   simp only [if_true,if_neg (Ne.symm hjk)]
   have d:=grow k hk (Ne.symm hjk)
   exact ⟨fun b h1 h2=>d.1 b h2 h1,fun b h1 h2=>d.2 b h2 h1⟩
  ·by_cases ek:k=i
   ·subst ek
    simp only [if_true,if_neg ej]
    exact grow j hj ej
   ·simp only [if_neg ej,if_neg ek]
    exact h.dj j k hj hk hjk
 ·have y:=(h.own i hi).young
  exact (fb.young k3 (fun b hb=>by have:=y.1 b hb;omega) (fun b hb=>by have:=y.2.1 b hb;omega)).young m3 (by simp;omega) (by simp)
end
def FS (l:List Block) (k j:Nat) (to:List Int) (t:Nat):List Int:=Flo.fromOf l k t++if (to.take j).contains (t:Int)=true then [(k:Int)] else []
theorem fromOf_succ {l:List Block}{k:Nat} (h:k<l.length) (t:Int):Flo.fromOf l (k+1) t=Flo.fromOf l k t++if l[k].to.contains t=true then [(k:Int)] else []:=by
 unfold Flo.fromOf
 rw [List.range_succ,List.filter_append,List.map_append]
 congr 1
 rw [List.filter_cons,List.filter_nil,List.getElem?_eq_getElem h]
 simp only
 split<;>rfl
theorem FS_zero {l:List Block}{k:Nat}{to:List Int} (t:Nat):FS l k 0 to t=Flo.fromOf l k t:=by unfold FS;simp
theorem FS_all {l:List Block}{k:Nat} (h:k<l.length) (t:Nat):FS l k l[k].to.length l[k].to t=Flo.fromOf l (k+1) t:=by unfold FS;rw [List.take_length,fromOf_succ h]
theorem fromOf_lt {l:List Block}{k:Nat}{t x:Int} (h:x∈Flo.fromOf l k t):0≤x∧x<k:=by
 unfold Flo.fromOf at h
 obtain ⟨y,hy,rfl⟩:=List.mem_map.1 h
 have:=List.mem_range.1 (List.mem_filter.1 hy).1
 omega
theorem fromOf_length (l:List Block) (k:Nat) (t:Int):(Flo.fromOf l k t).length≤k:=by
 unfold Flo.fromOf
 rw [List.length_map]
 exact Nat.le_trans (List.length_filter_le _ _) (by simp)
theorem FS_length (l:List Block) (k j:Nat) (to:List Int) (t:Nat):(FS l k j to t).length≤k+1:=by
 unfold FS
 have:=fromOf_length l k t
 rw [List.length_append]
 split<;>simp<;>omega
end
section
attribute [local irreducible] WL WP WH W
attribute [local irreducible] V
variable {O:Orc}{H:AH}
theorem take_contains {l:List Int}{j:Nat} (h:j<l.length) (x:Int):(l.take (j+1)).contains x=((l.take j).contains x||(x==l[j])):=by
 rw [List.take_add_one,List.getElem?_eq_getElem h,Option.toList_some,List.contains_append]
 have:[l[j]].contains x=(x==l[j]):=by
  by_cases e:x=l[j]<;>simp [e]
 rw [this]
theorem FS_succ {l:List Block}{k j:Nat}{to:List Int} (h:j<to.length) {tn:Nat} (ht:to[j]=tn) (t:Nat) :
  FS l k (j+1) to t=if t=tn then (if (to.take j).contains (tn:Int)=true then FS l k j to tn else FS l k j to tn++[(k:Int)]) else FS l k j to t:=by
 unfold FS
 rw [take_contains h,ht]
 by_cases e:t=tn
 ·subst e
  rw [if_pos rfl,beq_self_eq_true,Bool.or_true,if_pos rfl]
  split
  ·rfl
  ·simp
 ·have:((t:Int)==(tn:Int))=false:=by rw [beq_eq_false_iff_ne];omega
  rw [if_neg e,this,Bool.or_false]
set_option maxHeartbeats 2000000 in
theorem from_c (hO:NoO O) {Hb:AH}{A:Av}{w n0:Nat}{l:List Block}{fv:FV}{tv:Nat→Value} (hws:WS H w n0 l.length fv tv fun _=>[]) (htv0:∀ k (h:k<l.length),IntsR A Hb (tv k) l[k].to) (hb:Fr Hb H) (hbw:Hb.next≤w) (hin:∀ b∈l,∀ t∈b.to,0≤t∧t<l.length) (hL:l.length≤100000) (hLt:∀ b∈l,b.to.length≤1000000) :
  ∃ u H',Lc V O F_flow_from [.slice (some ⟨w,0,none⟩) l.length l.length] H u H'∧(∃ fv',WS H' w n0 l.length fv' tv (fun t=>Flo.fromOf l l.length t)∧Fr Hb H'):=by
 refine Lc.flow_from (hO _ _ _ (by decide)) ?_
 unfold P_flow_from
 have hwl:∀ Hz,aLen V.E Hz 22 (.slice (some ⟨w,0,none⟩) l.length l.length)=some (.int .i64 l.length):=fun Hz=>by simp only [aLen,E_s_api_Block]
 repeat first|apply zSeq|apply zReg|apply zBlk|refine wN ?_|refine wG ?_|refine wM ?_|refine wK (hwl _) ?_
 refine WP.loopH (σ:=Nat×FV) (fun x=>[(0,.slice (some ⟨w,0,none⟩) l.length l.length),(7,.int .i64 l.length),(8,.int .i64 x.1)]) (fun x Hc=>WS Hc w n0 l.length x.2 tv (fun t=>Flo.fromOf l x.1 t)∧Fr Hb Hc∧x.1≤l.length) (fun x=>l.length-x.1) (0,fv) ⟨hws.of_eq fun k _=>rfl,hb,Nat.zero_le _⟩ ⟨rfl,rfl,rfl,trivial⟩ ?_
 rintro ⟨k,fv⟩ Hc ⟨hw,hfr,hk⟩
 simp only at hw hfr hk ⊢
 rcases Nat.lt_or_ge k l.length with h|h
 case inr=>
  have g1:decide ((k:Int)<l.length)=false:=dF
  obtain rfl:k=l.length:=by omega
  repeat first|apply zSeq|apply zReg|apply zExt|refine wN ?_|refine wL ?_|refine wE ?_
  exact ⟨.inl rfl,_,rfl,fv,hw,hfr⟩
 have g1:decide ((k:Int)<l.length)=true:=dT
 have htv:=(htv0 k h).fr hfr
 obtain ⟨hat,hxx,hlt⟩:=hw.at (by omega) h
 have hto:=hin l[k] (List.getElem_mem _)
 have hLk:=hLt l[k] (List.getElem_mem _)
 have hall:=fun t=>FS_all h t
 generalize hle:l[k].to=to at *
 repeat first|apply zSeq|apply zReg|apply zBlk|apply zSkp|refine wN ?_|refine wG ?_|refine wM ?_|refine wL ?_|refine wT ?_|refine wD O_Block_To ?_|refine zLd rfl hlt ?_|refine wK (htv.len E_s_int) ?_|refine zIdx rfl rfl hat ?_
 refine WP.loopH (σ:=Nat×FV) (fun x=>[(0,.slice (some ⟨w,0,none⟩) l.length l.length),(2,.int .i64 k),(7,.int .i64 l.length),(8,.int .i64 k),(15,tv k),(16,.int .i64 to.length),(17,.int .i64 x.1)]) (fun x Hc=>WS Hc w n0 l.length x.2 tv (FS l k x.1 to)∧Fr Hb Hc∧x.1≤to.length) (fun x=>to.length-x.1) (0,fv) ⟨hw.of_eq fun t _=>(FS_zero t).symm,hfr,Nat.zero_le _⟩ ⟨rfl,rfl,rfl,rfl,rfl,rfl,rfl,trivial⟩ ?_
 clear hw hfr htv hat hlt hxx fv Hc
 rintro ⟨j,fv⟩ Hc ⟨hw,hfr,hj⟩
 simp only at hw hfr hj ⊢
 rcases Nat.lt_or_ge j to.length with h2|h2
 case inr=>
  have g2:decide ((j:Int)<to.length)=false:=dF
  obtain rfl:j=to.length:=by omega
  repeat first|apply zSeq|apply zReg|apply zExt|refine wN ?_|refine wL ?_|refine wS ?_|refine wE ?_
  exact ⟨(k+1,fv),⟨hw.of_eq fun t _=>hall t,hfr,h⟩,by simp only;omega,rfl,rfl,rfl,trivial⟩
 have g2:decide ((j:Int)<to.length)=true:=dT
 have htv:IntsR A Hc (tv k) to:=by have:=(htv0 k h).fr hfr;rw [hle] at this;exact this
 obtain ⟨bi,oi,hai,hli⟩:=htv.at E_s_int E_int (kd:=.i64) h2
 obtain ⟨h01,h02⟩:=hto to[j] (List.getElem_mem _)
 obtain ⟨tn,htn⟩:∃ tn:Nat,to[j]=tn:=⟨to[j].toNat,by omega⟩
 have htl:tn<l.length:=by omega
 have hsucc:=fun t=>FS_succ (l:=l) (k:=k) h2 htn t
 rw [htn] at hli
 obtain ⟨haf,hlf,_⟩:=hw.at (by omega) htl
 have hfv:IntsR .no Hc (fv tn).1 (FS l k j to tn):=(hw.own tn htl).rYoung .no
 have hFL:=FS_length l k j to tn
 obtain ⟨v',H1,H2,o',k1,k2,k3,k4,k5,k6⟩:=hw.push htl (k:Int) (by omega)
 have fr2:=k6 Hb hfr hbw
 cases c0:(to.take j).contains (tn:Int)
 case true=>
  have hF:FS l k j to tn=Flo.fromOf l k tn++[(k:Int)]:=by unfold FS;rw [c0];rfl
  have hne:FS l k j to tn≠[]:=by rw [hF];simp
  have hpos:0<(FS l k j to tn).length:=List.length_pos_iff.2 hne
  obtain ⟨bl,ol,hal,hll⟩:=hfv.at E_s_int E_int (kd:=.i64) (i:=(FS l k j to tn).length-1) (by omega)
  have e1:(FS l k j to tn)[(FS l k j to tn).length-1]'(by omega)=(k:Int):=by
   have:=List.getLast_eq_getElem hne
   rw [←this];simp [hF]
  rw [e1] at hll
  rw [show (((FS l k j to tn).length-1:Nat):Int)=((FS l k j to tn).length:Int)-1 by omega] at hal
  have c1:(((FS l k j to tn).length:Int)==0)=false:=by rw [beq_eq_false_iff_ne];omega
  have c2:((k:Int) != k)=false:=by simp
  repeat first|apply zSeq|apply zReg|apply zBlk|apply zSkp|refine wN ?_|refine wG ?_|refine wO ?_|refine wM ?_|refine wR ?_|refine wL ?_|refine wQ ?_|refine wU ?_|refine wS ?_|refine zSub rfl rfl (by omega) ?_|refine wT ?_|refine wE ?_|refine wD O_Block_From ?_|refine zLd rfl hlf ?_|refine zLd rfl hli ?_|refine zLd rfl hll ?_|refine wK (hfv.len E_s_int) ?_|refine zIdx rfl rfl haf ?_|refine zIdx rfl rfl hai ?_|refine zIdx rfl rfl hal ?_
  refine ⟨(j+1,fv),⟨hw.of_eq fun t _=>?_,hfr,h2⟩,by simp only;omega,rfl,rfl,rfl,rfl,rfl,rfl,rfl,trivial⟩
  rw [hsucc t]
  by_cases e:t=tn
  ·rw [if_pos e,if_pos c0,e]
  ·rw [if_neg e]
 have hF:FS l k j to tn=Flo.fromOf l k tn:=by unfold FS;rw [c0];simp
 have hws':WS H2 w n0 l.length (fun j=>if j=tn then (v',o') else fv j) tv (FS l k (j+1) to):=k5.of_eq fun t _=>by
  rw [hsucc t]
  by_cases e:t=tn
  ·rw [if_pos e,if_pos e,if_neg (by rw [c0];decide)]
  ·rw [if_neg e,if_neg e]
 have hsz:v'.cells.size=1:=by have:=congrArg List.length k3;simpa using this
 cases c1:((FS l k j to tn).length:Int)==0
 ·have hpos:0<(FS l k j to tn).length:=by have:=beq_eq_false_iff_ne.1 c1;omega
  have hne:FS l k j to tn≠[]:=List.length_pos_iff.1 hpos
  obtain ⟨bl,ol,hal,hll⟩:=hfv.at E_s_int E_int (kd:=.i64) (i:=(FS l k j to tn).length-1) (by omega)
  have hmem:(FS l k j to tn)[(FS l k j to tn).length-1]'(by omega)∈Flo.fromOf l k tn:=by rw [←hF];exact List.getElem_mem _
  have hlt:=fromOf_lt hmem
  rw [show (((FS l k j to tn).length-1:Nat):Int)=((FS l k j to tn).length:Int)-1 by omega] at hal
  have c2:((FS l k j to tn)[(FS l k j to tn).length-1]'(by omega) != (k:Int))=true:=by rw [bne_iff_ne];omega
  repeat first|apply zSeq|apply zReg|apply zBlk|apply zSkp|refine wN ?_|refine wG ?_|refine wO ?_|refine wM ?_|refine wR ?_|refine wL ?_|refine wQ ?_|refine wU ?_|refine zSub rfl rfl (by omega) ?_|refine wT ?_|refine wD O_Block_From ?_|refine zLd rfl hlf ?_|refine zLd rfl hli ?_|refine zLd rfl hll ?_|refine wK (hfv.len E_s_int) ?_|refine zIdx rfl rfl haf ?_|refine zIdx rfl rfl hai ?_|refine zIdx rfl rfl hal ?_
  refine WL.op (op_buildSlice rfl E_s_int E_int (by decide) fill_int) ?_
  refine WL.op (k1 rfl rfl) ?_
  repeat first|refine wD O_Block_From ?_|refine zIdx rfl rfl haf ?_
  refine WL.op (op_store rfl rfl E_s_int hsz (by rw [k3];simp [k2]) (by rw [k3];exact k4)) ?_
  repeat first|apply zReg|refine wN ?_|refine wS ?_
  exact ⟨(j+1,_),⟨hws',fr2,h2⟩,by simp only;omega,rfl,rfl,rfl,rfl,rfl,rfl,rfl,trivial⟩
 ·repeat first|apply zSeq|apply zReg|apply zBlk|apply zSkp|refine wN ?_|refine wG ?_|refine wF ?_|refine wP ?_|refine wL ?_|refine wQ ?_|refine wt ?_|refine wT ?_|refine wD O_Block_From ?_|refine zLd rfl hlf ?_|refine zLd rfl hli ?_|refine wK (hfv.len E_s_int) ?_|refine zIdx rfl rfl haf ?_|refine zIdx rfl rfl hai ?_
  refine WL.op (op_buildSlice rfl E_s_int E_int (by decide) fill_int) ?_
  refine WL.op (k1 rfl rfl) ?_
  repeat first|refine wD O_Block_From ?_|refine zIdx rfl rfl haf ?_
  refine WL.op (op_store rfl rfl E_s_int hsz (by rw [k3];simp [k2]) (by rw [k3];exact k4)) ?_
  repeat first|apply zReg|refine wN ?_|refine wS ?_
  exact ⟨(j+1,_),⟨hws',fr2,h2⟩,by simp only;omega,rfl,rfl,rfl,rfl,rfl,rfl,rfl,trivial⟩
end
section
attribute [local irreducible] WL WP WH W
theorem zero34:te_Block.zv.cells.toList=List.replicate 4 (.slice none 0 0):=by kernel_rfl
attribute [local irreducible] V
variable {O:Orc}{H:AH}
theorem els_cols {A:Av}{v:Value}{l:List Block} (h:Els 4 BlockR A H v l):∃ (ck:Nat→List Value) (fvs tvs:Nat→Value),(∀ k (hk:k<l.length) Hc,Fr H Hc→∃ b off,aIndex V.E 22 v (.int .i64 k)=some (.pointer (some ⟨b,off,none⟩))∧Rd Hc b off 4 (ck k)) ∧
  ∀ k (hk:k<l.length),(∃ vp vc,ck k=[vp,vc,fvs k,tvs k]∧Els 2 PhiR A H vp l[k].phis∧Els 6 InsR A H vc l[k].code)∧IntsR A H (fvs k) l[k].frm∧IntsR A H (tvs k) l[k].to:=by
 obtain ⟨CS,h1,h2⟩:=h
 refine ⟨fun k=>(CS.drop (k*4)).take 4,fun k=>((CS.drop (k*4)).take 4).getD 2 (.slice none 0 0),fun k=>((CS.drop (k*4)).take 4).getD 3 (.slice none 0 0),fun k hk Hc hf=>(h1.fr hf).at E_s_api_Block E_Block te_Block_size (by omega) (by omega),fun k hk=>?_⟩
 obtain ⟨vp,vc,vf,vt,e,k1,k2,k3,k4⟩:=h2 k hk
 refine ⟨⟨vp,vc,?_,k1,k2⟩,?_,?_⟩
 ·show (CS.drop (k*4)).take 4=[vp,vc,((CS.drop (k*4)).take 4).getD 2 _,((CS.drop (k*4)).take 4).getD 3 _]
  rw [e];rfl
 ·show IntsR A H (((CS.drop (k*4)).take 4).getD 2 _) _
  rw [e];exact k3
 ·show IntsR A H (((CS.drop (k*4)).take 4).getD 3 _) _
  rw [e];exact k4
set_option maxHeartbeats 4000000 in
theorem froms_c (hO:NoO O) {A:Av}{l:List Block}{vl:Value} (hvl:Els 4 BlockR A H vl l) (h0:0<l.length) (hL:l.length≤100000) (hLt:∀ b∈l,b.to.length≤1000000) (hLf:∀ b∈l,b.frm.length≤1000000) :
 ∃ u H',Lc V O F_flow_froms [vl] H u H'∧(u=.bool (Flo.froms l)∧Fr H H'):=by
 refine Lc.flow_froms (hO _ _ _ (by decide)) ?_
 unfold P_flow_froms
 obtain ⟨ck,fvs,tvs,hat0,hcol⟩:=els_cols hvl
 repeat first|apply zSeq|apply zReg|refine wN ?_|refine wG ?_|refine wA ?_|refine wK (hvl.len E_s_api_Block) ?_
 refine zMkS (n:=l.length) (m:=l.length) rfl rfl E_s_api_Block E_Block (Nat.le_refl _) (by rw [te_Block_bytes];omega) (by omega) rfl fun H1 f1 b1 n1=>?_
 have hws:WS H1 H.next H1.next l.length (fun _=>(.slice none 0 0,none)) (fun _=>.slice none 0 0) (fun _=>[]):=by
  refine ⟨?_,fun k _=>.nil,fun j k _ _ _=>⟨by simp [obs],by simp [ogs]⟩,by omega,Nat.le_refl _⟩
  rw [zero34,azeros_rep (by decide)] at b1
  have e:rng l.length (wc (fun _=>(.slice none 0 0,none)) fun _=>.slice none 0 0)=List.replicate (l.length*4) (.slice none 0 0):=rng_rep 4 _ _
  rw [e];exact b1
 clear b1
 repeat first|refine wN ?_
 refine WP.seqS (σ:=Unit) (fun _=>[(0,vl),(3,.slice (some ⟨H.next,0,none⟩) l.length l.length)]) (fun _ Hc=>WS Hc H.next H1.next l.length (fun _=>(.slice none 0 0,none)) (fun j=>if j<l.length then tvs j else .slice none 0 0) (fun _=>[])∧Fr H Hc∧∀ b∈l,b.to.all (Flo.within l.length)=true) ?_ ?_
 ·repeat first|apply zSeq|apply zReg|apply zBlk|refine wN ?_|refine wG ?_|refine wM ?_|refine wK (hvl.len E_s_api_Block) ?_
  refine WP.loopH (σ:=Nat) (fun k=>[(0,vl),(3,.slice (some ⟨H.next,0,none⟩) l.length l.length),(13,vl),(14,.int .i64 l.length),(15,.int .i64 k)]) (fun k Hc=>WS Hc H.next H1.next l.length (fun _=>(.slice none 0 0,none)) (fun j=>if j<k then tvs j else .slice none 0 0) (fun _=>[])∧Fr H Hc∧k≤l.length∧∀ j (h:j<l.length),j<k→l[j].to.all (Flo.within l.length)=true) (fun k=>l.length-k) 0 ⟨hws,f1,Nat.zero_le _,fun j _ h=>absurd h (by omega)⟩ ⟨rfl,rfl,rfl,rfl,rfl,trivial⟩ ?_
  rintro k Hc ⟨hw,hfr,hk,hpre⟩
  rcases Nat.lt_or_ge k l.length with h|h
  case inr =>
   have g1:decide ((k:Int)<l.length)=false:=dF
   obtain rfl:k=l.length:=by omega
   repeat first|apply zSeq|apply zReg|apply zExt|refine wN ?_|refine wL ?_|refine wE ?_
   exact ⟨(),⟨hw,hfr,fun b hb=>by obtain ⟨j,hj,rfl⟩:=List.mem_iff_getElem.1 hb;exact hpre j hj hj⟩,rfl,rfl,trivial⟩
  have g1:decide ((k:Int)<l.length)=true:=dT
  obtain ⟨bb,off,ha1,hrd⟩:=hat0 k h Hc hfr
  have hl1:=hrd.loadN (V:=V) E_Block te_Block_agg te_Block_size
  obtain ⟨⟨vp,vc,eck,_,_⟩,hfk,htk⟩:=hcol k h
  have hLk:=hLt l[k] (List.getElem_mem _)
  rw [eck] at hl1
  have hone:([vp,vc,fvs k,tvs k].all Value.oneCell')=true:=by
   rename_i hP hC
   simp [hP.oneCell,hC.oneCell,hfk.oneCell,htk.oneCell]
  have hfr0:=hfr
  have hbad:l[k].to.all (Flo.within l.length)=false→Flo.froms l=false:=fun hb=>by
   have:l.all (fun b=>b.to.all (Flo.within l.length))=false:=by
    rw [List.all_eq_false]
    exact ⟨_,List.getElem_mem h,by rw [hb];simp⟩
   unfold Flo.froms;rw [this];rfl
  repeat first|apply zSeq|apply zReg|apply zBlk|apply zSkp|refine wN ?_|refine wG ?_|refine wL ?_|refine wT ?_|refine zIdx rfl rfl ha1 ?_|refine zLd rfl hl1 ?_
  refine zAlc E_Block zero34 fun H3 f3 b3 n3=>?_
  refine zStB b3 rfl rfl E_Block (by rw [te_Block_size];rfl) hone (by simp [Value.cells]) (by simp [Value.cells]) fun H4 f4 b4 n4=>?_
  have b4':Bx H4 Hc.next 45 [vp,vc,fvs k,tvs k]:=b4
  have f34:Fr Hc H4:=f3.young f4 (by simp) (by simp)
  replace hw:=hw.fr f34
  have fr4:=hfr.trans f34
  have htv:=htk.fr fr4
  clear b3 b4 f3 f4
  obtain ⟨hat,_,_⟩:=hw.at (by omega) h
  generalize hto:l[k].to=to at *
  repeat first|apply zSeq|apply zReg|apply zBlk|refine wN ?_|refine wM ?_|refine wB E_s_int ?_|refine wD O_Block_To ?_|refine wK (htv.len E_s_int) ?_
  refine WP.loopH (σ:=Nat) (fun j=>[(0,vl),(3,.slice (some ⟨H.next,0,none⟩) l.length l.length),(4,.int .i64 k),(5,.pointer (some ⟨Hc.next,0,none⟩)),(13,vl),(14,.int .i64 l.length),(15,.int .i64 k),(21,tvs k),(22,.int .i64 to.length),(23,.int .i64 j)]) (fun j Hy=>Hy=H4∧j≤to.length∧∀ i (h:i<to.length),i<j→Flo.within l.length to[i]=true) (fun j=>to.length-j) 0 ⟨rfl,Nat.zero_le _,fun i _ h=>absurd h (by omega)⟩ ⟨rfl,rfl,rfl,rfl,rfl,rfl,rfl,rfl,rfl,rfl,trivial⟩ ?_
  rintro j Hy ⟨hy,hj,hpj⟩
  replace hy:=hy.symm
  subst hy
  rcases Nat.lt_or_ge j to.length with h2|h2
  ·have g2:decide ((j:Int)<to.length)=true:=dT
   obtain ⟨bi,oi,hai,hli⟩:=IntsR.at htv E_s_int E_int (kd:=.i64) h2
   have bad:Flo.within l.length to[j]=false→Flo.froms l=false:=fun hb=>hbad (by
    rw [List.all_eq_false]
    exact ⟨_,List.getElem_mem h2,by rw [hb];simp⟩)
   cases c1:decide (to[j]<0)
   ·cases c2:decide (to[j]≥(l.length:Int))
    ·have hw1:Flo.within l.length to[j]=true:=by unfold Flo.within;rw [c1,c2];rfl
     repeat first|apply zSeq|apply zReg|apply zBlk|apply zSkp|refine wN ?_|refine wG ?_|refine wO ?_|refine wM ?_|refine wR ?_|refine wL ?_|refine wW ?_|refine wS ?_|refine wT ?_|refine wE ?_|refine zLd rfl hli ?_|refine zIdx rfl rfl hai ?_|refine wK (hvl.len E_s_api_Block) ?_
     refine ⟨j+1,⟨rfl,h2,fun i hi hij=>?_⟩,by omega,rfl,rfl,rfl,rfl,rfl,rfl,rfl,rfl,rfl,rfl,trivial⟩
     by_cases e:i=j
     ·subst e;exact hw1
     ·exact hpj i hi (by omega)
    ·have hw1:Flo.within l.length to[j]=false:=by unfold Flo.within;rw [c1,c2];rfl
     repeat first|apply zSeq|apply zReg|apply zBlk|apply zSkp|refine wN ?_|refine wG ?_|refine wO ?_|refine wM ?_|refine wA ?_|refine wR ?_|refine wL ?_|refine wW ?_|refine wT ?_|refine zLd rfl hli ?_|refine zIdx rfl rfl hai ?_|refine wK (hvl.len E_s_api_Block) ?_
     exact WP.ret ⟨.inr rfl,_,rfl,by rw [bad hw1];rfl,fr4⟩
   ·have hw1:Flo.within l.length to[j]=false:=by unfold Flo.within;rw [c1];rfl
    repeat first|apply zSeq|apply zReg|apply zBlk|apply zSkp|refine wN ?_|refine wG ?_|refine wF ?_|refine wA ?_|refine wP ?_|refine wL ?_|refine wt ?_|refine wT ?_|refine zLd rfl hli ?_|refine zIdx rfl rfl hai ?_
    exact WP.ret ⟨.inr rfl,_,rfl,by rw [bad hw1];rfl,fr4⟩
  ·have g2:decide ((j:Int)<to.length)=false:=dF
   have hall:to.all (Flo.within l.length)=true:=by
    rw [List.all_eq_true]
    intro x hx
    obtain ⟨i,hi,rfl⟩:=List.mem_iff_getElem.1 hx
    exact hpj i hi (by omega)
   obtain ⟨H5,q1,q2,q3⟩:=hw.setTo h (tvs k)
   have hvc:(tvs k).cells.toList=[tvs k]:=by obtain ⟨_,⟨e,_⟩|⟨b,off,cap,e,_⟩⟩:=htv<;>rw [e]<;>rfl
   have hsz:(tvs k).cells.size=1:=by have:=congrArg List.length hvc;simpa using this
   repeat first|apply zSeq|apply zReg|apply zExt|refine wN ?_|refine wG ?_|refine wL ?_|refine wE ?_|refine wB E_s_int ?_|refine wD O_Block_To ?_|refine zIdx rfl rfl hat ?_
   refine WL.op (op_store rfl rfl E_s_int hsz (by rw [hvc];simp [htv.oneCell]) (by rw [hvc];exact q1)) ?_
   repeat first|apply zReg|refine wN ?_|refine wS ?_
   refine ⟨k+1,⟨?_,fr4.young q3 (by simp) (by simp),h,fun i hi hik=>?_⟩,by omega,rfl,rfl,rfl,rfl,rfl,trivial⟩
   ·have e:(fun j=>if j<k+1 then tvs j else .slice none 0 0)=fun j=>if j=k then tvs k else if j<k then tvs j else .slice none 0 0:=by
     funext j
     by_cases e:j=k
     ·subst e;simp
     ·by_cases e2:j<k
      ·rw [if_pos (by omega),if_neg e,if_pos e2]
      ·rw [if_neg (by omega),if_neg e,if_neg e2]
    rw [e];exact q2
   ·by_cases e:i=k
    ·subst e;rw [hto];exact hall
    ·exact hpre i hi (by omega)
 rintro _ H2 ⟨hw,hfr,hin⟩
 have hin':∀ b∈l,∀ t∈b.to,0≤t∧t<l.length:=fun b hb t ht=>by
  have:=List.all_eq_true.1 (hin b hb) t ht
  unfold Flo.within at this
  simp only [Bool.not_eq_true',Bool.or_eq_false_iff,decide_eq_false_iff_not] at this
  omega
 have hfm:Flo.froms l=((List.range l.length).all (fun n=>match l[n]? with|some b=>b.frm==Flo.fromOf l l.length n|none=>false)&&(match l[0]? with|some b=>b.frm.isEmpty|none=>false)):=by
  have:l.all (fun b=>b.to.all (Flo.within l.length))=true:=List.all_eq_true.2 hin
  unfold Flo.froms;rw [this];rfl
 obtain ⟨_,H3,hc3,fv',hw3,hfr3⟩:=from_c (Hb:=H) (A:=A) hO hw (fun k h=>by rw [if_pos h];exact (hcol k h).2.2) hfr (Nat.le_refl _) hin' hL hLt
 clear hw hfr hin hws
 repeat first|apply zSeq|apply zReg|refine wG ?_
 refine WL.call rfl rfl fp_flow_from.is hc3 ?_
 repeat first|apply zSeq|apply zReg|apply zBlk|refine wN ?_|refine wG ?_|refine wM ?_|refine wK (hvl.len E_s_api_Block) ?_
 refine WP.loopH (σ:=Nat) (fun k=>[(0,vl),(3,.slice (some ⟨H.next,0,none⟩) l.length l.length),(45,vl),(46,.int .i64 l.length),(47,.int .i64 k)]) (fun k Hc=>WS Hc H.next H1.next l.length fv' (fun j=>if j<l.length then tvs j else .slice none 0 0) (fun t=>Flo.fromOf l l.length t)∧Fr H Hc∧k≤l.length∧∀ j (h:j<l.length),j<k→(l[j].frm==Flo.fromOf l l.length j)=true) (fun k=>l.length-k) 0 ⟨hw3,hfr3,Nat.zero_le _,fun j _ h=>absurd h (by omega)⟩ ⟨rfl,rfl,rfl,rfl,rfl,trivial⟩ ?_
 clear hw3 hfr3 hc3
 rintro k Hc ⟨hw,hfr,hk,hpre⟩
 rcases Nat.lt_or_ge k l.length with h|h
 case inr =>
  have g1:decide ((k:Int)<l.length)=false:=dF
  obtain rfl:k=l.length:=by omega
  obtain ⟨bb,off,ha1,hrd⟩:=hat0 0 h0 Hc hfr
  obtain ⟨⟨vp,vc,eck,_,_⟩,hfk,htk⟩:=hcol 0 h0
  rw [eck] at hrd
  have hlt:=(hrd.at1 (i:=2) rfl).load1 (V:=V) E_s_int rfl
  have htv:=hfk.fr hfr
  have ha1:aIndex V.E 22 vl (.int .i64 0)=some (.pointer (some ⟨bb,off,none⟩)):=ha1
  repeat first|apply zSeq|apply zReg|apply zExt|refine wN ?_|refine wG ?_|refine wL ?_|refine wQ ?_|refine wE ?_|refine zIdx rfl rfl ha1 ?_|refine wD O_Block_From ?_|refine zLd rfl hlt ?_|refine wK (htv.len E_s_int) ?_
  refine WP.ret ⟨.inr rfl,_,rfl,?_,hfr⟩
  have e1:(List.range l.length).all (fun n=>match l[n]? with|some b=>b.frm==Flo.fromOf l l.length n|none=>false)=true:=by
   rw [List.all_eq_true]
   intro j hj
   have hj:=List.mem_range.1 hj
   simp only [List.getElem?_eq_getElem hj]
   exact hpre j hj hj
  rw [hfm,e1,List.getElem?_eq_getElem h0]
  simp only [Bool.true_and]
  have:(l[0].frm.isEmpty)=((l[0].frm.length:Int)==0):=by
   cases l[0].frm with
   | nil=>rfl
   | cons a b=>simp;omega
  rw [this];rfl
 have g1:decide ((k:Int)<l.length)=true:=dT
 obtain ⟨bb,off,ha1,hrd⟩:=hat0 k h Hc hfr
 have hl1:=hrd.loadN (V:=V) E_Block te_Block_agg te_Block_size
 obtain ⟨⟨vp,vc,eck,hP,hC⟩,hfk,htk⟩:=hcol k h
 rw [eck] at hl1
 have hone:([vp,vc,fvs k,tvs k].all Value.oneCell')=true:=by simp [hP.oneCell,hC.oneCell,hfk.oneCell,htk.oneCell]
 have hbad:(l[k].frm==Flo.fromOf l l.length k)=false→Flo.froms l=false:=fun hb=>by
  have:(List.range l.length).all (fun n=>match l[n]? with|some b=>b.frm==Flo.fromOf l l.length n|none=>false)=false:=by
   rw [List.all_eq_false]
   exact ⟨k,List.mem_range.2 h,by simp only [List.getElem?_eq_getElem h,hb];decide⟩
  rw [hfm,this];rfl
 repeat first|apply zSeq|apply zReg|apply zBlk|apply zSkp|refine wN ?_|refine wG ?_|refine wL ?_|refine wT ?_|refine zIdx rfl rfl ha1 ?_|refine zLd rfl hl1 ?_
 refine zAlc E_Block zero34 fun H4 f4 b4 n4=>?_
 refine zStB b4 rfl rfl E_Block (by rw [te_Block_size];rfl) hone (by simp [Value.cells]) (by simp [Value.cells]) fun H5 f5 b5 n5=>?_
 have b5':Bx H5 Hc.next 45 [vp,vc,fvs k,tvs k]:=b5
 have f35:Fr Hc H5:=f4.young f5 (by simp) (by simp)
 replace hw:=hw.fr f35
 have fr5:=hfr.trans f35
 clear b4 b5 f4 f5
 obtain ⟨hat,hlt,_⟩:=hw.at (by omega) h
 have hF:IntsR .no H5 (fv' k).1 (Flo.fromOf l l.length k):=(hw.own k h).rYoung .no
 have heq:=equal_c (H:=H5) hO (hfk.fr fr5) hF (hLf l[k] (List.getElem_mem _))
 repeat first|apply zSeq|apply zReg|refine wN ?_|refine wG ?_|refine wB E_s_int ?_|refine wD O_Block_From ?_|refine zLd rfl hlt ?_|refine zIdx rfl rfl hat ?_
 refine WL.call rfl rfl fp_slices_Equal_s_int_int.is heq ?_
 cases c1:l[k].frm==Flo.fromOf l l.length k
 ·repeat first|apply zSeq|apply zReg|refine wN ?_|refine wA ?_|refine wZ ?_|refine wt ?_
  exact WP.ret ⟨.inr rfl,_,rfl,by rw [hbad c1];rfl,fr5⟩
 ·repeat first|apply zReg|apply zSkp|refine wN ?_|refine wS ?_|refine wZ ?_|refine wf ?_
  refine ⟨k+1,⟨hw,fr5,h,fun i hi hik=>?_⟩,by omega,rfl,rfl,rfl,rfl,rfl,trivial⟩
  by_cases e:i=k
  ·subst e;exact c1
  ·exact hpre i hi (by omega)
end
section
attribute [local irreducible] WL WP WH W
attribute [local irreducible] V
variable {O:Orc}{H:AH}
theorem circle_c (hO:NoO O) {A:Av}{l:List Block}{vl:Value} (hvl:Els 4 BlockR A H vl l) {k:Nat} (hk:k<l.length) (hL:l.length≤100000) (hone:∀ b∈l,b.code=[]→b.to≠[]) (hin:∀ b∈l,∀ t∈b.to,0≤t∧t<l.length) :
 Lc V O F_flow_circle [vl,.int .i64 k] H (.bool (Flo.circ l k l.length k)) H:=by
 refine Lc.of_eq (Lc.flow_circle (R:=fun u H'=>u=.bool (Flo.circ l k l.length k)∧H'=H) (hO _ _ _ (by decide)) ?_)
 unfold P_flow_circle
 obtain ⟨ck,fvs,tvs,hat0,hcol⟩:=els_cols hvl
 repeat first|apply zSeq|apply zReg|apply zBlk|refine wN ?_|refine wG ?_|refine wM ?_|refine wA ?_|refine wK (hvl.len E_s_api_Block) ?_
 refine WP.loopH (σ:=Nat×Nat) (fun x=>[(0,vl),(1,.int .i64 k),(5,.int .i64 x.2),(8,.int .i64 l.length),(9,.int .i64 x.1)]) (fun x Hy=>Hy=H∧x.1≤l.length∧x.2<l.length∧Flo.circ l k l.length k=Flo.circ l k (l.length-x.1) x.2) (fun x=>l.length-x.1) (0,k) ⟨rfl,Nat.zero_le _,hk,rfl⟩ ⟨rfl,rfl,rfl,rfl,rfl,trivial⟩ ?_
 rintro ⟨i,at_⟩ Hy ⟨hy,hi,hat,he⟩
 replace hy:=hy.symm
 subst hy
 simp only at hi hat he ⊢
 rw [he]
 rcases Nat.lt_or_ge i l.length with h|h
 case inr =>
  have g1:decide ((i:Int)<l.length)=false:=dF
  repeat first|apply zSeq|apply zReg|apply zExt|refine wN ?_|refine wA ?_|refine wL ?_|refine wE ?_
  refine WP.ret ⟨.inr rfl,_,rfl,?_,rfl⟩
  rw [show l.length-i=0 by omega];rfl
 have g1:decide ((i:Int)<l.length)=true:=dT
 obtain ⟨b,off,ha1,hrd⟩:=hat0 at_ hat H (.refl _)
 obtain ⟨⟨vp,vc,eck,hP,hC⟩,hfk,htv⟩:=hcol at_ hat
 rw [eck] at hrd
 have hl2:=(hrd.at1 (i:=1) rfl).load1 (V:=V) E_s_api_Ins rfl
 have hlt:=(hrd.at1 (i:=3) rfl).load1 (V:=V) E_s_int rfl
 have hsuc:Flo.circ l k (l.length-i) at_=if l[at_].code.length>0 then false else match l[at_].to with
  | t::_=>if t=k then true else Flo.circ l k (l.length-(i+1)) t.toNat
  | []=>false:=by
  rw [show l.length-i=(l.length-(i+1))+1 by omega]
  simp only [Flo.circ,List.getElem?_eq_getElem hat]
  split
  ·rfl
  ·cases l[at_].to<;>rfl
 rw [hsuc]
 cases c1:decide ((l[at_].code.length:Int)>0)
 case true =>
  repeat first|apply zSeq|apply zReg|apply zBlk|apply zSkp|refine wN ?_|refine wG ?_|refine wL ?_|refine wT ?_|refine zIdx rfl rfl ha1 ?_|refine zLd rfl hl2 ?_|refine wD O_Block_Code ?_
  refine wK (hC.len E_s_api_Ins) ?_
  repeat first|apply zSeq|apply zReg|refine wN ?_|refine wA ?_|refine wV ?_|refine wT ?_
  refine WP.ret ⟨.inr rfl,_,rfl,?_,rfl⟩
  rw [if_pos (by have:=of_decide_eq_true c1;omega)];rfl
 have hc0:l[at_].code=[]:=List.length_eq_zero_iff.1 (by have:=of_decide_eq_false c1;omega)
 have hto:=hone _ (List.getElem_mem hat) hc0
 have hin':=hin _ (List.getElem_mem hat)
 rw [if_neg (by have:=of_decide_eq_false c1;omega)]
 have hpos:0<l[at_].to.length:=List.length_pos_iff.2 hto
 obtain ⟨bi,oi,hai,hli⟩:=IntsR.at htv E_s_int E_int (kd:=.i64) (i:=0) hpos
 obtain ⟨t,ts,hts⟩:=List.exists_cons_of_ne_nil hto
 have h0:l[at_].to[0]=t:=by simp [hts]
 have htr:=hin' t (by rw [hts];simp)
 rw [h0] at hli
 have hai:aIndex V.E 43 (tvs at_) (.int .i64 0)=some (.pointer (some ⟨bi,oi,none⟩)):=hai
 rw [hts]
 simp only
 cases c2:t==(k:Int)
 ·have hne:t≠(k:Int):=beq_eq_false_iff_ne.1 c2
  repeat first|apply zSeq|apply zReg|apply zBlk|apply zSkp|refine wN ?_|refine wG ?_|refine wL ?_|refine wT ?_|refine zIdx rfl rfl ha1 ?_|refine zLd rfl hl2 ?_|refine wD O_Block_Code ?_
  refine wK (hC.len E_s_api_Ins) ?_
  repeat first|apply zSeq|apply zReg|apply zSkp|refine wN ?_|refine wG ?_|refine wV ?_|refine wQ ?_|refine wS ?_|refine wE ?_|refine zIdx rfl rfl ha1 ?_|refine wD O_Block_To ?_|refine zLd rfl hlt ?_|refine zLd rfl hli ?_|refine zIdx rfl rfl hai ?_
  refine ⟨(i+1,t.toNat),⟨rfl,h,by simp only;omega,?_⟩,by simp only;omega,rfl,rfl,?_,rfl,rfl,trivial⟩
  ·rw [if_neg hne]
  ·have:((t.toNat:Nat):Int)=t:=by omega
   simp only [this];rfl
 ·repeat first|apply zSeq|apply zReg|apply zBlk|apply zSkp|refine wN ?_|refine wG ?_|refine wL ?_|refine wT ?_|refine zIdx rfl rfl ha1 ?_|refine zLd rfl hl2 ?_|refine wD O_Block_Code ?_
  refine wK (hC.len E_s_api_Ins) ?_
  repeat first|apply zSeq|apply zReg|apply zSkp|refine wN ?_|refine wG ?_|refine wA ?_|refine wV ?_|refine wQ ?_|refine wT ?_|refine wE ?_|refine zIdx rfl rfl ha1 ?_|refine wD O_Block_To ?_|refine zLd rfl hlt ?_|refine zLd rfl hli ?_|refine zIdx rfl rfl hai ?_
  refine WP.ret ⟨.inr rfl,_,rfl,?_,rfl⟩
  rw [if_pos (by simpa using c2)];rfl
structure Small (g:Graph):Prop where
 nb:g.blocks.length≤100000
 code:∀ b∈g.blocks,b.code.length≤1000000
 phis:∀ b∈g.blocks,b.phis.length≤1000000
 frm:∀ b∈g.blocks,b.frm.length≤1000000
 to:∀ b∈g.blocks,b.to.length≤1000000
 args:∀ b∈g.blocks,∀ p∈b.phis,p.args.length≤1000000
def graphC (g:Graph) (vb:Value):List Value:=[.string g.name,.bool g.thread,.int .i64 g.params,.int .i64 g.regs,vb]
theorem mayQ1_c (hO:NoO O) (hg:GH H) {A:Av}{c:Nat}{g:Graph}{vb:Value} (hb:Bx H c 24 (graphC g vb)) {b:Block}{cs:List Value} (hR:BlockR A H cs b) (hop:∀ i∈b.code,0≤i.op∧i.op<256) (hLc:b.code.length≤1000000) (hLp:b.phis.length≤1000000) (hLa:∀ p∈b.phis,p.args.length≤1000000) :
  ∃ u H',Lc V O F_flow_May_q1 [.agg cs.toArray,.pointer (some ⟨c,0,none⟩)] H u H'∧(u=.bool (!Flo.blockOk mi g.regs b)∧Fr H H'):=by
 refine Lc.flow_May_q1 (hO _ _ _ (by decide)) ?_
 unfold P_flow_May_q1
 apply zSeq
 apply zReg
 refine zBox rfl (fun _=>rfl) fun H1 f1 b1 n1=>?_
 replace hb:=hb.fr f1
 obtain ⟨_,H2,hc2,rfl,f2⟩:=block_c (H:=H1) hO (hg.fr f1) (BlockR.m.fr hR f1) g.regs hop hLc hLp hLa
 have hlen:=hR.one.2
 repeat first|apply zSeq|apply zReg|refine wN ?_|refine wA ?_
 refine zLd rfl (b1.ldN E_Block te_Block_agg (by rw [te_Block_size];simp [Value.cells,hlen])) ?_
 repeat first|refine wB E_int ?_|refine wD O_Graph_Regs ?_
 have hc2':Lc V O F_flow_block [.agg (Value.agg cs.toArray).cells.toList.toArray,.int .i64 g.regs] H1 (.bool (Flo.blockOk mi g.regs b)) H2:=by
  have:(Value.agg cs.toArray).cells.toList.toArray=cs.toArray:=by simp [Value.cells]
  rw [this];exact hc2
 refine WL.call rfl rfl fp_flow_block.is hc2' ?_
 repeat first|refine wN ?_|refine wZ ?_
 exact WP.ret ⟨.inr rfl,_,rfl,rfl,f1.trans f2⟩
set_option maxHeartbeats 4000000 in
theorem may_c (hO:NoO O) (hg:GH H) {A:Av}{g:Graph}{cs:List Value} (hR:GraphR A H cs g) (hsm:Small g) (hop:∀ b∈g.blocks,∀ i∈b.code,0≤i.op∧i.op<256) :
 ∃ u H',Lc V O F_flow_May [.agg cs.toArray] H u H'∧(u=.bool (Flo.may mi g)∧Fr H H'):=by
 obtain ⟨vb,rfl,hvl0⟩:=hR
 refine Lc.flow_May (hO _ _ _ (by decide)) ?_
 unfold P_flow_May
 apply zSeq
 apply zReg
 refine zBox rfl (fun _=>rfl) fun H1 f1 b1 n1=>?_
 have b1':Bx H1 H.next 24 (graphC g vb):=b1
 have hvl:=hvl0.fr BlockR.m f1
 have hg1:=hg.fr f1
 clear b1
 have bad:Flo.odd g=true→Flo.may mi g=false:=fun h=>by unfold Flo.may;rw [h];rfl
 cases d1:decide (g.params<0)
 case true =>
  have e:=bad (by unfold Flo.odd;rw [d1];rfl)
  repeat first|apply zSeq|apply zReg|refine wN ?_|refine wx ?_|refine zU rfl ?_|refine wF ?_|refine wA ?_|refine wp ?_|refine wP ?_|refine wL ?_|refine wt ?_|refine wB E_int ?_|refine wK (hvl.len E_s_api_Block) ?_|refine wD O_Graph_Params ?_|refine wD O_Graph_Blocks ?_|refine wB E_s_api_Block ?_
  exact WP.ret ⟨.inr rfl,_,rfl,by rw [e];rfl,f1⟩
 cases d2:decide (g.params>8)
 case true =>
  have e:=bad (by unfold Flo.odd;rw [d1,d2];rfl)
  repeat first|apply zSeq|apply zReg|refine wN ?_|refine wx ?_|refine zU rfl ?_|refine wO ?_|refine wF ?_|refine wA ?_|refine wp ?_|refine wP ?_|refine wR ?_|refine wL ?_|refine wV ?_|refine wt ?_|refine wB E_int ?_|refine wK (hvl.len E_s_api_Block) ?_|refine wD O_Graph_Params ?_|refine wD O_Graph_Blocks ?_|refine wB E_s_api_Block ?_
  exact WP.ret ⟨.inr rfl,_,rfl,by rw [e];rfl,f1⟩
 repeat first|refine wN ?_|refine wA ?_
 apply zSeq
 repeat first|apply zReg|refine wN ?_|refine wK (hvl.len E_s_api_Block) ?_|refine wD O_Graph_Blocks ?_|refine wB E_s_api_Block ?_
 refine WP.seqS (σ:=Unit) (fun _=>[(1,.pointer (some ⟨H.next,0,none⟩)),(3,.int .i64 g.blocks.length)]) (fun _ Hc=>Hc=H1∧Flo.odd g=false) ?_ ?_
 ·have rest:∀ (c3:(g.thread&&decide (g.params>0))=false),Flo.odd g=(decide (g.regs<g.params)||(decide (g.regs>65536)||(decide ((g.blocks.length:Int)<1)||(decide ((g.blocks.length:Int)>32768)||(match g.blocks[0]? with|some b=>decide ((b.phis.length:Int)>0)|none=>false))))):=fun c3=>by
   unfold Flo.odd;rw [d1,d2,c3];rfl
  cases t1:g.thread
  ·have b1':Bx H1 H.next 24 [.string g.name,.bool false,.int .i64 g.params,.int .i64 g.regs,vb]:=by have:=b1';unfold graphC at this;rw [t1] at this;exact this
   have rest:=rest (by rw [t1];rfl)
   cases d4:decide (g.regs<g.params)
   case true =>
    have e:=bad (by rw [rest,d4];rfl)
    repeat first|apply zSeq|apply zReg|refine wN ?_|refine wo ?_|refine wx ?_|refine wO ?_|refine wF ?_|refine wM ?_|refine wA ?_|refine wp ?_|refine wq ?_|refine wP ?_|refine wR ?_|refine wL ?_|refine wV ?_|refine wt ?_|refine wB E_int ?_|refine wB E_bool ?_|refine wD O_Graph_Thread ?_|refine wD O_Graph_Params ?_|refine wD O_Graph_Regs ?_
    exact WP.ret ⟨.inr rfl,_,rfl,by rw [e];rfl,f1⟩
   cases d5:decide (g.regs>65536)
   case true =>
    have e:=bad (by rw [rest,d4,d5];rfl)
    repeat first|apply zSeq|apply zReg|refine wN ?_|refine wo ?_|refine wx ?_|refine wO ?_|refine wF ?_|refine wM ?_|refine wA ?_|refine wp ?_|refine wq ?_|refine wP ?_|refine wR ?_|refine wL ?_|refine wV ?_|refine wt ?_|refine wB E_int ?_|refine wB E_bool ?_|refine wD O_Graph_Thread ?_|refine wD O_Graph_Params ?_|refine wD O_Graph_Regs ?_
    exact WP.ret ⟨.inr rfl,_,rfl,by rw [e];rfl,f1⟩
   cases d6:decide ((g.blocks.length:Int)<1)
   case true =>
    have e:=bad (by rw [rest,d4,d5,d6];rfl)
    repeat first|apply zSeq|apply zReg|refine wN ?_|refine wo ?_|refine wx ?_|refine wO ?_|refine wF ?_|refine wM ?_|refine wA ?_|refine wp ?_|refine wq ?_|refine wP ?_|refine wR ?_|refine wL ?_|refine wV ?_|refine wt ?_|refine wB E_int ?_|refine wB E_bool ?_|refine wD O_Graph_Thread ?_|refine wD O_Graph_Params ?_|refine wD O_Graph_Regs ?_
    exact WP.ret ⟨.inr rfl,_,rfl,by rw [e];rfl,f1⟩
   cases d7:decide ((g.blocks.length:Int)>32768)
   case true =>
    have e:=bad (by rw [rest,d4,d5,d6,d7];rfl)
    repeat first|apply zSeq|apply zReg|refine wN ?_|refine wo ?_|refine wx ?_|refine wO ?_|refine wF ?_|refine wM ?_|refine wA ?_|refine wq ?_|refine wP ?_|refine wR ?_|refine wL ?_|refine wV ?_|refine wt ?_|refine wB E_int ?_|refine wB E_bool ?_|refine wD O_Graph_Thread ?_|refine wD O_Graph_Params ?_|refine wD O_Graph_Regs ?_
    exact WP.ret ⟨.inr rfl,_,rfl,by rw [e];rfl,f1⟩
   have hpos:0<g.blocks.length:=by have:=of_decide_eq_false d6;omega
   obtain ⟨ck,fvs,tvs,hat0,hcol⟩:=els_cols hvl
   obtain ⟨bb,off,ha1,hrd⟩:=hat0 0 hpos H1 (.refl _)
   obtain ⟨⟨vp,vc,eck,hph,_⟩,_,_⟩:=hcol 0 hpos
   rw [eck] at hrd
   have hl3:=(hrd.at1 (i:=0) rfl).load1 (V:=V) E_s_api_Phi rfl
   have ha1:aIndex V.E 22 vb (.int .i64 0)=some (.pointer (some ⟨bb,off,none⟩)):=ha1
   cases d8:decide ((g.blocks[0].phis.length:Int)>0)
   ·have e:Flo.odd g=false:=by
     rw [rest,d4,d5,d6,d7,List.getElem?_eq_getElem hpos]
     simp only [d8];rfl
    repeat first|apply zSeq|apply zReg|apply zSkp|refine wN ?_|refine wo ?_|refine wx ?_|refine wO ?_|refine wM ?_|refine wq ?_|refine wR ?_|refine wL ?_|refine wV ?_|refine wE ?_|refine wB E_int ?_|refine wB E_bool ?_|refine zIdx rfl rfl ha1 ?_|refine wD O_Block_Phis ?_|refine wK (hph.len E_s_api_Phi) ?_|refine zLd rfl hl3 ?_|refine wD O_Graph_Thread ?_|refine wD O_Graph_Params ?_|refine wD O_Graph_Regs ?_|refine wD O_Graph_Blocks ?_|refine wB E_s_api_Block ?_
    exact ⟨(),⟨rfl,e⟩,rfl,rfl,trivial⟩
   ·have e:=bad (by
     rw [rest,d4,d5,d6,d7,List.getElem?_eq_getElem hpos]
     simp only [d8];rfl)
    repeat first|apply zSeq|apply zReg|refine wN ?_|refine wo ?_|refine wx ?_|refine wO ?_|refine wM ?_|refine wA ?_|refine wq ?_|refine wR ?_|refine wL ?_|refine wV ?_|refine wT ?_|refine wB E_int ?_|refine wB E_bool ?_|refine zIdx rfl rfl ha1 ?_|refine wD O_Block_Phis ?_|refine wK (hph.len E_s_api_Phi) ?_|refine zLd rfl hl3 ?_|refine wD O_Graph_Thread ?_|refine wD O_Graph_Params ?_|refine wD O_Graph_Regs ?_|refine wD O_Graph_Blocks ?_|refine wB E_s_api_Block ?_
    exact WP.ret ⟨.inr rfl,_,rfl,by rw [e];rfl,f1⟩
  ·have b1':Bx H1 H.next 24 [.string g.name,.bool true,.int .i64 g.params,.int .i64 g.regs,vb]:=by have:=b1';unfold graphC at this;rw [t1] at this;exact this
   cases t2:decide (g.params>0)
   ·
    have rest:=rest (by rw [t1,t2];rfl)
    cases d4:decide (g.regs<g.params)
    case true =>
     have e:=bad (by rw [rest,d4];rfl)
     repeat first|apply zSeq|apply zReg|refine wN ?_|refine wo ?_|refine wx ?_|refine wO ?_|refine wF ?_|refine wM ?_|refine wA ?_|refine wp ?_|refine wP ?_|refine wR ?_|refine wL ?_|refine wV ?_|refine wt ?_|refine wB E_int ?_|refine wB E_bool ?_|refine wD O_Graph_Thread ?_|refine wD O_Graph_Params ?_|refine wD O_Graph_Regs ?_
     exact WP.ret ⟨.inr rfl,_,rfl,by rw [e];rfl,f1⟩
    cases d5:decide (g.regs>65536)
    case true =>
     have e:=bad (by rw [rest,d4,d5];rfl)
     repeat first|apply zSeq|apply zReg|refine wN ?_|refine wo ?_|refine wx ?_|refine wO ?_|refine wF ?_|refine wM ?_|refine wA ?_|refine wp ?_|refine wP ?_|refine wR ?_|refine wL ?_|refine wV ?_|refine wt ?_|refine wB E_int ?_|refine wB E_bool ?_|refine wD O_Graph_Thread ?_|refine wD O_Graph_Params ?_|refine wD O_Graph_Regs ?_
     exact WP.ret ⟨.inr rfl,_,rfl,by rw [e];rfl,f1⟩
    cases d6:decide ((g.blocks.length:Int)<1)
    case true =>
     have e:=bad (by rw [rest,d4,d5,d6];rfl)
     repeat first|apply zSeq|apply zReg|refine wN ?_|refine wo ?_|refine wx ?_|refine wO ?_|refine wF ?_|refine wM ?_|refine wA ?_|refine wp ?_|refine wP ?_|refine wR ?_|refine wL ?_|refine wV ?_|refine wt ?_|refine wB E_int ?_|refine wB E_bool ?_|refine wD O_Graph_Thread ?_|refine wD O_Graph_Params ?_|refine wD O_Graph_Regs ?_
     exact WP.ret ⟨.inr rfl,_,rfl,by rw [e];rfl,f1⟩
    cases d7:decide ((g.blocks.length:Int)>32768)
    case true =>
     have e:=bad (by rw [rest,d4,d5,d6,d7];rfl)
     repeat first|apply zSeq|apply zReg|refine wN ?_|refine wo ?_|refine wO ?_|refine wF ?_|refine wM ?_|refine wA ?_|refine wp ?_|refine wP ?_|refine wR ?_|refine wL ?_|refine wV ?_|refine wt ?_|refine wB E_int ?_|refine wB E_bool ?_|refine wD O_Graph_Thread ?_|refine wD O_Graph_Params ?_|refine wD O_Graph_Regs ?_
     exact WP.ret ⟨.inr rfl,_,rfl,by rw [e];rfl,f1⟩
    have hpos:0<g.blocks.length:=by have:=of_decide_eq_false d6;omega
    obtain ⟨ck,fvs,tvs,hat0,hcol⟩:=els_cols hvl
    obtain ⟨bb,off,ha1,hrd⟩:=hat0 0 hpos H1 (.refl _)
    obtain ⟨⟨vp,vc,eck,hph,_⟩,_,_⟩:=hcol 0 hpos
    rw [eck] at hrd
    have hl3:=(hrd.at1 (i:=0) rfl).load1 (V:=V) E_s_api_Phi rfl
    have ha1:aIndex V.E 22 vb (.int .i64 0)=some (.pointer (some ⟨bb,off,none⟩)):=ha1
    cases d8:decide ((g.blocks[0].phis.length:Int)>0)
    ·have e:Flo.odd g=false:=by
      rw [rest,d4,d5,d6,d7,List.getElem?_eq_getElem hpos]
      simp only [d8];rfl
     repeat first|apply zSeq|apply zReg|apply zSkp|refine wN ?_|refine wo ?_|refine wO ?_|refine wM ?_|refine wp ?_|refine wR ?_|refine wL ?_|refine wV ?_|refine wE ?_|refine wB E_int ?_|refine wB E_bool ?_|refine zIdx rfl rfl ha1 ?_|refine wD O_Block_Phis ?_|refine wK (hph.len E_s_api_Phi) ?_|refine zLd rfl hl3 ?_|refine wD O_Graph_Thread ?_|refine wD O_Graph_Params ?_|refine wD O_Graph_Regs ?_|refine wD O_Graph_Blocks ?_|refine wB E_s_api_Block ?_
     exact ⟨(),⟨rfl,e⟩,rfl,rfl,trivial⟩
    ·have e:=bad (by
      rw [rest,d4,d5,d6,d7,List.getElem?_eq_getElem hpos]
      simp only [d8];rfl)
     repeat first|apply zSeq|apply zReg|refine wN ?_|refine wo ?_|refine wO ?_|refine wM ?_|refine wA ?_|refine wp ?_|refine wR ?_|refine wL ?_|refine wV ?_|refine wT ?_|refine wB E_int ?_|refine wB E_bool ?_|refine zIdx rfl rfl ha1 ?_|refine wD O_Block_Phis ?_|refine wK (hph.len E_s_api_Phi) ?_|refine zLd rfl hl3 ?_|refine wD O_Graph_Thread ?_|refine wD O_Graph_Params ?_|refine wD O_Graph_Regs ?_|refine wD O_Graph_Blocks ?_|refine wB E_s_api_Block ?_
     exact WP.ret ⟨.inr rfl,_,rfl,by rw [e];rfl,f1⟩
   ·have e:=bad (by unfold Flo.odd;rw [d1,d2,t1,t2];rfl)
    repeat first|apply zSeq|apply zReg|refine wN ?_|refine wo ?_|refine wx ?_|refine wO ?_|refine wF ?_|refine wM ?_|refine wA ?_|refine wp ?_|refine wP ?_|refine wR ?_|refine wL ?_|refine wV ?_|refine wt ?_|refine wB E_int ?_|refine wB E_bool ?_|refine wD O_Graph_Thread ?_|refine wD O_Graph_Params ?_
    exact WP.ret ⟨.inr rfl,_,rfl,by rw [e];rfl,f1⟩
 rintro _ Hy ⟨hy,hodd⟩
 replace hy:=hy.symm
 subst hy
 have hmay:Flo.may mi g=(g.blocks.all (Flo.blockOk mi g.regs)&&(Flo.froms g.blocks&&(List.range g.blocks.length).all fun k=>!Flo.circ g.blocks k g.blocks.length k)):=by unfold Flo.may;rw [hodd];rfl
 rw [hmay]
 clear hmay bad
 have hpos:0<g.blocks.length:=by
  unfold Flo.odd at hodd
  simp only [Bool.or_eq_false_iff] at hodd
  have:=of_decide_eq_false hodd.2.2.2.2.2.1
  omega
 obtain ⟨H2,hc2,f2⟩:=containsFunc_block_c (H:=H1) (f:=29) (cap:=#[.pointer (some ⟨H.next,0,none⟩)]) (p:=fun b=>!Flo.blockOk mi g.regs b) hO hvl (by have:=hsm.nb;omega) (by rw [fn_flow_May_q1];rfl) (fun x hx cs Hx fx hR=>by
  obtain ⟨_,Hz,h,rfl,fz⟩:=mayQ1_c (H:=Hx) hO (hg1.fr fx) (b1'.fr fx) hR (hop x hx) (hsm.code x hx) (hsm.phis x hx) (hsm.args x hx)
  exact ⟨Hz,h,fz⟩)
 rw [any_not] at hc2
 have b2:=b1'.fr f2
 have hvl2:=hvl.fr BlockR.m f2
 have f12:=f1.trans f2
 obtain ⟨_,H3,hc3,rfl,f3⟩:=froms_c (H:=H2) hO hvl2 hpos hsm.nb hsm.to hsm.frm
 have b3:=b2.fr f3
 have hvl3:=hvl2.fr BlockR.m f3
 have f13:=f12.trans f3
 repeat first|apply zSeq|apply zReg|refine wD O_Graph_Blocks ?_|refine wB E_s_api_Block ?_
 refine WL.op (v:=.func (.func 29) #[] #[.pointer (some ⟨H.next,0,none⟩)]) (H1:=H1) rfl ?_
 refine WL.call rfl rfl fp_slices_ContainsFunc_s_api_Block_api_Block.is hc2 ?_
 cases c1:g.blocks.all (Flo.blockOk mi g.regs)
 ·repeat first|apply zSeq|apply zReg|refine wN ?_|refine wx ?_|refine wA ?_|refine wp ?_|refine wt ?_
  exact WP.ret ⟨.inr rfl,_,rfl,rfl,f12⟩
 repeat first|refine wo ?_|refine wD O_Graph_Blocks ?_|refine wB E_s_api_Block ?_
 refine WL.call rfl rfl fp_flow_froms.is hc3 ?_
 cases c2:Flo.froms g.blocks
 ·repeat first|apply zSeq|apply zReg|refine wN ?_|refine wo ?_|refine wA ?_|refine wq ?_|refine wZ ?_|refine wt ?_
  exact WP.ret ⟨.inr rfl,_,rfl,rfl,f13⟩
 have hin:∀ b∈g.blocks,∀ t∈b.to,0≤t∧t<g.blocks.length:=fun b hb t ht=>by
  unfold Flo.froms at c2
  simp only [Bool.and_eq_true] at c2
  have:=List.all_eq_true.1 (List.all_eq_true.1 c2.1.1 b hb) t ht
  unfold Flo.within at this
  simp only [Bool.not_eq_true',Bool.or_eq_false_iff,decide_eq_false_iff_not] at this
  omega
 have hone:∀ b∈g.blocks,b.code=[]→b.to≠[]:=fun b hb hc he=>by
  have:=List.all_eq_true.1 c1 b hb
  unfold Flo.blockOk at this
  rw [hc,he] at this
  simp [Flo.toOf] at this
 repeat first|apply zSeq|apply zReg|apply zBlk|apply zSkp|refine wN ?_|refine wo ?_|refine wM ?_|refine wq ?_|refine wZ ?_|refine wf ?_|refine wK (hvl.len E_s_api_Block) ?_|refine wD O_Graph_Blocks ?_|refine wB E_s_api_Block ?_
 refine WP.loopH (σ:=Nat) (fun k=>[(1,.pointer (some ⟨H.next,0,none⟩)),(66,.int .i64 g.blocks.length),(67,.int .i64 k)]) (fun k Hy=>Hy=H3∧k≤g.blocks.length∧∀ j,j<k→Flo.circ g.blocks j g.blocks.length j=false) (fun k=>g.blocks.length-k) 0 ⟨rfl,Nat.zero_le _,fun j h=>absurd h (by omega)⟩ ⟨rfl,rfl,rfl,trivial⟩ ?_
 rintro k Hy ⟨hy,hk,hpre⟩
 replace hy:=hy.symm
 subst hy
 have hnb:=hsm.nb
 rcases Nat.lt_or_ge k g.blocks.length with h|h
 ·have g1:decide ((k:Int)<g.blocks.length)=true:=dT
  have hci:=circle_c (H:=H3) hO hvl3 h hsm.nb hone hin
  repeat first|apply zSeq|apply zReg|apply zBlk|apply zSkp|refine wN ?_|refine wG ?_|refine wL ?_|refine wT ?_|refine wD O_Graph_Blocks ?_|refine wB E_s_api_Block ?_
  refine WL.call rfl rfl fp_flow_circle.is hci ?_
  cases c3:Flo.circ g.blocks k g.blocks.length k
  ·repeat first|apply zReg|apply zSkp|refine wN ?_|refine wS ?_|refine wf ?_
   refine ⟨k+1,⟨rfl,h,fun j hj=>?_⟩,by omega,rfl,rfl,rfl,trivial⟩
   by_cases e:j=k
   ·subst e;exact c3
   ·exact hpre j (by omega)
  ·repeat first|apply zSeq|apply zReg|refine wN ?_|refine wA ?_|refine wt ?_
   refine WP.ret ⟨.inr rfl,_,rfl,?_,f13⟩
   have:((List.range g.blocks.length).all fun k=>!Flo.circ g.blocks k g.blocks.length k)=false:=by
    rw [List.all_eq_false]
    exact ⟨k,List.mem_range.2 h,by rw [c3];decide⟩
   rw [this];rfl
 ·have g1:decide ((k:Int)<g.blocks.length)=false:=dF
  repeat first|apply zSeq|apply zReg|apply zExt|refine wN ?_|refine wA ?_|refine wL ?_|refine wE ?_
  refine WP.ret ⟨.inr rfl,_,rfl,?_,f13⟩
  have:((List.range g.blocks.length).all fun k=>!Flo.circ g.blocks k g.blocks.length k)=true:=by
   rw [List.all_eq_true]
   intro j hj
   rw [hpre j (by have:=List.mem_range.1 hj;omega)];rfl
  rw [this];rfl
end
section
attribute [local irreducible] WL WP WH W
theorem nil_nil:aBin V.P V.E .eql 43 (.tmp 0) (.const (.slice none 0 0)) (.slice none 0 0) (.slice none 0 0)=some (.bool true):=by kernel_rfl
attribute [local irreducible] V
variable {O:Orc}{H:AH}
theorem op_eqNil {g:Ft}{x y:Operand}{b off n c:Nat} (hx:g x=some (.slice (some ⟨b,off,none⟩) n c)) (hy:g y=some (.slice none 0 0)):aopG V g H (.binOp .eql 43 x y 43)=some (.bool false,H):=by
 simp only [aopG,hx,hy,aBin,E_s_int,nilRes,Option.map_some]
theorem op_nilNil {g:Ft} (hx:g (.tmp 0)=some (.slice none 0 0)) (hy:g (.const (.slice none 0 0))=some (.slice none 0 0)):aopG V g H (.binOp .eql 43 (.tmp 0) (.const (.slice none 0 0)) 43)=some (.bool true,H):=by
 simp only [aopG,hx,hy,nil_nil,Option.map_some]
end
section
open Go.Ev.Sh
abbrev F_law26_MergeTells:FuncId:=3
def P_law26_MergeTells:PC :=
.seq (.reg [r (.box 24 g0),r (.box 29 g1),r (.assign kF)] [(4,0),(3,1),(2,2)]) (.seq (.seq (.reg [r (ld 24 g2),r (cf 4 #[t0] #[24]),rF 0 (fa 29 g3 2),rF 1 (ld 27 t0),rF 2 (ln t0 27),rF 3 (bo .gtr 3 t0 (k 8) 3),r (pk t4 kT t0),rF 0 (fa 29 g3 0),rF 1 (ld 25 t0),rF 2 (ln t0 25),rF 3 (bo .gtr 3 t0 (k 100) 3),r (pk t4 kT t0),rF 0 (fa 29 g3 1),rF 1 (ld 26 t0),rF 2 (ln t0 26),rF 3 (bo .gtr 3 t0 (k 100) 3),r (pk t4 kT t0)] [(35,0)]) (.cond t35 (.seq (.reg [r (cf 5 #[] #[])] [(4,0)]) (.ret)) (.skip))) (.seq (.seq (.reg [r (.assign (k 0))] [(5,0)]) (.block 0 (.loop (.seq (.seq (.reg [.get 5,r (fa 29 g3 2),r (ld 27 t0),r (ln t0 27),r (bo .lss 3 t3 t0 3)] [(41,0)]) (.cond t41 (.skip) (.exit 0))) (.seq (.block 1 (.seq (.reg [r (fa 29 g3 2),r (ld 27 t0),.get 5,r (ia 27 t1 t0),r (ld 24 t0),r (cf 4 #[t0] #[24])] [(49,0)]) (.cond t49 (.seq (.reg [r (cf 5 #[] #[])] [(4,
 0)]) (.ret)) (.skip)))) (.reg [.get 5,r (bo .add 3 t0 (k 1) 3)] [(5,0)])))))) (.seq (.seq (.reg [r (.assign (k 0))] [(6,0)]) (.block 2 (.loop (.seq (.seq (.reg [.get 6,r (bo .lss 3 t0 (k 2) 3)] [(52,0)]) (.cond t52 (.skip) (.exit 2))) (.seq (.block 3 (.seq (.reg [r (ld 24 g2),r (cf 6 #[t0] #[24]),r (.extract t0 0),r (.extract t1 1),r (.alloc 24),r (.store 24 t0 t2)] [(8,2),(7,1)]) (.seq (.reg [r (ld 24 g2),r (cf 7 #[t0] #[24]),r (.extract t0 0),r (.extract t1 1),r (.alloc 24),r (.store 24 t0 t2)] [(10,2),(9,1)]) (.seq (.seq (.rega [.get 8,.get 10,r (bo .neq 32 t1 t0 32),rF 0 (ld 24 g7),rF 1 (ld 24 g9),rF 2 (cf 8 #[t1,t0] #[24,24]),rF 3 (.unOp .not 4 t0),r (pk t4 kT t0),rF 0 (ld 24 g2),rF 1 (ld 24 g7),rF 2 (ld 24 g2),rF 3 (ld 24 g9),rF 4 (cf 9 #[t3,t2] #[24,24]),rF 5 (cf 10 #[t2,t1] #[24,24]),rF 6 (bo .neq 3 t1 t0 3),r (pk t7 kT t0)] [(82,0)] 16 [⟨.load 24 g2,(some (t8,
 false)),10,13⟩,⟨.load 24 g9,(some (t8,false)),11,13⟩]) (.cond t82 (.seq (.reg [r (.assign kF)] [(4,0)]) (.ret)) (.skip))) (.reg [r (ld 24 g7),r (cf 11 #[t0] #[24])] []))))) (.reg [.get 6,r (bo .add 3 t0 (k 1) 3)] [(6,0)])))))) (.seq (.reg [r (ld 29 g3),r (cf 12 #[t0] #[29]),r (.extract t0 0),r (.extract t1 1),r (.alloc 29),r (.store 29 t0 t2)] [(12,2),(11,1)]) (.seq (.reg [r (ld 29 g3),r (cf 13 #[t0] #[29]),r (.extract t0 0),r (.extract t1 1),r (.alloc 29),r (.store 29 t0 t2)] [(14,2),(13,1)]) (.seq (.seq (.reg [.get 12,.get 14,r (bo .neq 32 t1 t0 32),rF 0 (fa 29 g11 2),rF 1 (ld 27 t0),rF 2 (ln t0 27),rF 3 (fa 29 g13 2),rF 4 (ld 27 t0),rF 5 (ln t0 27),rF 6 (bo .neq 3 t3 t0 3),r (pk t7 kT t0),rF 0 (fa 29 g11 0),rF 1 (ld 25 t0),rF 2 (ln t0 25),rF 3 (fa 29 g13 0),rF 4 (ld 25 t0),rF 5 (ln t0 25),rF 6 (bo .neq 3 t3 t0 3),r (pk t7 kT t0),rF 0 (fa 29 g11 1),rF 1 (ld 26 t0),
 rF 2 (ln t0 26),rF 3 (fa 29 g13 1),rF 4 (ld 26 t0),rF 5 (ln t0 26),rF 6 (bo .neq 3 t3 t0 3),r (pk t7 kT t0)] [(124,0)]) (.cond (t 124) (.seq (.reg [r (.assign kF)] [(4,0)]) (.ret)) (.skip))) (.seq (.seq (.reg [r (.assign (k 0))] [(15,0)]) (.block 4 (.loop (.seq (.seq (.reg [.get 15,r (fa 29 g11 2),r (ld 27 t0),r (ln t0 27),r (bo .lss 3 t3 t0 3)] [(129,0)]) (.cond (t 129) (.skip) (.exit 4))) (.seq (.block 5 (.seq (.reg [r (fa 29 g11 2),r (ld 27 t0),.get 15,r (ia 27 t1 t0),r (ld 24 t0),r (fa 29 g13 2),r (ld 27 t0),.get 15,r (ia 27 t1 t0),r (ld 24 t0),r (cf 8 #[t5,t0] #[24,24]),r (.unOp .not 4 t0)] [(143,0)]) (.cond (t 143) (.seq (.reg [r (.assign kF)] [(4,0)]) (.ret)) (.skip)))) (.reg [.get 15,r (bo .add 3 t0 (k 1) 3)] [(15,0)])))))) (.seq (.reg [r (cf 5 #[] #[])] [(4,0)]) (.ret)))))))))
theorem fp_law26_MergeTells:Fp V 3 Tryz.f3 P_law26_MergeTells:=.of
noncomputable def Lc.law26_MergeTells {O vs H R}:=@Fp.lq V O 3 Tryz.f3 P_law26_MergeTells vs H R fp_law26_MergeTells
abbrev F_law26_long:FuncId:=4
def P_law26_long:PC :=
.seq (.reg [r (.box 24 g0),r (.assign kF)] [(2,0),(1,1)]) (.seq (.seq (.reg [r (fa 24 g1 4),r (ld 22 t0),r (ln t0 22),r (bo .gtr 3 t0 (k 60) 3),rF 0 (fa 24 g1 3),rF 1 (ld 3 t0),rF 2 (bo .gtr 3 t0 (k 300) 3),r (pk t3 kT t0)] [(16,0)]) (.cond t16 (.seq (.reg [r (.assign kT)] [(2,0)]) (.ret)) (.skip))) (.seq (.reg [r (.assign (k 0))] [(3,0)]) (.seq (.seq (.reg [r (.assign (k 0))] [(4,0)]) (.block 0 (.loop (.seq (.seq (.reg [.get 4,r (fa 24 g1 4),r (ld 22 t0),r (ln t0 22),r (bo .lss 3 t3 t0 3)] [(21,0)]) (.cond t21 (.skip) (.exit 0))) (.seq (.block 1 (.seq (.reg [r (fa 24 g1 4),r (ld 22 t0),.get 4,r (ia 22 t1 t0),r (ld 45 t0),r (.alloc 45),r (.store 45 t0 t1)] [(5,1)]) (.seq (.seq (.reg [r (fa 45 g5 1),r (ld 42 t0),r (ln t0 42),r (bo .gtr 3 t0 (k 200) 3),rF 0 (fa 45 g5 0),rF 1 (ld 41 t0),rF 2 (ln t0 41),rF 3 (bo .gtr 3 t0 (k 100) 3),r (pk t4 kT t0),rF 0 (fa 45 g5 2),rF 1 (ld 43 t0),
 rF 2 (ln t0 43),rF 3 (bo .gtr 3 t0 (k 100) 3),r (pk t4 kT t0),rF 0 (fa 45 g5 3),rF 1 (ld 43 t0),rF 2 (ln t0 43),rF 3 (bo .gtr 3 t0 (k 100) 3),r (pk t4 kT t0)] [(50,0)]) (.cond t50 (.seq (.reg [r (.assign kT)] [(2,0)]) (.ret)) (.skip))) (.seq (.reg [.get 3,r (fa 45 g5 1),r (ld 42 t0),r (ln t0 42),r (bo .add 3 t3 t0 3),r (fa 45 g5 0),r (ld 41 t0),r (ln t0 41),r (bo .add 3 t3 t0 3)] [(3,0)]) (.seq (.seq (.reg [r (.assign (k 0))] [(6,0)]) (.block 2 (.loop (.seq (.seq (.reg [.get 6,r (fa 45 g5 1),r (ld 42 t0),r (ln t0 42),r (bo .lss 3 t3 t0 3)] [(64,0)]) (.cond t64 (.skip) (.exit 2))) (.seq (.block 3 (.seq (.reg [r (fa 45 g5 1),r (ld 42 t0),.get 6,r (ia 42 t1 t0),r (fa 47 t0 5),r (ld 43 t0),r (ln t0 43),r (bo .gtr 3 t0 (k 100) 3)] [(74,0)]) (.cond t74 (.seq (.reg [r (.assign kT)] [(2,0)]) (.ret)) (.skip)))) (.reg [.get 6,r (bo .add 3 t0 (k 1) 3)] [(6,
 0)])))))) (.seq (.reg [r (.assign (k 0))] [(7,0)]) (.block 4 (.loop (.seq (.seq (.reg [.get 7,r (fa 45 g5 0),r (ld 41 t0),r (ln t0 41),r (bo .lss 3 t3 t0 3)] [(79,0)]) (.cond t79 (.skip) (.exit 4))) (.seq (.block 5 (.seq (.reg [r (fa 45 g5 0),r (ld 41 t0),.get 7,r (ia 41 t1 t0),r (fa 49 t0 1),r (ld 43 t0),r (ln t0 43),r (bo .gtr 3 t0 (k 100) 3)] [(89,0)]) (.cond t89 (.seq (.reg [r (.assign kT)] [(2,0)]) (.ret)) (.skip)))) (.reg [.get 7,r (bo .add 3 t0 (k 1) 3)] [(7,0)]))))))))))) (.reg [.get 4,r (bo .add 3 t0 (k 1) 3)] [(4,0)])))))) (.seq (.reg [.get 3,r (bo .gtr 3 t0 (k 400) 3)] [(2,0)]) (.ret)))))
theorem fp_law26_long:Fp V 4 Tryz.f4 P_law26_long:=.of
noncomputable def Lc.law26_long {O vs H R}:=@Fp.lq V O 4 Tryz.f4 P_law26_long vs H R fp_law26_long
abbrev F_law26_awake:FuncId:=5
def P_law26_awake:PC :=
.seq (.reg [r (.assign kF)] [(0,0)]) (.seq (.reg [r (.build 47 #[(0,(k8 7))]),r (.build 47 #[(0,(k8 6)),(2,(k (-1)))]),r (.build 47 #[(0,(k8 8))]),r (.build 47 #[(0,(k8 7))]),r (.build 47 #[(0,(k8 6)),(2,(k (-1))),(4,(k 1))]),r (.build 47 #[(0,(k8 8))]),r (.buildSlice 42 6 #[(0,t5),(1,t4),(2,t3),(3,t2),(4,t1),(5,t0)]),r (cf 14 #[(k 1),t0] #[3,42]),r (.alloc 24),r (.store 24 t0 t1)] [(1,1)]) (.seq (.reg [r (ld 24 g1),r (cf 6 #[t0] #[24]),r (.extract t0 0),r (.extract t1 1),r (.alloc 24),r (.store 24 t0 t2)] [(3,2),(2,1)]) (.seq (.reg [.get 3,r (bo .eql 32 t0 (k 0) 32),rT 0 (fa 24 g2 4),rT 1 (ld 22 t0),rT 2 (ln t0 22),rT 3 (bo .eql 3 t0 (k 1) 3),r (pk t4 t0 kF),rT 0 (fa 24 g2 4),rT 1 (ld 22 t0),rT 2 (ia 22 t0 (k 0)),rT 3 (fa 45 t0 1),rT 4 (ld 42 t0),rT 5 (ln t0 42),rT 6 (bo .eql 3 t0 (k 5) 3),r (pk t7 t0 kF),rT 0 (fa 24 g2 4),rT 1 (ld 22 t0),
 rT 2 (ia 22 t0 (k 0)),rT 3 (fa 45 t0 1),rT 4 (ld 42 t0),rT 5 (ia 42 t0 (k 2)),rT 6 (fa 47 t0 0),rT 7 (ld 5 t0),rT 8 (bo .eql 5 t0 (k8 6) 5),r (pk t9 t0 kF),rT 0 (ld 24 g1),rT 1 (ld 24 g2),rT 2 (cf 9 #[t1,t0] #[24,24]),rT 3 (bo .eql 3 t0 (k 1) 3),r (pk t4 t0 kF)] [(0,0)]) (.ret))))
theorem fp_law26_awake:Fp V 5 Tryz.f5 P_law26_awake:=.of
noncomputable def Lc.law26_awake {O vs H R}:=@Fp.lq V O 5 Tryz.f5 P_law26_awake vs H R fp_law26_awake
abbrev F_merge_Of:FuncId:=6
def P_merge_Of:PC :=
.seq (.reg [r (.box 24 g0),r (.alloc 24),r (.assign (k 0))] [(3,0),(2,1),(1,2)]) (.seq (.seq (.reg [r (ld 24 g1),r (cf 15 #[t0] #[24]),r (.unOp .not 4 t0)] [(9,0)]) (.cond t9 (.seq (.reg [r (.build 24 #[]),r (.store 24 g2 t0),r (.assign (k 4))] [(3,0)]) (.ret)) (.skip))) (.seq (.reg [r (ld 24 g1),r (.alloc 24),r (.store 24 t0 t1)] [(4,1)]) (.seq (.reg [r (fa 24 g4 4),r (.store 22 t0 (.const (.slice none 0 0)))] []) (.seq (.seq (.reg [r (fa 24 g1 4),r (ld 22 t0),r (ln t0 22),r (.move (k 0))] [(16,0),(15,1),(14,2)]) (.block 0 (.loop (.seq (.reg [r (bo .lss 3 g16 g15 3)] [(17,0)]) (.seq (.cond t17 (.skip) (.exit 0)) (.seq (.block 1 (.seq (.reg [r (ia 22 g14 g16),r (ld 45 t0),r (.alloc 45),r (.store 45 t0 t1)] [(6,1)]) (.rega [r (fa 24 g4 4),r (ld 22 t0),r (ld 45 g6),r (cf 16 #[t0] #[45]),r (.buildSlice 22 1 #[(0,t0)]),r (ap t3 t0 22 22),r (fa 24 g4 4),
 r (.store 22 t0 t1)] [] 8 [⟨.load 22 t7,none,1,5⟩]))) (.reg [r (bo .add 3 g16 (k 1) 3)] [(16,0)]))))))) (.seq (.seq (.reg [r (ld 24 g4),r (cf 15 #[t0] #[24]),r (.unOp .not 4 t0)] [(30,0)]) (.cond t30 (.seq (.reg [r (.build 24 #[]),r (.store 24 g2 t0),r (.assign (k 4))] [(3,0)]) (.ret)) (.skip))) (.seq (.reg [r (ld 24 g4),r (.store 24 g2 t0),r (.assign (k 0))] [(3,0)]) (.ret)))))))
theorem fp_merge_Of:Fp V 6 Tryz.f6 P_merge_Of:=.of
noncomputable def Lc.merge_Of {O vs H R}:=@Fp.lq V O 6 Tryz.f6 P_merge_Of vs H R fp_merge_Of
abbrev F_ref26_Of:FuncId:=7
def P_ref26_Of:PC :=
.seq (.reg [r (.box 24 g0),r (.alloc 24),r (.assign (k 0))] [(3,0),(2,1),(1,2)]) (.seq (.seq (.reg [r (ld 24 g1),r (cf 17 #[t0] #[24]),r (.unOp .not 4 t0)] [(12,0)]) (.cond t12 (.seq (.reg [r (.build 24 #[]),r (.store 24 g2 t0),r (.assign (k 4))] [(3,0)]) (.ret)) (.skip))) (.seq (.reg [r (fa 24 g1 0),r (ld 9 t0),r (fa 24 g1 1),r (ld 4 t0),r (fa 24 g1 2),r (ld 3 t0),r (fa 24 g1 3),r (ld 3 t0),r (.build 24 #[(0,t6),(1,t4),(2,t2),(3,t0)]),r (.alloc 24),r (.store 24 t0 t1)] [(4,1)]) (.seq (.seq (.reg [r (.assign (k 0))] [(5,0)]) (.block 0 (.loop (.seq (.seq (.reg [.get 5,r (fa 24 g1 4),r (ld 22 t0),r (ln t0 22),r (bo .lss 3 t3 t0 3)] [(27,0)]) (.cond t27 (.skip) (.exit 0))) (.seq (.block 1 (.seq (.reg [r (fa 24 g1 4),r (ld 22 t0),.get 5,r (ia 22 t1 t0),r (ld 45 t0),r (cf 18 #[t0] #[45]),r (.alloc 45),r (.store 45 t0 t1)] [(6,1)]) (.seq (.reg [r (fa 45 g6 1),r (ld 42 t0),
 r (cf 19 #[t0] #[42]),r (.extract t0 0),r (.extract t1 1)] [(8,0),(7,1)]) (.seq (.block 2 (.loop (.seq (.seq (.reg [.get 7,r (bo .geq 3 t0 (k 0) 3)] [(43,0)]) (.cond t43 (.skip) (.exit 2))) (.block 3 (.seq (.reg [r (.buildSlice 42 0 #[]),r (fa 45 g6 1),r (ld 42 t0),.get 7,r (.slice 42 t1 none (some t0) none),r (ap t4 t0 42 42)] [(9,0)]) (.seq (.reg [.get 9,r (fa 45 g6 1),r (ld 42 t0),.get 7,r (bo .add 3 t0 (k 1) 3),.get 8,r (.slice 42 t3 (some t1) (some t0) none),r (ap t6 t0 42 42)] [(9,0)]) (.seq (.reg [.get 9,r (fa 45 g6 1),r (ld 42 t0),.get 8,r (bo .add 3 t0 (k 1) 3),r (.slice 42 t2 (some t0) none none),r (ap t5 t0 42 42),r (fa 45 g6 1),r (.store 42 t0 t1)] []) (.reg [r (fa 45 g6 1),r (ld 42 t0),r (cf 19 #[t0] #[42]),r (.extract t0 0),r (.extract t1 1)] [(8,0),(7,1)])))))))) (.reg [r (fa 24 g4 4),r (ld 22 t0),r (ld 45 g6),r (.buildSlice 22 1 #[(0,t0)]),r (ap t2 t0 22 22),
 r (fa 24 g4 4),r (.store 22 t0 t1)] []))))) (.reg [.get 5,r (bo .add 3 t0 (k 1) 3)] [(5,0)])))))) (.seq (.seq (.reg [r (ld 24 g4),r (cf 17 #[t0] #[24]),r (.unOp .not 4 t0)] [(80,0)]) (.cond t80 (.seq (.reg [r (.build 24 #[]),r (.store 24 g2 t0),r (.assign (k 4))] [(3,0)]) (.ret)) (.skip))) (.seq (.reg [r (ld 24 g4),r (.store 24 g2 t0),r (.assign (k 0))] [(3,0)]) (.ret))))))
theorem fp_ref26_Of:Fp V 7 Tryz.f7 P_ref26_Of:=.of
noncomputable def Lc.ref26_Of {O vs H R}:=@Fp.lq V O 7 Tryz.f7 P_ref26_Of vs H R fp_ref26_Of
abbrev F_law26_same:FuncId:=8
def P_law26_same:PC :=
.seq (.reg [r (.box 24 g0),r (.box 24 g1),r (.assign kF)] [(4,0),(3,1),(2,2)]) (.seq (.seq (.reg [r (fa 24 g2 0),r (ld 9 t0),r (fa 24 g3 0),r (ld 9 t0),r (bo .neq 9 t2 t0 9),rF 0 (fa 24 g2 1),rF 1 (ld 4 t0),rF 2 (fa 24 g3 1),rF 3 (ld 4 t0),rF 4 (bo .neq 4 t2 t0 4),r (pk t5 kT t0),rF 0 (fa 24 g2 2),rF 1 (ld 3 t0),rF 2 (fa 24 g3 2),rF 3 (ld 3 t0),rF 4 (bo .neq 3 t2 t0 3),r (pk t5 kT t0),rF 0 (fa 24 g2 3),rF 1 (ld 3 t0),rF 2 (fa 24 g3 3),rF 3 (ld 3 t0),rF 4 (bo .neq 3 t2 t0 3),r (pk t5 kT t0),rF 0 (fa 24 g2 4),rF 1 (ld 22 t0),rF 2 (ln t0 22),rF 3 (fa 24 g3 4),rF 4 (ld 22 t0),rF 5 (ln t0 22),rF 6 (bo .neq 3 t3 t0 3),r (pk t7 kT t0)] [(43,0)]) (.cond t43 (.seq (.reg [r (.assign kF)] [(4,0)]) (.ret)) (.skip))) (.seq (.seq (.reg [r (.assign (k 0))] [(5,0)]) (.block 0 (.loop (.seq (.seq (.reg [.get 5,r (fa 24 g2 4),r (ld 22 t0),r (ln t0 22),r (bo .lss 3 t3 t0 3)] [(48,
 0)]) (.cond t48 (.skip) (.exit 0))) (.seq (.block 1 (.seq (.rega [r (fa 24 g2 4),r (ld 22 t0),.get 5,r (ia 22 t1 t0),r (ld 45 t0),r (fa 24 g3 4),r (ld 22 t0),.get 5,r (ia 22 t1 t0),r (ld 45 t0),r (.alloc 45),r (.alloc 45),r (.store 45 t1 t7),r (.store 45 t1 t3)] [(7,2),(6,3)] 14 [⟨.load 22 t8,none,6,13⟩,⟨.load 45 t5,none,9,13⟩]) (.seq (.seq (.reg [r (fa 45 g6 2),r (ld 43 t0),r (fa 45 g7 2),r (ld 43 t0),r (cf 20 #[t2,t0] #[43,43]),r (.unOp .not 4 t0),rF 0 (fa 45 g6 3),rF 1 (ld 43 t0),rF 2 (fa 45 g7 3),rF 3 (ld 43 t0),rF 4 (cf 20 #[t2,t0] #[43,43]),rF 5 (.unOp .not 4 t0),r (pk t6 kT t0),rF 0 (fa 45 g6 1),rF 1 (ld 42 t0),rF 2 (fa 45 g7 1),rF 3 (ld 42 t0),rF 4 (cf 21 #[t2,t0] #[42,42]),rF 5 (.unOp .not 4 t0),r (pk t6 kT t0),rF 0 (fa 45 g6 0),rF 1 (ld 41 t0),rF 2 (ln t0 41),rF 3 (fa 45 g7 0),rF 4 (ld 41 t0),rF 5 (ln t0 41),rF 6 (bo .neq 3 t3 t0 3),r (pk t7 kT t0)] [(91,
 0)]) (.cond t91 (.seq (.reg [r (.assign kF)] [(4,0)]) (.ret)) (.skip))) (.seq (.reg [r (.assign (k 0))] [(8,0)]) (.block 2 (.loop (.seq (.seq (.reg [.get 8,r (fa 45 g6 0),r (ld 41 t0),r (ln t0 41),r (bo .lss 3 t3 t0 3)] [(96,0)]) (.cond t96 (.skip) (.exit 2))) (.seq (.block 3 (.seq (.reg [r (fa 45 g6 0),r (ld 41 t0),.get 8,r (ia 41 t1 t0),r (fa 49 t0 0),r (ld 3 t0),r (fa 45 g7 0),r (ld 41 t0),.get 8,r (ia 41 t1 t0),r (fa 49 t0 0),r (ld 3 t0),r (bo .neq 3 t6 t0 3),rF 0 (fa 45 g6 0),rF 1 (ld 41 t0),rF 2 (.move g8),rF 3 (ia 41 t1 t0),rF 4 (fa 49 t0 1),rF 5 (ld 43 t0),rF 6 (fa 45 g7 0),rF 7 (ld 41 t0),rF 8 (.move g8),rF 9 (ia 41 t1 t0),rF 10 (fa 49 t0 1),rF 11 (ld 43 t0),rF 12 (cf 20 #[t6,t0] #[43,43]),rF 13 (.unOp .not 4 t0),r (pk t14 kT t0)] [(127,0)]) (.cond (t 127) (.seq (.reg [r (.assign kF)] [(4,0)]) (.ret)) (.skip)))) (.reg [.get 8,r (bo .add 3 t0 (k 1) 3)] [(8,
 0)]))))))))) (.reg [.get 5,r (bo .add 3 t0 (k 1) 3)] [(5,0)])))))) (.seq (.reg [r (.assign kT)] [(4,0)]) (.ret))))
theorem fp_law26_same:Fp V 8 Tryz.f8 P_law26_same:=.of
noncomputable def Lc.law26_same {O vs H R}:=@Fp.lq V O 8 Tryz.f8 P_law26_same vs H R fp_law26_same
abbrev F_merge_Count:FuncId:=9
def P_merge_Count:PC :=
.seq (.reg [r (.box 24 g0),r (.box 24 g1),r (.assign (k 0))] [(4,0),(3,1),(2,2)]) (.seq (.rega [r (ld 24 g2),r (ld 24 g3),r (cf 22 #[t1] #[24]),r (cf 22 #[t1] #[24]),r (bo .sub 3 t1 t0 3)] [(4,0)] 5 [⟨.load 24 g3,none,1,3⟩]) (.ret))
theorem fp_merge_Count:Fp V 9 Tryz.f9 P_merge_Count:=.of
noncomputable def Lc.merge_Count {O vs H R}:=@Fp.lq V O 9 Tryz.f9 P_merge_Count vs H R fp_merge_Count
abbrev F_ref26_Count:FuncId:=10
def P_ref26_Count:PC :=
.seq (.reg [r (.box 24 g0),r (.box 24 g1),r (.assign (k 0))] [(4,0),(3,1),(2,2)]) (.seq (.rega [r (ld 24 g2),r (ld 24 g3),r (cf 23 #[t1] #[24]),r (cf 23 #[t1] #[24]),r (bo .sub 3 t1 t0 3)] [(4,0)] 5 [⟨.load 24 g3,none,1,3⟩]) (.ret))
theorem fp_ref26_Count:Fp V 10 Tryz.f10 P_ref26_Count:=.of
noncomputable def Lc.ref26_Count {O vs H R}:=@Fp.lq V O 10 Tryz.f10 P_ref26_Count vs H R fp_ref26_Count
abbrev F_law26_spoil:FuncId:=11
def P_law26_spoil:PC :=
.seq (.reg [r (.box 24 g0)] [(1,0)]) (.seq (.reg [r (.assign (k 0))] [(2,0)]) (.block 0 (.loop (.seq (.seq (.reg [.get 2,r (fa 24 g1 4),r (ld 22 t0),r (ln t0 22),r (bo .lss 3 t3 t0 3)] [(11,0)]) (.cond t11 (.skip) (.exit 0))) (.seq (.block 1 (.seq (.seq (.reg [r (.assign (k 0))] [(3,0)]) (.block 2 (.loop (.seq (.seq (.reg [.get 3,r (fa 24 g1 4),r (ld 22 t0),.get 2,r (ia 22 t1 t0),r (fa 45 t0 1),r (ld 42 t0),r (ln t0 42),r (bo .lss 3 t7 t0 3)] [(22,0)]) (.cond t22 (.skip) (.exit 2))) (.seq (.block 3 (.seq (.seq (.reg [r (.assign (k 0))] [(4,0)]) (.block 4 (.loop (.seq (.seq (.reg [.get 4,r (fa 24 g1 4),r (ld 22 t0),.get 2,r (ia 22 t1 t0),r (fa 45 t0 1),r (ld 42 t0),.get 3,r (ia 42 t1 t0),r (fa 47 t0 5),r (ld 43 t0),r (ln t0 43),r (bo .lss 3 t11 t0 3)] [(37,0)]) (.cond t37 (.skip) (.exit 4))) (.seq (.block 5 (.reg [r (fa 24 g1 4),r (ld 22 t0),.get 2,r (ia 22 t1 t0),r (fa 45 t0 1),
 r (ld 42 t0),.get 3,r (ia 42 t1 t0),r (fa 47 t0 5),r (ld 43 t0),.get 4,r (ia 43 t1 t0),r (.store 3 t0 (k (-7)))] [])) (.reg [.get 4,r (bo .add 3 t0 (k 1) 3)] [(4,0)])))))) (.reg [r (fa 24 g1 4),r (ld 22 t0),.get 2,r (ia 22 t1 t0),r (fa 45 t0 1),r (ld 42 t0),.get 3,r (ia 42 t1 t0),r (fa 47 t0 0),r (.store 5 t0 (k8 99))] []))) (.reg [.get 3,r (bo .add 3 t0 (k 1) 3)] [(3,0)])))))) (.seq (.seq (.reg [r (.assign (k 0))] [(5,0)]) (.block 6 (.loop (.seq (.seq (.reg [.get 5,r (fa 24 g1 4),r (ld 22 t0),.get 2,r (ia 22 t1 t0),r (fa 45 t0 0),r (ld 41 t0),r (ln t0 41),r (bo .lss 3 t7 t0 3)] [(69,0)]) (.cond t69 (.skip) (.exit 6))) (.seq (.block 7 (.reg [r (fa 24 g1 4),r (ld 22 t0),.get 2,r (ia 22 t1 t0),r (fa 45 t0 0),r (ld 41 t0),.get 5,r (ia 41 t1 t0),r (fa 49 t0 0),r (.store 3 t0 (k (-7)))] [])) (.reg [.get 5,r (bo .add 3 t0 (k 1) 3)] [(5,0)])))))) (.seq (.reg [r (.assign (k 0))] [(6,
 0)]) (.block 8 (.loop (.seq (.seq (.reg [.get 6,r (fa 24 g1 4),r (ld 22 t0),.get 2,r (ia 22 t1 t0),r (fa 45 t0 3),r (ld 43 t0),r (ln t0 43),r (bo .lss 3 t7 t0 3)] [(89,0)]) (.cond t89 (.skip) (.exit 8))) (.seq (.block 9 (.reg [r (fa 24 g1 4),r (ld 22 t0),.get 2,r (ia 22 t1 t0),r (fa 45 t0 3),r (ld 43 t0),.get 6,r (ia 43 t1 t0),r (.store 3 t0 (k (-7)))] [])) (.reg [.get 6,r (bo .add 3 t0 (k 1) 3)] [(6,0)]))))))))) (.reg [.get 2,r (bo .add 3 t0 (k 1) 3)] [(2,0)]))))))
theorem fp_law26_spoil:Fp V 11 Tryz.f11 P_law26_spoil:=.of
noncomputable def Lc.law26_spoil {O vs H R}:=@Fp.lq V O 11 Tryz.f11 P_law26_spoil vs H R fp_law26_spoil
abbrev F_merge_All:FuncId:=12
def P_merge_All:PC :=
.seq (.reg [r (.box 29 g0),r (.alloc 29),r (.assign (k 0))] [(3,0),(2,1),(1,2)]) (.seq (.seq (.reg [r (ld 29 g1),r (cf 24 #[t0] #[29]),r (.unOp .not 4 t0)] [(11,0)]) (.cond t11 (.seq (.reg [r (.build 29 #[]),r (.store 29 g2 t0),r (.assign (k 4))] [(3,0)]) (.ret)) (.skip))) (.seq (.rega [r (fa 29 g1 0),r (ld 25 t0),r (fa 29 g1 1),r (ld 26 t0),r (.alloc 29),r (cf 25 #[t3] #[25]),r (cf 26 #[t2] #[26]),r (.build 29 #[(0,t1),(1,t0)]),r (.store 29 t3 t0)] [(4,4)] 9 [⟨.load 26 t6,none,3,6⟩]) (.seq (.seq (.reg [r (fa 29 g1 2),r (ld 27 t0),r (ln t0 27),r (.move (k 0))] [(23,0),(22,1),(21,2)]) (.block 0 (.loop (.seq (.reg [r (bo .lss 3 g23 g22 3)] [(24,0)]) (.seq (.cond t24 (.skip) (.exit 0)) (.seq (.block 1 (.seq (.reg [r (ia 27 g21 g23),r (ld 24 t0),r (.alloc 24),r (.store 24 t0 t1)] [(6,1)]) (.seq (.reg [r (ld 24 g6),r (cf 6 #[t0] #[24]),r (.extract t0 0),r (.extract t1 1),
 r (.alloc 24),r (.store 24 t0 t2)] [(8,2),(7,1)]) (.seq (.seq (.reg [.get 8,r (bo .neq 32 t0 (k 0) 32)] [(33,0)]) (.cond t33 (.seq (.reg [r (.build 29 #[]),.get 8,r (.store 29 g2 t1)] [(3,1)]) (.ret)) (.skip))) (.reg [r (fa 29 g4 2),r (ld 27 t0),r (ld 24 g7),r (.buildSlice 27 1 #[(0,t0)]),r (ap t2 t0 27 27),r (fa 29 g4 2),r (.store 27 t0 t1)] []))))) (.reg [r (bo .add 3 g23 (k 1) 3)] [(23,0)]))))))) (.seq (.reg [r (ld 29 g4),r (.store 29 g2 t0),r (.assign (k 0))] [(3,0)]) (.ret)))))
theorem fp_merge_All:Fp V 12 Tryz.f12 P_merge_All:=.of
noncomputable def Lc.merge_All {O vs H R}:=@Fp.lq V O 12 Tryz.f12 P_merge_All vs H R fp_merge_All
abbrev F_ref26_All:FuncId:=13
def P_ref26_All:PC :=
.seq (.reg [r (.box 29 g0),r (.alloc 29),r (.assign (k 0))] [(3,0),(2,1),(1,2)]) (.seq (.seq (.reg [r (ld 29 g1),r (cf 27 #[t0] #[29]),r (.unOp .not 4 t0)] [(10,0)]) (.cond t10 (.seq (.reg [r (.build 29 #[]),r (.store 29 g2 t0),r (.assign (k 4))] [(3,0)]) (.ret)) (.skip))) (.seq (.rega [r (.buildSlice 25 0 #[]),r (fa 29 g1 0),r (ld 25 t0),r (.buildSlice 26 0 #[]),r (fa 29 g1 1),r (ld 26 t0),r (.alloc 29),r (ap t6 t4 25 25),r (ap t4 t2 26 26),r (.build 29 #[(0,t1),(1,t0)]),r (.store 29 t3 t0)] [(4,4)] 11 [⟨.load 26 t6,none,5,8⟩]) (.seq (.seq (.reg [r (.assign (k 0))] [(5,0)]) (.block 0 (.loop (.seq (.seq (.reg [.get 5,r (fa 29 g1 2),r (ld 27 t0),r (ln t0 27),r (bo .lss 3 t3 t0 3)] [(25,0)]) (.cond t25 (.skip) (.exit 0))) (.seq (.block 1 (.seq (.reg [r (fa 29 g1 2),r (ld 27 t0),.get 5,r (ia 27 t1 t0),r (ld 24 t0),r (cf 7 #[t0] #[24]),r (.extract t0 0),r (.extract t1 1),
 r (.alloc 24),r (.store 24 t0 t2)] [(7,2),(6,1)]) (.seq (.seq (.reg [.get 7,r (bo .neq 32 t0 (k 0) 32)] [(38,0)]) (.cond t38 (.seq (.reg [r (.build 29 #[]),.get 7,r (.store 29 g2 t1)] [(3,1)]) (.ret)) (.skip))) (.reg [r (fa 29 g4 2),r (ld 27 t0),r (ld 24 g6),r (.buildSlice 27 1 #[(0,t0)]),r (ap t2 t0 27 27),r (fa 29 g4 2),r (.store 27 t0 t1)] [])))) (.reg [.get 5,r (bo .add 3 t0 (k 1) 3)] [(5,0)])))))) (.seq (.reg [r (ld 29 g4),r (.store 29 g2 t0),r (.assign (k 0))] [(3,0)]) (.ret)))))
theorem fp_ref26_All:Fp V 13 Tryz.f13 P_ref26_All:=.of
noncomputable def Lc.ref26_All {O vs H R}:=@Fp.lq V O 13 Tryz.f13 P_ref26_All vs H R fp_ref26_All
abbrev F_law26_graph:FuncId:=14
def P_law26_graph:PC :=
.seq (.reg [r (.alloc 24)] [(4,0)]) (.seq (.reg [.get 0,.get 1,r (.build 47 #[(0,(k8 13))]),r (.buildSlice 42 1 #[(0,t0)]),r (ap t2 t0 42 42),r (.build 45 #[(1,t0)]),r (.buildSlice 22 1 #[(0,t0)]),r (.build 24 #[(1,kT),(3,t6),(4,t0)]),r (.store 24 g4 t0)] []) (.ret))
theorem fp_law26_graph:Fp V 14 Tryz.f14 P_law26_graph:=.of
noncomputable def Lc.law26_graph {O vs H R}:=@Fp.lq V O 14 Tryz.f14 P_law26_graph vs H R fp_law26_graph
abbrev F_merge_block:FuncId:=16
def P_merge_block:PC :=
.seq (.reg [r (.box 45 g0),r (.alloc 45)] [(2,0),(1,1)]) (.seq (.rega [r (fa 45 g1 2),r (ld 43 t0),r (fa 45 g1 3),r (ld 43 t0),r (.alloc 45),r (cf 33 #[t3] #[43]),r (cf 33 #[t2] #[43]),r (.build 45 #[(2,t1),(3,t0)]),r (.store 45 t3 t0)] [(3,4)] 9 [⟨.load 43 t6,none,3,6⟩]) (.seq (.seq (.reg [r (fa 45 g1 0),r (ld 41 t0),r (ln t0 41),r (.move (k 0))] [(19,0),(18,1),(17,2)]) (.block 0 (.loop (.seq (.reg [r (bo .lss 3 g19 g18 3)] [(20,0)]) (.seq (.cond t20 (.skip) (.exit 0)) (.seq (.block 1 (.seq (.reg [r (ia 41 g17 g19),r (ld 49 t0),r (.alloc 49),r (.store 49 t0 t1)] [(5,1)]) (.rega [r (fa 45 g3 0),r (ld 41 t0),r (fa 49 g5 0),r (ld 3 t0),r (fa 49 g5 1),r (ld 43 t0),r (cf 33 #[t0] #[43]),r (.build 49 #[(0,t3),(1,t0)]),r (.buildSlice 41 1 #[(0,t0)]),r (ap t7 t0 41 41),r (fa 45 g3 0),r (.store 41 t0 t1)] [] 12 [⟨.load 41 t11,none,1,9⟩,⟨.load 3 t9,none,3,
 9⟩]))) (.reg [r (bo .add 3 g19 (k 1) 3)] [(19,0)]))))))) (.seq (.seq (.reg [r (fa 45 g1 1),r (ld 42 t0),r (ln t0 42),r (.move (k 0))] [(38,0),(37,1),(36,2)]) (.block 2 (.loop (.seq (.reg [r (bo .lss 3 g38 g37 3)] [(39,0)]) (.seq (.cond t39 (.skip) (.exit 2)) (.seq (.block 3 (.seq (.reg [r (ia 42 g36 g38),r (ld 47 t0),r (.alloc 47),r (.store 47 t0 t1)] [(7,1)]) (.seq (.seq (.reg [r (fa 47 g7 0),r (ld 5 t0),r (bo .eql 5 t0 (k8 7) 5)] [(44,0)]) (.cond t44 (.seq (.reg [r (fa 45 g3 1),r (ld 42 t0),r (fa 47 g7 4),r (ld 2 t0),r (cf 34 #[t2,t0] #[42,2])] [(8,0)]) (.seq (.reg [.get 8,r (bo .geq 3 t0 (k 0) 3)] [(51,0)]) (.cond t51 (.seq (.reg [r (fa 45 g3 1),r (ld 42 t0),.get 8,.get 8,r (.slice 42 t2 none (some t1) (some t0)),r (fa 45 g3 1),r (ld 42 t0),.get 8,r (bo .add 3 t0 (k 1) 3),r (.slice 42 t2 (some t0) none none),r (ap t5 t0 42 42),r (fa 45 g3 1),
 r (.store 42 t0 t1)] []) (.exit 3)) (.skip)))) (.skip))) (.seq (.reg [r (fa 47 g7 5),r (ld 43 t0),r (cf 33 #[t0] #[43]),r (fa 47 g7 5),r (.store 43 t0 t1)] []) (.reg [r (fa 45 g3 1),r (ld 42 t0),r (ld 47 g7),r (.buildSlice 42 1 #[(0,t0)]),r (ap t2 t0 42 42),r (fa 45 g3 1),r (.store 42 t0 t1)] []))))) (.reg [r (bo .add 3 g38 (k 1) 3)] [(38,0)]))))))) (.seq (.reg [r (ld 45 g3),r (.store 45 g2 t0)] []) (.ret)))))
theorem fp_merge_block:Fp V 16 Tryz.f16 P_merge_block:=.of
noncomputable def Lc.merge_block {O vs H R}:=@Fp.lq V O 16 Tryz.f16 P_merge_block vs H R fp_merge_block
abbrev F_ref24_Copy:FuncId:=18
def P_ref24_Copy:PC :=
.seq (.reg [r (.box 45 g0),r (.alloc 45)] [(2,0),(1,1)]) (.seq (.rega [r (.buildSlice 43 0 #[]),r (fa 45 g1 2),r (ld 43 t0),r (.buildSlice 43 0 #[]),r (fa 45 g1 3),r (ld 43 t0),r (.alloc 45),r (ap t6 t4 43 43),r (ap t4 t2 43 43),r (.build 45 #[(2,t1),(3,t0)]),r (.store 45 t3 t0)] [(3,4)] 11 [⟨.load 43 t6,none,5,8⟩]) (.seq (.seq (.reg [r (.assign (k 0))] [(4,0)]) (.block 0 (.loop (.seq (.seq (.reg [.get 4,r (fa 45 g1 0),r (ld 41 t0),r (ln t0 41),r (bo .lss 3 t3 t0 3)] [(20,0)]) (.cond t20 (.skip) (.exit 0))) (.seq (.block 1 (.rega [r (fa 45 g3 0),r (ld 41 t0),r (fa 45 g1 0),r (ld 41 t0),.get 4,r (ia 41 t1 t0),r (fa 49 t0 0),r (ld 3 t0),r (.buildSlice 43 0 #[]),r (fa 45 g1 0),r (ld 41 t0),.get 4,r (ia 41 t1 t0),r (fa 49 t0 1),r (ld 43 t0),r (ap t6 t0 43 43),r (.build 49 #[(0,t8),(1,t0)]),r (.buildSlice 41 1 #[(0,t0)]),r (ap t16 t0 41 41),r (fa 45 g3 0),
 r (.store 41 t0 t1)] [] 21 [⟨.load 41 t20,none,1,18⟩,⟨.load 41 t18,none,3,18⟩,⟨.load 3 t14,none,7,18⟩])) (.reg [.get 4,r (bo .add 3 t0 (k 1) 3)] [(4,0)])))))) (.seq (.seq (.reg [r (.assign (k 0))] [(5,0)]) (.block 2 (.loop (.seq (.seq (.reg [.get 5,r (fa 45 g1 1),r (ld 42 t0),r (ln t0 42),r (bo .lss 3 t3 t0 3)] [(47,0)]) (.cond t47 (.skip) (.exit 2))) (.seq (.block 3 (.seq (.reg [r (fa 45 g1 1),r (ld 42 t0),.get 5,r (ia 42 t1 t0),r (ld 47 t0),r (.alloc 47),r (.store 47 t0 t1)] [(6,1)]) (.seq (.seq (.reg [r (fa 47 g6 5),r (ld 43 t0),r (ln t0 43),r (bo .gtr 3 t0 (k 0) 3)] [(58,0)]) (.cond t58 (.reg [r (.buildSlice 43 0 #[]),r (fa 47 g6 5),r (ld 43 t0),r (ap t2 t0 43 43),r (fa 47 g6 5),r (.store 43 t0 t1)] []) (.skip))) (.reg [r (fa 45 g3 1),r (ld 42 t0),r (ld 47 g6),r (.buildSlice 42 1 #[(0,t0)]),r (ap t2 t0 42 42),r (fa 45 g3 1),r (.store 42 t0 t1)] [])))) (.reg [.get 5,
 r (bo .add 3 t0 (k 1) 3)] [(5,0)])))))) (.seq (.reg [r (ld 45 g3),r (.store 45 g2 t0)] []) (.ret)))))
theorem fp_ref24_Copy:Fp V 18 Tryz.f18 P_ref24_Copy:=.of
noncomputable def Lc.ref24_Copy {O vs H R}:=@Fp.lq V O 18 Tryz.f18 P_ref24_Copy vs H R fp_ref24_Copy
abbrev F_ref26_Pair:FuncId:=19
def P_ref26_Pair:PC :=
.seq (.reg [r (.assign (k 0)),r (.assign (k 0))] [(3,0),(2,1)]) (.seq (.seq (.reg [r (.assign (k 0))] [(4,0)]) (.block 0 (.loop (.seq (.seq (.reg [.get 4,.get 0,r (ln t0 42),r (bo .lss 3 t2 t0 3)] [(9,0)]) (.cond t9 (.skip) (.exit 0))) (.seq (.block 1 (.seq (.seq (.reg [.get 0,.get 4,r (ia 42 t1 t0),r (fa 47 t0 0),r (ld 5 t0),r (bo .neq 5 t0 (k8 8) 5)] [(17,0)]) (.cond t17 (.exit 1) (.skip))) (.seq (.reg [.get 4,r (bo .add 3 t0 (k 1) 3)] [(5,0)]) (.seq (.block 2 (.loop (.seq (.seq (.reg [.get 5,.get 0,r (ln t0 42),r (bo .lss 3 t2 t0 3),rT 0 (.move g0),rT 1 (.move g5),rT 2 (ia 42 t1 t0),rT 3 (ld 47 t0),rT 4 (cf 38 #[t0] #[47]),r (pk t5 t0 kF)] [(30,0)]) (.cond t30 (.skip) (.exit 2))) (.block 3 (.reg [.get 5,r (bo .add 3 t0 (k 1) 3)] [(5,0)]))))) (.seq (.reg [.get 5,.get 0,r (ln t0 42),r (bo .lss 3 t2 t0 3),rT 0 (.move g0),rT 1 (.move g5),rT 2 (ia 42 t1 t0),rT 3 (fa 47 t0 0),
 rT 4 (ld 5 t0),rT 5 (bo .eql 5 t0 (k8 7) 5),r (pk t6 t0 kF),rT 0 (.move g0),rT 1 (.move g5),rT 2 (ia 42 t1 t0),rT 3 (fa 47 t0 4),rT 4 (ld 2 t0),rT 5 (.move g0),rT 6 (.move g4),rT 7 (ia 42 t1 t0),rT 8 (fa 47 t0 4),rT 9 (ld 2 t0),rT 10 (bo .eql 2 t5 t0 2),r (pk t11 t0 kF)] [(57,0)]) (.cond t57 (.seq (.reg [.get 4,.get 5] [(3,0),(2,1)]) (.ret)) (.skip))))))) (.reg [.get 4,r (bo .add 3 t0 (k 1) 3)] [(4,0)])))))) (.seq (.reg [r (.assign (k (-1))),r (.assign (k (-1)))] [(3,0),(2,1)]) (.ret)))
theorem fp_ref26_Pair:Fp V 19 Tryz.f19 P_ref26_Pair:=.of
noncomputable def Lc.ref26_Pair {O vs H R}:=@Fp.lq V O 19 Tryz.f19 P_ref26_Pair vs H R fp_ref26_Pair
abbrev F_ref12_Ints:FuncId:=20
def P_ref12_Ints:PC :=
.seq (.reg [r (.assign kF)] [(4,0)]) (.seq (.seq (.reg [.get 0,r (ln t0 43),.get 1,r (ln t0 43),r (bo .neq 3 t2 t0 3)] [(10,0)]) (.cond t10 (.seq (.reg [r (.assign kF)] [(4,0)]) (.ret)) (.skip))) (.seq (.seq (.reg [r (.assign (k 0))] [(5,0)]) (.block 0 (.loop (.seq (.seq (.reg [.get 5,.get 0,r (ln t0 43),r (bo .lss 3 t2 t0 3)] [(14,0)]) (.cond t14 (.skip) (.exit 0))) (.seq (.block 1 (.seq (.reg [.get 0,.get 5,r (ia 43 t1 t0),r (ld 3 t0),.get 1,.get 5,r (ia 43 t1 t0),r (ld 3 t0),r (bo .neq 3 t4 t0 3)] [(25,0)]) (.cond t25 (.seq (.reg [r (.assign kF)] [(4,0)]) (.ret)) (.skip)))) (.reg [.get 5,r (bo .add 3 t0 (k 1) 3)] [(5,0)])))))) (.seq (.reg [r (.assign kT)] [(4,0)]) (.ret))))
theorem fp_ref12_Ints:Fp V 20 Tryz.f20 P_ref12_Ints:=.of
noncomputable def Lc.ref12_Ints {O vs H R}:=@Fp.lq V O 20 Tryz.f20 P_ref12_Ints vs H R fp_ref12_Ints
abbrev F_ref06_SameIns:FuncId:=21
def P_ref06_SameIns:PC :=
.seq (.reg [r (.assign kF)] [(4,0)]) (.seq (.seq (.reg [.get 0,r (ln t0 42),.get 1,r (ln t0 42),r (bo .neq 3 t2 t0 3)] [(11,0)]) (.cond t11 (.seq (.reg [r (.assign kF)] [(4,0)]) (.ret)) (.skip))) (.seq (.seq (.reg [r (.assign (k 0))] [(5,0)]) (.block 0 (.loop (.seq (.seq (.reg [.get 5,.get 0,r (ln t0 42),r (bo .lss 3 t2 t0 3)] [(15,0)]) (.cond t15 (.skip) (.exit 0))) (.seq (.block 1 (.seq (.seq (.reg [.get 0,.get 5,r (ia 42 t1 t0),r (fa 47 t0 0),r (ld 5 t0),.get 1,.get 5,r (ia 42 t1 t0),r (fa 47 t0 0),r (ld 5 t0),r (bo .neq 5 t5 t0 5),rF 0 (.move g0),rF 1 (.move g5),rF 2 (ia 42 t1 t0),rF 3 (fa 47 t0 1),rF 4 (ld 3 t0),rF 5 (.move g1),rF 6 (.move g5),rF 7 (ia 42 t1 t0),rF 8 (fa 47 t0 1),rF 9 (ld 3 t0),rF 10 (bo .neq 3 t5 t0 3),r (pk t11 kT t0),rF 0 (.move g0),rF 1 (.move g5),rF 2 (ia 42 t1 t0),rF 3 (fa 47 t0 2),rF 4 (ld 3 t0),rF 5 (.move g1),rF 6 (.move g5),rF 7 (ia 42 t1 t0),
 rF 8 (fa 47 t0 2),rF 9 (ld 3 t0),rF 10 (bo .neq 3 t5 t0 3),r (pk t11 kT t0),rF 0 (.move g0),rF 1 (.move g5),rF 2 (ia 42 t1 t0),rF 3 (fa 47 t0 3),rF 4 (ld 3 t0),rF 5 (.move g1),rF 6 (.move g5),rF 7 (ia 42 t1 t0),rF 8 (fa 47 t0 3),rF 9 (ld 3 t0),rF 10 (bo .neq 3 t5 t0 3),r (pk t11 kT t0),rF 0 (.move g0),rF 1 (.move g5),rF 2 (ia 42 t1 t0),rF 3 (fa 47 t0 4),rF 4 (ld 2 t0),rF 5 (.move g1),rF 6 (.move g5),rF 7 (ia 42 t1 t0),rF 8 (fa 47 t0 4),rF 9 (ld 2 t0),rF 10 (bo .neq 2 t5 t0 2),r (pk t11 kT t0),rF 0 (.move g0),rF 1 (.move g5),rF 2 (ia 42 t1 t0),rF 3 (fa 47 t0 5),rF 4 (ld 43 t0),rF 5 (ln t0 43),rF 6 (.move g1),rF 7 (.move g5),rF 8 (ia 42 t1 t0),rF 9 (fa 47 t0 5),rF 10 (ld 43 t0),rF 11 (ln t0 43),rF 12 (bo .neq 3 t6 t0 3),r (pk t13 kT t0)] [(95,0)]) (.cond t95 (.seq (.reg [r (.assign kF)] [(4,0)]) (.ret)) (.skip))) (.seq (.reg [r (.assign (k 0))] [(6,
 0)]) (.block 2 (.loop (.seq (.seq (.reg [.get 6,.get 0,.get 5,r (ia 42 t1 t0),r (fa 47 t0 5),r (ld 43 t0),r (ln t0 43),r (bo .lss 3 t6 t0 3)] [(103,0)]) (.cond (t 103) (.skip) (.exit 2))) (.seq (.block 3 (.seq (.reg [.get 0,.get 5,r (ia 42 t1 t0),r (fa 47 t0 5),r (ld 43 t0),.get 6,r (ia 43 t1 t0),r (ld 3 t0),.get 1,.get 5,r (ia 42 t1 t0),r (fa 47 t0 5),r (ld 43 t0),.get 6,r (ia 43 t1 t0),r (ld 3 t0),r (bo .neq 3 t8 t0 3)] [(122,0)]) (.cond (t 122) (.seq (.reg [r (.assign kF)] [(4,0)]) (.ret)) (.skip)))) (.reg [.get 6,r (bo .add 3 t0 (k 1) 3)] [(6,0)])))))))) (.reg [.get 5,r (bo .add 3 t0 (k 1) 3)] [(5,0)])))))) (.seq (.reg [r (.assign kT)] [(4,0)]) (.ret))))
theorem fp_ref06_SameIns:Fp V 21 Tryz.f21 P_ref06_SameIns:=.of
noncomputable def Lc.ref06_SameIns {O vs H R}:=@Fp.lq V O 21 Tryz.f21 P_ref06_SameIns vs H R fp_ref06_SameIns
abbrev F_merge_taken:FuncId:=22
def P_merge_taken:PC :=
.seq (.reg [r (.box 24 g0),r (.assign (k 0))] [(2,0),(1,1)]) (.seq (.reg [r (.assign (k 0))] [(3,0)]) (.seq (.seq (.reg [r (fa 24 g1 4),r (ld 22 t0),r (ln t0 22),r (.move (k 0))] [(11,0),(10,1),(9,2)]) (.block 0 (.loop (.seq (.reg [r (bo .lss 3 g11 g10 3)] [(12,0)]) (.seq (.cond t12 (.skip) (.exit 0)) (.seq (.block 1 (.seq (.reg [r (ia 22 g9 g11),r (ld 45 t0),r (.alloc 45),r (.store 45 t0 t1)] [(5,1)]) (.seq (.reg [r (fa 45 g5 1),r (ld 42 t0),r (ln t0 42),r (.move (k 0))] [(18,0),(17,1),(16,2)]) (.block 2 (.loop (.seq (.reg [r (bo .lss 3 g18 g17 3)] [(19,0)]) (.seq (.cond t19 (.skip) (.exit 2)) (.seq (.block 3 (.seq (.reg [r (ia 42 g16 g18),r (ld 47 t0),r (.alloc 47),r (.store 47 t0 t1)] [(7,1)]) (.seq (.reg [r (fa 47 g7 0),r (ld 5 t0),r (bo .eql 5 t0 (k8 7) 5)] [(24,0)]) (.cond t24 (.reg [.get 3,r (bo .add 3 t0 (k 1) 3)] [(3,
 0)]) (.skip))))) (.reg [r (bo .add 3 g18 (k 1) 3)] [(18,0)]))))))))) (.reg [r (bo .add 3 g11 (k 1) 3)] [(11,0)]))))))) (.seq (.reg [.get 3] [(2,0)]) (.ret))))
theorem fp_merge_taken:Fp V 22 Tryz.f22 P_merge_taken:=.of
noncomputable def Lc.merge_taken {O vs H R}:=@Fp.lq V O 22 Tryz.f22 P_merge_taken vs H R fp_merge_taken
abbrev F_ref26_taken:FuncId:=23
def P_ref26_taken:PC :=
.seq (.reg [r (.box 24 g0),r (.assign (k 0))] [(2,0),(1,1)]) (.seq (.reg [r (.assign (k 0))] [(3,0)]) (.seq (.seq (.reg [r (.assign (k 0))] [(4,0)]) (.block 0 (.loop (.seq (.seq (.reg [.get 4,r (fa 24 g1 4),r (ld 22 t0),r (ln t0 22),r (bo .lss 3 t3 t0 3)] [(10,0)]) (.cond t10 (.skip) (.exit 0))) (.seq (.block 1 (.seq (.reg [r (.assign (k 0))] [(5,0)]) (.block 2 (.loop (.seq (.seq (.reg [.get 5,r (fa 24 g1 4),r (ld 22 t0),.get 4,r (ia 22 t1 t0),r (fa 45 t0 1),r (ld 42 t0),r (ln t0 42),r (bo .lss 3 t7 t0 3)] [(21,0)]) (.cond t21 (.skip) (.exit 2))) (.seq (.block 3 (.seq (.reg [r (fa 24 g1 4),r (ld 22 t0),.get 4,r (ia 22 t1 t0),r (fa 45 t0 1),r (ld 42 t0),.get 5,r (ia 42 t1 t0),r (fa 47 t0 0),r (ld 5 t0),r (bo .eql 5 t0 (k8 7) 5)] [(34,0)]) (.cond t34 (.reg [.get 3,r (bo .add 3 t0 (k 1) 3)] [(3,0)]) (.skip)))) (.reg [.get 5,r (bo .add 3 t0 (k 1) 3)] [(5,0)]))))))) (.reg [.get 4,
 r (bo .add 3 t0 (k 1) 3)] [(4,0)])))))) (.seq (.reg [.get 3] [(2,0)]) (.ret))))
theorem fp_ref26_taken:Fp V 23 Tryz.f23 P_ref26_taken:=.of
noncomputable def Lc.ref26_taken {O vs H R}:=@Fp.lq V O 23 Tryz.f23 P_ref26_taken vs H R fp_ref26_taken
abbrev F_merge_gives:FuncId:=34
def P_merge_gives:PC :=
.seq (.reg [r (.box 2 g1),r (.alloc 3)] [(4,0),(3,1)]) (.seq (.seq (.reg [.get 0,r (cf 55 #[t0] #[42])] [(8,0)]) (.block 0 (.rfunc t8 #[9,10] (.seq (.reg [r (.assign g9)] [(5,0)]) (.reg [r (.alloc 47),r (.store 47 t0 g10)] [(6,1)])) (.block 1 (.block 2 (.seq (.reg [r (fa 47 g6 0),r (ld 5 t0),r (ia 92 (.global 0) t0),r (ld 4 t0)] [(11,0),(15,0),(14,1),(13,2),(12,3)]) (.cond t11 (.skip) (.seq (.reg [r (fa 47 g6 0),r (ld 5 t0),r (bo .eql 5 t0 (k8 8) 5),rT 0 (fa 47 g6 4),rT 1 (ld 2 t0),rT 2 (ld 2 g3),rT 3 (bo .eql 2 t1 t0 2),r (pk t4 t0 kF)] [(16,0),(25,0),(24,1),(23,2),(22,3),(21,4),(20,5),(19,5),(18,6),(17,7)]) (.cond t16 (.seq (.reg [.get 5,r (.store 3 g4 t0)] [(26,1)]) (.ret)) (.seq (.reg [r (.store 3 g4 (k (-1)))] []) (.ret))))))))))) (.seq (.reg [r (.store 3 g4 (k (-1)))] []) (.ret)))
theorem fp_merge_gives:Fp V 34 Tryz.f34 P_merge_gives:=.of
noncomputable def Lc.merge_gives {O vs H R}:=@Fp.lq V O 34 Tryz.f34 P_merge_gives vs H R fp_merge_gives
abbrev F_ref26_quiet:FuncId:=38
def P_ref26_quiet:PC :=
.seq (.reg [r (.box 47 g0),r (.assign kF)] [(2,0),(1,1)]) (.seq (.reg [r (fa 47 g1 0),r (ld 5 t0),r (bo .eql 5 t0 (k8 1) 5),rF 0 (fa 47 g1 0),rF 1 (ld 5 t0),rF 2 (bo .eql 5 t0 (k8 2) 5),r (pk t3 kT t0),rF 0 (fa 47 g1 0),rF 1 (ld 5 t0),rF 2 (bo .eql 5 t0 (k8 3) 5),r (pk t3 kT t0),rF 0 (fa 47 g1 0),rF 1 (ld 5 t0),rF 2 (bo .eql 5 t0 (k8 4) 5),r (pk t3 kT t0)] [(2,0)]) (.ret))
theorem fp_ref26_quiet:Fp V 38 Tryz.f38 P_ref26_quiet:=.of
noncomputable def Lc.ref26_quiet {O vs H R}:=@Fp.lq V O 38 Tryz.f38 P_ref26_quiet vs H R fp_ref26_quiet
end
section
attribute [local irreducible] WL WP WH W
attribute [local irreducible] V
variable {O:Orc}{H:AH}
theorem backward_c (hO:NoO O) (v:Value):∃ w H',Lc V O F_slices_Backward_s_api_Ins_api_Ins [v] H w H'∧(w=.func (.func 76) #[] #[.pointer (some ⟨H.next,0,none⟩)]∧Fr H H'∧Bx H' H.next 42 v.cells.toList):=by
 refine Lc.slices_Backward_s_api_Ins_api_Ins (hO _ _ _ (by decide)) ?_
 unfold P_slices_Backward_s_api_Ins_api_Ins
 apply zSeq
 apply zReg
 refine zBox rfl (fun _=>rfl) fun H1 f1 b1 n1=>?_
 repeat first|apply zSeq|apply zReg|refine wN ?_|refine wA ?_
 refine WL.op rfl ?_
 repeat first|refine wN ?_
 exact WP.ret ⟨.inr rfl,_,rfl,rfl,f1,b1⟩
theorem backward_it (hO:NoO O) {A:Av}{b c:Nat}{v:Value}{l:List Ins} (hL:l.length≤1000000) (I:Nat→AH→Prop) (J:AH→Prop) (h0:I l.length H) (hbx:∀ k Hc,I k Hc→Bx Hc c 42 [v]) (hr:∀ k Hc,I k Hc→Els 6 InsR A Hc v l) (hlv:∀ Hz,aLen V.E Hz 42 v=some (.int .i64 l.length))
  (step:∀ k (h:k<l.length) Hc,I (k+1) Hc→∀ va,IntsR A Hc va l[k].args→∃ u H',Yd V O b [.int .i64 k,.agg (l[k].cells va).toArray] Hc (.bool u) H'∧(u=true→I k H')∧(u=false→J H')) :
  ∃ w H',Lc V O F_slices_Backward_s_api_Ins_api_Ins__q1 [.func (.yield b) #[] #[],.pointer (some ⟨c,0,none⟩)] H w H'∧(I 0 H'∨J H'):=by
 refine Lc.slices_Backward_s_api_Ins_api_Ins__q1 (hO _ _ _ (by decide)) ?_
 unfold P_slices_Backward_s_api_Ins_api_Ins__q1
 have hb0:=hbx _ H h0
 repeat first|apply zSeq|apply zReg|apply zBlk|refine wN ?_|refine zSub rfl rfl (by omega) ?_|refine wB E_s_api_Ins ?_|refine wK (hlv _) ?_
 refine WP.loopH (σ:=Nat) (fun k=>[(0,.func (.yield b) #[] #[]),(1,.pointer (some ⟨c,0,none⟩)),(3,.int .i64 ((k:Int)-1))]) (fun k Hc=>I k Hc∧k≤l.length) (fun k=>k) l.length ⟨h0,Nat.le_refl _⟩ ⟨rfl,rfl,rfl,trivial⟩ ?_
 rintro k Hc ⟨hI,hk⟩
 have hbc:=hbx k Hc hI
 cases k with
 | zero=>
  have g1:decide ((((0:Nat):Int)-1)≥0)=false:=dF
  repeat first|apply zSeq|apply zReg|apply zExt|refine wN ?_|refine wG ?_|refine wW ?_|refine wf ?_
  exact ⟨.inl rfl,_,rfl,.inl hI⟩
 | succ k=>
  have g1:decide ((((k+1:Nat):Int)-1)≥0)=true:=dT
  have h:k<l.length:=by omega
  obtain ⟨b1,o1,cs,ha1,hrd,va,rfl,hva⟩:=(hr _ Hc hI).at E_s_api_Ins E_Ins te_Ins_size (kd:=.i64) h
  rw [show ((k:Nat):Int)=((k+1:Nat):Int)-1 by omega] at ha1
  have hl1:=hrd.loadN (V:=V) E_Ins te_Ins_agg te_Ins_size
  obtain ⟨u,H',hy,h1,h2⟩:=step k h Hc hI va hva
  rw [show ((k:Nat):Int)=((k+1:Nat):Int)-1 by omega] at hy
  repeat first|apply zSeq|apply zReg|apply zBlk|apply zSkp|refine wN ?_|refine wG ?_|refine wW ?_|refine wT ?_|refine wB E_s_api_Ins ?_|refine zIdx rfl rfl ha1 ?_|refine zLd rfl hl1 ?_
  refine WL.yield rfl rfl hy ?_
  cases u
  ·repeat first|refine wN ?_|refine wZ ?_|refine wt ?_
   exact WP.ret ⟨.inr rfl,_,rfl,.inr (h2 rfl)⟩
  ·repeat first|apply zReg|apply zSkp|refine wN ?_|refine wG ?_|refine zSub rfl rfl (by omega) ?_|refine wZ ?_|refine wf ?_
   refine ⟨k,⟨h1 rfl,by omega⟩,by omega,rfl,rfl,?_,trivial⟩
   have:((k+1:Nat):Int)-1-1=(k:Int)-1:=by omega
   exact congrArg (fun x=>some (Value.int .i64 x)) this
end
section
attribute [local irreducible] WL WP WH W
def quietC:List Value:=[.bool false,.bool true,.bool true,.bool true,.bool true,.bool false,.bool false,.bool false,.bool false,.bool false,.bool false,.bool false,.bool false,.bool false]
def GM (H:AH):Prop:=0<H.next∧H.obj 0=.row 92 quietC .ro 0 0
theorem GM.frX {H H':AH} (h:GM H) {bs gs:List Nat} (k:FrX bs gs H H') (hb:0∉bs):GM H':=⟨Nat.lt_of_lt_of_le h.1 k.1,(k.2.1 0 h.1 hb).trans h.2⟩
theorem GM.fr {H H':AH} (h:GM H) (k:Fr H H'):GM H':=⟨Nat.lt_of_lt_of_le h.1 k.1,(k.2.1 0 h.1).trans h.2⟩
theorem quietC_at (x:Ins) (h:0≤x.op∧x.op<14):quietC[x.op.toNat]?=some (.bool (Mer.quiet x)):=by
 obtain ⟨n,hn⟩:∃ n:Nat,x.op=n:=⟨x.op.toNat,by omega⟩
 unfold Mer.quiet
 rw [hn]
 have:n=0∨n=1∨n=2∨n=3∨n=4∨n=5∨n=6∨n=7∨n=8∨n=9∨n=10∨n=11∨n=12∨n=13:=by omega
 rcases this with rfl|rfl|rfl|rfl|rfl|rfl|rfl|rfl|rfl|rfl|rfl|rfl|rfl|rfl<;>rfl
theorem E_quiet:V.E 92=some ⟨.array 14 4,14,14,.agg #[.bool false,.bool false,.bool false,.bool false,.bool false,.bool false,.bool false,.bool false,.bool false,.bool false,.bool false,.bool false,.bool false,.bool false]⟩:=by kernel_rfl
theorem global1 {E:List Value}{l:SL}:gS V.nG E l (.global 0)=some (.pointer (some ⟨0,0,none⟩)):=by unfold V;rfl
attribute [local irreducible] V
variable {O:Orc}{H:AH}
set_option maxHeartbeats 1000000 in
theorem givesRound {n:Nat}{T:PTree Value}{cx cy:Code}{b b3 b4:Nat}{k:Nat}{x:Ins}{va:Value}{lock:Int}{A:Av}{c4:Value}{Hc:AH} (hn:n=Tryz.f34.ntmps) (ho:Hc.obj b=.loop .ready none n T #[9,10] cx cy) (hT:Has T [(3,.pointer (some ⟨b3,0,none⟩)),(4,.pointer (some ⟨b4,0,none⟩))])
 (h3:Bx Hc b3 2 [.int .i64 lock]) (h4:Bx Hc b4 3 [c4]) (hb3:b3≠b) (hb4:b4≠b) (hb:b<Hc.next) (hg:GM Hc) (hb1:0<b) (hop:0≤x.op∧x.op<14) (hva:IntsR A Hc va x.args)
 (hx:pcOf V n none cx=some (.seq (
 .reg [.run (.assign (.tmp (far+9))) none] [(5,0)]) (
 .reg [.run (.alloc 47) none,
  .run (.store 47 (.tmp 0) (.tmp (far+10))) none] [(6,1)]))) (hy:pcOf V n none cy=some (.block 1 (
  .block 2 (
   .seq (
   .reg [.run (.fieldAddr 47 (.tmp (far+6)) 0) none,
    .run (.load 5 (.tmp 0)) none,
    .run (.indexAddr 92 (.global 0) (.tmp 0)) none,
    .run (.load 4 (.tmp 0)) none] [(11,0),(15,0),(14,1),(13,2),(12,3)]) (
   .cond (.tmp 11) (
    .skip) (
    .seq (
    .reg [.run (.fieldAddr 47 (.tmp (far+6)) 0) none,
     .run (.load 5 (.tmp 0)) none,
     .run (.binOp .eql 5 (.tmp 0) (.const (.int .u8 8)) 5) none,
     .run (.fieldAddr 47 (.tmp (far+6)) 4) (some ((.tmp 0),true)),
     .run (.load 2 (.tmp 0)) (some ((.tmp 1),true)),
     .run (.load 2 (.tmp (far+3))) (some ((.tmp 2),true)),
     .run (.binOp .eql 2 (.tmp 1) (.tmp 0) 2) (some ((.tmp 3),true)),
     .run (.pick (.tmp 4) (.tmp 0) (.const (.bool false))) none] [(16,0),(25,0),(24,1),(23,2),(22,3),(21,4),(20,5),(19,5),(18,6),(17,7)]) (
    .cond (.tmp 16) (
     .seq (
     .reg [.get 5,
      .run (.store 3 (.tmp (far+4)) (.tmp 0)) none] [(26,1)]) (
     .ret)) (
     .seq (
     .reg [.run (.store 3 (.tmp (far+4)) (.const (.int .i64 (-1)))) none] []) (
     .ret))))))))) (nx:noRF cx=true) (ny:noRF cy=true) :
   ∃ u H',Yd V O b [.int .i64 k,.agg (x.cells va).toArray] Hc (.bool u) H'∧(u=true→Mer.quiet x=true∧FrX [b] [] Hc H'∧H'.obj b=.loop .ready none n T #[9,10] cx cy)∧(u=false→Mer.quiet x=false∧FrX [b,b4] [] Hc H'∧Bx H' b4 3 [.int .i64 (if (x.op==8&&x.n==lock)=true then (k:Int) else -1)]∧H'.obj b=.loop .done (some .ret) n T #[9,10] cx cy):=by
 subst hn
 have key:∃ v H',Yd V O b [.int .i64 k,.agg (x.cells va).toArray] Hc v H'∧∃ u,v=.bool u∧(u=true→Mer.quiet x=true∧FrX [b] [] Hc H'∧H'.obj b=.loop .ready none Tryz.f34.ntmps T #[9,10] cx cy)∧(u=false→Mer.quiet x=false∧FrX [b,b4] [] Hc H'∧Bx H' b4 3 [.int .i64 (if (x.op==8&&x.n==lock)=true then (k:Int) else -1)]∧H'.obj b=.loop .done (some .ret) Tryz.f34.ntmps T #[9,10] cx cy):=by
  refine Yd.round (l1:=[(10,.agg (x.cells va).toArray),(9,.int .i64 k),(3,.pointer (some ⟨b3,0,none⟩)),(4,.pointer (some ⟨b4,0,none⟩))]) ho hT ?_ hx hy nx ny ?_
  ·show (if 9<Tryz.f34.ntmps then if 10<Tryz.f34.ntmps then _ else _ else _)=_
   rw [if_pos (by decide +kernel),if_pos (by decide +kernel)];rfl
  apply zSeq
  repeat first|apply zReg|refine wN ?_|refine wA ?_
  refine zAlc E_Ins zero39 fun H1 f1 b1 n1=>?_
  refine zStB b1 rfl rfl E_Ins (by rw [te_Ins_size];rfl) (by have:=hva.oneCell;simp [Value.cells,Ins.cells,Value.oneCell'] at this ⊢;exact this) (by simp [Value.cells,Ins.cells]) (by simp [Value.cells,Ins.cells]) fun H2 f2 b2 n2=>?_
  have b2':Bx H2 Hc.next 47 (x.cells va):=b2
  have f12:Fr Hc H2:=f1.young f2 (by simp) (by simp)
  refine WL.nil ⟨_,rfl,rfl,_,_,_,_,_,_,(f12.2.1 b hb).trans ho,?_⟩
  have hxb:Hc.next≠b:=by omega
  have b3':=(h3.fr f12).frX (FrX.put (o:=.loop .busy none Tryz.f34.ntmps T #[9,10] cx cy)) (b:=b3) (bs:=[b]) (by simpa using hb3)
  have b4':=(h4.fr f12).frX (FrX.put (o:=.loop .busy none Tryz.f34.ntmps T #[9,10] cx cy)) (b:=b4) (bs:=[b]) (by simpa using hb4)
  have b5':=b2'.frX (FrX.put (o:=.loop .busy none Tryz.f34.ntmps T #[9,10] cx cy)) (b:=Hc.next) (bs:=[b]) (by simpa using hxb)
  have hgb:=(hg.fr f12).frX (FrX.put (b:=b) (o:=.loop .busy none Tryz.f34.ntmps T #[9,10] cx cy)) (by simp;omega)
  generalize hHb:H2.put b (.loop .busy none Tryz.f34.ntmps T #[9,10] cx cy)=Hb at *
  have fb:FrX [b] [] Hc Hb:=by rw [←hHb];exact (f12.x _ _).trans .put (fun b hb _=>hb) (fun b hb _=>hb)
  have hob:Hb.obj b=.loop .busy none Tryz.f34.ntmps T #[9,10] cx cy:=by rw [←hHb];simp
  have ha1:aIndex V.E 92 (.pointer (some ⟨0,0,none⟩)) (.int .u8 x.op)=some (.pointer (some ⟨0,0+x.op.toNat*1,none⟩)):=by
   simp only [aIndex,E_quiet,E_bool]
   rw [if_pos ⟨by omega,by omega⟩]
  have hr:Rd Hb 0 0 14 quietC:=Rd.ro hgb.1 hgb.2
  have hl1:aLoad V.E Hb 4 (.pointer (some ⟨0,0+x.op.toNat*1,none⟩))=some (.bool (Mer.quiet x)):=by
   rw [Nat.mul_one];exact (hr.at1 (quietC_at x hop)).load1 E_bool rfl
  cases c1:Mer.quiet x
  case true =>
   rw [c1] at hl1
   repeat first|apply zSeq|apply zReg|apply zBlk|refine wD O_Ins_Op ?_|refine wB E_uint8 ?_
   refine zIdx global1 rfl ha1 ?_
   refine zLd rfl hl1 ?_
   repeat first|apply zSkp|refine wN ?_|refine wt ?_
   refine ⟨_,_,_,_,_,_,_,hob,true,rfl,fun _=>⟨rfl,fb.trans .put (by simp) (by simp),by simp [Ex.out,Ex.jump]⟩,fun h=>(by cases h)⟩
  rw [c1] at hl1
  have fin:∀ {H5:AH}{w:Int},FrX [b4] [] Hb H5→Bx H5 b4 3 (splice [c4] 0 [.int .i64 w])→w=(if (x.op==8&&x.n==lock)=true then (k:Int) else -1) →
   H5.obj b=.loop .busy none Tryz.f34.ntmps T #[9,10] cx cy∧FrX [b,b4] [] Hc (H5.put b (.loop .done (some .ret) Tryz.f34.ntmps T #[9,10] cx cy))∧Bx (H5.put b (.loop .done (some .ret) Tryz.f34.ntmps T #[9,10] cx cy)) b4 3 [.int .i64 (if (x.op==8&&x.n==lock)=true then (k:Int) else -1)]:=fun {H5 w} f5 b5 hw=>by
   subst hw
   have f6:FrX [b,b4] [] Hc H5:=(fb.sub (by simp) (by simp)).trans f5 (by simp) (by simp)
   have b5'':Bx H5 b4 3 [.int .i64 (if (x.op==8&&x.n==lock)=true then (k:Int) else -1)]:=b5
   exact ⟨(f5.2.1 b (Nat.lt_of_lt_of_le hb fb.1) (by simpa using Ne.symm hb4)).trans hob,f6.trans .put (by simp) (by simp),b5''.frX .put (by simpa using hb4)⟩
  cases c2:x.op==8
  ·repeat first|apply zSeq|apply zReg|apply zBlk|refine wD O_Ins_Op ?_|refine wB E_uint8 ?_
   refine zIdx global1 rfl ha1 ?_
   refine zLd rfl hl1 ?_
   repeat first|apply zSeq|apply zReg|refine wN ?_|refine wF ?_|refine wR ?_|refine wQ ?_|refine wf ?_|refine wD O_Ins_Op ?_|refine wB E_uint8 ?_
   refine zStB b4' rfl rfl E_int rfl rfl (by simp [Value.cells]) (by simp [Value.cells]) fun H5 f5 b5 n5=>?_
   repeat first|refine wN ?_
   obtain ⟨q1,q2,q3⟩:=fin f5 b5 (by rw [c2];rfl)
   rw [c2] at q3
   exact WP.ret ⟨_,_,_,_,_,_,_,q1,false,rfl,fun h=>(by cases h),fun _=>⟨rfl,q2,q3,by simp [Ex.out,Ex.jump]⟩⟩
  ·cases c3:x.n==lock
   ·repeat first|apply zSeq|apply zReg|apply zBlk|refine wD O_Ins_Op ?_|refine wB E_uint8 ?_
    refine zIdx global1 rfl ha1 ?_
    refine zLd rfl hl1 ?_
    repeat first|apply zSeq|apply zReg|refine wN ?_|refine wO ?_|refine wP ?_|refine wQ ?_|refine wf ?_|refine wE ?_|refine wD O_Ins_Op ?_|refine wD O_Ins_N ?_|refine wB E_int64 ?_|refine wB E_uint8 ?_
    refine zStB b4' rfl rfl E_int rfl rfl (by simp [Value.cells]) (by simp [Value.cells]) fun H5 f5 b5 n5=>?_
    repeat first|refine wN ?_
    obtain ⟨q1,q2,q3⟩:=fin f5 b5 (by rw [c2,c3];rfl)
    rw [c2,c3] at q3
    exact WP.ret ⟨_,_,_,_,_,_,_,q1,false,rfl,fun h=>(by cases h),fun _=>⟨rfl,q2,q3,by simp [Ex.out,Ex.jump]⟩⟩
   ·repeat first|apply zSeq|apply zReg|apply zBlk|refine wD O_Ins_Op ?_|refine wB E_uint8 ?_
    refine zIdx global1 rfl ha1 ?_
    refine zLd rfl hl1 ?_
    repeat first|apply zSeq|apply zReg|refine wN ?_|refine wG ?_|refine wO ?_|refine wP ?_|refine wQ ?_|refine wf ?_|refine wT ?_|refine wD O_Ins_Op ?_|refine wD O_Ins_N ?_|refine wB E_int64 ?_|refine wB E_uint8 ?_
    refine zStB b4' rfl rfl E_int rfl rfl (by simp [Value.cells]) (by simp [Value.cells]) fun H5 f5 b5 n5=>?_
    repeat first|refine wN ?_
    obtain ⟨q1,q2,q3⟩:=fin f5 b5 (by rw [c2,c3];rfl)
    rw [c2,c3] at q3
    exact WP.ret ⟨_,_,_,_,_,_,_,q1,false,rfl,fun h=>(by cases h),fun _=>⟨rfl,q2,q3,by simp [Ex.out,Ex.jump]⟩⟩
 obtain ⟨v,H',h,u,rfl,h1,h2⟩:=key
 exact ⟨u,H',h,h1,h2⟩
end
end Go.Proofs.YtjiibfgopanbgaaGreatDoor.U
namespace Go.Mer
open Go.Ev
theorem quiet_not8 {x:Ins} (h:quiet x=true):x.op≠8:=fun e=>by simp [quiet,e] at h
theorem gives_all {l:List Ins}{lock:Int} (h:∀ j (h:j<l.length),quiet l[j]=true):gives l lock=none:=by
 cases e:gives l lock with
 | none=>rfl
 | some k=>obtain ⟨hk,h1,_⟩:=gives_some e;exact absurd h1 (quiet_not8 (h k hk))
theorem gives_at {l:List Ins}{lock:Int}{k:Nat} (hk:k<l.length) (hq:quiet l[k]=false) (h:∀ j (hj:j<l.length),k<j→quiet l[j]=true):gives l lock=if (l[k].op==8&&l[k].n==lock)=true then some k else none:=by
 cases e:gives l lock with
 | none=>
  split
  ·rename_i c
   rw [Bool.and_eq_true,beq_iff_eq,beq_iff_eq] at c
   exact absurd (gives_none e k hk c.1 c.2 fun j hj hl=>h j hl hj) id
  ·rfl
 | some m=>
  obtain ⟨hm,h1,h2,h3⟩:=gives_some e
  have:m=k:=by
   rcases Nat.lt_trichotomy m k with h4|h4|h4
   ·rw [h3 k h4 hk] at hq;cases hq
   ·exact h4
   ·exact absurd h1 (quiet_not8 (h m hm h4))
  subst this
  rw [if_pos (by rw [h1,h2];simp)]
def givesI (l:List Ins) (lock:Int):Int:=match gives l lock with
 | some k=>k
 | none=>-1
end Go.Mer
namespace Go.Proofs.YtjiibfgopanbgaaGreatDoor.U
open Go Go.Ev
section
attribute [local irreducible] WL WP WH W
attribute [local irreducible] V
variable {O:Orc}{H:AH}
set_option maxHeartbeats 1000000 in
theorem gives_c (hO:NoO O) (hg:GM H) {A:Av}{v:Value}{l:List Ins} (hv:Els 6 InsR A H v l) (hL:l.length≤1000000) (hop:∀ i∈l,0≤i.op∧i.op<14) (lock:Int) :
 ∃ u H',Lc V O F_merge_gives [v,.int .i64 lock] H u H'∧(u=.int .i64 (Mer.givesI l lock)∧Fr H H'):=by
 refine Lc.merge_gives (hO _ _ _ (by decide)) ?_
 unfold P_merge_gives
 apply zSeq
 apply zReg
 refine zBox rfl (fun _=>rfl) fun H1 f1 b1 n1=>?_
 refine zAlc E_int rfl fun H2 f2 b2 n2=>?_
 replace b1:=b1.fr f2
 have f12:=f1.trans f2
 obtain ⟨_,H3,hc3,rfl,f3,bc⟩:=backward_c (H:=H2) hO v
 have e3:v.cells.toList=[v]:=by obtain ⟨_,⟨_,⟨rfl,_⟩|⟨b,off,cap,rfl,_⟩⟩,_⟩:=hv<;>rfl
 rw [e3] at bc
 replace b1:=b1.fr f3
 replace b2:=b2.fr f3
 have b2':Bx H3 H1.next 3 [.int .i64 0]:=b2
 have b1':Bx H3 H.next 2 [.int .i64 lock]:=b1
 have f13:=f12.trans f3
 have hv3:=hv.fr InsR.m f13
 have hg3:=hg.fr f13
 have hn3:=f3.1
 have hc2:H2.next<H3.next:=bc.1
 repeat first|apply zSeq|apply zReg|refine wN ?_|refine wG ?_
 refine WL.call rfl rfl fp_slices_Backward_s_api_Ins_api_Ins.is hc3 ?_
 repeat first|refine wN ?_
 refine WP.block (WP.rfunc rfl fp_slices_Backward_s_api_Ins_api_Ins__q1.is fun T cx cy hT hx hy nx ny=>?_)
 have fa:=Fr.alloc H3 (.loop .ready none Tryz.f34.ntmps T #[9,10] cx cy)
 have hnb:H3.next<(H3.alloc (.loop .ready none Tryz.f34.ntmps T #[9,10] cx cy)).next:=by simp
 have hob:(H3.alloc (.loop .ready none Tryz.f34.ntmps T #[9,10] cx cy)).obj H3.next=.loop .ready none Tryz.f34.ntmps T #[9,10] cx cy:=by simp
 have hvA:Els 6 InsR (.box H3.next) (H3.alloc (.loop .ready none Tryz.f34.ntmps T #[9,10] cx cy)) v l:=(hv3.gr InsR.m (B:=.box H3.next) ⟨fun x hx=>.inr (by simp [Av.box] at hx;omega),fun x hx=>(by simp [Av.box] at hx)⟩).fr InsR.m fa
 have hbx0:=bc.fr fa
 have b1a:=b1'.fr fa
 have b2a:=b2'.fr fa
 have hga:=hg3.fr fa
 have hT':Has T [(3,.pointer (some ⟨H.next,0,none⟩)),(4,.pointer (some ⟨H1.next,0,none⟩))]:=fun t v h=>hT t v (by
  simp only [Ev.look] at h ⊢
  split at h
  ·rename_i e;subst e;simpa using h
  ·split at h
   ·rename_i e;subst e;simpa using h
   ·cases h)
 generalize H3.alloc (.loop .ready none Tryz.f34.ntmps T #[9,10] cx cy)=H0 at *
 have h1b:H.next≠H3.next:=by omega
 have h2b:H1.next≠H3.next:=by omega
 have h4b:H2.next≠H3.next:=by omega
 obtain ⟨w,H4,hit,hend⟩:=backward_it (H:=H0) (A:=.box H3.next) (b:=H3.next) (c:=H2.next) (v:=v) (l:=l) hO hL
  (fun k Hc=>Hc.obj H3.next=.loop .ready none Tryz.f34.ntmps T #[9,10] cx cy∧FrX [H3.next] [] H0 Hc∧∀ j (h:j<l.length),k≤j→Mer.quiet l[j]=true)
  (fun Hc=>Hc.obj H3.next=.loop .done (some .ret) Tryz.f34.ntmps T #[9,10] cx cy∧FrX [H3.next,H1.next] [] H0 Hc∧Bx Hc H1.next 3 [.int .i64 (Mer.givesI l lock)])
  ⟨hob,.refl _ _ _,fun j h h2=>absurd h (by omega)⟩ (fun k Hc h=>hbx0.frX h.2.1 (by simpa using h4b)) (fun k Hc h=>hvA.frX InsR.m h.2.1) (fun Hz=>hv.len E_s_api_Ins) (fun k hk Hc ⟨q1,q2,q3⟩ va hva=>by
   obtain ⟨u,H',y1,y2,y3⟩:=givesRound (k:=k) (x:=l[k]) (lock:=lock) rfl q1 hT' (b1a.frX q2 (by simpa using h1b)) (b2a.frX q2 (by simpa using h2b)) h1b h2b (Nat.lt_of_lt_of_le hnb q2.1) (hga.frX q2 (by have:=hg.1;simp;omega)) (by have:=hg.1;omega) (hop _ (List.getElem_mem hk)) hva hx hy nx ny
   refine ⟨u,H',y1,fun hu=>?_,fun hu=>?_⟩
   ·obtain ⟨z1,z2,z3⟩:=y2 hu
    refine ⟨z3,q2.trans z2 (fun b hb _=>hb) (fun b hb _=>hb),fun j hj hjk=>?_⟩
    by_cases e:j=k
    ·subst e;exact z1
    ·exact q3 j hj (by omega)
   ·obtain ⟨z1,z2,z3,z4⟩:=y3 hu
    refine ⟨z4,(q2.sub (by simp) (by simp)).trans z2 (fun b hb _=>hb) (fun b hb _=>hb),?_⟩
    have:Mer.givesI l lock=if (l[k].op==8&&l[k].n==lock)=true then (k:Int) else -1:=by
     unfold Mer.givesI
     rw [Mer.gives_at hk z1 fun j hj hkj=>q3 j hj hkj]
     split<;>(split at *<;>first|rfl|(rename_i e1 e2;simp_all))
    rw [this];exact z3)
 rcases hend with ⟨q1,q2,q3⟩|⟨q1,q2,q3⟩
 ·refine ⟨w,H4,_,_,_,_,_,_,_,.normal,hit,q1,by simp,rfl,?_⟩
  have fz:Fr H3 (H4.put H3.next .dead):=fa.young (q2.trans .put (fun b hb _=>hb) (fun b hb _=>hb)) (by simp) (by simp)
  generalize H4.put H3.next .dead=Hz at *
  have bz:=b2'.fr fz
  have hres:Mer.givesI l lock=-1:=by unfold Mer.givesI;rw [Mer.gives_all fun j hj=>q3 j hj (Nat.zero_le _)]
  rw [hres]
  repeat first|apply zSeq|apply zReg
  refine zStB bz rfl rfl E_int rfl rfl (by simp [Value.cells]) (by simp [Value.cells]) fun H5 f5 b5 n5=>?_
  repeat first|refine wN ?_
  exact WP.ret ⟨.inr rfl,_,resL_cell rfl (b5.ld rfl E_int rfl) rfl,rfl,(f13.trans fz).young f5 (by simp;omega) (by simp)⟩
 ·refine ⟨w,H4,_,_,_,_,_,_,_,.ret,hit,q1,by simp,rfl,?_⟩
  have b4z:Bx (H4.put H3.next .dead) H1.next 3 [.int .i64 (Mer.givesI l lock)]:=q3.frX .put (by simpa using h2b)
  refine ⟨.inr rfl,_,resL_cell rfl (b4z.ld rfl E_int rfl) rfl,rfl,?_⟩
  have fx:FrX [H3.next,H1.next] [] H3 (H4.put H3.next .dead):=((fa.x _ _).trans q2 (fun b hb _=>hb) (fun b hb _=>hb)).trans .put (fun b hb _=>by simp at hb;simp [hb]) (by simp)
  exact f13.young fx (by simp;omega) (by simp)
end
section
attribute [local irreducible] WL WP WH W
structure SmallB (b:Block):Prop where
 code:b.code.length≤100000
 phis:b.phis.length≤100000
 frm:b.frm.length≤100000
 to:b.to.length≤100000
 pargs:∀ p∈b.phis,p.args.length≤100000
 cargs:∀ i∈b.code,i.args.length≤100000
theorem foldl_step_len (l:List Ins):∀ acc:List Ins,(l.foldl Mer.step acc).length≤acc.length+l.length:=by
 induction l with
 | nil=>intro acc;simp
 |cons i l ih =>
  intro acc
  rw [List.foldl_cons]
  have h1:(Mer.step acc i).length≤acc.length+1:=by
   unfold Mer.step
   split
   ·split
    ·have:=List.length_eraseIdx_le acc ‹_›;omega
    ·simp
   ·simp
  have:=ih (Mer.step acc i)
  simp only [List.length_cons];omega
theorem foldl_step_mem (l:List Ins):∀ acc:List Ins,∀ i∈l.foldl Mer.step acc,i∈acc∨i∈l:=by
 induction l with
 | nil=>intro acc i h;exact .inl h
 |cons x l ih =>
  intro acc i h
  rw [List.foldl_cons] at h
  rcases ih _ i h with h|h
  ·unfold Mer.step at h
   split at h
   ·split at h
    ·exact .inl (List.mem_of_mem_eraseIdx h)
    ·rcases List.mem_append.1 h with h|h
     ·exact .inl h
     ·exact .inr (by simp at h;simp [h])
   ·rcases List.mem_append.1 h with h|h
    ·exact .inl h
    ·exact .inr (by simp at h;simp [h])
  ·exact .inr (List.mem_cons_of_mem _ h)
theorem step_ne {acc:List Ins}{i:Ins} (h:i.op≠7):Mer.step acc i=acc++[i]:=by
 unfold Mer.step;rw [if_neg h]
theorem step_no {acc:List Ins}{i:Ins} (h:Mer.givesI acc i.n<0):Mer.step acc i=acc++[i]:=by
 unfold Mer.step
 unfold Mer.givesI at h
 split
 ·split
  ·rename_i hx;rw [hx] at h;simp at h;omega
  ·rfl
 ·rfl
theorem step_yes {acc:List Ins}{i:Ins} (h7:i.op=7) (h:0≤Mer.givesI acc i.n):∃ k:Nat,k<acc.length∧Mer.givesI acc i.n=k∧Mer.step acc i=acc.eraseIdx k:=by
 unfold Mer.step
 unfold Mer.givesI at h ⊢
 rw [if_pos h7]
 cases hx:Mer.gives acc i.n with
 | none=>rw [hx] at h;simp at h
 | some k=>
  obtain ⟨hk,_⟩:=Mer.gives_some hx
  exact ⟨k,hk,rfl,rfl⟩
end
end Go.Proofs.YtjiibfgopanbgaaGreatDoor.U
namespace Go.Ev
theorem OwI.isSl {e:TypeId}{H:AH}{n0:Nat}{v:Value}{l:List Int}{o:Option (Nat×Nat)} (h:OwI e H n0 v l o):∃ a n c,v=.slice a n c:=(h.rYoung (A:=.no) .no).isSl
end Go.Ev
namespace Go.Proofs.YtjiibfgopanbgaaGreatDoor.U
open Go Go.Ev
section
attribute [local irreducible] WL WP WH W
theorem elPhi0:te_Phi.zv.cells.toList=[.int .i64 0,.slice none 0 0]:=by kernel_rfl
theorem elBlk0:te_Block.zv.cells.toList=List.replicate 4 (.slice none 0 0):=by kernel_rfl
theorem elIns0:te_Ins.zv.cells.toList=[.int .u8 0,.int .i64 0,.int .i64 0,.int .i64 0,.int .i64 0,.slice none 0 0]:=by kernel_rfl
theorem elFillPhi {r:Int}{a:Option Addr}{n c:Nat}:afill (fun i=>some (i*te_Phi.size,te_Phi.size)) (azeros te_Phi.zv.cells.toList 1) [(0,.agg #[.int .i64 r,.slice a n c])]=some [.int .i64 r,.slice a n c]:=by kernel_rfl
theorem elFillIns {a0 a1 a2 a3 a4 a5:Value}:afill (fun i=>some (i*te_Ins.size,te_Ins.size)) (azeros te_Ins.zv.cells.toList 1) [(0,.agg #[a0,a1,a2,a3,a4,a5])]=some [a0,a1,a2,a3,a4,a5]:=by kernel_rfl
theorem elBuildBlk {a1 a2 b1 b2:Nat}{p q:Option Addr}:aBuild V.E 45 [(2,.slice p a1 a2),(3,.slice q b1 b2)]=some (.agg #[.slice none 0 0,.slice none 0 0,.slice p a1 a2,.slice q b1 b2]):=by kernel_rfl
theorem elBuildPhi {r:Int}{a:Option Addr}{n c:Nat}:aBuild V.E 49 [(0,.int .i64 r),(1,.slice a n c)]=some (.agg #[.int .i64 r,.slice a n c]):=by kernel_rfl
attribute [local irreducible] V
variable {O:Orc}{H:AH}
abbrev WI_:=WIns 3
theorem cloneO_c (hO:NoO O) {A:Av}{v:Value}{l:List Int} (hv:IntsR A H v l) (hL:l.length≤100000) :
  ∃ u H',Lc V O F_slices_Clone_s_int_int [v] H u H'∧(Fr H H'∧∃ o,OwI 3 H' H.next u l o):=by
 refine Lc.slices_Clone_s_int_int (hO _ _ _ (by decide)) ?_
 unfold P_slices_Clone_s_int_int
 obtain ⟨hc,⟨rfl,hn⟩|⟨b,off,cap,rfl,hr⟩⟩:=hv
 ·have hl:l=[]:=List.length_eq_zero_iff.1 hn
  subst hl
  repeat first|apply zSeq|apply zReg|refine wN ?_|refine wG ?_|refine wA ?_
  refine WL.op (op_nilNil rfl rfl) ?_
  repeat first|apply zSeq|apply zReg|refine wN ?_|refine wA ?_|refine wt ?_
  exact WP.ret ⟨.inr rfl,_,rfl,.refl _,none,.nil⟩
 ·have hv:IntsR A H (.slice (some ⟨b,off,none⟩) l.length cap) l:=⟨hc,.inr ⟨b,off,cap,rfl,hr⟩⟩
  have f5:=Fr.alloc H (.row 3 [] .exact 0 0)
  have w5:OwI 3 (H.alloc (.row 3 [] .exact 0 0)) H.next (.slice (some ⟨H.next,0,none⟩) 0 0) [] (some (H.next,H.next)):=.new (Nat.le_refl _)
  obtain ⟨v',H',o',k1,k2,k3,k4⟩:=w5.app (V:=V) ((hv.fr f5).sl (by omega)) (by simp;omega) f5.1 E_s_int E_s_int E_int (by decide)
  rw [List.nil_append] at k2
  repeat first|apply zSeq|apply zReg|refine wN ?_|refine wG ?_|refine wA ?_
  refine WL.op (op_eqNil rfl rfl) ?_
  repeat first|apply zSeq|apply zReg|apply zSkp|refine wN ?_|refine wf ?_
  refine WL.op (op_buildSlice rfl E_s_int E_int (by decide) rfl) ?_
  repeat first|refine wG ?_
  refine WL.op (k1 rfl rfl) ?_
  repeat first|refine wN ?_
  exact WP.ret ⟨.inr rfl,_,rfl,f5.young k3 w5.young.1 w5.young.2.1,o',k2⟩
end

end Go.Proofs.YtjiibfgopanbgaaGreatDoor.U