/-
  Contracts of flow: an instruction in a graph.
-/
import Derived.Test.YtogomfblfpfjhaaGreatDoorLaw1
import Derived.Test.YtogomfblfpfjhaaGreatDoorEv6
import Derived.Test.YtogomfblfpfjhaaGreatDoorProg
import Derived.KernelRfl
set_option linter.all false
namespace Go.Proofs.YtogomfblfpfjhaaGreatDoor.U
open Go Go.Ev
attribute [local irreducible] WL WP WH W
theorem build163a {r:Int}{a:Option Addr}{n c:Nat}:aBuild V.E 59 [(3,.int .i64 r),(4,.slice a n c)]=some (.agg #[.string ⟨⟨[]⟩⟩,.bool false,.int .i64 0,.int .i64 r,.slice a n c]):=by kernel_rfl
theorem build163b {r:Int}{a:Option Addr}{n c:Nat}:aBuild V.E 59 [(2,.int .i64 r),(4,.slice a n c)]=some (.agg #[.string ⟨⟨[]⟩⟩,.bool false,.int .i64 r,.int .i64 0,.slice a n c]):=by kernel_rfl
theorem build166 {a a' a'':Option Addr}{n c n' c' n'' c'':Nat}:aBuild V.E 56 [(0,.slice a n c),(1,.slice a' n' c'),(2,.slice a'' n'' c'')]=some (.agg #[.slice a n c,.slice a' n' c',.slice a'' n'' c'']):=by kernel_rfl
theorem fill164 {a1 a2 a3 a4 a5 b1 b2 b3 b4 b5:Value}:afill (fun i=>some (i * te_Fun.size,te_Fun.size)) (azeros te_Fun.zv.cells.toList 2) [(0,.agg #[a1,a2,a3,a4,a5]),(1,.agg #[b1,b2,b3,b4,b5])]=some [a1,a2,a3,a4,a5,b1,b2,b3,b4,b5]:=by kernel_rfl
theorem fill39z:afill (fun i=>some (i * te_Ins.size,te_Ins.size)) (azeros te_Ins.zv.cells.toList 1) [(0,.agg #[.int .u8 0,.int .i64 0,.int .i64 0,.int .i64 0,.int .i64 0,.slice none 0 0])]=some [.int .u8 0,.int .i64 0,.int .i64 0,.int .i64 0,.int .i64 0,.slice none 0 0]:=by kernel_rfl
theorem mk160:azeros te_Mem.zv.cells.toList 1=[.string ⟨⟨[]⟩⟩,.int .i64 0,.int .i64 0]:=by kernel_rfl
theorem zero166:te_Prog.zv.cells.toList=[.slice none 0 0,.slice none 0 0,.slice none 0 0]:=by kernel_rfl
attribute [local irreducible] V
variable {O:Orc}{H:AH}
theorem codeMayIns2_c (hO:NoO O) (hg:GH H) {A C:Av}{p:Prog}{i:Ins}{va vm vl vf:Value}{k:Nat} (hk:k < p.funs.length) (hm:Els 3 MemR A H vm p.mems) (hl:Els 1 StrR A H vl p.locks) (hf:Els 5 FunR A H vf p.funs) (hv:IntsR C H va i.args) (hL:i.args.length≤100000) (hop:0≤i.op∧i.op < 256) :
  ∃ v H',Lc V O F_code_MayIns [.agg #[vm,vl,vf],.int .i64 k,insV i va] H v H'∧(v=.bool (mayG p p.funs[k] i)∧Fr H H'):=by
 refine Lc.code_MayIns (R:=fun v H'=>v=.bool (mayG p p.funs[k] i)∧Fr H H') (hO _ _ _ (by decide)) (Nat.le_of_ble_eq_true rfl) (by kernel_rfl) ?_
 unfold P_code_MayIns
 apply zSeq
 apply zReg
 refine zBox rfl (fun _=>rfl) fun H1 f1 b1 n1=>?_
 refine zBox rfl (fun _=>rfl) fun H2 f2 b2 n2=>?_
 replace b1:=b1.fr f2
 have f12:=f1.trans f2
 replace hm:=hm.fr MemR.m f12
 replace hl:=hl.fr StrR.m f12
 replace hf:=hf.fr FunR.m f12
 replace hv:=hv.fr f12
 replace hg:=hg.fr f12
 have g1:decide ((k:Int)≥0)=true:=decide_eq_true (by omega)
 have g2:decide ((k:Int) < p.funs.length)=true:=decide_eq_true (by omega)
 obtain ⟨b,off,cs,ha1,hrd,vc,rfl,hc⟩:=hf.at E_s_api_Fun E_Fun te_Fun_size (kd:=.i64) hk
 have hl3:=hrd.loadN (V:=V) E_Fun te_Fun_agg te_Fun_size
 obtain ⟨_,H3,hc3,rfl,f3⟩:=codeMayIns_c (H:=H2) hO hg hm hl hf hc hv hL hop
 (repeat first|apply zSeq|apply zReg|refine wN ?_|refine wG ?_|refine zOn rfl rfl ?_|refine wO ?_|refine wM ?_|refine wA ?_|refine zPT rfl rfl rfl ?_|refine wL ?_|refine zGeq rfl rfl ?_|refine zFld rfl O_Prog_Funs ?_|refine wB E_s_api_Fun ?_|refine zLen rfl (hf.len E_s_api_Fun) ?_)
 refine zLd rfl (b1.ldN E_Prog te_Prog_agg (by rw [te_Prog_size];rfl)) ?_
 (repeat first|refine wO ?_|refine wM ?_|refine zFld rfl O_Prog_Funs ?_|refine wB E_s_api_Fun ?_|refine zIdx rfl rfl ha1 ?_|refine zLd rfl hl3 ?_)
 refine zLd rfl (b2.ldN E_Ins te_Ins_agg (by rw [te_Ins_size];rfl)) ?_
 (repeat first|refine wO ?_)
 refine WL.call rfl rfl is_code_mayIns hc3 ?_
 (repeat first|refine wN ?_|refine wP ?_)
 exact WP.ret ⟨.inr rfl,_,rfl,rfl,f12.trans f3⟩
theorem ends_c (hO:NoO O) (op:Int):Lc V O F_flow_ends [.int .u8 op] H (.bool (Flo.ends op)) H:=by
 refine Lc.of_eq (Lc.flow_ends (R:=fun u H'=>u=.bool (Flo.ends op)∧H'=H) (hO _ _ _ (by decide)) (Nat.le_of_ble_eq_true rfl) (by kernel_rfl) ?_)
 unfold P_flow_ends
 cases c1:op==11
 ·cases c2:op==12
  ·(repeat first|apply zSeq|apply zReg|refine wN ?_|refine wG ?_|refine wO ?_|refine wM ?_|refine wA ?_|refine wR ?_|refine zEql rfl rfl ?_)
   exact WP.ret ⟨.inr rfl,_,rfl,by unfold Flo.ends;rw [c1,c2];rfl,rfl⟩
  ·(repeat first|apply zSeq|apply zReg|refine wN ?_|refine wG ?_|refine wO ?_|refine wF ?_|refine wM ?_|refine wA ?_|refine wP ?_|refine wR ?_|refine zEql rfl rfl ?_)
   exact WP.ret ⟨.inr rfl,_,rfl,by unfold Flo.ends;rw [c1,c2];rfl,rfl⟩
 ·(repeat first|apply zSeq|apply zReg|refine wN ?_|refine wG ?_|refine zOff rfl rfl ?_|refine wF ?_|refine wA ?_|refine zPT rfl rfl rfl ?_|refine wP ?_|refine zEql rfl rfl ?_)
  exact WP.ret ⟨.inr rfl,_,rfl,by unfold Flo.ends;rw [c1];rfl,rfl⟩
def noS:ByteArray:=⟨⟨[]⟩⟩
def num (i:Ins):Int:=if (i.op==5||i.op==6||i.op==7||i.op==8)=true then 0 else if (i.op==10)=true then 1 else i.n
def numI (i:Ins):Ins:={ i with n:=num i }
def p0 (regs:Int) (i:Ins):Prog:=⟨[⟨noS,0,0⟩],[noS],[⟨noS,false,0,regs,[zeroI]⟩,⟨noS,false,i.args.length,0,[zeroI]⟩]⟩
def mi (regs:Int) (i:Ins):Bool:=
 !((decide (i.n < 0)&&i.op != 1)||decide ((i.args.length:Int) > 8))&&mayG (p0 regs i) ⟨noS,false,0,regs,[zeroI]⟩ (numI i)
set_option maxHeartbeats 2000000 in
theorem flowMayIns_c (hO:NoO O) (hg:GH H) {C:Av}{i:Ins}{va:Value} (regs:Int) (hv:IntsR C H va i.args) (hop:0≤i.op∧i.op < 256) :
    ∃ v H',Lc V O F_flow_mayIns [insV i va,.int .i64 regs] H v H'∧(v=.bool (mi regs i)∧Fr H H'):=by
  refine Lc.flow_mayIns (R:=fun v H'=>v=.bool (mi regs i)∧Fr H H') (hO _ _ _ (by decide)) (Nat.le_of_ble_eq_true rfl) (by kernel_rfl) ?_
  unfold P_flow_mayIns
  apply zSeq
  apply zReg
  refine zBox rfl (fun _=>rfl) fun H1 f1 b1 n1=>?_
  replace hv:=(hv.gr (B:=.box H.next) ⟨fun x hx=>.inr (by simp [Av.box] at hx;omega),fun x hx=>by simp [Av.box] at hx⟩).fr f1
  have hmi:((decide (i.n < 0)&&i.op != 1)||decide ((i.args.length:Int) > 8))=true→mi regs i=false:=fun h=>by unfold mi;rw [h];rfl
  (repeat first|refine wN ?_|refine wA ?_)
  refine WP.seqS (σ:=Unit) (fun _=>[(1,.int .i64 regs),(2,.pointer (some ⟨H.next,0,none⟩))]) (fun _ Hc=>Hc=H1∧((decide (i.n < 0)&&i.op != 1)||decide ((i.args.length:Int) > 8))=false) ?_ ?_
  · cases c1:decide (i.n < 0)
    · cases c3:decide ((i.args.length:Int) > 8)
      · (repeat first|apply zSeq|apply zReg|apply zSkp|refine wN ?_|refine zOn rfl rfl ?_|refine wF ?_|refine zPF rfl rfl rfl ?_|refine wR ?_|refine wL ?_|refine zGtr rfl rfl ?_|refine wE ?_|refine zFld rfl O_Ins_N ?_|refine zFld rfl O_Ins_Args ?_|refine wB E_int64 ?_|refine wB E_s_int ?_|refine zLen rfl (hv.len E_s_int) ?_)
        exact ⟨(),⟨rfl,rfl⟩,rfl,rfl,trivial⟩
      · (repeat first|apply zSeq|apply zReg|refine wN ?_|refine zOn rfl rfl ?_|refine wF ?_|refine wA ?_|refine zPF rfl rfl rfl ?_|refine wR ?_|refine wL ?_|refine zGtr rfl rfl ?_|refine wT ?_|refine zFld rfl O_Ins_N ?_|refine zFld rfl O_Ins_Args ?_|refine wB E_int64 ?_|refine wB E_s_int ?_|refine zLen rfl (hv.len E_s_int) ?_)
        exact WP.ret ⟨.inr rfl,_,rfl,by rw [hmi (by rw [c1,c3];rfl)];rfl,f1⟩
    · cases c2:i.op != 1
      · cases c3:decide ((i.args.length:Int) > 8)
        · (repeat first|apply zSeq|apply zReg|apply zSkp|refine wN ?_|refine wO ?_|refine wP ?_|refine wR ?_|refine wL ?_|refine zGtr rfl rfl ?_|refine zNeq rfl rfl ?_|refine wE ?_|refine zFld rfl O_Ins_Op ?_|refine zFld rfl O_Ins_N ?_|refine zFld rfl O_Ins_Args ?_|refine wB E_int64 ?_|refine wB E_uint8 ?_|refine wB E_s_int ?_|refine zLen rfl (hv.len E_s_int) ?_)
          exact ⟨(),⟨rfl,rfl⟩,rfl,rfl,trivial⟩
        · (repeat first|apply zSeq|apply zReg|refine wN ?_|refine wO ?_|refine wA ?_|refine wP ?_|refine wR ?_|refine wL ?_|refine zGtr rfl rfl ?_|refine zNeq rfl rfl ?_|refine wT ?_|refine zFld rfl O_Ins_Op ?_|refine zFld rfl O_Ins_N ?_|refine zFld rfl O_Ins_Args ?_|refine wB E_int64 ?_|refine wB E_uint8 ?_|refine wB E_s_int ?_|refine zLen rfl (hv.len E_s_int) ?_)
          exact WP.ret ⟨.inr rfl,_,rfl,by rw [hmi (by rw [c1,c2,c3];rfl)];rfl,f1⟩
      · (repeat first|apply zSeq|apply zReg|refine wN ?_|refine wO ?_|refine wF ?_|refine wA ?_|refine wP ?_|refine wL ?_|refine zNeq rfl rfl ?_|refine zT rfl rfl ?_|refine zFld rfl O_Ins_Op ?_|refine zFld rfl O_Ins_N ?_|refine wB E_int64 ?_|refine wB E_uint8 ?_)
        exact WP.ret ⟨.inr rfl,_,rfl,by rw [hmi (by rw [c1,c2];rfl)];rfl,f1⟩
  rintro _ Hy ⟨hy,hsm⟩
  replace hy:=hy.symm
  subst hy
  have hLa:i.args.length≤8:=by
    have:=(Bool.or_eq_false_iff.1 hsm).2
    have:=of_decide_eq_false this
    omega
  replace hmi:mi regs i=mayG (p0 regs i) ⟨noS,false,0,regs,[zeroI]⟩ (numI i):=by unfold mi;rw [hsm];rfl
  rw [hmi]
  clear hmi hsm
  refine WP.seqS (σ:=Unit) (fun _=>[(1,.int .i64 regs),(2,.pointer (some ⟨H.next,0,none⟩))]) (fun _ Hc=>FrX [H.next] [] H1 Hc∧Bx Hc H.next 41 ((numI i).cells va)) ?_ ?_
  · have st:∀ {x:Int},(∀ H2,FrX [H.next] [] H1 H2→Bx H2 H.next 41 (splice (insV i va).cells.toList 4 [.int .i64 x])→num i=x→FrX [H.next] [] H1 H2∧Bx H2 H.next 41 ((numI i).cells va)):=fun {x} H2 f2 b2 e=>⟨f2,by unfold numI;rw [e];exact b2⟩
    cases c5:i.op==5
    case true =>
      have e:num i=0:=by unfold num;rw [c5];rfl
      (repeat first|apply zSeq|apply zReg|apply zBlk|apply zSkp|refine wN ?_|refine zEql rfl rfl ?_|refine wT ?_|refine zFld rfl O_Ins_Op ?_|refine zFld rfl O_Ins_N ?_|refine wB E_uint8 ?_)
      refine zStB b1 rfl rfl E_int64 rfl rfl (by simp [Value.cells]) (by simp [Value.cells,insV,Ins.cells]) fun H2 f2 b2 n2=>?_
      (repeat first|refine wN ?_)
      exact ⟨(),st H2 f2 b2 e,rfl,rfl,trivial⟩
    cases c6:i.op==6
    case true =>
      have e:num i=0:=by unfold num;rw [c6];simp
      (repeat first|apply zSeq|apply zReg|apply zBlk|apply zSkp|refine wN ?_|refine zEql rfl rfl ?_|refine wT ?_|refine wE ?_|refine zFld rfl O_Ins_Op ?_|refine zFld rfl O_Ins_N ?_|refine wB E_uint8 ?_)
      refine zStB b1 rfl rfl E_int64 rfl rfl (by simp [Value.cells]) (by simp [Value.cells,insV,Ins.cells]) fun H2 f2 b2 n2=>?_
      (repeat first|refine wN ?_)
      exact ⟨(),st H2 f2 b2 e,rfl,rfl,trivial⟩
    cases c7:i.op==7
    case true =>
      have e:num i=0:=by unfold num;rw [c7];simp
      (repeat first|apply zSeq|apply zReg|apply zBlk|apply zSkp|refine wN ?_|refine zEql rfl rfl ?_|refine wT ?_|refine wE ?_|refine zFld rfl O_Ins_Op ?_|refine zFld rfl O_Ins_N ?_|refine wB E_uint8 ?_)
      refine zStB b1 rfl rfl E_int64 rfl rfl (by simp [Value.cells]) (by simp [Value.cells,insV,Ins.cells]) fun H2 f2 b2 n2=>?_
      (repeat first|refine wN ?_)
      exact ⟨(),st H2 f2 b2 e,rfl,rfl,trivial⟩
    cases c8:i.op==8
    case true =>
      have e:num i=0:=by unfold num;rw [c8];simp
      (repeat first|apply zSeq|apply zReg|apply zBlk|refine wN ?_|refine zEql rfl rfl ?_|refine wT ?_|refine wE ?_|refine zFld rfl O_Ins_Op ?_|refine zFld rfl O_Ins_N ?_|refine wB E_uint8 ?_)
      refine zStB b1 rfl rfl E_int64 rfl rfl (by simp [Value.cells]) (by simp [Value.cells,insV,Ins.cells]) fun H2 f2 b2 n2=>?_
      (repeat first|refine wN ?_)
      exact ⟨(),st H2 f2 b2 e,rfl,rfl,trivial⟩
    cases c10:i.op==10
    case true =>
      have e:num i=1:=by unfold num;rw [c5,c6,c7,c8,c10];rfl
      (repeat first|apply zSeq|apply zReg|apply zBlk|refine wN ?_|refine zEql rfl rfl ?_|refine wT ?_|refine wE ?_|refine zFld rfl O_Ins_Op ?_|refine zFld rfl O_Ins_N ?_|refine wB E_uint8 ?_)
      refine zStB b1 rfl rfl E_int64 rfl rfl (by simp [Value.cells]) (by simp [Value.cells,insV,Ins.cells]) fun H2 f2 b2 n2=>?_
      (repeat first|refine wN ?_)
      exact ⟨(),st H2 f2 b2 e,rfl,rfl,trivial⟩
    have e:num i=i.n:=by unfold num;rw [c5,c6,c7,c8,c10];rfl
    (repeat first|apply zSeq|apply zReg|apply zBlk|apply zSkp|refine wN ?_|refine zEql rfl rfl ?_|refine wE ?_|refine zFld rfl O_Ins_Op ?_|refine wB E_uint8 ?_)
    exact ⟨(),⟨.refl _ _ _,by unfold numI;rw [e];exact b1⟩,rfl,rfl,trivial⟩
  rintro _ H2 ⟨f2,b2⟩
  have f12:Fr H H2:=f1.young f2 (by simp) (by simp)
  have hn2:=f2.1
  replace hv:=hv.frX f2
  replace hg:=hg.fr f12
  have hv2:=hv
  have hg2:=hg
  clear b1 f1 f2
  (repeat first|apply zSeq|apply zReg)
  refine WL.op (op_build rfl build39) ?_
  refine zLit rfl E_s_api_Ins E_Ins (by rw [te_Ins_size];decide) fill39z (by decide) fun H3 f3 b3 n3=>?_
  (repeat first|apply zSeq|apply zReg|refine wN ?_)
  refine zMkS (n:=1) (m:=1) rfl rfl E_s_api_Mem E_Mem (by decide) (by rw [te_Mem_bytes];decide) (by decide) mk160 fun H4 f4 b4 n4=>?_
  refine zMkS (n:=1) (m:=1) rfl rfl E_s_string E_string (by decide) (by decide) (by decide) rfl fun H5 f5 b5 n5=>?_
  replace b4:=b4.fr f5
  replace b3:=(b3.fr f4).fr f5
  replace b2:=((b2.fr f3).fr f4).fr f5
  (repeat first|refine wG ?_)
  refine WL.op (op_build rfl build163a) ?_
  (repeat first|refine wG ?_|refine zFld rfl O_Ins_Args ?_|refine wB E_s_int ?_|refine zLen rfl (hv.len E_s_int) ?_)
  refine WL.op (op_build rfl build163b) ?_
  refine zLit rfl E_s_api_Fun E_Fun (by rw [te_Fun_size];decide) fill164 (by decide) fun H6 f6 b6 n6=>?_
  refine WL.op (op_build rfl build166) ?_
  refine zAlc E_Prog zero166 fun H7 f7 b7 n7=>?_
  replace b6:=b6.fr f7
  replace b5:=(b5.fr f6).fr f7
  replace b4:=(b4.fr f6).fr f7
  replace b3:=(b3.fr f6).fr f7
  replace b2:=(b2.fr f6).fr f7
  have f27:=((((f3.trans f4).trans f5).trans f6).trans f7)
  replace hv:=hv.fr f27
  replace hg:=hg.fr f27
  have hn7:=f27.1
  refine zStB b7 rfl rfl E_Prog (by rw [te_Prog_size];rfl) rfl (by simp [Value.cells]) (by simp [Value.cells]) fun H8 f8 b8 n8=>?_
  have h6:∀ b,b < H6.next→b∉[H6.next]:=fun b h=>by simp;omega
  replace b6:=b6.frX f8 (h6 _ (by omega))
  replace b5:=b5.frX f8 (h6 _ (by omega))
  replace b4:=b4.frX f8 (h6 _ (by omega))
  replace b3:=b3.frX f8 (h6 _ (by omega))
  replace b2:=b2.frX f8 (h6 _ (by omega))
  have f28:Fr H2 H8:=(((f3.trans f4).trans f5).trans f6).young ((f7.x _ _).trans f8 (fun b hb _=>hb) (fun b hb _=>hb)) (by simp;omega) (by simp)
  have hcode:Els 6 InsR .no H8 (.slice (some ⟨H2.next,0,none⟩) 1 1) [zeroI]:=b3.els (by simp) fun j hj=>by
    obtain rfl:j=0:=by simp at hj;omega
    exact ⟨.slice none 0 0,rfl,Sr.nil⟩
  have hm:Els 3 MemR .no H8 (.slice (some ⟨H3.next,0,none⟩) 1 1) (p0 regs i).mems:=b4.els (by simp [p0]) fun j hj=>by
    obtain rfl:j=0:=by simp [p0] at hj;omega
    rfl
  have hl:Els 1 StrR .no H8 (.slice (some ⟨H4.next,0,none⟩) 1 1) (p0 regs i).locks:=b5.els (by simp [p0];rfl) fun j hj=>by
    obtain rfl:j=0:=by simp [p0] at hj;omega
    rfl
  have hf:Els 5 FunR .no H8 (.slice (some ⟨H5.next,0,none⟩) 2 2) (p0 regs i).funs:=b6.els (by simp [p0]) fun j hj=>by
    have:j=0∨j=1:=by simp [p0] at hj;omega
    rcases this with rfl|rfl
    · exact ⟨_,rfl,hcode⟩
    · exact ⟨_,rfl,hcode⟩
  obtain ⟨_,H9,hc9,rfl,f9⟩:=codeMayIns2_c (H:=H8) (p:=p0 regs i) (i:=numI i) (k:=0) hO (hg2.fr f28) (by simp [p0]) hm hl hf (hv2.fr f28) (by show i.args.length≤100000;omega) hop
  (repeat first|apply zSeq|apply zReg|refine wN ?_)
  refine zLd rfl (b8.ldN E_Prog te_Prog_agg (by rw [te_Prog_size];rfl)) ?_
  refine zLd rfl (b2.ldN E_Ins te_Ins_agg (by rw [te_Ins_size];rfl)) ?_
  refine WL.call rfl rfl is_code_MayIns hc9 ?_
  (repeat first|refine wN ?_)
  exact WP.ret ⟨.inr rfl,_,rfl,rfl,(f12.trans f28).trans f9⟩
end Go.Proofs.YtogomfblfpfjhaaGreatDoor.U
namespace Go.Proofs.YtogomfblfpfjhaaGreatDoor.U
open Go Go.Ev
attribute [local irreducible] WL WP WH W
noncomputable def te_f122:TI:=match V.E 98 with
 | some t=>t
 | none=>⟨.bool,0,0,.nilFunc⟩
theorem E_f122:V.E 98=some te_f122:=by kernel_rfl
theorem te_f122_size:te_f122.size=1:=by kernel_rfl
theorem te_f122_agg:Desc.agg te_f122.desc=false:=by kernel_rfl
theorem te_f122_zero:te_f122.zv.cells.toList=[.nilFunc]:=by kernel_rfl
attribute [local irreducible] V
variable {O:Orc}{H:AH}
theorem blockQ1_c (hO:NoO O) {b:Nat}{regs:Int} (hb:Bx H b 3 [.int .i64 regs]) (r:Int):Lc V O F_flow_block_q1 [.int .i64 r,.pointer (some ⟨b,0,none⟩)] H (.bool (!Flo.within regs r)) H:=by
 refine Lc.of_eq (Lc.flow_block_q1 (R:=fun u H'=>u=.bool (!Flo.within regs r)∧H'=H) (hO _ _ _ (by decide)) (Nat.le_of_ble_eq_true rfl) (by kernel_rfl) ?_)
 unfold P_flow_block_q1
 cases c1:decide (r < 0)
 ·(repeat first|apply zSeq|apply zReg|refine wN ?_|refine wG ?_|refine wO ?_|refine wM ?_|refine wA ?_|refine wR ?_|refine wL ?_|refine zGeq rfl rfl ?_|refine wB E_int ?_)
  exact WP.ret ⟨.inr rfl,_,rfl,by unfold Flo.within;rw [c1,Bool.false_or,Bool.not_not];rfl,rfl⟩
 ·(repeat first|apply zSeq|apply zReg|refine wN ?_|refine wG ?_|refine wF ?_|refine wA ?_|refine wP ?_|refine wL ?_)
  exact WP.ret ⟨.inr rfl,_,rfl,by unfold Flo.within;rw [c1];rfl,rfl⟩
theorem any_not {α:Type} (p:α→Bool) (l:List α):(l.any fun x=>!p x)=!l.all p:=by
 rw [List.not_all_eq_any_not]
theorem blockQ2_c (hO:NoO O) {A:Av}{b1 b2 b3:Nat}{regs:Int}{vp vc vf vt:Value}{nf:Nat} (h1:Bx H b1 98 [.func (.func 72) #[] #[.pointer (some ⟨b2,0,none⟩)]]) (h2:Bx H b2 3 [.int .i64 regs]) (h3:Bx H b3 39 [vp,vc,vf,vt]) (hf2:∀ Hz,aLen V.E Hz 27 vf=some (.int .i64 nf)) {p:Ev.Phi}{cs:List Value} (hp:PhiR A H cs p) (hL:p.args.length≤1000000) :
  ∃ u H',Lc V O F_flow_block_q2 [.agg cs.toArray,.pointer (some ⟨b1,0,none⟩),.pointer (some ⟨b3,0,none⟩)] H u H'∧(u=.bool (!Flo.phiOk regs nf p)∧Fr H H'):=by
 obtain ⟨va,rfl,hv⟩:=hp
 refine Lc.flow_block_q2 (R:=fun u H'=>u=.bool (!Flo.phiOk regs nf p)∧Fr H H') (hO _ _ _ (by decide)) (Nat.le_of_ble_eq_true rfl) (by kernel_rfl) ?_
 unfold P_flow_block_q2
 apply zSeq
 apply zReg
 refine zBox rfl (fun _=>rfl) fun H1 f1 b0 n1=>?_
 replace h1:=h1.fr f1
 replace h2:=h2.fr f1
 replace h3:=h3.fr f1
 replace hv:=hv.fr f1
 (repeat first|apply zSeq|apply zReg|refine wN ?_|refine wA ?_|refine wB E_int ?_|refine zFld rfl O_Phi_R ?_|refine zLd rfl (Bx.ld ‹_› (by rfl) E_f122 te_f122_agg) ?_)
 refine WL.call rfl rfl (by rw [fn_flow_block_q1];rfl) (blockQ1_c hO h2 p.r) ?_
 cases c1:Flo.within regs p.r
 ·(repeat first|refine wN ?_|refine zOff rfl rfl ?_|refine zPT rfl rfl rfl ?_)
  exact WP.ret ⟨.inr rfl,_,rfl,by unfold Flo.phiOk;rw [c1];rfl,f1⟩
 cases c2:(p.args.length:Int) != nf
 case true=>
  (repeat first|refine zOn rfl rfl ?_|refine wB E_s_int ?_|refine zLen rfl (hv.len E_s_int) ?_|refine zFld rfl O_Block_From ?_|refine zFld rfl O_Phi_Args ?_)
  refine zLen rfl (hf2 _) ?_
  (repeat first|refine wN ?_|refine zOn rfl rfl ?_|refine wF ?_|refine zPF rfl rfl rfl ?_|refine wP ?_|refine zNeq rfl rfl ?_)
  refine WP.ret ⟨.inr rfl,_,rfl,?_,f1⟩
  have:((p.args.length:Int)==nf)=false:=by simpa [bne] using c2
  unfold Flo.phiOk;rw [c1,this];rfl
 obtain ⟨H2,hc2,f2⟩:=containsFunc_int_c (H:=H1) (f:=72) (cap:=#[.pointer (some ⟨b2,0,none⟩)]) (p:=fun r=>!Flo.within regs r) hO hv hL (by rw [fn_flow_block_q1];rfl) (fun x _ Hx fx=>⟨Hx,blockQ1_c hO (h2.fr fx) x,.refl _⟩)
 (repeat first|refine zOn rfl rfl ?_|refine wB E_s_int ?_|refine zLen rfl (hv.len E_s_int) ?_|refine zFld rfl O_Block_From ?_|refine zFld rfl O_Phi_Args ?_)
 refine zLen rfl (hf2 _) ?_
 (repeat first|refine zOn rfl rfl ?_|refine wO ?_|refine zPF rfl rfl rfl ?_|refine zNeq rfl rfl ?_|refine wB E_s_int ?_|refine zFld rfl O_Phi_Args ?_|refine zLd rfl (Bx.ld ‹_› (by rfl) E_f122 te_f122_agg) ?_)
 refine WL.call rfl rfl is_slices_ContainsFunc_s_int_int hc2 ?_
 (repeat first|refine wN ?_|refine wR ?_)
 refine WP.ret ⟨.inr rfl,_,rfl,?_,f1.trans f2⟩
 have:((p.args.length:Int)==nf)=true:=by simpa [bne] using c2
 unfold Flo.phiOk;rw [c1,this,any_not];rfl
set_option maxHeartbeats 2000000 in
theorem block_c (hO:NoO O) (hg:GH H) {A:Av}{b:Block}{cs:List Value} (hb:BlockR A H cs b) (regs:Int) (hop:∀ i∈b.code,0≤i.op∧i.op < 256) (hLc:b.code.length≤1000000) (hLp:b.phis.length≤1000000) (hLa:∀ p∈b.phis,p.args.length≤1000000) :
    ∃ u H',Lc V O F_flow_block [.agg cs.toArray,.int .i64 regs] H u H'∧(u=.bool (Flo.blockOk mi regs b)∧Fr H H'):=by
  obtain ⟨vp,vc,vf,vt,rfl,hp,hc,hf,ht2⟩:=hb
  refine Lc.flow_block (R:=fun u H'=>u=.bool (Flo.blockOk mi regs b)∧Fr H H') (hO _ _ _ (by decide)) (Nat.le_of_ble_eq_true rfl) (by kernel_rfl) ?_
  unfold P_flow_block
  apply zSeq
  apply zReg
  refine zBox rfl (fun _=>rfl) fun H1 f1 b1 n1=>?_
  refine zBox rfl (fun _=>rfl) fun H2 f2 b2 n2=>?_
  replace b1:=b1.fr f2
  have b1':Bx H2 H.next 39 [vp,vc,vf,vt]:=b1
  have b2':Bx H2 H1.next 3 [.int .i64 regs]:=b2
  have f12:=f1.trans f2
  replace hg:=hg.fr f12
  replace hp:=hp.fr PhiR.m f12
  replace hc:=hc.fr InsR.m f12
  clear b1 b2
  (repeat first|refine wN ?_|refine wA ?_)
  apply zSeq
  (repeat first|apply zReg|refine wN ?_|refine wA ?_)
  refine WP.seqS (σ:=Unit) (fun _=>[(2,.pointer (some ⟨H.next,0,none⟩)),(3,.pointer (some ⟨H1.next,0,none⟩)),(5,.int .i64 (Flo.toOf b.code))]) (fun _ Hc=>Fr H2 Hc∧Flo.codeOk mi regs b.code.length 0 b.code=true) ?_ ?_
  · have hlen:∀ Hz,aLen V.E Hz 37 vc=some (.int .i64 b.code.length):=fun Hz=>hc.len E_s_api_Ins
    (repeat first|apply zSeq|apply zReg|apply zBlk|refine wN ?_|refine wM ?_|refine wB E_s_api_Ins ?_|refine zLen rfl (hc.len E_s_api_Ins) ?_|refine zFld rfl O_Block_Code ?_)
    refine WP.loopH (σ:=Nat) (fun k=>[(2,.pointer (some ⟨H.next,0,none⟩)),(3,.pointer (some ⟨H1.next,0,none⟩)),(5,.int .i64 ((b.code.take k).foldl Flo.toN 1)),(10,vc),(11,.int .i64 b.code.length),(12,.int .i64 k)])
      (fun k Hc=>Fr H2 Hc∧k≤b.code.length∧∀ j (h:j < b.code.length),j < k→Flo.insOk mi regs b.code.length j b.code[j]=true) (fun k=>b.code.length - k) 0 ⟨.refl _,Nat.zero_le _,fun j _ h=>absurd h (by omega)⟩ ⟨rfl,rfl,rfl,rfl,rfl,rfl,trivial⟩ ?_
    rintro k Hc ⟨hfr,hk,hpre⟩
    rcases Nat.lt_or_ge k b.code.length with h|h
    · have g1:decide ((k:Int) < b.code.length)=true:=decide_eq_true (by omega)
      obtain ⟨bl,off,cs,ha1,hrd,va,rfl,hv⟩:=(hc.fr InsR.m hfr).at E_s_api_Ins E_Ins te_Ins_size (kd:=.i64) h
      have hl1:=hrd.loadN (V:=V) E_Ins te_Ins_agg te_Ins_size
      generalize hi:b.code[k]=i at *
      have hopi:0≤i.op∧i.op < 256:=hop i (by rw [← hi];exact List.getElem_mem _)
      have hb1:=b1'.fr hfr
      have hb2:=b2'.fr hfr
      (repeat first|apply zSeq|apply zReg|apply zBlk|apply zSkp|refine wN ?_|refine wG ?_|refine wL ?_|refine wT ?_|refine zIdx rfl rfl ha1 ?_|refine zLd rfl hl1 ?_)
      refine zAlc E_Ins zero39 fun H3 f3 b3 n3=>?_
      refine zStB b3 rfl rfl E_Ins (by rw [te_Ins_size];rfl) (by have:=hv.oneCell;simp [Value.cells,Ins.cells,Value.oneCell'] at this ⊢;exact this) (by simp [Value.cells,Ins.cells]) (by simp [Value.cells,Ins.cells]) fun H4 f4 b4 n4=>?_
      have b4':Bx H4 Hc.next 41 (i.cells va):=b4
      have f34:Fr Hc H4:=f3.young f4 (by simp) (by simp)
      obtain ⟨_,H5,hc5,rfl,f5⟩:=flowMayIns_c (H:=H4) (i:=i) (va:=va) hO ((hg.fr hfr).fr f34) regs (hv.fr f34) hopi
      have f35:=f34.trans f5
      have fr5:=hfr.trans f35
      replace b4':=b4'.fr f5
      replace hb1:=hb1.fr f34
      replace hb2:=hb2.fr f34
      (repeat first|apply zSeq|apply zReg|refine wN ?_)
      refine zLd rfl (b4.ldN E_Ins te_Ins_agg (by rw [te_Ins_size];rfl)) ?_
      (repeat first|refine wB E_int ?_)
      refine WL.call rfl rfl is_flow_mayIns hc5 ?_
      replace hb1:=hb1.fr f5
      replace hb2:=hb2.fr f5
      clear b3 b4 f3 f4 hc5
      have bad:Flo.insOk mi regs b.code.length k b.code[k]=false→Flo.blockOk mi regs b=false:=fun hbad=>by
        have:Flo.codeOk mi regs b.code.length 0 b.code=false:=by
          cases e:Flo.codeOk mi regs b.code.length 0 b.code with
          | false=>rfl
          | true=>have:=Flo.codeOk_iff.1 e k h;rw [Nat.zero_add,hbad] at this;cases this
        unfold Flo.blockOk;rw [this];rfl
      rw [hi] at bad
      unfold Flo.insOk at bad
      cases c1:mi regs i
      · rw [c1] at bad
        (repeat first|apply zSeq|apply zReg|refine wN ?_|refine zOff rfl rfl ?_|refine zU rfl ?_|refine wA ?_|refine zPT rfl rfl rfl ?_|refine zNot rfl ?_|refine zT rfl rfl ?_)
        exact WP.ret ⟨.inr rfl,_,rfl,by rw [bad rfl];rfl,f12.trans fr5⟩
      have hfold:(b.code.take (k+1)).foldl Flo.toN 1=Flo.toN ((b.code.take k).foldl Flo.toN 1) i:=by
        rw [List.take_add_one,List.getElem?_eq_getElem h,hi,Option.toList_some,List.foldl_append];rfl
      have hpre':Flo.insOk mi regs b.code.length k i=true→∀ j (h:j < b.code.length),j < k+1→Flo.insOk mi regs b.code.length j b.code[j]=true:=fun hok j hj hjk=>by
        by_cases e:j=k
        · subst e;rw [hi];exact hok
        · exact hpre j hj (by omega)
      have fin:Flo.insOk mi regs b.code.length k i=true→∀ {lz:SL},Kn lz [(2,.pointer (some ⟨H.next,0,none⟩)),(3,.pointer (some ⟨H1.next,0,none⟩)),(5,.int .i64 (Flo.toN ((b.code.take k).foldl Flo.toN 1) i)),(10,vc),(11,.int .i64 b.code.length),(12,.int .i64 ((k:Int)+1))] →
          ∃ s',(Fr H2 H5∧s'≤b.code.length∧∀ j (h:j < b.code.length),j < s'→Flo.insOk mi regs b.code.length j b.code[j]=true)∧b.code.length - s' < b.code.length - k∧Kn lz [(2,.pointer (some ⟨H.next,0,none⟩)),(3,.pointer (some ⟨H1.next,0,none⟩)),(5,.int .i64 ((b.code.take s').foldl Flo.toN 1)),(10,vc),(11,.int .i64 b.code.length),(12,.int .i64 s')]:=fun hok lz hk =>
        ⟨k+1,⟨fr5,h,hpre' hok⟩,by omega,by rw [hfold];exact hk⟩
      cases c2:Flo.ends i.op
      · have hok:Flo.insOk mi regs b.code.length k i=true:=by unfold Flo.insOk;rw [c1,c2];rfl
        cases d1:i.op==12
        · cases d2:i.op==13
          · have et:∀ t,Flo.toN t i=t:=fun t=>by unfold Flo.toN;rw [d1,d2];rfl
            rw [et] at fin
            (repeat first|refine zOn rfl rfl ?_|refine zNot rfl ?_|refine zFld rfl O_Ins_Op ?_|refine wB E_uint8 ?_)
            refine WL.call rfl rfl is_flow_ends (ends_c hO i.op) ?_
            (repeat first|apply zSeq|apply zReg|apply zBlk|apply zSkp|refine wN ?_|refine zOn rfl rfl ?_|refine wF ?_|refine wM ?_|refine zPF rfl rfl rfl ?_|refine wR ?_|refine zEql rfl rfl ?_|refine zAdd rfl rfl (by omega) ?_|refine zF rfl rfl ?_|refine wE ?_|refine zFld rfl O_Ins_Op ?_|refine wB E_uint8 ?_)
            exact fin hok ⟨rfl,rfl,rfl,rfl,rfl,rfl,trivial⟩
          · exfalso;unfold Flo.ends at c2;rw [d2] at c2;simp at c2
        · exfalso;unfold Flo.ends at c2;rw [d1] at c2;simp at c2
      · cases c3:decide ((k:Int)+1 < b.code.length)
        case true =>
          have hbad:Flo.blockOk mi regs b=false:=bad (by
            have:decide (k+1 < b.code.length)=true:=decide_eq_true (by have:=of_decide_eq_true c3;omega)
            rw [c1,c2,this];rfl)
          (repeat first|refine zOn rfl rfl ?_|refine zNot rfl ?_|refine zFld rfl O_Ins_Op ?_|refine wB E_uint8 ?_)
          refine WL.call rfl rfl is_flow_ends (ends_c hO i.op) ?_
          (repeat first|apply zSeq|apply zReg|refine wN ?_|refine zOn rfl rfl ?_|refine wO ?_|refine wM ?_|refine wA ?_|refine zPF rfl rfl rfl ?_|refine wP ?_|refine wL ?_|refine zAdd rfl rfl (by omega) ?_|refine wT ?_|refine wB E_s_api_Ins ?_|refine zLen rfl (hc.len E_s_api_Ins) ?_|refine zFld rfl O_Block_Code ?_)
          exact WP.ret ⟨.inr rfl,_,rfl,by rw [hbad];rfl,f12.trans fr5⟩
        have hok:Flo.insOk mi regs b.code.length k i=true:=by
          have:decide (k+1 < b.code.length)=false:=decide_eq_false (by have:=of_decide_eq_false c3;omega)
          unfold Flo.insOk;rw [c1,c2,this];rfl
        cases d1:i.op==12
        · cases d2:i.op==13
          · have et:∀ t,Flo.toN t i=t:=fun t=>by unfold Flo.toN;rw [d1,d2];rfl
            rw [et] at fin
            (repeat first|refine zOn rfl rfl ?_|refine zNot rfl ?_|refine zFld rfl O_Ins_Op ?_|refine wB E_uint8 ?_)
            refine WL.call rfl rfl is_flow_ends (ends_c hO i.op) ?_
            (repeat first|apply zSeq|apply zReg|apply zBlk|apply zSkp|refine wN ?_|refine zOn rfl rfl ?_|refine wO ?_|refine wM ?_|refine zPF rfl rfl rfl ?_|refine wP ?_|refine wL ?_|refine zEql rfl rfl ?_|refine zAdd rfl rfl (by omega) ?_|refine wE ?_|refine zFld rfl O_Ins_Op ?_|refine wB E_uint8 ?_|refine wB E_s_api_Ins ?_|refine zLen rfl (hc.len E_s_api_Ins) ?_|refine zFld rfl O_Block_Code ?_)
            exact fin hok ⟨rfl,rfl,rfl,rfl,rfl,rfl,trivial⟩
          · have et:∀ t,Flo.toN t i=0:=fun t=>by unfold Flo.toN;rw [d1,d2];rfl
            rw [et] at fin
            (repeat first|refine zOn rfl rfl ?_|refine zNot rfl ?_|refine zFld rfl O_Ins_Op ?_|refine wB E_uint8 ?_)
            refine WL.call rfl rfl is_flow_ends (ends_c hO i.op) ?_
            (repeat first|apply zSeq|apply zReg|apply zBlk|apply zSkp|refine wN ?_|refine zOn rfl rfl ?_|refine wO ?_|refine wM ?_|refine wA ?_|refine zPF rfl rfl rfl ?_|refine wP ?_|refine wL ?_|refine zEql rfl rfl ?_|refine zAdd rfl rfl (by omega) ?_|refine wT ?_|refine wE ?_|refine zFld rfl O_Ins_Op ?_|refine wB E_uint8 ?_|refine wB E_s_api_Ins ?_|refine zLen rfl (hc.len E_s_api_Ins) ?_|refine zFld rfl O_Block_Code ?_)
            exact fin hok ⟨rfl,rfl,rfl,rfl,rfl,rfl,trivial⟩
        · have et:∀ t,Flo.toN t i=2:=fun t=>by unfold Flo.toN;rw [d1];rfl
          rw [et] at fin
          (repeat first|refine zOn rfl rfl ?_|refine zNot rfl ?_|refine zFld rfl O_Ins_Op ?_|refine wB E_uint8 ?_)
          refine WL.call rfl rfl is_flow_ends (ends_c hO i.op) ?_
          (repeat first|apply zSeq|apply zReg|apply zBlk|apply zSkp|refine wN ?_|refine zOn rfl rfl ?_|refine wO ?_|refine wM ?_|refine wA ?_|refine zPF rfl rfl rfl ?_|refine wP ?_|refine wL ?_|refine zEql rfl rfl ?_|refine zAdd rfl rfl (by omega) ?_|refine wT ?_|refine wE ?_|refine zFld rfl O_Ins_Op ?_|refine wB E_uint8 ?_|refine wB E_s_api_Ins ?_|refine zLen rfl (hc.len E_s_api_Ins) ?_|refine zFld rfl O_Block_Code ?_)
          exact fin hok ⟨rfl,rfl,rfl,rfl,rfl,rfl,trivial⟩
    · have g1:decide ((k:Int) < b.code.length)=false:=decide_eq_false (by omega)
      rw [List.take_of_length_le h]
      (repeat first|apply zSeq|apply zReg|refine zExt ?_|refine wN ?_|refine wL ?_|refine wE ?_)
      exact ⟨(),⟨hfr,Flo.codeOk_iff.2 fun j hj=>by rw [Nat.zero_add];exact hpre j hj (by omega)⟩,rfl,rfl,rfl,trivial⟩
  rintro _ H3 ⟨f3,hcode⟩
  replace b1':=b1'.fr f3
  replace b2':=b2'.fr f3
  replace hp:=hp.fr PhiR.m f3
  have f13:=f12.trans f3
  have hn3:=f3.1
  have hbo:Flo.blockOk mi regs b=((b.to.length:Int)==Flo.toOf b.code&&b.phis.all (Flo.phiOk regs b.frm.length)):=by unfold Flo.blockOk;rw [hcode];rfl
  rw [hbo]
  clear hbo hc f3 hg
  apply zSeq
  apply zReg
  refine WL.op (v:=.func (.func 72) #[] #[.pointer (some ⟨H1.next,0,none⟩)]) (H1:=H3) rfl ?_
  refine zAlc E_f122 te_f122_zero fun H4 f4 b4 n4=>?_
  refine zStB b4 rfl rfl E_f122 (by rw [te_f122_size];rfl) rfl (by simp [Value.cells]) (by simp [Value.cells]) fun H5 f5 b5 n5=>?_
  have b5':Bx H5 H3.next 98 [.func (.func 72) #[] #[.pointer (some ⟨H1.next,0,none⟩)]]:=b5
  have f35:Fr H3 H5:=f4.young f5 (by simp) (by simp)
  replace b1':=b1'.fr f35
  replace b2':=b2'.fr f35
  replace hp:=hp.fr PhiR.m f35
  have f15:=f13.trans f35
  clear f4 f5 b4 b5
  cases c1:(b.to.length:Int)==Flo.toOf b.code
  · (repeat first|apply zSeq|apply zReg|refine wN ?_|refine wG ?_|refine wF ?_|refine wR ?_|refine zEql rfl rfl ?_|refine wB E_s_int ?_|refine zFld rfl O_Block_To ?_|refine zLen rfl (ht2.len E_s_int) ?_)
    exact WP.ret ⟨.inr rfl,_,rfl,rfl,f15⟩
  · obtain ⟨H6,hc6,f6⟩:=containsFunc_phi_c (H:=H5) (f:=74) (cap:=#[.pointer (some ⟨H3.next,0,none⟩),.pointer (some ⟨H.next,0,none⟩)]) (p:=fun p=>!Flo.phiOk regs b.frm.length p) hO hp hLp (by rw [fn_flow_block_q2];rfl) (fun x hx cs Hx fx hR=>by
      obtain ⟨_,Hy,h,rfl,fy⟩:=blockQ2_c (H:=Hx) hO (b5'.fr fx) (b2'.fr fx) (b1'.fr fx) (fun Hz=>hf.len E_s_int) hR (hLa x hx)
      exact ⟨Hy,h,fy⟩)
    (repeat first|apply zSeq|apply zReg|refine wN ?_|refine wG ?_|refine wO ?_|refine zEql rfl rfl ?_|refine wB E_s_int ?_|refine zFld rfl O_Block_Phis ?_|refine zFld rfl O_Block_To ?_|refine wB E_s_api_Phi ?_|refine zLen rfl (ht2.len E_s_int) ?_)
    refine WL.op (v:=.func (.func 74) #[] #[.pointer (some ⟨H3.next,0,none⟩),.pointer (some ⟨H.next,0,none⟩)]) (H1:=H5) rfl ?_
    (repeat first|refine wO ?_)
    refine WL.call rfl rfl is_slices_ContainsFunc_s_api_Phi_api_Phi hc6 ?_
    (repeat first|refine wN ?_|refine wO ?_|refine wP ?_|refine zNot rfl ?_)
    refine WP.ret ⟨.inr rfl,_,rfl,?_,f15.trans f6⟩
    rw [any_not,Bool.not_not];rfl
end Go.Proofs.YtogomfblfpfjhaaGreatDoor.U
namespace Go.Proofs.YtogomfblfpfjhaaGreatDoor.U
open Go Go.Ev
attribute [local irreducible] WL WP WH W
attribute [local irreducible] V
variable {O:Orc}{H:AH}
abbrev FV:=Nat→Value×Option (Nat×Nat)
def wc (fv:FV) (tv:Nat→Value) (k:Nat):List Value:=[.slice none 0 0,.slice none 0 0,(fv k).1,tv k]
theorem wc_len (fv:FV) (tv:Nat→Value) (k:Nat):(wc fv tv k).length=4:=rfl
def Dj (o1 o2:Option (Nat×Nat)):Prop:=(∀ b∈obs o1,b∉obs o2)∧(∀ g∈ogs o1,g∉ogs o2)
structure WS (Hc:AH) (w n0 n:Nat) (fv:FV) (tv:Nat→Value) (F:Nat→List Int):Prop where
 bx:Bx Hc w 39 (rng n (wc fv tv))
 own:∀ k,k < n→OwI 3 Hc n0 (fv k).1 (F k) (fv k).2
 dj:∀ j k,j < n→k < n→j≠k→Dj (fv j).2 (fv k).2
 lt:w < n0
 nx:n0≤Hc.next
section
variable {Hc H':AH}{w n0 n:Nat}{fv:FV}{tv:Nat→Value}{F:Nat→List Int}
theorem WS.fr (h:WS Hc w n0 n fv tv F) (k:Fr Hc H'):WS H' w n0 n fv tv F:=⟨h.bx.fr k,fun j hj=>(h.own j hj).fr k,h.dj,h.lt,Nat.le_trans h.nx k.1⟩
theorem WS.of_eq (h:WS Hc w n0 n fv tv F) {G:Nat→List Int} (e:∀ k,k < n→F k=G k):WS Hc w n0 n fv tv G:=⟨h.bx,fun j hj=>by rw [← e j hj];exact h.own j hj,h.dj,h.lt,h.nx⟩
theorem WS.at (h:WS Hc w n0 n fv tv F) (hn:n < 4611686018427387904) {i:Nat} (hi:i < n):aIndex V.E 33 (.slice (some ⟨w,0,none⟩) n n) (.int .i64 i)=some (.pointer (some ⟨w,0+i * 4,none⟩))∧aLoad V.E Hc 27 (.pointer (some ⟨w,0+i * 4+2,none⟩))=some (fv i).1∧aLoad V.E Hc 27 (.pointer (some ⟨w,0+i * 4+3,none⟩))=some (tv i):=by
 have hl:=rng_len (wc_len fv tv) n
 have hr:Rd Hc w 0 (n * 4) (rng n (wc fv tv)):=h.bx.rd hl
 have hle:(i+1) * 4≤n * 4:=Nat.mul_le_mul_right 4 hi
 have h4:=hr.sub (i * 4) 4 (by omega)
 rw [rng_chunk (wc_len fv tv) hi] at h4
 refine ⟨?_,(h4.at1 (i:=2) rfl).load1 E_s_int rfl,(h4.at1 (i:=3) rfl).load1 E_s_int rfl⟩
 simp only [aIndex,E_s_api_Block,E_Block,te_Block_size]
 rw [if_pos ⟨by omega,by omega⟩];rfl
theorem WS.setTo (h:WS Hc w n0 n fv tv F) {i:Nat} (hi:i < n) (v:Value):∃ H1,Hc.wr w (0+i * 4+3) [v]=some H1∧WS H1 w n0 n fv (fun j=>if j=i then v else tv j) F∧FrX [w] [] Hc H1:=by
 have hl:=rng_len (wc_len fv tv) n
 have hle:(i+1) * 4≤n * 4:=Nat.mul_le_mul_right 4 hi
 obtain ⟨H1,k1,k2,k3,k4⟩:=h.bx.wr (off:=i * 4+3) (vs:=[v]) (by simp) (by rw [hl];simp;omega)
 rw [rng_splice (wc_len fv tv) hi (by simp)] at k2
 refine ⟨H1,by rw [Nat.zero_add];exact k1,⟨?_,fun j hj=>(h.own j hj).frX k3 (fun b hb=>by have:=(h.own j hj).young.1 b hb;have:=h.lt;simp;omega) (by simp),h.dj,h.lt,by rw [k4];exact h.nx⟩,k3⟩
 have e:(rng n fun j=>if j=i then splice (wc fv tv i) 3 [v] else wc fv tv j)=rng n (wc fv fun j=>if j=i then v else tv j):=rng_congr fun j _=>by
  by_cases e:j=i
  ·subst e;simp [wc,splice]
  ·simp [wc,e]
 rw [e] at k2;exact k2
theorem WS.push (h:WS Hc w n0 n fv tv F) {i:Nat} (hi:i < n) (x:Int) (hL:(F i).length≤999999):∃ v' H1 H2 o',(∀ {g:Ft}{y z:Operand},g y=some (fv i).1→g z=some (.slice (some ⟨Hc.next,0,none⟩) 1 1)→aopG V g (Hc.alloc (.row 3 [.int .i64 x] .exact 0 0)) (.call ⟨.builtin .append,#[y,z],#[27,27]⟩)=some (v',H1))∧Value.oneCell' v'=true∧v'.cells.toList=[v']∧H1.wr w (0+i * 4+2) [v']=some H2∧WS H2 w n0 n (fun j=>if j=i then (v',o') else fv j) tv (fun j=>if j=i then F i++[x] else F j)∧(∀ Hb,Fr Hb Hc→Hb.next≤w→Fr Hb H2):=by
  obtain ⟨v',H1,o',k1,k2,k3,k4⟩:=(h.own i hi).app1 (V:=V) x hL h.nx E_s_int E_s_int E_int (by decide)
  have hl:=rng_len (wc_len fv tv) n
  have hle:(i+1) * 4≤n * 4:=Nat.mul_le_mul_right 4 hi
  have hw:=h.lt
  have b1:=h.bx.frX k3 (fun hb=>by have:=(h.own i hi).young.1 w hb;omega)
  obtain ⟨H2,m1,m2,m3,m4⟩:=b1.wr (off:=i * 4+2) (vs:=[v']) (by simp) (by rw [hl];simp;omega)
  rw [rng_splice (wc_len fv tv) hi (by simp)] at m2
  have ho':=k2.young
  have e:(rng n fun j=>if j=i then splice (wc fv tv i) 2 [v'] else wc fv tv j)=rng n (wc (fun j=>if j=i then (v',o') else fv j) tv):=rng_congr fun j _=>by
    by_cases e:j=i
    · subst e;simp [wc,splice]
    · simp [wc,e]
  rw [e] at m2
  have hv1:Value.oneCell' v'=true∧v'.cells.toList=[v']:=by
    have hr:IntsR .no H1 v' (F i++[x]):=k2.rYoung .no
    obtain ⟨_,⟨rfl,_⟩|⟨b,off,cap,rfl,_⟩⟩:=hr <;> exact ⟨rfl,rfl⟩
  refine ⟨v',H1,H2,o',k1,hv1.1,hv1.2,by rw [Nat.zero_add];exact m1,⟨m2,fun j hj=>?_,fun j k hj hk hjk=>?_,hw,by rw [m4];exact Nat.le_trans h.nx k3.1⟩,fun Hb fb hbw=>?_⟩
  · by_cases e:j=i
    · subst e
      simp only [if_true]
      exact k2.frX m3 (fun b hb=>by have:=ho'.1 b hb;simp;omega) (by simp)
    · simp only [if_neg e]
      have d:=h.dj j i hj hi e
      exact ((h.own j hj).frX k3 d.1 d.2).frX m3 (fun b hb=>by have:=(h.own j hj).young.1 b hb;simp;omega) (by simp)
  · have grow:∀ j,j < n→j≠i→Dj (fv j).2 o':=fun j hj e=>by
      have d:=h.dj j i hj hi e
      have y:=(h.own j hj).young
      exact ⟨fun b hb hb'=>(k4.1 b hb').elim (fun h'=>d.1 b hb h') (fun h'=>by have:=y.2.2.1 b hb;omega),fun g hg hg'=>(k4.2 g hg').elim (fun h'=>d.2 g hg h') (fun h'=>by have:=y.2.2.2 g hg;omega)⟩
    by_cases ej:j=i
    · subst ej
      simp only [if_true,if_neg (Ne.symm hjk)]
      have d:=grow k hk (Ne.symm hjk)
      exact ⟨fun b h1 h2=>d.1 b h2 h1,fun b h1 h2=>d.2 b h2 h1⟩
    · by_cases ek:k=i
      · subst ek
        simp only [if_true,if_neg ej]
        exact grow j hj ej
      · simp only [if_neg ej,if_neg ek]
        exact h.dj j k hj hk hjk
  · have y:=(h.own i hi).young
    exact (fb.young k3 (fun b hb=>by have:=y.1 b hb;omega) (fun b hb=>by have:=y.2.1 b hb;omega)).young m3 (by simp;omega) (by simp)
end
def FS (l:List Block) (k j:Nat) (to:List Int) (t:Nat):List Int:=Flo.fromOf l k t++if (to.take j).contains (t:Int)=true then [(k:Int)] else []
theorem fromOf_succ {l:List Block}{k:Nat} (h:k < l.length) (t:Int):Flo.fromOf l (k+1) t=Flo.fromOf l k t++if l[k].to.contains t=true then [(k:Int)] else []:=by
 unfold Flo.fromOf
 rw [List.range_succ,List.filter_append,List.map_append]
 congr 1
 rw [List.filter_cons,List.filter_nil,List.getElem?_eq_getElem h]
 simp only
 split <;> rfl
theorem FS_zero {l:List Block}{k:Nat}{to:List Int} (t:Nat):FS l k 0 to t=Flo.fromOf l k t:=by unfold FS;simp
theorem FS_all {l:List Block}{k:Nat} (h:k < l.length) (t:Nat):FS l k l[k].to.length l[k].to t=Flo.fromOf l (k+1) t:=by unfold FS;rw [List.take_length,fromOf_succ h]
theorem fromOf_lt {l:List Block}{k:Nat}{t x:Int} (h:x∈Flo.fromOf l k t):0≤x∧x < k:=by
 unfold Flo.fromOf at h
 obtain ⟨y,hy,rfl⟩:=List.mem_map.1 h
 have:=List.mem_range.1 (List.mem_filter.1 hy).1
 omega
theorem fromOf_length (l:List Block) (k:Nat) (t:Int):(Flo.fromOf l k t).length≤k:=by
 unfold Flo.fromOf
 rw [List.length_map]
 exact Nat.le_trans (List.length_filter_le _ _) (by simp)
theorem FS_length (l:List Block) (k j:Nat) (to:List Int) (t:Nat):(FS l k j to t).length≤k+1:=by
 unfold FS
 have:=fromOf_length l k t
 rw [List.length_append]
 split <;> simp <;> omega
end Go.Proofs.YtogomfblfpfjhaaGreatDoor.U
namespace Go.Proofs.YtogomfblfpfjhaaGreatDoor.U
open Go Go.Ev
attribute [local irreducible] WL WP WH W
attribute [local irreducible] V
variable {O:Orc}{H:AH}
theorem take_contains {l:List Int}{j:Nat} (h:j < l.length) (x:Int):(l.take (j+1)).contains x=((l.take j).contains x||(x==l[j])):=by
 rw [List.take_add_one,List.getElem?_eq_getElem h,Option.toList_some,List.contains_append]
 have:[l[j]].contains x=(x==l[j]):=by
  by_cases e:x=l[j] <;> simp [e]
 rw [this]
theorem FS_succ {l:List Block}{k j:Nat}{to:List Int} (h:j < to.length) {tn:Nat} (ht:to[j]=tn) (t:Nat) :
  FS l k (j+1) to t=if t=tn then (if (to.take j).contains (tn:Int)=true then FS l k j to tn else FS l k j to tn++[(k:Int)]) else FS l k j to t:=by
 unfold FS
 rw [take_contains h,ht]
 by_cases e:t=tn
 ·subst e
  rw [if_pos rfl,beq_self_eq_true,Bool.or_true,if_pos rfl]
  split
  ·rfl
  ·simp
 ·have:((t:Int)==(tn:Int))=false:=by rw [beq_eq_false_iff_ne];omega
  rw [if_neg e,this,Bool.or_false]
set_option maxHeartbeats 2000000 in
theorem from_c (hO:NoO O) {Hb:AH}{A:Av}{w n0:Nat}{l:List Block}{fv:FV}{tv:Nat→Value} (hws:WS H w n0 l.length fv tv fun _=>[]) (htv0:∀ k (h:k < l.length),IntsR A Hb (tv k) l[k].to) (hb:Fr Hb H) (hbw:Hb.next≤w) (hin:∀ b∈l,∀ t∈b.to,0≤t∧t < l.length) (hL:l.length≤100000) (hLt:∀ b∈l,b.to.length≤1000000) :
  ∃ u H',Lc V O F_flow_from [.slice (some ⟨w,0,none⟩) l.length l.length] H u H'∧(∃ fv',WS H' w n0 l.length fv' tv (fun t=>Flo.fromOf l l.length t)∧Fr Hb H'):=by
 refine Lc.flow_from (R:=fun _ H'=>∃ fv',WS H' w n0 l.length fv' tv (fun t=>Flo.fromOf l l.length t)∧Fr Hb H') (hO _ _ _ (by decide)) (Nat.le_of_ble_eq_true rfl) (by kernel_rfl) ?_
 unfold P_flow_from
 have hwl:∀ Hz,aLen V.E Hz 33 (.slice (some ⟨w,0,none⟩) l.length l.length)=some (.int .i64 l.length):=fun Hz=>by simp only [aLen,E_s_api_Block]
 (repeat first|apply zSeq|apply zReg|apply zBlk|refine wN ?_|refine wG ?_|refine wM ?_|refine zLen rfl (hwl _) ?_)
 refine WP.loopH (σ:=Nat×FV) (fun x=>[(0,.slice (some ⟨w,0,none⟩) l.length l.length),(7,.int .i64 l.length),(8,.int .i64 x.1)]) (fun x Hc=>WS Hc w n0 l.length x.2 tv (fun t=>Flo.fromOf l x.1 t)∧Fr Hb Hc∧x.1≤l.length) (fun x=>l.length - x.1) (0,fv) ⟨hws.of_eq fun k _=>rfl,hb,Nat.zero_le _⟩ ⟨rfl,rfl,rfl,trivial⟩ ?_
 rintro ⟨k,fv⟩ Hc ⟨hw,hfr,hk⟩
 simp only at hw hfr hk ⊢
 rcases Nat.lt_or_ge k l.length with h|h
 case inr=>
  have g1:decide ((k:Int) < l.length)=false:=decide_eq_false (by omega)
  obtain rfl:k=l.length:=by omega
  (repeat first|apply zSeq|apply zReg|refine zExt ?_|refine wN ?_|refine wL ?_|refine wE ?_)
  exact ⟨.inl rfl,_,rfl,fv,hw,hfr⟩
 have g1:decide ((k:Int) < l.length)=true:=decide_eq_true (by omega)
 have htv:=(htv0 k h).fr hfr
 obtain ⟨hat,hxx,hlt⟩:=hw.at (by omega) h
 have hto:=hin l[k] (List.getElem_mem _)
 have hLk:=hLt l[k] (List.getElem_mem _)
 have hall:=fun t=>FS_all h t
 generalize hle:l[k].to=to at *
 (repeat first|apply zSeq|apply zReg|apply zBlk|apply zSkp|refine wN ?_|refine wG ?_|refine wM ?_|refine wL ?_|refine wT ?_|refine zFld rfl O_Block_To ?_|refine zLd rfl hlt ?_|refine zLen rfl (htv.len E_s_int) ?_|refine zIdx rfl rfl hat ?_)
 refine WP.loopH (σ:=Nat×FV) (fun x=>[(0,.slice (some ⟨w,0,none⟩) l.length l.length),(2,.int .i64 k),(7,.int .i64 l.length),(8,.int .i64 k),(15,tv k),(16,.int .i64 to.length),(17,.int .i64 x.1)]) (fun x Hc=>WS Hc w n0 l.length x.2 tv (FS l k x.1 to)∧Fr Hb Hc∧x.1≤to.length) (fun x=>to.length - x.1) (0,fv) ⟨hw.of_eq fun t _=>(FS_zero t).symm,hfr,Nat.zero_le _⟩ ⟨rfl,rfl,rfl,rfl,rfl,rfl,rfl,trivial⟩ ?_
 clear hw hfr htv hat hlt hxx fv Hc
 rintro ⟨j,fv⟩ Hc ⟨hw,hfr,hj⟩
 simp only at hw hfr hj ⊢
 rcases Nat.lt_or_ge j to.length with h2|h2
 case inr=>
  have g2:decide ((j:Int) < to.length)=false:=decide_eq_false (by omega)
  obtain rfl:j=to.length:=by omega
  (repeat first|apply zSeq|apply zReg|refine zExt ?_|refine wN ?_|refine wL ?_|refine zAdd rfl rfl (by omega) ?_|refine wE ?_)
  exact ⟨(k+1,fv),⟨hw.of_eq fun t _=>hall t,hfr,h⟩,by simp only;omega,rfl,rfl,rfl,trivial⟩
 have g2:decide ((j:Int) < to.length)=true:=decide_eq_true (by omega)
 have htv:IntsR A Hc (tv k) to:=by have:=(htv0 k h).fr hfr;rw [hle] at this;exact this
 obtain ⟨bi,oi,hai,hli⟩:=htv.at E_s_int E_int (kd:=.i64) h2
 obtain ⟨h01,h02⟩:=hto to[j] (List.getElem_mem _)
 obtain ⟨tn,htn⟩:∃ tn:Nat,to[j]=tn:=⟨to[j].toNat,by omega⟩
 have htl:tn < l.length:=by omega
 have hsucc:=fun t=>FS_succ (l:=l) (k:=k) h2 htn t
 rw [htn] at hli
 obtain ⟨haf,hlf,_⟩:=hw.at (by omega) htl
 have hfv:IntsR .no Hc (fv tn).1 (FS l k j to tn):=(hw.own tn htl).rYoung .no
 have hFL:=FS_length l k j to tn
 obtain ⟨v',H1,H2,o',k1,k2,k3,k4,k5,k6⟩:=hw.push htl (k:Int) (by omega)
 have fr2:=k6 Hb hfr hbw
 cases c0:(to.take j).contains (tn:Int)
 case true=>
  have hF:FS l k j to tn=Flo.fromOf l k tn++[(k:Int)]:=by unfold FS;rw [c0];rfl
  have hne:FS l k j to tn≠[]:=by rw [hF];simp
  have hpos:0 < (FS l k j to tn).length:=List.length_pos_iff.2 hne
  obtain ⟨bl,ol,hal,hll⟩:=hfv.at E_s_int E_int (kd:=.i64) (i:=(FS l k j to tn).length - 1) (by omega)
  have e1:(FS l k j to tn)[(FS l k j to tn).length - 1]'(by omega)=(k:Int):=by
   have:=List.getLast_eq_getElem hne
   rw [← this];simp [hF]
  rw [e1] at hll
  rw [show (((FS l k j to tn).length - 1:Nat):Int)=((FS l k j to tn).length:Int) - 1 by omega] at hal
  have c1:(((FS l k j to tn).length:Int)==0)=false:=by rw [beq_eq_false_iff_ne];omega
  have c2:((k:Int) != k)=false:=by simp
  (repeat first|apply zSeq|apply zReg|apply zBlk|apply zSkp|refine wN ?_|refine wG ?_|refine wO ?_|refine wM ?_|refine wR ?_|refine wL ?_|refine zEql rfl rfl ?_|refine zNeq rfl rfl ?_|refine zAdd rfl rfl (by omega) ?_|refine zSub rfl rfl (by omega) ?_|refine wT ?_|refine wE ?_|refine zFld rfl O_Block_From ?_|refine zLd rfl hlf ?_|refine zLd rfl hli ?_|refine zLd rfl hll ?_|refine zLen rfl (hfv.len E_s_int) ?_|refine zIdx rfl rfl haf ?_|refine zIdx rfl rfl hai ?_|refine zIdx rfl rfl hal ?_)
  refine ⟨(j+1,fv),⟨hw.of_eq fun t _=>?_,hfr,h2⟩,by simp only;omega,rfl,rfl,rfl,rfl,rfl,rfl,rfl,trivial⟩
  rw [hsucc t]
  by_cases e:t=tn
  ·rw [if_pos e,if_pos c0,e]
  ·rw [if_neg e]
 have hF:FS l k j to tn=Flo.fromOf l k tn:=by unfold FS;rw [c0];simp
 have hws':WS H2 w n0 l.length (fun j=>if j=tn then (v',o') else fv j) tv (FS l k (j+1) to):=k5.of_eq fun t _=>by
  rw [hsucc t]
  by_cases e:t=tn
  ·rw [if_pos e,if_pos e,if_neg (by rw [c0];decide)]
  ·rw [if_neg e,if_neg e]
 have hsz:v'.cells.size=1:=by have:=congrArg List.length k3;simpa using this
 cases c1:((FS l k j to tn).length:Int)==0
 ·have hpos:0 < (FS l k j to tn).length:=by have:=beq_eq_false_iff_ne.1 c1;omega
  have hne:FS l k j to tn≠[]:=List.length_pos_iff.1 hpos
  obtain ⟨bl,ol,hal,hll⟩:=hfv.at E_s_int E_int (kd:=.i64) (i:=(FS l k j to tn).length - 1) (by omega)
  have hmem:(FS l k j to tn)[(FS l k j to tn).length - 1]'(by omega)∈Flo.fromOf l k tn:=by rw [← hF];exact List.getElem_mem _
  have hlt:=fromOf_lt hmem
  rw [show (((FS l k j to tn).length - 1:Nat):Int)=((FS l k j to tn).length:Int) - 1 by omega] at hal
  have c2:((FS l k j to tn)[(FS l k j to tn).length - 1]'(by omega) != (k:Int))=true:=by rw [bne_iff_ne];omega
  (repeat first|apply zSeq|apply zReg|apply zBlk|apply zSkp|refine wN ?_|refine wG ?_|refine wO ?_|refine wM ?_|refine wR ?_|refine wL ?_|refine zEql rfl rfl ?_|refine zNeq rfl rfl ?_|refine zSub rfl rfl (by omega) ?_|refine wT ?_|refine zFld rfl O_Block_From ?_|refine zLd rfl hlf ?_|refine zLd rfl hli ?_|refine zLd rfl hll ?_|refine zLen rfl (hfv.len E_s_int) ?_|refine zIdx rfl rfl haf ?_|refine zIdx rfl rfl hai ?_|refine zIdx rfl rfl hal ?_)
  refine WL.op (op_buildSlice rfl E_s_int E_int (by decide) fill_int) ?_
  refine WL.op (k1 rfl rfl) ?_
  (repeat first|refine zFld rfl O_Block_From ?_|refine zIdx rfl rfl haf ?_)
  refine WL.op (op_store rfl rfl E_s_int hsz (by rw [k3];simp [k2]) (by rw [k3];exact k4)) ?_
  (repeat first|apply zReg|refine wN ?_|refine zAdd rfl rfl (by omega) ?_)
  exact ⟨(j+1,_),⟨hws',fr2,h2⟩,by simp only;omega,rfl,rfl,rfl,rfl,rfl,rfl,rfl,trivial⟩
 ·(repeat first|apply zSeq|apply zReg|apply zBlk|apply zSkp|refine wN ?_|refine wG ?_|refine wF ?_|refine wP ?_|refine wL ?_|refine zEql rfl rfl ?_|refine zT rfl rfl ?_|refine wT ?_|refine zFld rfl O_Block_From ?_|refine zLd rfl hlf ?_|refine zLd rfl hli ?_|refine zLen rfl (hfv.len E_s_int) ?_|refine zIdx rfl rfl haf ?_|refine zIdx rfl rfl hai ?_)
  refine WL.op (op_buildSlice rfl E_s_int E_int (by decide) fill_int) ?_
  refine WL.op (k1 rfl rfl) ?_
  (repeat first|refine zFld rfl O_Block_From ?_|refine zIdx rfl rfl haf ?_)
  refine WL.op (op_store rfl rfl E_s_int hsz (by rw [k3];simp [k2]) (by rw [k3];exact k4)) ?_
  (repeat first|apply zReg|refine wN ?_|refine zAdd rfl rfl (by omega) ?_)
  exact ⟨(j+1,_),⟨hws',fr2,h2⟩,by simp only;omega,rfl,rfl,rfl,rfl,rfl,rfl,rfl,trivial⟩
end Go.Proofs.YtogomfblfpfjhaaGreatDoor.U
namespace Go.Proofs.YtogomfblfpfjhaaGreatDoor.U
open Go Go.Ev
attribute [local irreducible] WL WP WH W
theorem zero34:te_Block.zv.cells.toList=List.replicate 4 (.slice none 0 0):=by kernel_rfl
attribute [local irreducible] V
variable {O:Orc}{H:AH}
theorem els_cols {A:Av}{v:Value}{l:List Block} (h:Els 4 BlockR A H v l):∃ (ck:Nat→List Value) (fvs tvs:Nat→Value),(∀ k (hk:k < l.length) Hc,Fr H Hc→∃ b off,aIndex V.E 33 v (.int .i64 k)=some (.pointer (some ⟨b,off,none⟩))∧Rd Hc b off 4 (ck k)) ∧
  ∀ k (hk:k < l.length),(∃ vp vc,ck k=[vp,vc,fvs k,tvs k]∧Els 2 PhiR A H vp l[k].phis∧Els 6 InsR A H vc l[k].code)∧IntsR A H (fvs k) l[k].frm∧IntsR A H (tvs k) l[k].to:=by
 obtain ⟨CS,h1,h2⟩:=h
 refine ⟨fun k=>(CS.drop (k * 4)).take 4,fun k=>((CS.drop (k * 4)).take 4).getD 2 (.slice none 0 0),fun k=>((CS.drop (k * 4)).take 4).getD 3 (.slice none 0 0),fun k hk Hc hf=>(h1.fr hf).at E_s_api_Block E_Block te_Block_size (by omega) (by omega),fun k hk=>?_⟩
 obtain ⟨vp,vc,vf,vt,e,k1,k2,k3,k4⟩:=h2 k hk
 refine ⟨⟨vp,vc,?_,k1,k2⟩,?_,?_⟩
 ·show (CS.drop (k * 4)).take 4=[vp,vc,((CS.drop (k * 4)).take 4).getD 2 _,((CS.drop (k * 4)).take 4).getD 3 _]
  rw [e];rfl
 ·show IntsR A H (((CS.drop (k * 4)).take 4).getD 2 _) _
  rw [e];exact k3
 ·show IntsR A H (((CS.drop (k * 4)).take 4).getD 3 _) _
  rw [e];exact k4
set_option maxHeartbeats 4000000 in
theorem froms_c (hO:NoO O) {A:Av}{l:List Block}{vl:Value} (hvl:Els 4 BlockR A H vl l) (h0:0 < l.length) (hL:l.length≤100000) (hLt:∀ b∈l,b.to.length≤1000000) (hLf:∀ b∈l,b.frm.length≤1000000) :
    ∃ u H',Lc V O F_flow_froms [vl] H u H'∧(u=.bool (Flo.froms l)∧Fr H H'):=by
  refine Lc.flow_froms (R:=fun u H'=>u=.bool (Flo.froms l)∧Fr H H') (hO _ _ _ (by decide)) (Nat.le_of_ble_eq_true rfl) (by kernel_rfl) ?_
  unfold P_flow_froms
  obtain ⟨ck,fvs,tvs,hat0,hcol⟩:=els_cols hvl
  (repeat first|apply zSeq|apply zReg|refine wN ?_|refine wG ?_|refine wA ?_|refine zLen rfl (hvl.len E_s_api_Block) ?_)
  refine zMkS (n:=l.length) (m:=l.length) rfl rfl E_s_api_Block E_Block (Nat.le_refl _) (by rw [te_Block_bytes];omega) (by omega) rfl fun H1 f1 b1 n1=>?_
  have hws:WS H1 H.next H1.next l.length (fun _=>(.slice none 0 0,none)) (fun _=>.slice none 0 0) (fun _=>[]):=by
    refine ⟨?_,fun k _=>.nil,fun j k _ _ _=>⟨by simp [obs],by simp [ogs]⟩,by omega,Nat.le_refl _⟩
    rw [zero34,azeros_rep (by decide)] at b1
    have e:rng l.length (wc (fun _=>(.slice none 0 0,none)) fun _=>.slice none 0 0)=List.replicate (l.length * 4) (.slice none 0 0):=rng_rep 4 _ _
    rw [e];exact b1
  clear b1
  (repeat first|refine wN ?_)
  refine WP.seqS (σ:=Unit) (fun _=>[(0,vl),(3,.slice (some ⟨H.next,0,none⟩) l.length l.length)]) (fun _ Hc=>WS Hc H.next H1.next l.length (fun _=>(.slice none 0 0,none)) (fun j=>if j < l.length then tvs j else .slice none 0 0) (fun _=>[])∧Fr H Hc∧∀ b∈l,b.to.all (Flo.within l.length)=true) ?_ ?_
  · (repeat first|apply zSeq|apply zReg|apply zBlk|refine wN ?_|refine wG ?_|refine wM ?_|refine zLen rfl (hvl.len E_s_api_Block) ?_)
    refine WP.loopH (σ:=Nat) (fun k=>[(0,vl),(3,.slice (some ⟨H.next,0,none⟩) l.length l.length),(13,vl),(14,.int .i64 l.length),(15,.int .i64 k)]) (fun k Hc=>WS Hc H.next H1.next l.length (fun _=>(.slice none 0 0,none)) (fun j=>if j < k then tvs j else .slice none 0 0) (fun _=>[])∧Fr H Hc∧k≤l.length∧∀ j (h:j < l.length),j < k→l[j].to.all (Flo.within l.length)=true) (fun k=>l.length - k) 0 ⟨hws,f1,Nat.zero_le _,fun j _ h=>absurd h (by omega)⟩ ⟨rfl,rfl,rfl,rfl,rfl,trivial⟩ ?_
    rintro k Hc ⟨hw,hfr,hk,hpre⟩
    rcases Nat.lt_or_ge k l.length with h|h
    case inr =>
      have g1:decide ((k:Int) < l.length)=false:=decide_eq_false (by omega)
      obtain rfl:k=l.length:=by omega
      (repeat first|apply zSeq|apply zReg|refine zExt ?_|refine wN ?_|refine wL ?_|refine wE ?_)
      exact ⟨(),⟨hw,hfr,fun b hb=>by obtain ⟨j,hj,rfl⟩:=List.mem_iff_getElem.1 hb;exact hpre j hj hj⟩,rfl,rfl,trivial⟩
    have g1:decide ((k:Int) < l.length)=true:=decide_eq_true (by omega)
    obtain ⟨bb,off,ha1,hrd⟩:=hat0 k h Hc hfr
    have hl1:=hrd.loadN (V:=V) E_Block te_Block_agg te_Block_size
    obtain ⟨⟨vp,vc,eck,_,_⟩,hfk,htk⟩:=hcol k h
    have hLk:=hLt l[k] (List.getElem_mem _)
    rw [eck] at hl1
    have hone:([vp,vc,fvs k,tvs k].all Value.oneCell')=true:=by
      rename_i hP hC
      simp [hP.oneCell,hC.oneCell,hfk.oneCell,htk.oneCell]
    have hfr0:=hfr
    have hbad:l[k].to.all (Flo.within l.length)=false→Flo.froms l=false:=fun hb=>by
      have:l.all (fun b=>b.to.all (Flo.within l.length))=false:=by
        rw [List.all_eq_false]
        exact ⟨_,List.getElem_mem h,by rw [hb];simp⟩
      unfold Flo.froms;rw [this];rfl
    (repeat first|apply zSeq|apply zReg|apply zBlk|apply zSkp|refine wN ?_|refine wG ?_|refine wL ?_|refine wT ?_|refine zIdx rfl rfl ha1 ?_|refine zLd rfl hl1 ?_)
    refine zAlc E_Block zero34 fun H3 f3 b3 n3=>?_
    refine zStB b3 rfl rfl E_Block (by rw [te_Block_size];rfl) hone (by simp [Value.cells]) (by simp [Value.cells]) fun H4 f4 b4 n4=>?_
    have b4':Bx H4 Hc.next 39 [vp,vc,fvs k,tvs k]:=b4
    have f34:Fr Hc H4:=f3.young f4 (by simp) (by simp)
    replace hw:=hw.fr f34
    have fr4:=hfr.trans f34
    have htv:=htk.fr fr4
    clear b3 b4 f3 f4
    obtain ⟨hat,_,_⟩:=hw.at (by omega) h
    generalize hto:l[k].to=to at *
    (repeat first|apply zSeq|apply zReg|apply zBlk|refine wN ?_|refine wM ?_|refine wB E_s_int ?_|refine zFld rfl O_Block_To ?_|refine zLen rfl (htv.len E_s_int) ?_)
    refine WP.loopH (σ:=Nat) (fun j=>[(0,vl),(3,.slice (some ⟨H.next,0,none⟩) l.length l.length),(4,.int .i64 k),(5,.pointer (some ⟨Hc.next,0,none⟩)),(13,vl),(14,.int .i64 l.length),(15,.int .i64 k),(21,tvs k),(22,.int .i64 to.length),(23,.int .i64 j)]) (fun j Hy=>Hy=H4∧j≤to.length∧∀ i (h:i < to.length),i < j→Flo.within l.length to[i]=true) (fun j=>to.length - j) 0 ⟨rfl,Nat.zero_le _,fun i _ h=>absurd h (by omega)⟩ ⟨rfl,rfl,rfl,rfl,rfl,rfl,rfl,rfl,rfl,rfl,trivial⟩ ?_
    rintro j Hy ⟨hy,hj,hpj⟩
    replace hy:=hy.symm
    subst hy
    rcases Nat.lt_or_ge j to.length with h2|h2
    · have g2:decide ((j:Int) < to.length)=true:=decide_eq_true (by omega)
      obtain ⟨bi,oi,hai,hli⟩:=IntsR.at htv E_s_int E_int (kd:=.i64) h2
      have bad:Flo.within l.length to[j]=false→Flo.froms l=false:=fun hb=>hbad (by
        rw [List.all_eq_false]
        exact ⟨_,List.getElem_mem h2,by rw [hb];simp⟩)
      cases c1:decide (to[j] < 0)
      · cases c2:decide (to[j]≥(l.length:Int))
        · have hw1:Flo.within l.length to[j]=true:=by unfold Flo.within;rw [c1,c2];rfl
          (repeat first|apply zSeq|apply zReg|apply zBlk|apply zSkp|refine wN ?_|refine wG ?_|refine wO ?_|refine wM ?_|refine wR ?_|refine wL ?_|refine zGeq rfl rfl ?_|refine zAdd rfl rfl (by omega) ?_|refine wT ?_|refine wE ?_|refine zLd rfl hli ?_|refine zIdx rfl rfl hai ?_|refine zLen rfl (hvl.len E_s_api_Block) ?_)
          refine ⟨j+1,⟨rfl,h2,fun i hi hij=>?_⟩,by omega,rfl,rfl,rfl,rfl,rfl,rfl,rfl,rfl,rfl,rfl,trivial⟩
          by_cases e:i=j
          · subst e;exact hw1
          · exact hpj i hi (by omega)
        · have hw1:Flo.within l.length to[j]=false:=by unfold Flo.within;rw [c1,c2];rfl
          (repeat first|apply zSeq|apply zReg|apply zBlk|apply zSkp|refine wN ?_|refine wG ?_|refine wO ?_|refine wM ?_|refine wA ?_|refine wR ?_|refine wL ?_|refine zGeq rfl rfl ?_|refine wT ?_|refine zLd rfl hli ?_|refine zIdx rfl rfl hai ?_|refine zLen rfl (hvl.len E_s_api_Block) ?_)
          exact WP.ret ⟨.inr rfl,_,rfl,by rw [bad hw1];rfl,fr4⟩
      · have hw1:Flo.within l.length to[j]=false:=by unfold Flo.within;rw [c1];rfl
        (repeat first|apply zSeq|apply zReg|apply zBlk|apply zSkp|refine wN ?_|refine wG ?_|refine wF ?_|refine wA ?_|refine wP ?_|refine wL ?_|refine zT rfl rfl ?_|refine wT ?_|refine zLd rfl hli ?_|refine zIdx rfl rfl hai ?_)
        exact WP.ret ⟨.inr rfl,_,rfl,by rw [bad hw1];rfl,fr4⟩
    · have g2:decide ((j:Int) < to.length)=false:=decide_eq_false (by omega)
      have hall:to.all (Flo.within l.length)=true:=by
        rw [List.all_eq_true]
        intro x hx
        obtain ⟨i,hi,rfl⟩:=List.mem_iff_getElem.1 hx
        exact hpj i hi (by omega)
      obtain ⟨H5,q1,q2,q3⟩:=hw.setTo h (tvs k)
      have hvc:(tvs k).cells.toList=[tvs k]:=by obtain ⟨_,⟨e,_⟩|⟨b,off,cap,e,_⟩⟩:=htv <;> rw [e] <;> rfl
      have hsz:(tvs k).cells.size=1:=by have:=congrArg List.length hvc;simpa using this
      (repeat first|apply zSeq|apply zReg|refine zExt ?_|refine wN ?_|refine wG ?_|refine wL ?_|refine wE ?_|refine wB E_s_int ?_|refine zFld rfl O_Block_To ?_|refine zIdx rfl rfl hat ?_)
      refine WL.op (op_store rfl rfl E_s_int hsz (by rw [hvc];simp [htv.oneCell]) (by rw [hvc];exact q1)) ?_
      (repeat first|apply zReg|refine wN ?_|refine zAdd rfl rfl (by omega) ?_)
      refine ⟨k+1,⟨?_,fr4.young q3 (by simp) (by simp),h,fun i hi hik=>?_⟩,by omega,rfl,rfl,rfl,rfl,rfl,trivial⟩
      · have e:(fun j=>if j < k+1 then tvs j else .slice none 0 0)=fun j=>if j=k then tvs k else if j < k then tvs j else .slice none 0 0:=by
          funext j
          by_cases e:j=k
          · subst e;simp
          · by_cases e2:j < k
            · rw [if_pos (by omega),if_neg e,if_pos e2]
            · rw [if_neg (by omega),if_neg e,if_neg e2]
        rw [e];exact q2
      · by_cases e:i=k
        · subst e;rw [hto];exact hall
        · exact hpre i hi (by omega)
  rintro _ H2 ⟨hw,hfr,hin⟩
  have hin':∀ b∈l,∀ t∈b.to,0≤t∧t < l.length:=fun b hb t ht=>by
    have:=List.all_eq_true.1 (hin b hb) t ht
    unfold Flo.within at this
    simp only [Bool.not_eq_true',Bool.or_eq_false_iff,decide_eq_false_iff_not] at this
    omega
  have hfm:Flo.froms l=((List.range l.length).all (fun n=>match l[n]? with|some b=>b.frm==Flo.fromOf l l.length n|none=>false)&&(match l[0]? with|some b=>b.frm.isEmpty|none=>false)):=by
    have:l.all (fun b=>b.to.all (Flo.within l.length))=true:=List.all_eq_true.2 hin
    unfold Flo.froms;rw [this];rfl
  obtain ⟨_,H3,hc3,fv',hw3,hfr3⟩:=from_c (Hb:=H) (A:=A) hO hw (fun k h=>by rw [if_pos h];exact (hcol k h).2.2) hfr (Nat.le_refl _) hin' hL hLt
  clear hw hfr hin hws
  (repeat first|apply zSeq|apply zReg|refine wG ?_)
  refine WL.call rfl rfl is_flow_from hc3 ?_
  (repeat first|apply zSeq|apply zReg|apply zBlk|refine wN ?_|refine wG ?_|refine wM ?_|refine zLen rfl (hvl.len E_s_api_Block) ?_)
  refine WP.loopH (σ:=Nat) (fun k=>[(0,vl),(3,.slice (some ⟨H.next,0,none⟩) l.length l.length),(45,vl),(46,.int .i64 l.length),(47,.int .i64 k)]) (fun k Hc=>WS Hc H.next H1.next l.length fv' (fun j=>if j < l.length then tvs j else .slice none 0 0) (fun t=>Flo.fromOf l l.length t)∧Fr H Hc∧k≤l.length∧∀ j (h:j < l.length),j < k→(l[j].frm==Flo.fromOf l l.length j)=true) (fun k=>l.length - k) 0 ⟨hw3,hfr3,Nat.zero_le _,fun j _ h=>absurd h (by omega)⟩ ⟨rfl,rfl,rfl,rfl,rfl,trivial⟩ ?_
  clear hw3 hfr3 hc3
  rintro k Hc ⟨hw,hfr,hk,hpre⟩
  rcases Nat.lt_or_ge k l.length with h|h
  case inr =>
    have g1:decide ((k:Int) < l.length)=false:=decide_eq_false (by omega)
    obtain rfl:k=l.length:=by omega
    obtain ⟨bb,off,ha1,hrd⟩:=hat0 0 h0 Hc hfr
    obtain ⟨⟨vp,vc,eck,_,_⟩,hfk,htk⟩:=hcol 0 h0
    rw [eck] at hrd
    have hlt:=(hrd.at1 (i:=2) rfl).load1 (V:=V) E_s_int rfl
    have htv:=hfk.fr hfr
    have ha1:aIndex V.E 33 vl (.int .i64 0)=some (.pointer (some ⟨bb,off,none⟩)):=ha1
    (repeat first|apply zSeq|apply zReg|refine zExt ?_|refine wN ?_|refine wG ?_|refine wL ?_|refine zEql rfl rfl ?_|refine wE ?_|refine zIdx rfl rfl ha1 ?_|refine zFld rfl O_Block_From ?_|refine zLd rfl hlt ?_|refine zLen rfl (htv.len E_s_int) ?_)
    refine WP.ret ⟨.inr rfl,_,rfl,?_,hfr⟩
    have e1:(List.range l.length).all (fun n=>match l[n]? with|some b=>b.frm==Flo.fromOf l l.length n|none=>false)=true:=by
      rw [List.all_eq_true]
      intro j hj
      have hj:=List.mem_range.1 hj
      simp only [List.getElem?_eq_getElem hj]
      exact hpre j hj hj
    rw [hfm,e1,List.getElem?_eq_getElem h0]
    simp only [Bool.true_and]
    have:(l[0].frm.isEmpty)=((l[0].frm.length:Int)==0):=by
      cases l[0].frm with
      | nil=>rfl
      | cons a b=>simp;omega
    rw [this];rfl
  have g1:decide ((k:Int) < l.length)=true:=decide_eq_true (by omega)
  obtain ⟨bb,off,ha1,hrd⟩:=hat0 k h Hc hfr
  have hl1:=hrd.loadN (V:=V) E_Block te_Block_agg te_Block_size
  obtain ⟨⟨vp,vc,eck,hP,hC⟩,hfk,htk⟩:=hcol k h
  rw [eck] at hl1
  have hone:([vp,vc,fvs k,tvs k].all Value.oneCell')=true:=by simp [hP.oneCell,hC.oneCell,hfk.oneCell,htk.oneCell]
  have hbad:(l[k].frm==Flo.fromOf l l.length k)=false→Flo.froms l=false:=fun hb=>by
    have:(List.range l.length).all (fun n=>match l[n]? with|some b=>b.frm==Flo.fromOf l l.length n|none=>false)=false:=by
      rw [List.all_eq_false]
      exact ⟨k,List.mem_range.2 h,by simp only [List.getElem?_eq_getElem h,hb];decide⟩
    rw [hfm,this];rfl
  (repeat first|apply zSeq|apply zReg|apply zBlk|apply zSkp|refine wN ?_|refine wG ?_|refine wL ?_|refine wT ?_|refine zIdx rfl rfl ha1 ?_|refine zLd rfl hl1 ?_)
  refine zAlc E_Block zero34 fun H4 f4 b4 n4=>?_
  refine zStB b4 rfl rfl E_Block (by rw [te_Block_size];rfl) hone (by simp [Value.cells]) (by simp [Value.cells]) fun H5 f5 b5 n5=>?_
  have b5':Bx H5 Hc.next 39 [vp,vc,fvs k,tvs k]:=b5
  have f35:Fr Hc H5:=f4.young f5 (by simp) (by simp)
  replace hw:=hw.fr f35
  have fr5:=hfr.trans f35
  clear b4 b5 f4 f5
  obtain ⟨hat,hlt,_⟩:=hw.at (by omega) h
  have hF:IntsR .no H5 (fv' k).1 (Flo.fromOf l l.length k):=(hw.own k h).rYoung .no
  have heq:=equal_c (H:=H5) hO (hfk.fr fr5) hF (hLf l[k] (List.getElem_mem _))
  (repeat first|apply zSeq|apply zReg|refine wN ?_|refine wG ?_|refine wB E_s_int ?_|refine zFld rfl O_Block_From ?_|refine zLd rfl hlt ?_|refine zIdx rfl rfl hat ?_)
  refine WL.call rfl rfl is_slices_Equal_s_int_int heq ?_
  cases c1:l[k].frm==Flo.fromOf l l.length k
  · (repeat first|apply zSeq|apply zReg|refine wN ?_|refine wA ?_|refine zNot rfl ?_|refine zT rfl rfl ?_)
    exact WP.ret ⟨.inr rfl,_,rfl,by rw [hbad c1];rfl,fr5⟩
  · (repeat first|apply zReg|apply zSkp|refine wN ?_|refine zAdd rfl rfl (by omega) ?_|refine zNot rfl ?_|refine zF rfl rfl ?_)
    refine ⟨k+1,⟨hw,fr5,h,fun i hi hik=>?_⟩,by omega,rfl,rfl,rfl,rfl,rfl,trivial⟩
    by_cases e:i=k
    · subst e;exact c1
    · exact hpre i hi (by omega)
end Go.Proofs.YtogomfblfpfjhaaGreatDoor.U
namespace Go.Proofs.YtogomfblfpfjhaaGreatDoor.U
open Go Go.Ev
attribute [local irreducible] WL WP WH W
attribute [local irreducible] V
variable {O:Orc}{H:AH}
theorem circle_c (hO:NoO O) {A:Av}{l:List Block}{vl:Value} (hvl:Els 4 BlockR A H vl l) {k:Nat} (hk:k < l.length) (hL:l.length≤100000) (hone:∀ b∈l,b.code=[]→b.to≠[]) (hin:∀ b∈l,∀ t∈b.to,0≤t∧t < l.length) :
    Lc V O F_flow_circle [vl,.int .i64 k] H (.bool (Flo.circ l k l.length k)) H:=by
  refine Lc.of_eq (Lc.flow_circle (R:=fun u H'=>u=.bool (Flo.circ l k l.length k)∧H'=H) (hO _ _ _ (by decide)) (Nat.le_of_ble_eq_true rfl) (by kernel_rfl) ?_)
  unfold P_flow_circle
  obtain ⟨ck,fvs,tvs,hat0,hcol⟩:=els_cols hvl
  (repeat first|apply zSeq|apply zReg|apply zBlk|refine wN ?_|refine wG ?_|refine wM ?_|refine wA ?_|refine zLen rfl (hvl.len E_s_api_Block) ?_)
  refine WP.loopH (σ:=Nat×Nat) (fun x=>[(0,vl),(1,.int .i64 k),(5,.int .i64 x.2),(8,.int .i64 l.length),(9,.int .i64 x.1)]) (fun x Hy=>Hy=H∧x.1≤l.length∧x.2 < l.length∧Flo.circ l k l.length k=Flo.circ l k (l.length - x.1) x.2) (fun x=>l.length - x.1) (0,k) ⟨rfl,Nat.zero_le _,hk,rfl⟩ ⟨rfl,rfl,rfl,rfl,rfl,trivial⟩ ?_
  rintro ⟨i,at_⟩ Hy ⟨hy,hi,hat,he⟩
  replace hy:=hy.symm
  subst hy
  simp only at hi hat he ⊢
  rw [he]
  rcases Nat.lt_or_ge i l.length with h|h
  case inr =>
    have g1:decide ((i:Int) < l.length)=false:=decide_eq_false (by omega)
    (repeat first|apply zSeq|apply zReg|refine zExt ?_|refine wN ?_|refine wA ?_|refine wL ?_|refine wE ?_)
    refine WP.ret ⟨.inr rfl,_,rfl,?_,rfl⟩
    rw [show l.length - i=0 by omega];rfl
  have g1:decide ((i:Int) < l.length)=true:=decide_eq_true (by omega)
  obtain ⟨b,off,ha1,hrd⟩:=hat0 at_ hat H (.refl _)
  obtain ⟨⟨vp,vc,eck,hP,hC⟩,hfk,htv⟩:=hcol at_ hat
  rw [eck] at hrd
  have hl2:=(hrd.at1 (i:=1) rfl).load1 (V:=V) E_s_api_Ins rfl
  have hlt:=(hrd.at1 (i:=3) rfl).load1 (V:=V) E_s_int rfl
  have hsuc:Flo.circ l k (l.length - i) at_=if l[at_].code.length > 0 then false else match l[at_].to with
      | t::_=>if t=k then true else Flo.circ l k (l.length - (i+1)) t.toNat
      | []=>false:=by
    rw [show l.length - i=(l.length - (i+1))+1 by omega]
    simp only [Flo.circ,List.getElem?_eq_getElem hat]
    split
    · rfl
    · cases l[at_].to <;> rfl
  rw [hsuc]
  cases c1:decide ((l[at_].code.length:Int) > 0)
  case true =>
    (repeat first|apply zSeq|apply zReg|apply zBlk|apply zSkp|refine wN ?_|refine wG ?_|refine wL ?_|refine wT ?_|refine zIdx rfl rfl ha1 ?_|refine zLd rfl hl2 ?_|refine zFld rfl O_Block_Code ?_)
    refine zLen rfl (hC.len E_s_api_Ins) ?_
    (repeat first|apply zSeq|apply zReg|refine wN ?_|refine wA ?_|refine zGtr rfl rfl ?_|refine wT ?_)
    refine WP.ret ⟨.inr rfl,_,rfl,?_,rfl⟩
    rw [if_pos (by have:=of_decide_eq_true c1;omega)];rfl
  have hc0:l[at_].code=[]:=List.length_eq_zero_iff.1 (by have:=of_decide_eq_false c1;omega)
  have hto:=hone _ (List.getElem_mem hat) hc0
  have hin':=hin _ (List.getElem_mem hat)
  rw [if_neg (by have:=of_decide_eq_false c1;omega)]
  have hpos:0 < l[at_].to.length:=List.length_pos_iff.2 hto
  obtain ⟨bi,oi,hai,hli⟩:=IntsR.at htv E_s_int E_int (kd:=.i64) (i:=0) hpos
  obtain ⟨t,ts,hts⟩:=List.exists_cons_of_ne_nil hto
  have h0:l[at_].to[0]=t:=by simp [hts]
  have htr:=hin' t (by rw [hts];simp)
  rw [h0] at hli
  have hai:aIndex V.E 27 (tvs at_) (.int .i64 0)=some (.pointer (some ⟨bi,oi,none⟩)):=hai
  rw [hts]
  simp only
  cases c2:t==(k:Int)
  · have hne:t≠(k:Int):=beq_eq_false_iff_ne.1 c2
    (repeat first|apply zSeq|apply zReg|apply zBlk|apply zSkp|refine wN ?_|refine wG ?_|refine wL ?_|refine wT ?_|refine zIdx rfl rfl ha1 ?_|refine zLd rfl hl2 ?_|refine zFld rfl O_Block_Code ?_)
    refine zLen rfl (hC.len E_s_api_Ins) ?_
    (repeat first|apply zSeq|apply zReg|apply zSkp|refine wN ?_|refine wG ?_|refine zGtr rfl rfl ?_|refine zEql rfl rfl ?_|refine zAdd rfl rfl (by omega) ?_|refine wE ?_|refine zIdx rfl rfl ha1 ?_|refine zFld rfl O_Block_To ?_|refine zLd rfl hlt ?_|refine zLd rfl hli ?_|refine zIdx rfl rfl hai ?_)
    refine ⟨(i+1,t.toNat),⟨rfl,h,by simp only;omega,?_⟩,by simp only;omega,rfl,rfl,?_,rfl,rfl,trivial⟩
    · rw [if_neg hne]
    · have:((t.toNat:Nat):Int)=t:=by omega
      simp only [this];rfl
  · (repeat first|apply zSeq|apply zReg|apply zBlk|apply zSkp|refine wN ?_|refine wG ?_|refine wL ?_|refine wT ?_|refine zIdx rfl rfl ha1 ?_|refine zLd rfl hl2 ?_|refine zFld rfl O_Block_Code ?_)
    refine zLen rfl (hC.len E_s_api_Ins) ?_
    (repeat first|apply zSeq|apply zReg|apply zSkp|refine wN ?_|refine wG ?_|refine wA ?_|refine zGtr rfl rfl ?_|refine zEql rfl rfl ?_|refine wT ?_|refine wE ?_|refine zIdx rfl rfl ha1 ?_|refine zFld rfl O_Block_To ?_|refine zLd rfl hlt ?_|refine zLd rfl hli ?_|refine zIdx rfl rfl hai ?_)
    refine WP.ret ⟨.inr rfl,_,rfl,?_,rfl⟩
    rw [if_pos (by simpa using c2)];rfl
structure Small (g:Graph):Prop where
 nb:g.blocks.length≤100000
 code:∀ b∈g.blocks,b.code.length≤1000000
 phis:∀ b∈g.blocks,b.phis.length≤1000000
 frm:∀ b∈g.blocks,b.frm.length≤1000000
 to:∀ b∈g.blocks,b.to.length≤1000000
 args:∀ b∈g.blocks,∀ p∈b.phis,p.args.length≤1000000
def graphC (g:Graph) (vb:Value):List Value:=[.string g.name,.bool g.thread,.int .i64 g.params,.int .i64 g.regs,vb]
theorem mayQ1_c (hO:NoO O) (hg:GH H) {A:Av}{c:Nat}{g:Graph}{vb:Value} (hb:Bx H c 35 (graphC g vb)) {b:Block}{cs:List Value} (hR:BlockR A H cs b) (hop:∀ i∈b.code,0≤i.op∧i.op < 256) (hLc:b.code.length≤1000000) (hLp:b.phis.length≤1000000) (hLa:∀ p∈b.phis,p.args.length≤1000000) :
  ∃ u H',Lc V O F_flow_May_q1 [.agg cs.toArray,.pointer (some ⟨c,0,none⟩)] H u H'∧(u=.bool (!Flo.blockOk mi g.regs b)∧Fr H H'):=by
 refine Lc.flow_May_q1 (R:=fun u H'=>u=.bool (!Flo.blockOk mi g.regs b)∧Fr H H') (hO _ _ _ (by decide)) (Nat.le_of_ble_eq_true rfl) (by kernel_rfl) ?_
 unfold P_flow_May_q1
 apply zSeq
 apply zReg
 refine zBox rfl (fun _=>rfl) fun H1 f1 b1 n1=>?_
 replace hb:=hb.fr f1
 obtain ⟨_,H2,hc2,rfl,f2⟩:=block_c (H:=H1) hO (hg.fr f1) (BlockR.m.fr hR f1) g.regs hop hLc hLp hLa
 have hlen:=hR.one.2
 (repeat first|apply zSeq|apply zReg|refine wN ?_|refine wA ?_)
 refine zLd rfl (b1.ldN E_Block te_Block_agg (by rw [te_Block_size];simp [Value.cells,hlen])) ?_
 (repeat first|refine wB E_int ?_|refine zFld rfl O_Graph_Regs ?_)
 have hc2':Lc V O F_flow_block [.agg (Value.agg cs.toArray).cells.toList.toArray,.int .i64 g.regs] H1 (.bool (Flo.blockOk mi g.regs b)) H2:=by
  have:(Value.agg cs.toArray).cells.toList.toArray=cs.toArray:=by simp [Value.cells]
  rw [this];exact hc2
 refine WL.call rfl rfl is_flow_block hc2' ?_
 (repeat first|refine wN ?_|refine zNot rfl ?_)
 exact WP.ret ⟨.inr rfl,_,rfl,rfl,f1.trans f2⟩
set_option maxHeartbeats 4000000 in
theorem may_c (hO:NoO O) (hg:GH H) {A:Av}{g:Graph}{cs:List Value} (hR:GraphR A H cs g) (hsm:Small g) (hop:∀ b∈g.blocks,∀ i∈b.code,0≤i.op∧i.op < 256) :
    ∃ u H',Lc V O F_flow_May [.agg cs.toArray] H u H'∧(u=.bool (Flo.may mi g)∧Fr H H'):=by
  obtain ⟨vb,rfl,hvl0⟩:=hR
  refine Lc.flow_May (R:=fun u H'=>u=.bool (Flo.may mi g)∧Fr H H') (hO _ _ _ (by decide)) (Nat.le_of_ble_eq_true rfl) (by kernel_rfl) ?_
  unfold P_flow_May
  apply zSeq
  apply zReg
  refine zBox rfl (fun _=>rfl) fun H1 f1 b1 n1=>?_
  have b1':Bx H1 H.next 35 (graphC g vb):=b1
  have hvl:=hvl0.fr BlockR.m f1
  have hg1:=hg.fr f1
  clear b1
  have bad:Flo.odd g=true→Flo.may mi g=false:=fun h=>by unfold Flo.may;rw [h];rfl
  cases d1:decide (g.params < 0)
  case true =>
    have e:=bad (by unfold Flo.odd;rw [d1];rfl)
    (repeat first|apply zSeq|apply zReg|refine wN ?_|refine zOff rfl rfl ?_|refine zU rfl ?_|refine wF ?_|refine wA ?_|refine zPT rfl rfl rfl ?_|refine wP ?_|refine wL ?_|refine zT rfl rfl ?_|refine wB E_int ?_|refine zLen rfl (hvl.len E_s_api_Block) ?_|refine zFld rfl O_Graph_Params ?_|refine zFld rfl O_Graph_Blocks ?_|refine wB E_s_api_Block ?_)
    exact WP.ret ⟨.inr rfl,_,rfl,by rw [e];rfl,f1⟩
  cases d2:decide (g.params > 8)
  case true =>
    have e:=bad (by unfold Flo.odd;rw [d1,d2];rfl)
    (repeat first|apply zSeq|apply zReg|refine wN ?_|refine zOff rfl rfl ?_|refine zU rfl ?_|refine wO ?_|refine wF ?_|refine wA ?_|refine zPT rfl rfl rfl ?_|refine wP ?_|refine wR ?_|refine wL ?_|refine zGtr rfl rfl ?_|refine zT rfl rfl ?_|refine wB E_int ?_|refine zLen rfl (hvl.len E_s_api_Block) ?_|refine zFld rfl O_Graph_Params ?_|refine zFld rfl O_Graph_Blocks ?_|refine wB E_s_api_Block ?_)
    exact WP.ret ⟨.inr rfl,_,rfl,by rw [e];rfl,f1⟩
  (repeat first|refine wN ?_|refine wA ?_)
  apply zSeq
  (repeat first|apply zReg|refine wN ?_|refine zLen rfl (hvl.len E_s_api_Block) ?_|refine zFld rfl O_Graph_Blocks ?_|refine wB E_s_api_Block ?_)
  refine WP.seqS (σ:=Unit) (fun _=>[(1,.pointer (some ⟨H.next,0,none⟩)),(3,.int .i64 g.blocks.length)]) (fun _ Hc=>Hc=H1∧Flo.odd g=false) ?_ ?_
  · have rest:∀ (c3:(g.thread&&decide (g.params > 0))=false),Flo.odd g=(decide (g.regs < g.params)||(decide (g.regs > 65536)||(decide ((g.blocks.length:Int) < 1)||(decide ((g.blocks.length:Int) > 32768)||(match g.blocks[0]? with|some b=>decide ((b.phis.length:Int) > 0)|none=>false))))):=fun c3=>by
      unfold Flo.odd;rw [d1,d2,c3];rfl
    cases t1:g.thread
    · have b1':Bx H1 H.next 35 [.string g.name,.bool false,.int .i64 g.params,.int .i64 g.regs,vb]:=by have:=b1';unfold graphC at this;rw [t1] at this;exact this
      have rest:=rest (by rw [t1];rfl)
      cases d4:decide (g.regs < g.params)
      case true =>
        have e:=bad (by rw [rest,d4];rfl)
        (repeat first|apply zSeq|apply zReg|refine wN ?_|refine zOn rfl rfl ?_|refine zOff rfl rfl ?_|refine wO ?_|refine wF ?_|refine wM ?_|refine wA ?_|refine zPT rfl rfl rfl ?_|refine zPF rfl rfl rfl ?_|refine wP ?_|refine wR ?_|refine wL ?_|refine zGtr rfl rfl ?_|refine zT rfl rfl ?_|refine wB E_int ?_|refine wB E_bool ?_|refine zFld rfl O_Graph_Thread ?_|refine zFld rfl O_Graph_Params ?_|refine zFld rfl O_Graph_Regs ?_)
        exact WP.ret ⟨.inr rfl,_,rfl,by rw [e];rfl,f1⟩
      cases d5:decide (g.regs > 65536)
      case true =>
        have e:=bad (by rw [rest,d4,d5];rfl)
        (repeat first|apply zSeq|apply zReg|refine wN ?_|refine zOn rfl rfl ?_|refine zOff rfl rfl ?_|refine wO ?_|refine wF ?_|refine wM ?_|refine wA ?_|refine zPT rfl rfl rfl ?_|refine zPF rfl rfl rfl ?_|refine wP ?_|refine wR ?_|refine wL ?_|refine zGtr rfl rfl ?_|refine zT rfl rfl ?_|refine wB E_int ?_|refine wB E_bool ?_|refine zFld rfl O_Graph_Thread ?_|refine zFld rfl O_Graph_Params ?_|refine zFld rfl O_Graph_Regs ?_)
        exact WP.ret ⟨.inr rfl,_,rfl,by rw [e];rfl,f1⟩
      cases d6:decide ((g.blocks.length:Int) < 1)
      case true =>
        have e:=bad (by rw [rest,d4,d5,d6];rfl)
        (repeat first|apply zSeq|apply zReg|refine wN ?_|refine zOn rfl rfl ?_|refine zOff rfl rfl ?_|refine wO ?_|refine wF ?_|refine wM ?_|refine wA ?_|refine zPT rfl rfl rfl ?_|refine zPF rfl rfl rfl ?_|refine wP ?_|refine wR ?_|refine wL ?_|refine zGtr rfl rfl ?_|refine zT rfl rfl ?_|refine wB E_int ?_|refine wB E_bool ?_|refine zFld rfl O_Graph_Thread ?_|refine zFld rfl O_Graph_Params ?_|refine zFld rfl O_Graph_Regs ?_)
        exact WP.ret ⟨.inr rfl,_,rfl,by rw [e];rfl,f1⟩
      cases d7:decide ((g.blocks.length:Int) > 32768)
      case true =>
        have e:=bad (by rw [rest,d4,d5,d6,d7];rfl)
        (repeat first|apply zSeq|apply zReg|refine wN ?_|refine zOn rfl rfl ?_|refine zOff rfl rfl ?_|refine wO ?_|refine wF ?_|refine wM ?_|refine wA ?_|refine zPF rfl rfl rfl ?_|refine wP ?_|refine wR ?_|refine wL ?_|refine zGtr rfl rfl ?_|refine zT rfl rfl ?_|refine wB E_int ?_|refine wB E_bool ?_|refine zFld rfl O_Graph_Thread ?_|refine zFld rfl O_Graph_Params ?_|refine zFld rfl O_Graph_Regs ?_)
        exact WP.ret ⟨.inr rfl,_,rfl,by rw [e];rfl,f1⟩
      have hpos:0 < g.blocks.length:=by have:=of_decide_eq_false d6;omega
      obtain ⟨ck,fvs,tvs,hat0,hcol⟩:=els_cols hvl
      obtain ⟨bb,off,ha1,hrd⟩:=hat0 0 hpos H1 (.refl _)
      obtain ⟨⟨vp,vc,eck,hph,_⟩,_,_⟩:=hcol 0 hpos
      rw [eck] at hrd
      have hl3:=(hrd.at1 (i:=0) rfl).load1 (V:=V) E_s_api_Phi rfl
      have ha1:aIndex V.E 33 vb (.int .i64 0)=some (.pointer (some ⟨bb,off,none⟩)):=ha1
      cases d8:decide ((g.blocks[0].phis.length:Int) > 0)
      · have e:Flo.odd g=false:=by
          rw [rest,d4,d5,d6,d7,List.getElem?_eq_getElem hpos]
          simp only [d8];rfl
        (repeat first|apply zSeq|apply zReg|apply zSkp|refine wN ?_|refine zOn rfl rfl ?_|refine zOff rfl rfl ?_|refine wO ?_|refine wM ?_|refine zPF rfl rfl rfl ?_|refine wR ?_|refine wL ?_|refine zGtr rfl rfl ?_|refine wE ?_|refine wB E_int ?_|refine wB E_bool ?_|refine zIdx rfl rfl ha1 ?_|refine zFld rfl O_Block_Phis ?_|refine zLen rfl (hph.len E_s_api_Phi) ?_|refine zLd rfl hl3 ?_|refine zFld rfl O_Graph_Thread ?_|refine zFld rfl O_Graph_Params ?_|refine zFld rfl O_Graph_Regs ?_|refine zFld rfl O_Graph_Blocks ?_|refine wB E_s_api_Block ?_)
        exact ⟨(),⟨rfl,e⟩,rfl,rfl,trivial⟩
      · have e:=bad (by
          rw [rest,d4,d5,d6,d7,List.getElem?_eq_getElem hpos]
          simp only [d8];rfl)
        (repeat first|apply zSeq|apply zReg|refine wN ?_|refine zOn rfl rfl ?_|refine zOff rfl rfl ?_|refine wO ?_|refine wM ?_|refine wA ?_|refine zPF rfl rfl rfl ?_|refine wR ?_|refine wL ?_|refine zGtr rfl rfl ?_|refine wT ?_|refine wB E_int ?_|refine wB E_bool ?_|refine zIdx rfl rfl ha1 ?_|refine zFld rfl O_Block_Phis ?_|refine zLen rfl (hph.len E_s_api_Phi) ?_|refine zLd rfl hl3 ?_|refine zFld rfl O_Graph_Thread ?_|refine zFld rfl O_Graph_Params ?_|refine zFld rfl O_Graph_Regs ?_|refine zFld rfl O_Graph_Blocks ?_|refine wB E_s_api_Block ?_)
        exact WP.ret ⟨.inr rfl,_,rfl,by rw [e];rfl,f1⟩
    · have b1':Bx H1 H.next 35 [.string g.name,.bool true,.int .i64 g.params,.int .i64 g.regs,vb]:=by have:=b1';unfold graphC at this;rw [t1] at this;exact this
      cases t2:decide (g.params > 0)
      ·
        have rest:=rest (by rw [t1,t2];rfl)
        cases d4:decide (g.regs < g.params)
        case true =>
          have e:=bad (by rw [rest,d4];rfl)
          (repeat first|apply zSeq|apply zReg|refine wN ?_|refine zOn rfl rfl ?_|refine zOff rfl rfl ?_|refine wO ?_|refine wF ?_|refine wM ?_|refine wA ?_|refine zPT rfl rfl rfl ?_|refine wP ?_|refine wR ?_|refine wL ?_|refine zGtr rfl rfl ?_|refine zT rfl rfl ?_|refine wB E_int ?_|refine wB E_bool ?_|refine zFld rfl O_Graph_Thread ?_|refine zFld rfl O_Graph_Params ?_|refine zFld rfl O_Graph_Regs ?_)
          exact WP.ret ⟨.inr rfl,_,rfl,by rw [e];rfl,f1⟩
        cases d5:decide (g.regs > 65536)
        case true =>
          have e:=bad (by rw [rest,d4,d5];rfl)
          (repeat first|apply zSeq|apply zReg|refine wN ?_|refine zOn rfl rfl ?_|refine zOff rfl rfl ?_|refine wO ?_|refine wF ?_|refine wM ?_|refine wA ?_|refine zPT rfl rfl rfl ?_|refine wP ?_|refine wR ?_|refine wL ?_|refine zGtr rfl rfl ?_|refine zT rfl rfl ?_|refine wB E_int ?_|refine wB E_bool ?_|refine zFld rfl O_Graph_Thread ?_|refine zFld rfl O_Graph_Params ?_|refine zFld rfl O_Graph_Regs ?_)
          exact WP.ret ⟨.inr rfl,_,rfl,by rw [e];rfl,f1⟩
        cases d6:decide ((g.blocks.length:Int) < 1)
        case true =>
          have e:=bad (by rw [rest,d4,d5,d6];rfl)
          (repeat first|apply zSeq|apply zReg|refine wN ?_|refine zOn rfl rfl ?_|refine zOff rfl rfl ?_|refine wO ?_|refine wF ?_|refine wM ?_|refine wA ?_|refine zPT rfl rfl rfl ?_|refine wP ?_|refine wR ?_|refine wL ?_|refine zGtr rfl rfl ?_|refine zT rfl rfl ?_|refine wB E_int ?_|refine wB E_bool ?_|refine zFld rfl O_Graph_Thread ?_|refine zFld rfl O_Graph_Params ?_|refine zFld rfl O_Graph_Regs ?_)
          exact WP.ret ⟨.inr rfl,_,rfl,by rw [e];rfl,f1⟩
        cases d7:decide ((g.blocks.length:Int) > 32768)
        case true =>
          have e:=bad (by rw [rest,d4,d5,d6,d7];rfl)
          (repeat first|apply zSeq|apply zReg|refine wN ?_|refine zOn rfl rfl ?_|refine wO ?_|refine wF ?_|refine wM ?_|refine wA ?_|refine zPT rfl rfl rfl ?_|refine wP ?_|refine wR ?_|refine wL ?_|refine zGtr rfl rfl ?_|refine zT rfl rfl ?_|refine wB E_int ?_|refine wB E_bool ?_|refine zFld rfl O_Graph_Thread ?_|refine zFld rfl O_Graph_Params ?_|refine zFld rfl O_Graph_Regs ?_)
          exact WP.ret ⟨.inr rfl,_,rfl,by rw [e];rfl,f1⟩
        have hpos:0 < g.blocks.length:=by have:=of_decide_eq_false d6;omega
        obtain ⟨ck,fvs,tvs,hat0,hcol⟩:=els_cols hvl
        obtain ⟨bb,off,ha1,hrd⟩:=hat0 0 hpos H1 (.refl _)
        obtain ⟨⟨vp,vc,eck,hph,_⟩,_,_⟩:=hcol 0 hpos
        rw [eck] at hrd
        have hl3:=(hrd.at1 (i:=0) rfl).load1 (V:=V) E_s_api_Phi rfl
        have ha1:aIndex V.E 33 vb (.int .i64 0)=some (.pointer (some ⟨bb,off,none⟩)):=ha1
        cases d8:decide ((g.blocks[0].phis.length:Int) > 0)
        · have e:Flo.odd g=false:=by
            rw [rest,d4,d5,d6,d7,List.getElem?_eq_getElem hpos]
            simp only [d8];rfl
          (repeat first|apply zSeq|apply zReg|apply zSkp|refine wN ?_|refine zOn rfl rfl ?_|refine wO ?_|refine wM ?_|refine zPT rfl rfl rfl ?_|refine wR ?_|refine wL ?_|refine zGtr rfl rfl ?_|refine wE ?_|refine wB E_int ?_|refine wB E_bool ?_|refine zIdx rfl rfl ha1 ?_|refine zFld rfl O_Block_Phis ?_|refine zLen rfl (hph.len E_s_api_Phi) ?_|refine zLd rfl hl3 ?_|refine zFld rfl O_Graph_Thread ?_|refine zFld rfl O_Graph_Params ?_|refine zFld rfl O_Graph_Regs ?_|refine zFld rfl O_Graph_Blocks ?_|refine wB E_s_api_Block ?_)
          exact ⟨(),⟨rfl,e⟩,rfl,rfl,trivial⟩
        · have e:=bad (by
            rw [rest,d4,d5,d6,d7,List.getElem?_eq_getElem hpos]
            simp only [d8];rfl)
          (repeat first|apply zSeq|apply zReg|refine wN ?_|refine zOn rfl rfl ?_|refine wO ?_|refine wM ?_|refine wA ?_|refine zPT rfl rfl rfl ?_|refine wR ?_|refine wL ?_|refine zGtr rfl rfl ?_|refine wT ?_|refine wB E_int ?_|refine wB E_bool ?_|refine zIdx rfl rfl ha1 ?_|refine zFld rfl O_Block_Phis ?_|refine zLen rfl (hph.len E_s_api_Phi) ?_|refine zLd rfl hl3 ?_|refine zFld rfl O_Graph_Thread ?_|refine zFld rfl O_Graph_Params ?_|refine zFld rfl O_Graph_Regs ?_|refine zFld rfl O_Graph_Blocks ?_|refine wB E_s_api_Block ?_)
          exact WP.ret ⟨.inr rfl,_,rfl,by rw [e];rfl,f1⟩
      · have e:=bad (by unfold Flo.odd;rw [d1,d2,t1,t2];rfl)
        (repeat first|apply zSeq|apply zReg|refine wN ?_|refine zOn rfl rfl ?_|refine zOff rfl rfl ?_|refine wO ?_|refine wF ?_|refine wM ?_|refine wA ?_|refine zPT rfl rfl rfl ?_|refine wP ?_|refine wR ?_|refine wL ?_|refine zGtr rfl rfl ?_|refine zT rfl rfl ?_|refine wB E_int ?_|refine wB E_bool ?_|refine zFld rfl O_Graph_Thread ?_|refine zFld rfl O_Graph_Params ?_)
        exact WP.ret ⟨.inr rfl,_,rfl,by rw [e];rfl,f1⟩
  rintro _ Hy ⟨hy,hodd⟩
  replace hy:=hy.symm
  subst hy
  have hmay:Flo.may mi g=(g.blocks.all (Flo.blockOk mi g.regs)&&(Flo.froms g.blocks&&(List.range g.blocks.length).all fun k=>!Flo.circ g.blocks k g.blocks.length k)):=by unfold Flo.may;rw [hodd];rfl
  rw [hmay]
  clear hmay bad
  have hpos:0 < g.blocks.length:=by
    unfold Flo.odd at hodd
    simp only [Bool.or_eq_false_iff] at hodd
    have:=of_decide_eq_false hodd.2.2.2.2.2.1
    omega
  obtain ⟨H2,hc2,f2⟩:=containsFunc_block_c (H:=H1) (f:=46) (cap:=#[.pointer (some ⟨H.next,0,none⟩)]) (p:=fun b=>!Flo.blockOk mi g.regs b) hO hvl (by have:=hsm.nb;omega) (by rw [fn_flow_May_q1];rfl) (fun x hx cs Hx fx hR=>by
    obtain ⟨_,Hz,h,rfl,fz⟩:=mayQ1_c (H:=Hx) hO (hg1.fr fx) (b1'.fr fx) hR (hop x hx) (hsm.code x hx) (hsm.phis x hx) (hsm.args x hx)
    exact ⟨Hz,h,fz⟩)
  rw [any_not] at hc2
  have b2:=b1'.fr f2
  have hvl2:=hvl.fr BlockR.m f2
  have f12:=f1.trans f2
  obtain ⟨_,H3,hc3,rfl,f3⟩:=froms_c (H:=H2) hO hvl2 hpos hsm.nb hsm.to hsm.frm
  have b3:=b2.fr f3
  have hvl3:=hvl2.fr BlockR.m f3
  have f13:=f12.trans f3
  (repeat first|apply zSeq|apply zReg|refine zFld rfl O_Graph_Blocks ?_|refine wB E_s_api_Block ?_)
  refine WL.op (v:=.func (.func 46) #[] #[.pointer (some ⟨H.next,0,none⟩)]) (H1:=H1) rfl ?_
  refine WL.call rfl rfl is_slices_ContainsFunc_s_api_Block_api_Block hc2 ?_
  cases c1:g.blocks.all (Flo.blockOk mi g.regs)
  · (repeat first|apply zSeq|apply zReg|refine wN ?_|refine zOff rfl rfl ?_|refine wA ?_|refine zPT rfl rfl rfl ?_|refine zT rfl rfl ?_)
    exact WP.ret ⟨.inr rfl,_,rfl,rfl,f12⟩
  (repeat first|refine zOn rfl rfl ?_|refine zFld rfl O_Graph_Blocks ?_|refine wB E_s_api_Block ?_)
  refine WL.call rfl rfl is_flow_froms hc3 ?_
  cases c2:Flo.froms g.blocks
  · (repeat first|apply zSeq|apply zReg|refine wN ?_|refine zOn rfl rfl ?_|refine wA ?_|refine zPF rfl rfl rfl ?_|refine zNot rfl ?_|refine zT rfl rfl ?_)
    exact WP.ret ⟨.inr rfl,_,rfl,rfl,f13⟩
  have hin:∀ b∈g.blocks,∀ t∈b.to,0≤t∧t < g.blocks.length:=fun b hb t ht=>by
    unfold Flo.froms at c2
    simp only [Bool.and_eq_true] at c2
    have:=List.all_eq_true.1 (List.all_eq_true.1 c2.1.1 b hb) t ht
    unfold Flo.within at this
    simp only [Bool.not_eq_true',Bool.or_eq_false_iff,decide_eq_false_iff_not] at this
    omega
  have hone:∀ b∈g.blocks,b.code=[]→b.to≠[]:=fun b hb hc he=>by
    have:=List.all_eq_true.1 c1 b hb
    unfold Flo.blockOk at this
    rw [hc,he] at this
    simp [Flo.toOf] at this
  (repeat first|apply zSeq|apply zReg|apply zBlk|apply zSkp|refine wN ?_|refine zOn rfl rfl ?_|refine wM ?_|refine zPF rfl rfl rfl ?_|refine zNot rfl ?_|refine zF rfl rfl ?_|refine zLen rfl (hvl.len E_s_api_Block) ?_|refine zFld rfl O_Graph_Blocks ?_|refine wB E_s_api_Block ?_)
  refine WP.loopH (σ:=Nat) (fun k=>[(1,.pointer (some ⟨H.next,0,none⟩)),(66,.int .i64 g.blocks.length),(67,.int .i64 k)]) (fun k Hy=>Hy=H3∧k≤g.blocks.length∧∀ j,j < k→Flo.circ g.blocks j g.blocks.length j=false) (fun k=>g.blocks.length - k) 0 ⟨rfl,Nat.zero_le _,fun j h=>absurd h (by omega)⟩ ⟨rfl,rfl,rfl,trivial⟩ ?_
  rintro k Hy ⟨hy,hk,hpre⟩
  replace hy:=hy.symm
  subst hy
  have hnb:=hsm.nb
  rcases Nat.lt_or_ge k g.blocks.length with h|h
  · have g1:decide ((k:Int) < g.blocks.length)=true:=decide_eq_true (by omega)
    have hci:=circle_c (H:=H3) hO hvl3 h hsm.nb hone hin
    (repeat first|apply zSeq|apply zReg|apply zBlk|apply zSkp|refine wN ?_|refine wG ?_|refine wL ?_|refine wT ?_|refine zFld rfl O_Graph_Blocks ?_|refine wB E_s_api_Block ?_)
    refine WL.call rfl rfl is_flow_circle hci ?_
    cases c3:Flo.circ g.blocks k g.blocks.length k
    · (repeat first|apply zReg|apply zSkp|refine wN ?_|refine zAdd rfl rfl (by omega) ?_|refine zF rfl rfl ?_)
      refine ⟨k+1,⟨rfl,h,fun j hj=>?_⟩,by omega,rfl,rfl,rfl,trivial⟩
      by_cases e:j=k
      · subst e;exact c3
      · exact hpre j (by omega)
    · (repeat first|apply zSeq|apply zReg|refine wN ?_|refine wA ?_|refine zT rfl rfl ?_)
      refine WP.ret ⟨.inr rfl,_,rfl,?_,f13⟩
      have:((List.range g.blocks.length).all fun k=>!Flo.circ g.blocks k g.blocks.length k)=false:=by
        rw [List.all_eq_false]
        exact ⟨k,List.mem_range.2 h,by rw [c3];decide⟩
      rw [this];rfl
  · have g1:decide ((k:Int) < g.blocks.length)=false:=decide_eq_false (by omega)
    (repeat first|apply zSeq|apply zReg|refine zExt ?_|refine wN ?_|refine wA ?_|refine wL ?_|refine wE ?_)
    refine WP.ret ⟨.inr rfl,_,rfl,?_,f13⟩
    have:((List.range g.blocks.length).all fun k=>!Flo.circ g.blocks k g.blocks.length k)=true:=by
      rw [List.all_eq_true]
      intro j hj
      rw [hpre j (by have:=List.mem_range.1 hj;omega)];rfl
    rw [this];rfl
end Go.Proofs.YtogomfblfpfjhaaGreatDoor.U
namespace Go.Proofs.YtogomfblfpfjhaaGreatDoor.U
open Go Go.Ev
attribute [local irreducible] WL WP WH W
attribute [local irreducible] V
variable {O:Orc}{H:AH}
theorem indexFunc_mem_c (hO:NoO O) {A:Av}{v:Value}{l:List Ev.Mem} (hv:Els 3 MemR A H v l) (hL:l.length≤1000000) {f:FuncId}{cap:Array Value}{p:Ev.Mem→Bool} (hf:(V.F f).isSome=true) (hp:∀ x∈l,∀ cs H1,Fr H H1→MemR A H1 cs x→∃ H2,Lc V O f ([.agg cs.toArray]++cap.toList) H1 (.bool (p x)) H2∧Fr H1 H2) :
    ∃ H',Lc V O F_slices_IndexFunc_s_api_Mem_api_Mem [v,.func (.func f) #[] cap] H (.int .i64 (idxI p l)) H'∧Fr H H':=by
  have key:∃ u H',Lc V O F_slices_IndexFunc_s_api_Mem_api_Mem [v,.func (.func f) #[] cap] H u H'∧(u=.int .i64 (idxI p l)∧Fr H H'):=by
    refine Lc.slices_IndexFunc_s_api_Mem_api_Mem (R:=fun u H'=>u=.int .i64 (idxI p l)∧Fr H H') (hO _ _ _ (by decide)) (Nat.le_of_ble_eq_true rfl) (by kernel_rfl) ?_
    unfold P_slices_IndexFunc_s_api_Mem_api_Mem
    (repeat first|apply zSeq|apply zReg|apply zBlk|refine wN ?_|refine wG ?_|refine wM ?_|refine wA ?_|refine zLen rfl (hv.len E_s_api_Mem) ?_)
    refine WP.loopH (σ:=Nat) (fun i=>[(0,v),(1,.func (.func f) #[] cap),(7,.int .i64 l.length),(8,.int .i64 i)]) (fun i H'=>Fr H H'∧i≤l.length∧∀ j (h:j < l.length),j < i→p l[j]=false) (fun i=>l.length - i) 0 ⟨.refl _,by simp,fun j _ h=>absurd h (by omega)⟩ ⟨rfl,rfl,rfl,rfl,trivial⟩ ?_
    rintro i H1 ⟨hfr,hi,hn⟩
    rcases Nat.lt_or_ge i l.length with h|h
    · have hd:decide ((i:Int) < l.length)=true:=decide_eq_true (by omega)
      obtain ⟨b,off,cs,ha1,hrd,hR⟩:=(hv.fr MemR.m hfr).at E_s_api_Mem E_Mem te_Mem_size (kd:=.i64) h
      have hl1:=hrd.loadN (V:=V) E_Mem te_Mem_agg te_Mem_size
      obtain ⟨H2,hc,hf2⟩:=hp l[i] (List.getElem_mem _) cs H1 hfr hR
      (repeat first|apply zSeq|apply zReg|apply zBlk|apply zSkp|refine wN ?_|refine wG ?_|refine wL ?_|refine wT ?_|refine wI ?_|refine zLd rfl ‹_› ?_)
      refine WL.call rfl rfl hf hc ?_
      cases he:p l[i]
      · (repeat first|apply zReg|apply zSkp|refine wN ?_|refine zAdd rfl rfl (by omega) ?_|refine zF rfl rfl ?_)
        refine ⟨i+1,⟨hfr.trans hf2,by omega,fun j hj hji=>?_⟩,by omega,rfl,rfl,rfl,rfl,trivial⟩
        by_cases e:j=i
        · subst e;exact he
        · exact hn j hj (by omega)
      · (repeat first|apply zSeq|apply zReg|refine wN ?_|refine wG ?_|refine zT rfl rfl ?_)
        refine WP.ret ⟨.inr rfl,_,rfl,?_,hfr.trans hf2⟩
        rw [idxI_some h he fun j hj=>hn j (by omega) hj];rfl
    · have hd:decide ((i:Int) < l.length)=false:=decide_eq_false (by omega)
      (repeat first|apply zSeq|apply zReg|refine zExt ?_|refine wN ?_|refine wA ?_|refine wL ?_|refine wE ?_)
      refine WP.ret ⟨.inr rfl,_,rfl,?_,hfr⟩
      rw [idxI_none fun j hj=>hn j hj (by omega)];rfl
  obtain ⟨u,H',h,rfl,hk⟩:=key
  exact ⟨H',h,hk⟩
theorem containsFunc_mem_c (hO:NoO O) {A:Av}{v:Value}{l:List Ev.Mem} (hv:Els 3 MemR A H v l) (hL:l.length≤1000000) {f:FuncId}{cap:Array Value}{p:Ev.Mem→Bool} (hf:(V.F f).isSome=true) (hp:∀ x∈l,∀ cs H1,Fr H H1→MemR A H1 cs x→∃ H2,Lc V O f ([.agg cs.toArray]++cap.toList) H1 (.bool (p x)) H2∧Fr H1 H2) :
  ∃ H',Lc V O F_slices_ContainsFunc_s_api_Mem_api_Mem [v,.func (.func f) #[] cap] H (.bool (l.any p)) H'∧Fr H H':=by
 have key:∃ u H',Lc V O F_slices_ContainsFunc_s_api_Mem_api_Mem [v,.func (.func f) #[] cap] H u H'∧(u=.bool (l.any p)∧Fr H H'):=by
  refine Lc.slices_ContainsFunc_s_api_Mem_api_Mem (R:=fun u H'=>u=.bool (l.any p)∧Fr H H') (hO _ _ _ (by decide)) (Nat.le_of_ble_eq_true rfl) (by kernel_rfl) ?_
  unfold P_slices_ContainsFunc_s_api_Mem_api_Mem
  obtain ⟨H1,hc,f1⟩:=indexFunc_mem_c (p:=p) hO hv hL hf hp
  (repeat first|apply zSeq|apply zReg|refine wN ?_|refine wG ?_|refine wA ?_)
  refine WL.call rfl rfl is_slices_IndexFunc_s_api_Mem_api_Mem hc ?_
  (repeat first|refine wN ?_|refine zGeq rfl rfl ?_)
  refine WP.ret ⟨.inr rfl,_,rfl,?_,f1⟩
  rw [← idxI_any];rfl
 obtain ⟨u,H',h,rfl,hk⟩:=key
 exact ⟨H',h,hk⟩
theorem indexFunc_fun_c (hO:NoO O) {A:Av}{v:Value}{l:List Ev.Fun} (hv:Els 5 FunR A H v l) (hL:l.length≤1000000) {f:FuncId}{cap:Array Value}{p:Ev.Fun→Bool} (hf:(V.F f).isSome=true) (hp:∀ x∈l,∀ cs H1,Fr H H1→FunR A H1 cs x→∃ H2,Lc V O f ([.agg cs.toArray]++cap.toList) H1 (.bool (p x)) H2∧Fr H1 H2) :
    ∃ H',Lc V O F_slices_IndexFunc_s_api_Fun_api_Fun [v,.func (.func f) #[] cap] H (.int .i64 (idxI p l)) H'∧Fr H H':=by
  have key:∃ u H',Lc V O F_slices_IndexFunc_s_api_Fun_api_Fun [v,.func (.func f) #[] cap] H u H'∧(u=.int .i64 (idxI p l)∧Fr H H'):=by
    refine Lc.slices_IndexFunc_s_api_Fun_api_Fun (R:=fun u H'=>u=.int .i64 (idxI p l)∧Fr H H') (hO _ _ _ (by decide)) (Nat.le_of_ble_eq_true rfl) (by kernel_rfl) ?_
    unfold P_slices_IndexFunc_s_api_Fun_api_Fun
    (repeat first|apply zSeq|apply zReg|apply zBlk|refine wN ?_|refine wG ?_|refine wM ?_|refine wA ?_|refine zLen rfl (hv.len E_s_api_Fun) ?_)
    refine WP.loopH (σ:=Nat) (fun i=>[(0,v),(1,.func (.func f) #[] cap),(7,.int .i64 l.length),(8,.int .i64 i)]) (fun i H'=>Fr H H'∧i≤l.length∧∀ j (h:j < l.length),j < i→p l[j]=false) (fun i=>l.length - i) 0 ⟨.refl _,by simp,fun j _ h=>absurd h (by omega)⟩ ⟨rfl,rfl,rfl,rfl,trivial⟩ ?_
    rintro i H1 ⟨hfr,hi,hn⟩
    rcases Nat.lt_or_ge i l.length with h|h
    · have hd:decide ((i:Int) < l.length)=true:=decide_eq_true (by omega)
      obtain ⟨b,off,cs,ha1,hrd,hR⟩:=(hv.fr FunR.m hfr).at E_s_api_Fun E_Fun te_Fun_size (kd:=.i64) h
      have hl1:=hrd.loadN (V:=V) E_Fun te_Fun_agg te_Fun_size
      obtain ⟨H2,hc,hf2⟩:=hp l[i] (List.getElem_mem _) cs H1 hfr hR
      (repeat first|apply zSeq|apply zReg|apply zBlk|apply zSkp|refine wN ?_|refine wG ?_|refine wL ?_|refine wT ?_|refine wI ?_|refine zLd rfl ‹_› ?_)
      refine WL.call rfl rfl hf hc ?_
      cases he:p l[i]
      · (repeat first|apply zReg|apply zSkp|refine wN ?_|refine zAdd rfl rfl (by omega) ?_|refine zF rfl rfl ?_)
        refine ⟨i+1,⟨hfr.trans hf2,by omega,fun j hj hji=>?_⟩,by omega,rfl,rfl,rfl,rfl,trivial⟩
        by_cases e:j=i
        · subst e;exact he
        · exact hn j hj (by omega)
      · (repeat first|apply zSeq|apply zReg|refine wN ?_|refine wG ?_|refine zT rfl rfl ?_)
        refine WP.ret ⟨.inr rfl,_,rfl,?_,hfr.trans hf2⟩
        rw [idxI_some h he fun j hj=>hn j (by omega) hj];rfl
    · have hd:decide ((i:Int) < l.length)=false:=decide_eq_false (by omega)
      (repeat first|apply zSeq|apply zReg|refine zExt ?_|refine wN ?_|refine wA ?_|refine wL ?_|refine wE ?_)
      refine WP.ret ⟨.inr rfl,_,rfl,?_,hfr⟩
      rw [idxI_none fun j hj=>hn j hj (by omega)];rfl
  obtain ⟨u,H',h,rfl,hk⟩:=key
  exact ⟨H',h,hk⟩
theorem containsFunc_fun_c (hO:NoO O) {A:Av}{v:Value}{l:List Ev.Fun} (hv:Els 5 FunR A H v l) (hL:l.length≤1000000) {f:FuncId}{cap:Array Value}{p:Ev.Fun→Bool} (hf:(V.F f).isSome=true) (hp:∀ x∈l,∀ cs H1,Fr H H1→FunR A H1 cs x→∃ H2,Lc V O f ([.agg cs.toArray]++cap.toList) H1 (.bool (p x)) H2∧Fr H1 H2) :
  ∃ H',Lc V O F_slices_ContainsFunc_s_api_Fun_api_Fun [v,.func (.func f) #[] cap] H (.bool (l.any p)) H'∧Fr H H':=by
 have key:∃ u H',Lc V O F_slices_ContainsFunc_s_api_Fun_api_Fun [v,.func (.func f) #[] cap] H u H'∧(u=.bool (l.any p)∧Fr H H'):=by
  refine Lc.slices_ContainsFunc_s_api_Fun_api_Fun (R:=fun u H'=>u=.bool (l.any p)∧Fr H H') (hO _ _ _ (by decide)) (Nat.le_of_ble_eq_true rfl) (by kernel_rfl) ?_
  unfold P_slices_ContainsFunc_s_api_Fun_api_Fun
  obtain ⟨H1,hc,f1⟩:=indexFunc_fun_c (p:=p) hO hv hL hf hp
  (repeat first|apply zSeq|apply zReg|refine wN ?_|refine wG ?_|refine wA ?_)
  refine WL.call rfl rfl is_slices_IndexFunc_s_api_Fun_api_Fun hc ?_
  (repeat first|refine wN ?_|refine zGeq rfl rfl ?_)
  refine WP.ret ⟨.inr rfl,_,rfl,?_,f1⟩
  rw [← idxI_any];rfl
 obtain ⟨u,H',h,rfl,hk⟩:=key
 exact ⟨H',h,hk⟩
theorem indexFunc_ins_c (hO:NoO O) {A:Av}{v:Value}{l:List Ev.Ins} (hv:Els 6 InsR A H v l) (hL:l.length≤1000000) {f:FuncId}{cap:Array Value}{p:Ev.Ins→Bool} (hf:(V.F f).isSome=true) (hp:∀ x∈l,∀ cs H1,Fr H H1→InsR A H1 cs x→∃ H2,Lc V O f ([.agg cs.toArray]++cap.toList) H1 (.bool (p x)) H2∧Fr H1 H2) :
    ∃ H',Lc V O F_slices_IndexFunc_s_api_Ins_api_Ins [v,.func (.func f) #[] cap] H (.int .i64 (idxI p l)) H'∧Fr H H':=by
  have key:∃ u H',Lc V O F_slices_IndexFunc_s_api_Ins_api_Ins [v,.func (.func f) #[] cap] H u H'∧(u=.int .i64 (idxI p l)∧Fr H H'):=by
    refine Lc.slices_IndexFunc_s_api_Ins_api_Ins (R:=fun u H'=>u=.int .i64 (idxI p l)∧Fr H H') (hO _ _ _ (by decide)) (Nat.le_of_ble_eq_true rfl) (by kernel_rfl) ?_
    unfold P_slices_IndexFunc_s_api_Ins_api_Ins
    (repeat first|apply zSeq|apply zReg|apply zBlk|refine wN ?_|refine wG ?_|refine wM ?_|refine wA ?_|refine zLen rfl (hv.len E_s_api_Ins) ?_)
    refine WP.loopH (σ:=Nat) (fun i=>[(0,v),(1,.func (.func f) #[] cap),(7,.int .i64 l.length),(8,.int .i64 i)]) (fun i H'=>Fr H H'∧i≤l.length∧∀ j (h:j < l.length),j < i→p l[j]=false) (fun i=>l.length - i) 0 ⟨.refl _,by simp,fun j _ h=>absurd h (by omega)⟩ ⟨rfl,rfl,rfl,rfl,trivial⟩ ?_
    rintro i H1 ⟨hfr,hi,hn⟩
    rcases Nat.lt_or_ge i l.length with h|h
    · have hd:decide ((i:Int) < l.length)=true:=decide_eq_true (by omega)
      obtain ⟨b,off,cs,ha1,hrd,hR⟩:=(hv.fr InsR.m hfr).at E_s_api_Ins E_Ins te_Ins_size (kd:=.i64) h
      have hl1:=hrd.loadN (V:=V) E_Ins te_Ins_agg te_Ins_size
      obtain ⟨H2,hc,hf2⟩:=hp l[i] (List.getElem_mem _) cs H1 hfr hR
      (repeat first|apply zSeq|apply zReg|apply zBlk|apply zSkp|refine wN ?_|refine wG ?_|refine wL ?_|refine wT ?_|refine wI ?_|refine zLd rfl ‹_› ?_)
      refine WL.call rfl rfl hf hc ?_
      cases he:p l[i]
      · (repeat first|apply zReg|apply zSkp|refine wN ?_|refine zAdd rfl rfl (by omega) ?_|refine zF rfl rfl ?_)
        refine ⟨i+1,⟨hfr.trans hf2,by omega,fun j hj hji=>?_⟩,by omega,rfl,rfl,rfl,rfl,trivial⟩
        by_cases e:j=i
        · subst e;exact he
        · exact hn j hj (by omega)
      · (repeat first|apply zSeq|apply zReg|refine wN ?_|refine wG ?_|refine zT rfl rfl ?_)
        refine WP.ret ⟨.inr rfl,_,rfl,?_,hfr.trans hf2⟩
        rw [idxI_some h he fun j hj=>hn j (by omega) hj];rfl
    · have hd:decide ((i:Int) < l.length)=false:=decide_eq_false (by omega)
      (repeat first|apply zSeq|apply zReg|refine zExt ?_|refine wN ?_|refine wA ?_|refine wL ?_|refine wE ?_)
      refine WP.ret ⟨.inr rfl,_,rfl,?_,hfr⟩
      rw [idxI_none fun j hj=>hn j hj (by omega)];rfl
  obtain ⟨u,H',h,rfl,hk⟩:=key
  exact ⟨H',h,hk⟩
theorem containsFunc_ins_c (hO:NoO O) {A:Av}{v:Value}{l:List Ev.Ins} (hv:Els 6 InsR A H v l) (hL:l.length≤1000000) {f:FuncId}{cap:Array Value}{p:Ev.Ins→Bool} (hf:(V.F f).isSome=true) (hp:∀ x∈l,∀ cs H1,Fr H H1→InsR A H1 cs x→∃ H2,Lc V O f ([.agg cs.toArray]++cap.toList) H1 (.bool (p x)) H2∧Fr H1 H2) :
  ∃ H',Lc V O F_slices_ContainsFunc_s_api_Ins_api_Ins [v,.func (.func f) #[] cap] H (.bool (l.any p)) H'∧Fr H H':=by
 have key:∃ u H',Lc V O F_slices_ContainsFunc_s_api_Ins_api_Ins [v,.func (.func f) #[] cap] H u H'∧(u=.bool (l.any p)∧Fr H H'):=by
  refine Lc.slices_ContainsFunc_s_api_Ins_api_Ins (R:=fun u H'=>u=.bool (l.any p)∧Fr H H') (hO _ _ _ (by decide)) (Nat.le_of_ble_eq_true rfl) (by kernel_rfl) ?_
  unfold P_slices_ContainsFunc_s_api_Ins_api_Ins
  obtain ⟨H1,hc,f1⟩:=indexFunc_ins_c (p:=p) hO hv hL hf hp
  (repeat first|apply zSeq|apply zReg|refine wN ?_|refine wG ?_|refine wA ?_)
  refine WL.call rfl rfl is_slices_IndexFunc_s_api_Ins_api_Ins hc ?_
  (repeat first|refine wN ?_|refine zGeq rfl rfl ?_)
  refine WP.ret ⟨.inr rfl,_,rfl,?_,f1⟩
  rw [← idxI_any];rfl
 obtain ⟨u,H',h,rfl,hk⟩:=key
 exact ⟨H',h,hk⟩
theorem indexFunc_str_c (hO:NoO O) {A:Av}{v:Value}{l:List ByteArray} (hv:Els 1 StrR A H v l) (hL:l.length≤1000000) {f:FuncId}{cap:Array Value}{p:ByteArray→Bool} (hf:(V.F f).isSome=true) (hp:∀ x∈l,∀ H1,Fr H H1→∃ H2,Lc V O f ([.string x]++cap.toList) H1 (.bool (p x)) H2∧Fr H1 H2) :
    ∃ H',Lc V O F_slices_IndexFunc_s_string_string [v,.func (.func f) #[] cap] H (.int .i64 (idxI p l)) H'∧Fr H H':=by
  have key:∃ u H',Lc V O F_slices_IndexFunc_s_string_string [v,.func (.func f) #[] cap] H u H'∧(u=.int .i64 (idxI p l)∧Fr H H'):=by
    refine Lc.slices_IndexFunc_s_string_string (R:=fun u H'=>u=.int .i64 (idxI p l)∧Fr H H') (hO _ _ _ (by decide)) (Nat.le_of_ble_eq_true rfl) (by kernel_rfl) ?_
    unfold P_slices_IndexFunc_s_string_string
    (repeat first|apply zSeq|apply zReg|apply zBlk|refine wN ?_|refine wG ?_|refine wM ?_|refine wA ?_|refine zLen rfl (hv.len E_s_string) ?_)
    refine WP.loopH (σ:=Nat) (fun i=>[(0,v),(1,.func (.func f) #[] cap),(7,.int .i64 l.length),(8,.int .i64 i)]) (fun i H'=>Fr H H'∧i≤l.length∧∀ j (h:j < l.length),j < i→p l[j]=false) (fun i=>l.length - i) 0 ⟨.refl _,by simp,fun j _ h=>absurd h (by omega)⟩ ⟨rfl,rfl,rfl,rfl,trivial⟩ ?_
    rintro i H1 ⟨hfr,hi,hn⟩
    rcases Nat.lt_or_ge i l.length with h|h
    · have hd:decide ((i:Int) < l.length)=true:=decide_eq_true (by omega)
      obtain ⟨b,off,cs,ha1,hrd,hR⟩:=(hv.fr StrR.m hfr).at E_s_string E_string rfl (kd:=.i64) h
      have hR:cs=[.string l[i]]:=hR
      subst hR
      have hl1:=hrd.load1 (V:=V) E_string rfl
      obtain ⟨H2,hc,hf2⟩:=hp l[i] (List.getElem_mem _) H1 hfr
      (repeat first|apply zSeq|apply zReg|apply zBlk|apply zSkp|refine wN ?_|refine wG ?_|refine wL ?_|refine wT ?_|refine wI ?_|refine zLd rfl ‹_› ?_)
      refine WL.call rfl rfl hf hc ?_
      cases he:p l[i]
      · (repeat first|apply zReg|apply zSkp|refine wN ?_|refine zAdd rfl rfl (by omega) ?_|refine zF rfl rfl ?_)
        refine ⟨i+1,⟨hfr.trans hf2,by omega,fun j hj hji=>?_⟩,by omega,rfl,rfl,rfl,rfl,trivial⟩
        by_cases e:j=i
        · subst e;exact he
        · exact hn j hj (by omega)
      · (repeat first|apply zSeq|apply zReg|refine wN ?_|refine wG ?_|refine zT rfl rfl ?_)
        refine WP.ret ⟨.inr rfl,_,rfl,?_,hfr.trans hf2⟩
        rw [idxI_some h he fun j hj=>hn j (by omega) hj];rfl
    · have hd:decide ((i:Int) < l.length)=false:=decide_eq_false (by omega)
      (repeat first|apply zSeq|apply zReg|refine zExt ?_|refine wN ?_|refine wA ?_|refine wL ?_|refine wE ?_)
      refine WP.ret ⟨.inr rfl,_,rfl,?_,hfr⟩
      rw [idxI_none fun j hj=>hn j hj (by omega)];rfl
  obtain ⟨u,H',h,rfl,hk⟩:=key
  exact ⟨H',h,hk⟩
theorem containsFunc_str_c (hO:NoO O) {A:Av}{v:Value}{l:List ByteArray} (hv:Els 1 StrR A H v l) (hL:l.length≤1000000) {f:FuncId}{cap:Array Value}{p:ByteArray→Bool} (hf:(V.F f).isSome=true) (hp:∀ x∈l,∀ H1,Fr H H1→∃ H2,Lc V O f ([.string x]++cap.toList) H1 (.bool (p x)) H2∧Fr H1 H2) :
  ∃ H',Lc V O F_slices_ContainsFunc_s_string_string [v,.func (.func f) #[] cap] H (.bool (l.any p)) H'∧Fr H H':=by
 have key:∃ u H',Lc V O F_slices_ContainsFunc_s_string_string [v,.func (.func f) #[] cap] H u H'∧(u=.bool (l.any p)∧Fr H H'):=by
  refine Lc.slices_ContainsFunc_s_string_string (R:=fun u H'=>u=.bool (l.any p)∧Fr H H') (hO _ _ _ (by decide)) (Nat.le_of_ble_eq_true rfl) (by kernel_rfl) ?_
  unfold P_slices_ContainsFunc_s_string_string
  obtain ⟨H1,hc,f1⟩:=indexFunc_str_c (p:=p) hO hv hL hf hp
  (repeat first|apply zSeq|apply zReg|refine wN ?_|refine wG ?_|refine wA ?_)
  refine WL.call rfl rfl is_slices_IndexFunc_s_string_string hc ?_
  (repeat first|refine wN ?_|refine zGeq rfl rfl ?_)
  refine WP.ret ⟨.inr rfl,_,rfl,?_,f1⟩
  rw [← idxI_any];rfl
 obtain ⟨u,H',h,rfl,hk⟩:=key
 exact ⟨H',h,hk⟩
end Go.Proofs.YtogomfblfpfjhaaGreatDoor.U
namespace Go.Proofs.YtogomfblfpfjhaaGreatDoor.U
open Go Go.Ev Go.Ev.Sh
abbrev F_ref11_Same:FuncId:=7
def P_ref11_Same:PC :=
.seq (.reg [r (.box 26 g0),r (.box 26 g1),r (.assign kF)] [(4,0),(3,1),(2,2)]) (.seq (.seq (.reg [r (fa 26 g2 0),r (ld 22 t0),r (fa 26 g2 1),r (ld 23 t0),r (.build 56 #[(0,t2),(1,t0)]),r (fa 26 g3 0),r (ld 22 t0),r (fa 26 g3 1),r (ld 23 t0),r (.build 56 #[(0,t2),(1,t0)]),r (cf 16 #[t5,t0] #[56,56]),r (.unOp .not 4 t0),rF 0 (fa 26 g2 2),rF 1 (ld 24 t0),rF 2 (ln t0 24),rF 3 (fa 26 g3 2),rF 4 (ld 24 t0),rF 5 (ln t0 24),rF 6 (bo .neq 3 t3 t0 3),r (pk t7 kT t0)] [(26,0)]) (.cond t26 (.seq (.reg [r (.assign kF)] [(4,0)]) (.ret)) (.skip))) (.seq (.seq (.reg [r (.assign (k 0))] [(5,0)]) (.block 0 (.loop (.seq (.seq (.reg [.get 5,r (fa 26 g2 2),r (ld 24 t0),r (ln t0 24),r (bo .lss 3 t3 t0 3)] [(31,0)]) (.cond t31 (.skip) (.exit 0))) (.seq (.block 1 (.seq (.reg [r (fa 26 g2 2),r (ld 24 t0),.get 5,r (ia 24 t1 t0),r (ld 35 t0),r (fa 26 g3 2),r (ld 24 t0),.get 5,r (ia 24 t1 t0),
 r (ld 35 t0),r (cf 17 #[t5,t0] #[35,35]),r (.unOp .not 4 t0)] [(45,0)]) (.cond t45 (.seq (.reg [r (.assign kF)] [(4,0)]) (.ret)) (.skip)))) (.reg [.get 5,r (bo .add 3 t0 (k 1) 3)] [(5,0)])))))) (.seq (.reg [r (.assign kT)] [(4,0)]) (.ret))))
theorem fp_ref11_Same:Fp V 7 Tryz.f7 P_ref11_Same:=⟨by kernel_rfl,by kernel_rfl,by kernel_rfl⟩
theorem is_ref11_Same:(V.F 7).isSome=true:=fp_ref11_Same.is
noncomputable def Lc.ref11_Same {O vs H R}:=@Fp.lc V O 7 Tryz.f7 P_ref11_Same vs H R fp_ref11_Same
abbrev F_ref11_MayForm:FuncId:=8
def P_ref11_MayForm:PC :=
.seq (.reg [r (.box 26 g0),r (.assign kF)] [(2,0),(1,1)]) (.seq (.reg [r (fa 26 g1 0),r (ld 22 t0),r (fa 26 g1 1),r (ld 23 t0),r (.build 56 #[(0,t2),(1,t0)]),r (.alloc 56),r (.store 56 t0 t1)] [(3,1)]) (.seq (.seq (.reg [r (.assign (k 0))] [(4,0)]) (.block 0 (.loop (.seq (.seq (.reg [.get 4,r (fa 26 g1 2),r (ld 24 t0),r (ln t0 24),r (bo .lss 3 t3 t0 3)] [(19,0)]) (.cond t19 (.skip) (.exit 0))) (.seq (.block 1 (.seq (.reg [r (fa 26 g1 2),r (ld 24 t0),.get 4,r (ia 24 t1 t0),r (ld 35 t0),r (.alloc 35),r (.store 35 t0 t1)] [(5,1)]) (.reg [r (fa 56 g3 2),r (ld 54 t0),r (fa 35 g5 0),r (ld 9 t0),r (fa 35 g5 1),r (ld 4 t0),r (fa 35 g5 2),r (ld 3 t0),r (fa 35 g5 2),r (ld 3 t0),r (.build 41 #[(0,(k8 11))]),r (.buildSlice 37 1 #[(0,t0)]),r (.build 59 #[(0,t8),(1,t6),(2,t4),(3,t2),(4,t0)]),r (.buildSlice 54 1 #[(0,t0)]),r (ap t12 t0 54 54),r (fa 56 g3 2),
 r (.store 54 t0 t1)] []))) (.reg [.get 4,r (bo .add 3 t0 (k 1) 3)] [(4,0)])))))) (.seq (.seq (.reg [r (ld 56 g3),r (cf 18 #[t0] #[56]),r (.unOp .not 4 t0)] [(45,0)]) (.cond t45 (.seq (.reg [r (.assign kF)] [(2,0)]) (.ret)) (.skip))) (.seq (.seq (.reg [r (.assign (k 0))] [(6,0)]) (.block 2 (.loop (.seq (.seq (.reg [.get 6,r (fa 26 g1 2),r (ld 24 t0),r (ln t0 24),r (bo .lss 3 t3 t0 3)] [(50,0)]) (.cond t50 (.skip) (.exit 2))) (.seq (.block 3 (.seq (.seq (.reg [r (fa 26 g1 2),r (ld 24 t0),.get 6,r (ia 24 t1 t0),r (ld 35 t0),r (cf 19 #[t0] #[35]),r (.unOp .not 4 t0)] [(59,0)]) (.cond t59 (.seq (.reg [r (.assign kF)] [(2,0)]) (.ret)) (.skip))) (.seq (.reg [r (fa 56 g3 2),r (ld 54 t0),.get 6,r (fa 26 g1 2),r (ld 24 t0),.get 6,r (ia 24 t1 t0),r (fa 35 t0 3),r (ld 3 t0),r (ia 54 t7 t6),r (fa 59 t0 3),r (.store 3 t0 t2)] []) (.seq (.reg [r (.assign (k 0))] [(7,
 0)]) (.block 4 (.loop (.seq (.seq (.reg [.get 7,r (fa 26 g1 2),r (ld 24 t0),.get 6,r (ia 24 t1 t0),r (fa 35 t0 4),r (ld 33 t0),r (ln t0 33),r (bo .lss 3 t7 t0 3)] [(79,0)]) (.cond t79 (.skip) (.exit 4))) (.seq (.block 5 (.seq (.reg [r (fa 26 g1 2),r (ld 24 t0),.get 6,r (ia 24 t1 t0),r (fa 35 t0 4),r (ld 33 t0),.get 7,r (ia 33 t1 t0),r (fa 39 t0 1),r (ld 37 t0)] [(8,0)]) (.seq (.reg [r (.assign (k 0))] [(9,0)]) (.block 6 (.loop (.seq (.seq (.reg [.get 9,.get 8,r (ln t0 37),r (bo .lss 3 t2 t0 3)] [(95,0)]) (.cond t95 (.skip) (.exit 6))) (.seq (.block 7 (.seq (.reg [r (ld 56 g3),.get 6,.get 8,.get 9,r (ia 37 t1 t0),r (ld 41 t0),r (cf 20 #[t5,t4,t0] #[56,3,41]),r (.unOp .not 4 t0)] [(105,0)]) (.cond (t 105) (.seq (.reg [r (.assign kF)] [(2,0)]) (.ret)) (.skip)))) (.reg [.get 9,r (bo .add 3 t0 (k 1) 3)] [(9,0)])))))))) (.reg [.get 7,r (bo .add 3 t0 (k 1) 3)] [(7,
 0)]))))))))) (.reg [.get 6,r (bo .add 3 t0 (k 1) 3)] [(6,0)])))))) (.seq (.reg [r (.assign kT)] [(2,0)]) (.ret))))))
theorem fp_ref11_MayForm:Fp V 8 Tryz.f8 P_ref11_MayForm:=⟨by kernel_rfl,by kernel_rfl,by kernel_rfl⟩
theorem is_ref11_MayForm:(V.F 8).isSome=true:=fp_ref11_MayForm.is
noncomputable def Lc.ref11_MayForm {O vs H R}:=@Fp.lc V O 8 Tryz.f8 P_ref11_MayForm vs H R fp_ref11_MayForm
abbrev F_ref07_Same:FuncId:=16
def P_ref07_Same:PC :=
.seq (.reg [r (.box 56 g0),r (.box 56 g1),r (.assign kF)] [(4,0),(3,1),(2,2)]) (.seq (.seq (.reg [r (fa 56 g2 0),r (ld 22 t0),r (ln t0 22),r (fa 56 g3 0),r (ld 22 t0),r (ln t0 22),r (bo .neq 3 t3 t0 3),rF 0 (fa 56 g2 1),rF 1 (ld 23 t0),rF 2 (ln t0 23),rF 3 (fa 56 g3 1),rF 4 (ld 23 t0),rF 5 (ln t0 23),rF 6 (bo .neq 3 t3 t0 3),r (pk t7 kT t0),rF 0 (fa 56 g2 2),rF 1 (ld 54 t0),rF 2 (ln t0 54),rF 3 (fa 56 g3 2),rF 4 (ld 54 t0),rF 5 (ln t0 54),rF 6 (bo .neq 3 t3 t0 3),r (pk t7 kT t0)] [(35,0)]) (.cond t35 (.seq (.reg [r (.assign kF)] [(4,0)]) (.ret)) (.skip))) (.seq (.seq (.reg [r (.assign (k 0))] [(5,0)]) (.block 0 (.loop (.seq (.seq (.reg [.get 5,r (fa 56 g2 0),r (ld 22 t0),r (ln t0 22),r (bo .lss 3 t3 t0 3)] [(40,0)]) (.cond t40 (.skip) (.exit 0))) (.seq (.block 1 (.seq (.reg [r (fa 56 g2 0),r (ld 22 t0),.get 5,r (ia 22 t1 t0),r (ld 50 t0),r (fa 56 g3 0),r (ld 22 t0),.get 5,
 r (ia 22 t1 t0),r (ld 50 t0),r (bo .neq 50 t5 t0 50)] [(53,0)]) (.cond t53 (.seq (.reg [r (.assign kF)] [(4,0)]) (.ret)) (.skip)))) (.reg [.get 5,r (bo .add 3 t0 (k 1) 3)] [(5,0)])))))) (.seq (.seq (.reg [r (.assign (k 0))] [(6,0)]) (.block 2 (.loop (.seq (.seq (.reg [.get 6,r (fa 56 g2 1),r (ld 23 t0),r (ln t0 23),r (bo .lss 3 t3 t0 3)] [(58,0)]) (.cond t58 (.skip) (.exit 2))) (.seq (.block 3 (.seq (.reg [r (fa 56 g2 1),r (ld 23 t0),.get 6,r (ia 23 t1 t0),r (ld 9 t0),r (fa 56 g3 1),r (ld 23 t0),.get 6,r (ia 23 t1 t0),r (ld 9 t0),r (bo .neq 9 t5 t0 9)] [(71,0)]) (.cond t71 (.seq (.reg [r (.assign kF)] [(4,0)]) (.ret)) (.skip)))) (.reg [.get 6,r (bo .add 3 t0 (k 1) 3)] [(6,0)])))))) (.seq (.seq (.reg [r (.assign (k 0))] [(7,0)]) (.block 4 (.loop (.seq (.seq (.reg [.get 7,r (fa 56 g2 2),r (ld 54 t0),r (ln t0 54),r (bo .lss 3 t3 t0 3)] [(76,
 0)]) (.cond t76 (.skip) (.exit 4))) (.seq (.block 5 (.seq (.reg [r (fa 56 g2 2),r (ld 54 t0),.get 7,r (ia 54 t1 t0),r (ld 59 t0),r (.alloc 59),r (.store 59 t0 t1)] [(8,1)]) (.seq (.reg [r (fa 56 g3 2),r (ld 54 t0),.get 7,r (ia 54 t1 t0),r (ld 59 t0),r (.alloc 59),r (.store 59 t0 t1)] [(9,1)]) (.seq (.seq (.reg [r (fa 59 g8 0),r (ld 9 t0),r (fa 59 g9 0),r (ld 9 t0),r (bo .neq 9 t2 t0 9),rF 0 (fa 59 g8 1),rF 1 (ld 4 t0),rF 2 (fa 59 g9 1),rF 3 (ld 4 t0),rF 4 (bo .neq 4 t2 t0 4),r (pk t5 kT t0),rF 0 (fa 59 g8 2),rF 1 (ld 3 t0),rF 2 (fa 59 g9 2),rF 3 (ld 3 t0),rF 4 (bo .neq 3 t2 t0 3),r (pk t5 kT t0),rF 0 (fa 59 g8 3),rF 1 (ld 3 t0),rF 2 (fa 59 g9 3),rF 3 (ld 3 t0),rF 4 (bo .neq 3 t2 t0 3),r (pk t5 kT t0),rF 0 (fa 59 g8 4),rF 1 (ld 37 t0),rF 2 (ln t0 37),rF 3 (fa 59 g9 4),rF 4 (ld 37 t0),rF 5 (ln t0 37),rF 6 (bo .neq 3 t3 t0 3),r (pk t7 kT t0)] [(123,
 0)]) (.cond (t 123) (.seq (.reg [r (.assign kF)] [(4,0)]) (.ret)) (.skip))) (.seq (.reg [r (.assign (k 0))] [(10,0)]) (.block 6 (.loop (.seq (.seq (.reg [.get 10,r (fa 59 g8 4),r (ld 37 t0),r (ln t0 37),r (bo .lss 3 t3 t0 3)] [(128,0)]) (.cond (t 128) (.skip) (.exit 6))) (.seq (.block 7 (.seq (.reg [r (fa 59 g8 4),r (ld 37 t0),.get 10,r (ia 37 t1 t0),r (ld 41 t0),r (fa 59 g9 4),r (ld 37 t0),.get 10,r (ia 37 t1 t0),r (ld 41 t0),r (cf 30 #[t5,t0] #[41,41]),r (.unOp .not 4 t0)] [(142,0)]) (.cond (t 142) (.seq (.reg [r (.assign kF)] [(4,0)]) (.ret)) (.skip)))) (.reg [.get 10,r (bo .add 3 t0 (k 1) 3)] [(10,0)])))))))))) (.reg [.get 7,r (bo .add 3 t0 (k 1) 3)] [(7,0)])))))) (.seq (.reg [r (.assign kT)] [(4,0)]) (.ret))))))
theorem fp_ref07_Same:Fp V 16 Tryz.f16 P_ref07_Same:=⟨by kernel_rfl,by kernel_rfl,by kernel_rfl⟩
theorem is_ref07_Same:(V.F 16).isSome=true:=fp_ref07_Same.is
noncomputable def Lc.ref07_Same {O vs H R}:=@Fp.lc V O 16 Tryz.f16 P_ref07_Same vs H R fp_ref07_Same
abbrev F_ref11_SameGraph:FuncId:=17
def P_ref11_SameGraph:PC :=
.seq (.reg [r (.box 35 g0),r (.box 35 g1),r (.assign kF)] [(4,0),(3,1),(2,2)]) (.seq (.seq (.reg [r (fa 35 g2 0),r (ld 9 t0),r (fa 35 g3 0),r (ld 9 t0),r (bo .neq 9 t2 t0 9),rF 0 (fa 35 g2 1),rF 1 (ld 4 t0),rF 2 (fa 35 g3 1),rF 3 (ld 4 t0),rF 4 (bo .neq 4 t2 t0 4),r (pk t5 kT t0),rF 0 (fa 35 g2 2),rF 1 (ld 3 t0),rF 2 (fa 35 g3 2),rF 3 (ld 3 t0),rF 4 (bo .neq 3 t2 t0 3),r (pk t5 kT t0),rF 0 (fa 35 g2 3),rF 1 (ld 3 t0),rF 2 (fa 35 g3 3),rF 3 (ld 3 t0),rF 4 (bo .neq 3 t2 t0 3),r (pk t5 kT t0),rF 0 (fa 35 g2 4),rF 1 (ld 33 t0),rF 2 (ln t0 33),rF 3 (fa 35 g3 4),rF 4 (ld 33 t0),rF 5 (ln t0 33),rF 6 (bo .neq 3 t3 t0 3),r (pk t7 kT t0)] [(44,0)]) (.cond t44 (.seq (.reg [r (.assign kF)] [(4,0)]) (.ret)) (.skip))) (.seq (.seq (.reg [r (.assign (k 0))] [(5,0)]) (.block 0 (.loop (.seq (.seq (.reg [.get 5,r (fa 35 g2 4),r (ld 33 t0),r (ln t0 33),r (bo .lss 3 t3 t0 3)] [(49,
 0)]) (.cond t49 (.skip) (.exit 0))) (.seq (.block 1 (.seq (.reg [r (fa 35 g2 4),r (ld 33 t0),.get 5,r (ia 33 t1 t0),r (ld 39 t0),r (.alloc 39),r (.store 39 t0 t1)] [(6,1)]) (.seq (.reg [r (fa 35 g3 4),r (ld 33 t0),.get 5,r (ia 33 t1 t0),r (ld 39 t0),r (.alloc 39),r (.store 39 t0 t1)] [(7,1)]) (.seq (.seq (.reg [r (fa 39 g6 2),r (ld 27 t0),r (fa 39 g7 2),r (ld 27 t0),r (cf 31 #[t2,t0] #[27,27]),r (.unOp .not 4 t0),rF 0 (fa 39 g6 3),rF 1 (ld 27 t0),rF 2 (fa 39 g7 3),rF 3 (ld 27 t0),rF 4 (cf 31 #[t2,t0] #[27,27]),rF 5 (.unOp .not 4 t0),r (pk t6 kT t0),rF 0 (fa 39 g6 0),rF 1 (ld 36 t0),rF 2 (ln t0 36),rF 3 (fa 39 g7 0),rF 4 (ld 36 t0),rF 5 (ln t0 36),rF 6 (bo .neq 3 t3 t0 3),r (pk t7 kT t0),rF 0 (fa 39 g6 1),rF 1 (ld 37 t0),rF 2 (ln t0 37),rF 3 (fa 39 g7 1),rF 4 (ld 37 t0),rF 5 (ln t0 37),rF 6 (bo .neq 3 t3 t0 3),r (pk t7 kT t0)] [(93,0)]) (.cond t93 (.seq (.reg [r (.assign kF)] [(4,
 0)]) (.ret)) (.skip))) (.seq (.seq (.reg [r (.assign (k 0))] [(8,0)]) (.block 2 (.loop (.seq (.seq (.reg [.get 8,r (fa 39 g6 0),r (ld 36 t0),r (ln t0 36),r (bo .lss 3 t3 t0 3)] [(98,0)]) (.cond t98 (.skip) (.exit 2))) (.seq (.block 3 (.seq (.reg [r (fa 39 g6 0),r (ld 36 t0),.get 8,r (ia 36 t1 t0),r (fa 43 t0 0),r (ld 3 t0),r (fa 39 g7 0),r (ld 36 t0),.get 8,r (ia 36 t1 t0),r (fa 43 t0 0),r (ld 3 t0),r (bo .neq 3 t6 t0 3),rF 0 (fa 39 g6 0),rF 1 (ld 36 t0),rF 2 (.move g8),rF 3 (ia 36 t1 t0),rF 4 (fa 43 t0 1),rF 5 (ld 27 t0),rF 6 (fa 39 g7 0),rF 7 (ld 36 t0),rF 8 (.move g8),rF 9 (ia 36 t1 t0),rF 10 (fa 43 t0 1),rF 11 (ld 27 t0),rF 12 (cf 31 #[t6,t0] #[27,27]),rF 13 (.unOp .not 4 t0),r (pk t14 kT t0)] [(129,0)]) (.cond (t 129) (.seq (.reg [r (.assign kF)] [(4,0)]) (.ret)) (.skip)))) (.reg [.get 8,r (bo .add 3 t0 (k 1) 3)] [(8,0)])))))) (.seq (.reg [r (.assign (k 0))] [(9,
 0)]) (.block 4 (.loop (.seq (.seq (.reg [.get 9,r (fa 39 g6 1),r (ld 37 t0),r (ln t0 37),r (bo .lss 3 t3 t0 3)] [(134,0)]) (.cond (t 134) (.skip) (.exit 4))) (.seq (.block 5 (.seq (.reg [r (fa 39 g6 1),r (ld 37 t0),.get 9,r (ia 37 t1 t0),r (ld 41 t0),r (fa 39 g7 1),r (ld 37 t0),.get 9,r (ia 37 t1 t0),r (ld 41 t0),r (cf 30 #[t5,t0] #[41,41]),r (.unOp .not 4 t0)] [(148,0)]) (.cond (t 148) (.seq (.reg [r (.assign kF)] [(4,0)]) (.ret)) (.skip)))) (.reg [.get 9,r (bo .add 3 t0 (k 1) 3)] [(9,0)]))))))))))) (.reg [.get 5,r (bo .add 3 t0 (k 1) 3)] [(5,0)])))))) (.seq (.reg [r (.assign kT)] [(4,0)]) (.ret))))
theorem fp_ref11_SameGraph:Fp V 17 Tryz.f17 P_ref11_SameGraph:=⟨by kernel_rfl,by kernel_rfl,by kernel_rfl⟩
theorem is_ref11_SameGraph:(V.F 17).isSome=true:=fp_ref11_SameGraph.is
noncomputable def Lc.ref11_SameGraph {O vs H R}:=@Fp.lc V O 17 Tryz.f17 P_ref11_SameGraph vs H R fp_ref11_SameGraph
abbrev F_ref07_May:FuncId:=18
def P_ref07_May:PC :=
.seq (.reg [r (.box 56 g0),r (.assign kF)] [(2,0),(1,1)]) (.seq (.reg [r (.assign (.const (.slice none 0 0)))] [(3,0)]) (.seq (.seq (.reg [r (.assign (k 0))] [(4,0)]) (.block 0 (.loop (.seq (.seq (.reg [.get 4,r (fa 56 g1 0),r (ld 22 t0),r (ln t0 22),r (bo .lss 3 t3 t0 3)] [(15,0)]) (.cond t15 (.skip) (.exit 0))) (.seq (.block 1 (.seq (.seq (.reg [r (fa 56 g1 0),r (ld 22 t0),.get 4,r (ia 22 t1 t0),r (fa 50 t0 1),r (ld 3 t0),r (bo .lss 3 t0 (k 1) 3),rF 0 (fa 56 g1 0),rF 1 (ld 22 t0),rF 2 (.move g4),rF 3 (ia 22 t1 t0),rF 4 (fa 50 t0 1),rF 5 (ld 3 t0),rF 6 (bo .gtr 3 t0 (k 1024) 3),r (pk t7 kT t0)] [(33,0)]) (.cond t33 (.seq (.reg [r (.assign kF)] [(2,0)]) (.ret)) (.skip))) (.reg [.get 3,r (fa 56 g1 0),r (ld 22 t0),.get 4,r (ia 22 t1 t0),r (fa 50 t0 0),r (ld 9 t0),r (.buildSlice 23 1 #[(0,t0)]),r (ap t7 t0 23 23)] [(3,0)]))) (.reg [.get 4,r (bo .add 3 t0 (k 1) 3)] [(4,
 0)])))))) (.seq (.reg [.get 3,r (fa 56 g1 1),r (ld 23 t0),r (ap t2 t0 23 23)] [(3,0)]) (.seq (.seq (.reg [r (.assign (k 0))] [(5,0)]) (.block 2 (.loop (.seq (.seq (.reg [.get 5,r (fa 56 g1 2),r (ld 54 t0),r (ln t0 54),r (bo .lss 3 t3 t0 3)] [(51,0)]) (.cond t51 (.skip) (.exit 2))) (.seq (.block 3 (.seq (.reg [r (fa 56 g1 2),r (ld 54 t0),.get 5,r (ia 54 t1 t0),r (ld 59 t0),r (.alloc 59),r (.store 59 t0 t1)] [(6,1)]) (.seq (.reg [.get 3,r (fa 59 g6 0),r (ld 9 t0),r (.buildSlice 23 1 #[(0,t0)]),r (ap t3 t0 23 23)] [(3,0)]) (.seq (.seq (.reg [r (fa 59 g6 2),r (ld 3 t0),r (bo .lss 3 t0 (k 0) 3),rF 0 (fa 59 g6 2),rF 1 (ld 3 t0),rF 2 (bo .gtr 3 t0 (k 8) 3),r (pk t3 kT t0),rF 0 (fa 59 g6 1),rF 1 (ld 4 t0),rF 2 (.move t0),rT 0 (fa 59 g6 2),rT 1 (ld 3 t0),rT 2 (bo .neq 3 t0 (k 0) 3),rF 6 (pk t3 t0 kF),r (pk t7 kT t0),rF 0 (fa 59 g6 3),rF 1 (ld 3 t0),rF 2 (fa 59 g6 2),rF 3 (ld 3 t0),
 rF 4 (bo .lss 3 t2 t0 3),r (pk t5 kT t0),rF 0 (fa 59 g6 3),rF 1 (ld 3 t0),rF 2 (bo .gtr 3 t0 (k 4096) 3),r (pk t3 kT t0),rF 0 (fa 59 g6 4),rF 1 (ld 37 t0),rF 2 (ln t0 37),rF 3 (bo .lss 3 t0 (k 1) 3),r (pk t4 kT t0),rF 0 (fa 59 g6 4),rF 1 (ld 37 t0),rF 2 (ln t0 37),rF 3 (bo .gtr 3 t0 (k 16384) 3),r (pk t4 kT t0)] [(104,0)]) (.cond (t 104) (.seq (.reg [r (.assign kF)] [(2,0)]) (.ret)) (.skip))) (.seq (.reg [r (fa 59 g6 4),r (ld 37 t0),r (fa 59 g6 4),r (ld 37 t0),r (ln t0 37),r (bo .sub 3 t0 (k 1) 3),r (ia 37 t4 t0),r (fa 41 t0 0),r (ld 5 t0)] [(7,0)]) (.seq (.seq (.reg [.get 7,r (bo .neq 5 t0 (k8 11) 5),rT 0 (.move g7),rT 1 (bo .neq 5 t0 (k8 13) 5),r (pk t2 t0 kF)] [(119,0)]) (.cond (t 119) (.seq (.reg [r (.assign kF)] [(2,0)]) (.ret)) (.skip))) (.seq (.reg [r (.assign (k 0))] [(8,0)]) (.block 4 (.loop (.seq (.seq (.reg [.get 8,r (fa 59 g6 4),r (ld 37 t0),r (ln t0 37),
 r (bo .lss 3 t3 t0 3)] [(124,0)]) (.cond (t 124) (.skip) (.exit 4))) (.seq (.block 5 (.seq (.reg [r (ld 56 g1),r (ld 59 g6),r (fa 59 g6 4),r (ld 37 t0),.get 8,r (ia 37 t1 t0),r (ld 41 t0),r (cf 32 #[t6,t5,t0] #[56,59,41]),r (.unOp .not 4 t0)] [(135,0)]) (.cond (t 135) (.seq (.reg [r (.assign kF)] [(2,0)]) (.ret)) (.skip)))) (.reg [.get 8,r (bo .add 3 t0 (k 1) 3)] [(8,0)])))))))))))) (.reg [.get 5,r (bo .add 3 t0 (k 1) 3)] [(5,0)])))))) (.seq (.seq (.reg [.get 3,r (ln t0 23),r (bo .gtr 3 t0 (k 256) 3),rF 0 (ld 56 g1),rF 1 (cf 33 #[t0] #[56]),rF 2 (ln t0 27),rF 3 (bo .gtr 3 t0 (k 16) 3),r (pk t4 kT t0)] [(144,0)]) (.cond (t 144) (.seq (.reg [r (.assign kF)] [(2,0)]) (.ret)) (.skip))) (.seq (.seq (.reg [r (.assign (k 0))] [(9,0)]) (.block 6 (.loop (.seq (.seq (.reg [.get 9,.get 3,r (ln t0 23),r (bo .lss 3 t2 t0 3)] [(148,
 0)]) (.cond (t 148) (.skip) (.exit 6))) (.seq (.block 7 (.seq (.seq (.reg [.get 3,.get 9,r (ia 23 t1 t0),r (ld 9 t0),r (cf 34 #[t0] #[9]),r (.unOp .not 4 t0)] [(156,0)]) (.cond (t 156) (.seq (.reg [r (.assign kF)] [(2,0)]) (.ret)) (.skip))) (.seq (.reg [r (.assign (k 0))] [(10,0)]) (.block 8 (.loop (.seq (.seq (.reg [.get 10,.get 9,r (bo .lss 3 t1 t0 3)] [(159,0)]) (.cond (t 159) (.skip) (.exit 8))) (.seq (.block 9 (.seq (.reg [.get 3,.get 10,r (ia 23 t1 t0),r (ld 9 t0),.get 3,.get 9,r (ia 23 t1 t0),r (ld 9 t0),r (bo .eql 9 t4 t0 9)] [(170,0)]) (.cond (t 170) (.seq (.reg [r (.assign kF)] [(2,0)]) (.ret)) (.skip)))) (.reg [.get 10,r (bo .add 3 t0 (k 1) 3)] [(10,0)])))))))) (.reg [.get 9,r (bo .add 3 t0 (k 1) 3)] [(9,0)])))))) (.seq (.reg [r (.assign kT)] [(2,0)]) (.ret))))))))
theorem fp_ref07_May:Fp V 18 Tryz.f18 P_ref07_May:=⟨by kernel_rfl,by kernel_rfl,by kernel_rfl⟩
theorem is_ref07_May:(V.F 18).isSome=true:=fp_ref07_May.is
noncomputable def Lc.ref07_May {O vs H R}:=@Fp.lc V O 18 Tryz.f18 P_ref07_May vs H R fp_ref07_May
abbrev F_ref11_May:FuncId:=19
def P_ref11_May:PC :=
.seq (.reg [r (.box 35 g0),r (.assign kF)] [(2,0),(1,1)]) (.seq (.reg [r (fa 35 g1 4),r (ld 33 t0),r (ln t0 33)] [(3,0)]) (.seq (.seq (.reg [r (fa 35 g1 2),r (ld 3 t0),r (bo .lss 3 t0 (k 0) 3),rF 0 (fa 35 g1 2),rF 1 (ld 3 t0),rF 2 (bo .gtr 3 t0 (k 8) 3),r (pk t3 kT t0),rF 0 (fa 35 g1 1),rF 1 (ld 4 t0),rF 2 (.move t0),rT 0 (fa 35 g1 2),rT 1 (ld 3 t0),rT 2 (bo .neq 3 t0 (k 0) 3),rF 6 (pk t3 t0 kF),r (pk t7 kT t0),rF 0 (fa 35 g1 3),rF 1 (ld 3 t0),rF 2 (fa 35 g1 2),rF 3 (ld 3 t0),rF 4 (bo .lss 3 t2 t0 3),r (pk t5 kT t0),rF 0 (fa 35 g1 3),rF 1 (ld 3 t0),rF 2 (bo .gtr 3 t0 (k 65536) 3),r (pk t3 kT t0),rF 0 (.move g3),rF 1 (bo .lss 3 t0 (k 1) 3),r (pk t2 kT t0),rF 0 (.move g3),rF 1 (bo .gtr 3 t0 (k 32768) 3),r (pk t2 kT t0)] [(47,0)]) (.cond t47 (.seq (.reg [r (.assign kF)] [(2,0)]) (.ret)) (.skip))) (.seq (.seq (.reg [r (.assign (k 0))] [(4,
 0)]) (.block 0 (.loop (.seq (.seq (.reg [.get 4,.get 3,r (bo .lss 3 t1 t0 3)] [(50,0)]) (.cond t50 (.skip) (.exit 0))) (.seq (.block 1 (.seq (.reg [r (fa 35 g1 4),r (ld 33 t0),.get 4,r (fa 35 g1 3),r (ld 3 t0),r (cf 35 #[t3,t2,t0] #[33,3,3]),r (.unOp .not 4 t0)] [(59,0)]) (.cond t59 (.seq (.reg [r (.assign kF)] [(2,0)]) (.ret)) (.skip)))) (.reg [.get 4,r (bo .add 3 t0 (k 1) 3)] [(4,0)])))))) (.seq (.seq (.reg [r (fa 35 g1 4),r (ld 33 t0),r (ia 33 t0 (k 0)),r (fa 39 t0 2),r (ld 27 t0),r (ln t0 27),r (bo .gtr 3 t0 (k 0) 3)] [(66,0)]) (.cond t66 (.seq (.reg [r (.assign kF)] [(2,0)]) (.ret)) (.skip))) (.seq (.seq (.reg [r (.assign (k 0))] [(5,0)]) (.block 2 (.loop (.seq (.seq (.reg [.get 5,.get 3,r (bo .lss 3 t1 t0 3)] [(69,0)]) (.cond t69 (.skip) (.exit 2))) (.seq (.block 3 (.seq (.seq (.rega [r (fa 35 g1 4),r (ld 33 t0),.get 5,r (ia 33 t1 t0),r (fa 39 t0 2),r (ld 27 t0),
 r (fa 35 g1 4),r (ld 33 t0),.get 5,r (cf 36 #[t1,t0] #[33,3]),r (cf 31 #[t4,t0] #[27,27]),r (.unOp .not 4 t0)] [(83,0)] 12 [⟨.load 33 t11,none,1,10⟩,⟨.load 27 t7,none,5,10⟩]) (.cond t83 (.seq (.reg [r (.assign kF)] [(2,0)]) (.ret)) (.skip))) (.seq (.reg [.get 5] [(6,0)]) (.seq (.reg [r (.assign (k 0))] [(7,0)]) (.block 4 (.loop (.seq (.seq (.reg [.get 7,.get 3,r (bo .lss 3 t1 t0 3),rT 0 (fa 35 g1 4),rT 1 (ld 33 t0),rT 2 (.move g6),rT 3 (ia 33 t1 t0),rT 4 (fa 39 t0 1),rT 5 (ld 37 t0),rT 6 (ln t0 37),rT 7 (bo .eql 3 t0 (k 0) 3),r (pk t8 t0 kF)] [(97,0)]) (.cond t97 (.skip) (.exit 4))) (.seq (.block 5 (.seq (.reg [r (fa 35 g1 4),r (ld 33 t0),.get 6,r (ia 33 t1 t0),r (fa 39 t0 3),r (ld 27 t0),r (ia 27 t0 (k 0)),r (ld 3 t0)] [(6,0)]) (.seq (.reg [.get 6,.get 5,r (bo .eql 3 t1 t0 3)] [(110,0)]) (.cond (t 110) (.seq (.reg [r (.assign kF)] [(2,
 0)]) (.ret)) (.skip))))) (.reg [.get 7,r (bo .add 3 t0 (k 1) 3)] [(7,0)]))))))))) (.reg [.get 5,r (bo .add 3 t0 (k 1) 3)] [(5,0)])))))) (.seq (.reg [r (.assign kT)] [(2,0)]) (.ret)))))))
theorem fp_ref11_May:Fp V 19 Tryz.f19 P_ref11_May:=⟨by kernel_rfl,by kernel_rfl,by kernel_rfl⟩
theorem is_ref11_May:(V.F 19).isSome=true:=fp_ref11_May.is
noncomputable def Lc.ref11_May {O vs H R}:=@Fp.lc V O 19 Tryz.f19 P_ref11_May vs H R fp_ref11_May
abbrev F_ref07_MayIns:FuncId:=20
def P_ref07_MayIns:PC :=
.seq (.reg [r (.box 56 g0),r (.box 41 g2),r (.assign kF)] [(6,0),(5,1),(3,2)]) (.seq (.reg [.get 1,r (fa 56 g3 2),r (ld 54 t0),r (ln t0 54),r (cf 37 #[t3,t0] #[2,3]),rT 0 (ld 56 g3),rT 1 (fa 56 g3 2),rT 2 (ld 54 t0),rT 3 (.move g1),rT 4 (ia 54 t1 t0),rT 5 (ld 59 t0),rT 6 (ld 41 g5),rT 7 (cf 32 #[t6,t1,t0] #[56,59,41]),r (pk t8 t0 kF)] [(6,0)]) (.ret))
theorem fp_ref07_MayIns:Fp V 20 Tryz.f20 P_ref07_MayIns:=⟨by kernel_rfl,by kernel_rfl,by kernel_rfl⟩
theorem is_ref07_MayIns:(V.F 20).isSome=true:=fp_ref07_MayIns.is
noncomputable def Lc.ref07_MayIns {O vs H R}:=@Fp.lc V O 20 Tryz.f20 P_ref07_MayIns vs H R fp_ref07_MayIns
abbrev F_ref07_SameIns:FuncId:=30
def P_ref07_SameIns:PC :=
.seq (.reg [r (.box 41 g0),r (.box 41 g1),r (.assign kF)] [(4,0),(3,1),(2,2)]) (.seq (.seq (.reg [r (fa 41 g2 0),r (ld 5 t0),r (fa 41 g3 0),r (ld 5 t0),r (bo .neq 5 t2 t0 5),rF 0 (fa 41 g2 1),rF 1 (ld 3 t0),rF 2 (fa 41 g3 1),rF 3 (ld 3 t0),rF 4 (bo .neq 3 t2 t0 3),r (pk t5 kT t0),rF 0 (fa 41 g2 2),rF 1 (ld 3 t0),rF 2 (fa 41 g3 2),rF 3 (ld 3 t0),rF 4 (bo .neq 3 t2 t0 3),r (pk t5 kT t0),rF 0 (fa 41 g2 3),rF 1 (ld 3 t0),rF 2 (fa 41 g3 3),rF 3 (ld 3 t0),rF 4 (bo .neq 3 t2 t0 3),r (pk t5 kT t0),rF 0 (fa 41 g2 4),rF 1 (ld 2 t0),rF 2 (fa 41 g3 4),rF 3 (ld 2 t0),rF 4 (bo .neq 2 t2 t0 2),r (pk t5 kT t0),rF 0 (fa 41 g2 5),rF 1 (ld 27 t0),rF 2 (ln t0 27),rF 3 (fa 41 g3 5),rF 4 (ld 27 t0),rF 5 (ln t0 27),rF 6 (bo .neq 3 t3 t0 3),r (pk t7 kT t0)] [(47,0)]) (.cond t47 (.seq (.reg [r (.assign kF)] [(4,0)]) (.ret)) (.skip))) (.seq (.seq (.reg [r (.assign (k 0))] [(5,
 0)]) (.block 0 (.loop (.seq (.seq (.reg [.get 5,r (fa 41 g2 5),r (ld 27 t0),r (ln t0 27),r (bo .lss 3 t3 t0 3)] [(52,0)]) (.cond t52 (.skip) (.exit 0))) (.seq (.block 1 (.seq (.reg [r (fa 41 g2 5),r (ld 27 t0),.get 5,r (ia 27 t1 t0),r (ld 3 t0),r (fa 41 g3 5),r (ld 27 t0),.get 5,r (ia 27 t1 t0),r (ld 3 t0),r (bo .neq 3 t5 t0 3)] [(65,0)]) (.cond t65 (.seq (.reg [r (.assign kF)] [(4,0)]) (.ret)) (.skip)))) (.reg [.get 5,r (bo .add 3 t0 (k 1) 3)] [(5,0)])))))) (.seq (.reg [r (.assign kT)] [(4,0)]) (.ret))))
theorem fp_ref07_SameIns:Fp V 30 Tryz.f30 P_ref07_SameIns:=⟨by kernel_rfl,by kernel_rfl,by kernel_rfl⟩
theorem is_ref07_SameIns:(V.F 30).isSome=true:=fp_ref07_SameIns.is
noncomputable def Lc.ref07_SameIns {O vs H R}:=@Fp.lc V O 30 Tryz.f30 P_ref07_SameIns vs H R fp_ref07_SameIns
abbrev F_ref11_ints:FuncId:=31
def P_ref11_ints:PC :=
.seq (.reg [r (.assign kF)] [(4,0)]) (.seq (.seq (.reg [.get 0,r (ln t0 27),.get 1,r (ln t0 27),r (bo .neq 3 t2 t0 3)] [(10,0)]) (.cond t10 (.seq (.reg [r (.assign kF)] [(4,0)]) (.ret)) (.skip))) (.seq (.seq (.reg [r (.assign (k 0))] [(5,0)]) (.block 0 (.loop (.seq (.seq (.reg [.get 5,.get 0,r (ln t0 27),r (bo .lss 3 t2 t0 3)] [(14,0)]) (.cond t14 (.skip) (.exit 0))) (.seq (.block 1 (.seq (.reg [.get 0,.get 5,r (ia 27 t1 t0),r (ld 3 t0),.get 1,.get 5,r (ia 27 t1 t0),r (ld 3 t0),r (bo .neq 3 t4 t0 3)] [(25,0)]) (.cond t25 (.seq (.reg [r (.assign kF)] [(4,0)]) (.ret)) (.skip)))) (.reg [.get 5,r (bo .add 3 t0 (k 1) 3)] [(5,0)])))))) (.seq (.reg [r (.assign kT)] [(4,0)]) (.ret))))
theorem fp_ref11_ints:Fp V 31 Tryz.f31 P_ref11_ints:=⟨by kernel_rfl,by kernel_rfl,by kernel_rfl⟩
theorem is_ref11_ints:(V.F 31).isSome=true:=fp_ref11_ints.is
noncomputable def Lc.ref11_ints {O vs H R}:=@Fp.lc V O 31 Tryz.f31 P_ref11_ints vs H R fp_ref11_ints
abbrev F_ref07_mayIns:FuncId:=32
def P_ref07_mayIns:PC :=
.seq (.reg [r (.box 56 g0),r (.box 59 g1),r (.box 41 g2),r (.assign kF)] [(6,0),(5,1),(4,2),(3,3)]) (.seq (.seq (.rega [r (fa 41 g5 0),r (ld 5 t0),r (bo .lss 5 t0 (k8 1) 5),rF 0 (fa 41 g5 0),rF 1 (ld 5 t0),rF 2 (bo .gtr 5 t0 (k8 13) 5),r (pk t3 kT t0),rF 0 (ld 41 g5),rF 1 (ld 41 g5),rF 2 (cf 52 #[t0] #[41]),rF 3 (cf 30 #[t2,t0] #[41,41]),rF 4 (.unOp .not 4 t0),r (pk t5 kT t0)] [(25,0)] 13 [⟨.load 41 g5,(some (t6,false)),7,10⟩]) (.cond t25 (.seq (.reg [r (.assign kF)] [(6,0)]) (.ret)) (.skip))) (.seq (.reg [r (ld 41 g5),r (cf 53 #[t0] #[41])] [(7,0)]) (.seq (.reg [r (ld 41 g5),r (cf 54 #[t0] #[41]),r (.extract t0 0),r (.extract t1 1)] [(9,0),(8,1)]) (.seq (.seq (.reg [.get 9] [(33,0)]) (.cond t33 (.reg [r (.buildSlice 27 0 #[]),.get 7,r (ap t1 t0 27 27),.get 8,r (.buildSlice 27 1 #[(0,t0)]),r (ap t2 t0 27 27)] [(7,
 0)]) (.skip))) (.seq (.seq (.reg [r (.assign (k 0))] [(10,0)]) (.block 0 (.loop (.seq (.seq (.reg [.get 10,.get 7,r (ln t0 27),r (bo .lss 3 t2 t0 3)] [(43,0)]) (.cond t43 (.skip) (.exit 0))) (.seq (.block 1 (.seq (.reg [.get 7,.get 10,r (ia 27 t1 t0),r (ld 3 t0),r (fa 59 g4 3),r (ld 3 t0),r (cf 37 #[t2,t0] #[2,3]),r (.unOp .not 4 t0)] [(53,0)]) (.cond t53 (.seq (.reg [r (.assign kF)] [(6,0)]) (.ret)) (.skip)))) (.reg [.get 10,r (bo .add 3 t0 (k 1) 3)] [(10,0)])))))) (.seq (.seq (.reg [r (fa 41 g5 0),r (ld 5 t0)] [(55,0)]) (.block 2 (.seq (.reg [r (bo .eql 5 g55 (k8 3) 5)] [(56,0)]) (.cond t56 (.seq (.reg [r (fa 41 g5 4),r (ld 2 t0),r (bo .eql 2 t0 (k 5) 2),rF 0 (fa 41 g5 4),rF 1 (ld 2 t0),rF 2 (bo .eql 2 t0 (k 6) 2),r (pk t3 kT t0)] [(6,0)]) (.ret)) (.seq (.reg [r (bo .eql 5 g55 (k8 4) 5)] [(66,0)]) (.cond t66 (.seq (.reg [r (fa 41 g5 4),r (ld 2 t0),r (bo .geq 2 t0 (k 7) 2),
 rT 0 (fa 41 g5 4),rT 1 (ld 2 t0),rT 2 (bo .leq 2 t0 (k 17) 2),r (pk t3 t0 kF)] [(6,0)]) (.ret)) (.seq (.seq (.reg [r (bo .eql 5 g55 (k8 5) 5)] [(76,0)]) (.cond t76 (.skip) (.reg [r (bo .eql 5 g55 (k8 6) 5)] [(76,0)]))) (.cond t76 (.seq (.reg [r (fa 41 g5 4),r (ld 2 t0),r (fa 56 g3 0),r (ld 22 t0),r (ln t0 22),r (cf 37 #[t3,t0] #[2,3])] [(6,0)]) (.ret)) (.seq (.seq (.reg [r (bo .eql 5 g55 (k8 7) 5)] [(85,0)]) (.cond t85 (.skip) (.reg [r (bo .eql 5 g55 (k8 8) 5)] [(85,0)]))) (.cond t85 (.seq (.reg [r (fa 41 g5 4),r (ld 2 t0),r (fa 56 g3 1),r (ld 23 t0),r (ln t0 23),r (cf 37 #[t3,t0] #[2,3])] [(6,0)]) (.ret)) (.seq (.seq (.reg [r (bo .eql 5 g55 (k8 11) 5)] [(94,0)]) (.cond t94 (.skip) (.reg [r (bo .eql 5 g55 (k8 12) 5)] [(94,0)]))) (.cond t94 (.seq (.reg [r (fa 41 g5 4),r (ld 2 t0),r (fa 59 g4 4),r (ld 37 t0),r (ln t0 37),r (cf 37 #[t3,t0] #[2,3])] [(6,
 0)]) (.ret)) (.seq (.reg [r (bo .eql 5 g55 (k8 10) 5)] [(103,0)]) (.cond (t 103) (.seq (.reg [r (fa 41 g5 4),r (ld 2 t0),r (fa 56 g3 2),r (ld 54 t0),r (ln t0 54),r (cf 37 #[t3,t0] #[2,3]),rT 0 (fa 56 g3 2),rT 1 (ld 54 t0),rT 2 (fa 41 g5 4),rT 3 (ld 2 t0),rT 4 (ia 54 t2 t0),rT 5 (fa 59 t0 1),rT 6 (ld 4 t0),rT 7 (.unOp .not 4 t0),r (pk t8 t0 kF),rT 0 (fa 41 g5 5),rT 1 (ld 27 t0),rT 2 (ln t0 27),rT 3 (fa 56 g3 2),rT 4 (ld 54 t0),rT 5 (fa 41 g5 4),rT 6 (ld 2 t0),rT 7 (ia 54 t2 t0),rT 8 (fa 59 t0 2),rT 9 (ld 3 t0),rT 10 (bo .eql 3 t7 t0 3),r (pk t11 t0 kF)] [(6,0)]) (.ret)) (.skip))))))))))))))) (.seq (.reg [r (.assign kT)] [(6,0)]) (.ret))))))))
theorem fp_ref07_mayIns:Fp V 32 Tryz.f32 P_ref07_mayIns:=⟨by kernel_rfl,by kernel_rfl,by kernel_rfl⟩
theorem is_ref07_mayIns:(V.F 32).isSome=true:=fp_ref07_mayIns.is
noncomputable def Lc.ref07_mayIns {O vs H R}:=@Fp.lc V O 32 Tryz.f32 P_ref07_mayIns vs H R fp_ref07_mayIns
abbrev F_ref07_Threads:FuncId:=33
def P_ref07_Threads:PC :=
.seq (.reg [r (.box 56 g0),r (.assign (.const (.slice none 0 0)))] [(2,0),(1,1)]) (.seq (.reg [r (.assign (.const (.slice none 0 0)))] [(3,0)]) (.seq (.seq (.reg [r (.assign (k 0))] [(4,0)]) (.block 0 (.loop (.seq (.seq (.reg [.get 4,r (fa 56 g1 2),r (ld 54 t0),r (ln t0 54),r (bo .lss 3 t3 t0 3)] [(9,0)]) (.cond t9 (.skip) (.exit 0))) (.seq (.block 1 (.seq (.reg [r (fa 56 g1 2),r (ld 54 t0),.get 4,r (ia 54 t1 t0),r (fa 59 t0 1),r (ld 4 t0)] [(17,0)]) (.cond t17 (.reg [.get 3,.get 4,r (.buildSlice 27 1 #[(0,t0)]),r (ap t2 t0 27 27)] [(3,0)]) (.skip)))) (.reg [.get 4,r (bo .add 3 t0 (k 1) 3)] [(4,0)])))))) (.seq (.reg [.get 3] [(2,0)]) (.ret))))
theorem fp_ref07_Threads:Fp V 33 Tryz.f33 P_ref07_Threads:=⟨by kernel_rfl,by kernel_rfl,by kernel_rfl⟩
theorem is_ref07_Threads:(V.F 33).isSome=true:=fp_ref07_Threads.is
noncomputable def Lc.ref07_Threads {O vs H R}:=@Fp.lc V O 33 Tryz.f33 P_ref07_Threads vs H R fp_ref07_Threads
abbrev F_ref02_Name:FuncId:=34
def P_ref02_Name:PC :=
.seq (.reg [r (.assign kF)] [(2,0)]) (.seq (.seq (.reg [.get 0,r (bo .eql 9 t0 (.const (.string ⟨⟨[]⟩⟩)) 9),rF 0 (.move g0),rF 1 (ln t0 9),rF 2 (bo .gtr 3 t0 (k 32) 3),r (pk t3 kT t0),rF 0 (.move g0),rF 1 (cf 55 #[t0] #[9]),r (pk t2 kT t0)] [(16,0)]) (.cond t16 (.seq (.reg [r (.assign kF)] [(2,0)]) (.ret)) (.skip))) (.seq (.seq (.reg [r (.assign (k 0))] [(3,0)]) (.block 0 (.loop (.seq (.seq (.reg [.get 3,.get 0,r (ln t0 9),r (bo .lss 3 t2 t0 3)] [(20,0)]) (.cond t20 (.skip) (.exit 0))) (.seq (.block 1 (.seq (.reg [.get 0,.get 3,r (.index 9 t1 t0)] [(4,0)]) (.seq (.reg [.get 4,r (bo .geq 5 t0 (k8 97) 5),rT 0 (.move g4),rT 1 (bo .leq 5 t0 (k8 122) 5),r (pk t2 t0 kF),rF 0 (.move g4),rF 1 (bo .geq 5 t0 (k8 65) 5),rF 2 (.move t0),rT 0 (.move g4),rT 1 (bo .leq 5 t0 (k8 90) 5),rF 5 (pk t2 t0 kF),r (pk t6 kT t0),rF 0 (.move g4),rF 1 (bo .eql 5 t0 (k8 95) 5),r (pk t2 kT t0)] [(5,
 0)]) (.seq (.reg [.get 5,r (.unOp .not 4 t0),rT 0 (.move g3),rT 1 (bo .eql 3 t0 (k 0) 3),rT 2 (.move t0),rF 0 (.move g4),rF 1 (bo .lss 5 t0 (k8 48) 5),rT 5 (pk t2 kT t0),rT 6 (.move t0),rF 0 (.move g4),rF 1 (bo .gtr 5 t0 (k8 57) 5),rT 9 (pk t2 kT t0),r (pk t10 t0 kF)] [(57,0)]) (.cond t57 (.seq (.reg [r (.assign kF)] [(2,0)]) (.ret)) (.skip)))))) (.reg [.get 3,r (bo .add 3 t0 (k 1) 3)] [(3,0)])))))) (.seq (.reg [r (.assign kT)] [(2,0)]) (.ret))))
theorem fp_ref02_Name:Fp V 34 Tryz.f34 P_ref02_Name:=⟨by kernel_rfl,by kernel_rfl,by kernel_rfl⟩
theorem is_ref02_Name:(V.F 34).isSome=true:=fp_ref02_Name.is
noncomputable def Lc.ref02_Name {O vs H R}:=@Fp.lc V O 34 Tryz.f34 P_ref02_Name vs H R fp_ref02_Name
abbrev F_ref11_block:FuncId:=35
def P_ref11_block:PC :=
.seq (.reg [r (.assign kF)] [(6,0)]) (.seq (.reg [.get 0,.get 1,r (ia 33 t1 t0),r (ld 39 t0),r (.alloc 39),r (.store 39 t0 t1)] [(7,1)]) (.seq (.seq (.reg [r (.assign (k 0))] [(8,0)]) (.block 0 (.loop (.seq (.seq (.reg [.get 8,r (fa 39 g7 1),r (ld 37 t0),r (ln t0 37),r (bo .lss 3 t3 t0 3)] [(19,0)]) (.cond t19 (.skip) (.exit 0))) (.seq (.block 1 (.seq (.reg [r (fa 39 g7 1),r (ld 37 t0),.get 8,r (ia 37 t1 t0),r (ld 41 t0),.get 2,r (cf 56 #[t1,t0] #[41,3]),r (.unOp .not 4 t0),rF 0 (.move g8),rF 1 (fa 39 g7 1),rF 2 (ld 37 t0),rF 3 (ln t0 37),rF 4 (bo .sub 3 t0 (k 1) 3),rF 5 (bo .lss 3 t4 t0 3),rF 6 (.move t0),rT 0 (fa 39 g7 1),rT 1 (ld 37 t0),rT 2 (.move g8),rT 3 (ia 37 t1 t0),rT 4 (fa 41 t0 0),rT 5 (ld 5 t0),rT 6 (cf 57 #[t0] #[5]),rF 14 (pk t7 t0 kF),r (pk t15 kT t0)] [(46,0)]) (.cond t46 (.seq (.reg [r (.assign kF)] [(6,0)]) (.ret)) (.skip)))) (.reg [.get 8,
 r (bo .add 3 t0 (k 1) 3)] [(8,0)])))))) (.seq (.reg [r (.assign (k 1))] [(9,0)]) (.seq (.seq (.reg [r (ld 39 g7),r (cf 58 #[t0] #[39]),r (bo .eql 5 t0 (k8 12) 5)] [(49,0)]) (.cond t49 (.reg [r (.assign (k 2))] [(9,0)]) (.skip))) (.seq (.seq (.reg [r (ld 39 g7),r (cf 58 #[t0] #[39]),r (bo .eql 5 t0 (k8 13) 5)] [(52,0)]) (.cond t52 (.reg [r (.assign (k 0))] [(9,0)]) (.skip))) (.seq (.seq (.reg [r (fa 39 g7 3),r (ld 27 t0),r (ln t0 27),.get 9,r (bo .neq 3 t1 t0 3),rF 0 (fa 39 g7 3),rF 1 (ld 27 t0),rF 2 (.move g0),rF 3 (ln t0 33),rF 4 (cf 59 #[t2,t0] #[27,3]),rF 5 (.unOp .not 4 t0),r (pk t6 kT t0)] [(65,0)]) (.cond t65 (.seq (.reg [r (.assign kF)] [(6,0)]) (.ret)) (.skip))) (.seq (.seq (.reg [r (.assign (k 0))] [(10,0)]) (.block 2 (.loop (.seq (.seq (.reg [.get 10,r (fa 39 g7 0),r (ld 36 t0),r (ln t0 36),r (bo .lss 3 t3 t0 3)] [(70,
 0)]) (.cond t70 (.skip) (.exit 2))) (.seq (.block 3 (.seq (.reg [.get 1,r (bo .eql 3 t0 (k 0) 3),rF 0 (fa 39 g7 0),rF 1 (ld 36 t0),rF 2 (.move g10),rF 3 (ia 36 t1 t0),rF 4 (fa 43 t0 0),rF 5 (ld 3 t0),rF 6 (.buildSlice 27 1 #[(0,t0)]),rF 7 (.move g2),rF 8 (cf 59 #[t1,t0] #[27,3]),rF 9 (.unOp .not 4 t0),r (pk t10 kT t0),rF 0 (fa 39 g7 0),rF 1 (ld 36 t0),rF 2 (.move g10),rF 3 (ia 36 t1 t0),rF 4 (fa 43 t0 1),rF 5 (ld 27 t0),rF 6 (.move g2),rF 7 (cf 59 #[t1,t0] #[27,3]),rF 8 (.unOp .not 4 t0),r (pk t9 kT t0),rF 0 (fa 39 g7 0),rF 1 (ld 36 t0),rF 2 (.move g10),rF 3 (ia 36 t1 t0),rF 4 (fa 43 t0 1),rF 5 (ld 27 t0),rF 6 (ln t0 27),rF 7 (fa 39 g7 2),rF 8 (ld 27 t0),rF 9 (ln t0 27),rF 10 (bo .neq 3 t3 t0 3),r (pk t11 kT t0)] [(110,0)]) (.cond (t 110) (.seq (.reg [r (.assign kF)] [(6,0)]) (.ret)) (.skip)))) (.reg [.get 10,r (bo .add 3 t0 (k 1) 3)] [(10,
 0)])))))) (.seq (.reg [r (.assign kT)] [(6,0)]) (.ret)))))))))
theorem fp_ref11_block:Fp V 35 Tryz.f35 P_ref11_block:=⟨by kernel_rfl,by kernel_rfl,by kernel_rfl⟩
theorem is_ref11_block:(V.F 35).isSome=true:=fp_ref11_block.is
noncomputable def Lc.ref11_block {O vs H R}:=@Fp.lc V O 35 Tryz.f35 P_ref11_block vs H R fp_ref11_block
abbrev F_ref11_Froms:FuncId:=36
def P_ref11_Froms:PC :=
.seq (.reg [r (.assign (.const (.slice none 0 0)))] [(4,0)]) (.seq (.reg [r (.assign (.const (.slice none 0 0)))] [(5,0)]) (.seq (.seq (.reg [r (.assign (k 0))] [(6,0)]) (.block 0 (.loop (.seq (.seq (.reg [.get 6,.get 0,r (ln t0 33),r (bo .lss 3 t2 t0 3)] [(10,0)]) (.cond t10 (.skip) (.exit 0))) (.seq (.block 1 (.seq (.reg [.get 0,.get 6,r (ia 33 t1 t0),r (fa 39 t0 3),r (ld 27 t0),.get 1,r (cf 60 #[t1,t0] #[27,3])] [(19,0)]) (.cond t19 (.reg [.get 5,.get 6,r (.buildSlice 27 1 #[(0,t0)]),r (ap t2 t0 27 27)] [(5,0)]) (.skip)))) (.reg [.get 6,r (bo .add 3 t0 (k 1) 3)] [(6,0)])))))) (.seq (.reg [.get 5] [(4,0)]) (.ret))))
theorem fp_ref11_Froms:Fp V 36 Tryz.f36 P_ref11_Froms:=⟨by kernel_rfl,by kernel_rfl,by kernel_rfl⟩
theorem is_ref11_Froms:(V.F 36).isSome=true:=fp_ref11_Froms.is
noncomputable def Lc.ref11_Froms {O vs H R}:=@Fp.lc V O 36 Tryz.f36 P_ref11_Froms vs H R fp_ref11_Froms
abbrev F_ref07_within:FuncId:=37
def P_ref07_within:PC :=
.seq (.reg [r (.assign kF)] [(4,0)]) (.seq (.reg [.get 0,r (bo .geq 2 t0 (k 0) 2),rT 0 (.move g0),rT 1 (.move g1),rT 2 (bo .lss 2 t1 t0 2),r (pk t3 t0 kF)] [(4,0)]) (.ret))
theorem fp_ref07_within:Fp V 37 Tryz.f37 P_ref07_within:=⟨by kernel_rfl,by kernel_rfl,by kernel_rfl⟩
theorem is_ref07_within:(V.F 37).isSome=true:=fp_ref07_within.is
noncomputable def Lc.ref07_within {O vs H R}:=@Fp.lc V O 37 Tryz.f37 P_ref07_within vs H R fp_ref07_within
abbrev F_ref07_kept:FuncId:=52
def P_ref07_kept:PC :=
.seq (.reg [r (.box 41 g0),r (.alloc 41)] [(2,0),(1,1)]) (.seq (.reg [r (fa 41 g1 0),r (ld 5 t0),r (.build 41 #[(0,t0)]),r (.alloc 41),r (.store 41 t0 t1)] [(3,1)]) (.seq (.reg [r (ld 41 g1),r (cf 54 #[t0] #[41]),r (.extract t0 0),r (.extract t1 1)] [(5,0)]) (.seq (.seq (.reg [.get 5] [(14,0)]) (.cond t14 (.reg [r (fa 41 g1 1),r (ld 3 t0),r (fa 41 g3 1),r (.store 3 t0 t1)] []) (.skip))) (.seq (.seq (.reg [r (fa 41 g1 0),r (ld 5 t0)] [(19,0)]) (.block 0 (.seq (.seq (.reg [r (bo .eql 5 g19 (k8 2) 5)] [(20,0)]) (.cond t20 (.skip) (.seq (.reg [r (bo .eql 5 g19 (k8 3) 5)] [(20,0)]) (.cond t20 (.skip) (.seq (.reg [r (bo .eql 5 g19 (k8 4) 5)] [(20,0)]) (.cond t20 (.skip) (.seq (.reg [r (bo .eql 5 g19 (k8 5) 5)] [(20,0)]) (.cond t20 (.skip) (.seq (.reg [r (bo .eql 5 g19 (k8 6) 5)] [(20,0)]) (.cond t20 (.skip) (.seq (.reg [r (bo .eql 5 g19 (k8 9) 5)] [(20,
 0)]) (.cond t20 (.skip) (.seq (.reg [r (bo .eql 5 g19 (k8 12) 5)] [(20,0)]) (.cond t20 (.skip) (.reg [r (bo .eql 5 g19 (k8 13) 5)] [(20,0)]))))))))))))))) (.cond t20 (.reg [r (fa 41 g1 2),r (ld 3 t0),r (fa 41 g3 2),r (.store 3 t0 t1)] []) (.skip))))) (.seq (.seq (.reg [r (fa 41 g1 0),r (ld 5 t0),r (bo .eql 5 t0 (k8 4) 5),rF 0 (fa 41 g1 0),rF 1 (ld 5 t0),rF 2 (bo .eql 5 t0 (k8 6) 5),r (pk t3 kT t0)] [(39,0)]) (.cond t39 (.reg [r (fa 41 g1 3),r (ld 3 t0),r (fa 41 g3 3),r (.store 3 t0 t1)] []) (.skip))) (.seq (.seq (.reg [r (fa 41 g1 0),r (ld 5 t0),r (bo .neq 5 t0 (k8 2) 5),rT 0 (fa 41 g1 0),rT 1 (ld 5 t0),rT 2 (bo .neq 5 t0 (k8 9) 5),r (pk t3 t0 kF),rT 0 (fa 41 g1 0),rT 1 (ld 5 t0),rT 2 (bo .neq 5 t0 (k8 13) 5),r (pk t3 t0 kF)] [(55,0)]) (.cond t55 (.reg [r (fa 41 g1 4),r (ld 2 t0),r (fa 41 g3 4),r (.store 2 t0 t1)] []) (.skip))) (.seq (.seq (.reg [r (fa 41 g1 0),r (ld 5 t0),
 r (bo .eql 5 t0 (k8 10) 5)] [(61,0)]) (.cond t61 (.reg [r (fa 41 g1 5),r (ld 27 t0),r (fa 41 g3 5),r (.store 27 t0 t1)] []) (.skip))) (.seq (.reg [r (ld 41 g3),r (.store 41 g2 t0)] []) (.ret)))))))))
theorem fp_ref07_kept:Fp V 52 Tryz.f52 P_ref07_kept:=⟨by kernel_rfl,by kernel_rfl,by kernel_rfl⟩
theorem is_ref07_kept:(V.F 52).isSome=true:=fp_ref07_kept.is
noncomputable def Lc.ref07_kept {O vs H R}:=@Fp.lc V O 52 Tryz.f52 P_ref07_kept vs H R fp_ref07_kept
abbrev F_ref07_Reads:FuncId:=53
def P_ref07_Reads:PC :=
.seq (.reg [r (.box 41 g0),r (.assign (.const (.slice none 0 0)))] [(2,0),(1,1)]) (.seq (.reg [r (.assign (.const (.slice none 0 0)))] [(3,0)]) (.seq (.seq (.reg [r (fa 41 g1 0),r (ld 5 t0)] [(5,0)]) (.block 0 (.seq (.seq (.reg [r (bo .eql 5 g5 (k8 2) 5)] [(6,0)]) (.cond t6 (.skip) (.seq (.reg [r (bo .eql 5 g5 (k8 3) 5)] [(6,0)]) (.cond t6 (.skip) (.seq (.reg [r (bo .eql 5 g5 (k8 9) 5)] [(6,0)]) (.cond t6 (.skip) (.seq (.reg [r (bo .eql 5 g5 (k8 12) 5)] [(6,0)]) (.cond t6 (.skip) (.reg [r (bo .eql 5 g5 (k8 13) 5)] [(6,0)]))))))))) (.cond t6 (.reg [.get 3,r (fa 41 g1 2),r (ld 3 t0),r (.buildSlice 27 1 #[(0,t0)]),r (ap t3 t0 27 27)] [(3,0)]) (.seq (.reg [r (bo .eql 5 g5 (k8 4) 5)] [(17,0)]) (.cond t17 (.reg [.get 3,r (fa 41 g1 2),r (ld 3 t0),r (fa 41 g1 3),r (ld 3 t0),r (.buildSlice 27 2 #[(0,t2),(1,t0)]),r (ap t5 t0 27 27)] [(3,
 0)]) (.seq (.reg [r (bo .eql 5 g5 (k8 5) 5)] [(26,0)]) (.cond t26 (.seq (.reg [r (fa 41 g1 2),r (ld 3 t0),r (bo .neq 3 t0 (k (-1)) 3)] [(30,0)]) (.cond t30 (.reg [.get 3,r (fa 41 g1 2),r (ld 3 t0),r (.buildSlice 27 1 #[(0,t0)]),r (ap t3 t0 27 27)] [(3,0)]) (.skip))) (.seq (.reg [r (bo .eql 5 g5 (k8 6) 5)] [(36,0)]) (.cond t36 (.seq (.seq (.reg [r (fa 41 g1 2),r (ld 3 t0),r (bo .neq 3 t0 (k (-1)) 3)] [(40,0)]) (.cond t40 (.reg [.get 3,r (fa 41 g1 2),r (ld 3 t0),r (.buildSlice 27 1 #[(0,t0)]),r (ap t3 t0 27 27)] [(3,0)]) (.skip))) (.reg [.get 3,r (fa 41 g1 3),r (ld 3 t0),r (.buildSlice 27 1 #[(0,t0)]),r (ap t3 t0 27 27)] [(3,0)])) (.seq (.reg [r (bo .eql 5 g5 (k8 10) 5)] [(51,0)]) (.cond t51 (.reg [.get 3,r (fa 41 g1 5),r (ld 27 t0),r (ap t2 t0 27 27)] [(3,0)]) (.skip))))))))))))) (.seq (.reg [.get 3] [(2,0)]) (.ret))))
theorem fp_ref07_Reads:Fp V 53 Tryz.f53 P_ref07_Reads:=⟨by kernel_rfl,by kernel_rfl,by kernel_rfl⟩
theorem is_ref07_Reads:(V.F 53).isSome=true:=fp_ref07_Reads.is
noncomputable def Lc.ref07_Reads {O vs H R}:=@Fp.lc V O 53 Tryz.f53 P_ref07_Reads vs H R fp_ref07_Reads
abbrev F_ref07_Writes:FuncId:=54
def P_ref07_Writes:PC :=
.seq (.reg [r (.box 41 g0),r (.assign (k 0)),r (.assign kF)] [(3,0),(2,1),(1,2)]) (.seq (.seq (.reg [r (fa 41 g1 0),r (ld 5 t0)] [(5,0)]) (.block 0 (.seq (.seq (.reg [r (bo .eql 5 g5 (k8 1) 5)] [(6,0)]) (.cond t6 (.skip) (.seq (.reg [r (bo .eql 5 g5 (k8 2) 5)] [(6,0)]) (.cond t6 (.skip) (.seq (.reg [r (bo .eql 5 g5 (k8 3) 5)] [(6,0)]) (.cond t6 (.skip) (.seq (.reg [r (bo .eql 5 g5 (k8 4) 5)] [(6,0)]) (.cond t6 (.skip) (.seq (.reg [r (bo .eql 5 g5 (k8 5) 5)] [(6,0)]) (.cond t6 (.skip) (.reg [r (bo .eql 5 g5 (k8 10) 5)] [(6,0)]))))))))))) (.cond t6 (.seq (.reg [r (fa 41 g1 1),r (ld 3 t0),r (.assign kT)] [(3,0),(2,1)]) (.ret)) (.skip))))) (.seq (.reg [r (.assign (k 0)),r (.assign kF)] [(3,0),(2,1)]) (.ret)))
theorem fp_ref07_Writes:Fp V 54 Tryz.f54 P_ref07_Writes:=⟨by kernel_rfl,by kernel_rfl,by kernel_rfl⟩
theorem is_ref07_Writes:(V.F 54).isSome=true:=fp_ref07_Writes.is
noncomputable def Lc.ref07_Writes {O vs H R}:=@Fp.lc V O 54 Tryz.f54 P_ref07_Writes vs H R fp_ref07_Writes
abbrev F_ref02_Reserved:FuncId:=55
def P_ref02_Reserved:PC :=
.seq (.reg [r (.assign kF)] [(2,0)]) (.seq (.seq (.reg [r (.buildSlice 23 15 #[(0,(.const (.string ⟨⟨[103,108,111,98,97,108]⟩⟩))),(1,(.const (.string ⟨⟨[97,114,114,97,121]⟩⟩))),(2,(.const (.string ⟨⟨[108,111,99,107]⟩⟩))),(3,(.const (.string ⟨⟨[102,117,110,99]⟩⟩))),(4,(.const (.string ⟨⟨[116,104,114,101,97,100]⟩⟩))),(5,(.const (.string ⟨⟨[118,97,114]⟩⟩))),(6,(.const (.string ⟨⟨[105,102]⟩⟩))),(7,(.const (.string ⟨⟨[101,108,115,101]⟩⟩))),(8,(.const (.string ⟨⟨[119,104,105,108,101]⟩⟩))),(9,(.const (.string ⟨⟨[119,105,116,104]⟩⟩))),(10,(.const (.string ⟨⟨[112,114,105,110,116]⟩⟩))),(11,(.const (.string ⟨⟨[99,97,108,108]⟩⟩))),(12,(.const (.string ⟨⟨[114,101,116,117,114,110]⟩⟩))),(13,(.const (.string ⟨⟨[116,114,117,101]⟩⟩))),(14,(.const (.string ⟨⟨[102,97,108,115,101]⟩⟩)))]),r (ln t0 23),r (.move (k 0))] [(7,0),
 (6,1),(5,2)]) (.block 0 (.loop (.seq (.reg [r (bo .lss 3 g7 g6 3)] [(8,0)]) (.seq (.cond t8 (.skip) (.exit 0)) (.seq (.block 1 (.seq (.reg [r (ia 23 g5 g7),r (ld 9 t0)] [(4,0)]) (.seq (.reg [.get 0,.get 4,r (bo .eql 9 t1 t0 9)] [(13,0)]) (.cond t13 (.seq (.reg [r (.assign kT)] [(2,0)]) (.ret)) (.skip))))) (.reg [r (bo .add 3 g7 (k 1) 3)] [(7,0)]))))))) (.seq (.reg [r (.assign kF)] [(2,0)]) (.ret)))
theorem fp_ref02_Reserved:Fp V 55 Tryz.f55 P_ref02_Reserved:=⟨by kernel_rfl,by kernel_rfl,by kernel_rfl⟩
theorem is_ref02_Reserved:(V.F 55).isSome=true:=fp_ref02_Reserved.is
noncomputable def Lc.ref02_Reserved {O vs H R}:=@Fp.lc V O 55 Tryz.f55 P_ref02_Reserved vs H R fp_ref02_Reserved
abbrev F_ref11_mayIns:FuncId:=56
def P_ref11_mayIns:PC :=
.seq (.reg [r (.box 41 g0),r (.assign kF)] [(4,0),(2,1)]) (.seq (.reg [.get 1,r (.build 41 #[]),r (.buildSlice 37 1 #[(0,t0)]),r (.build 59 #[(3,t2),(4,t0)]),r (.alloc 59),r (.store 59 t0 t1)] [(5,1)]) (.seq (.reg [r (.build 50 #[]),r (.buildSlice 22 1 #[(0,t0)]),r (.buildSlice 23 1 #[(0,(.const (.string ⟨⟨[]⟩⟩)))]),r (ld 59 g5),r (fa 41 g2 5),r (ld 27 t0),r (ln t0 27),r (.build 59 #[(2,t0)]),r (.buildSlice 54 2 #[(0,t4),(1,t0)]),r (.build 56 #[(0,t7),(1,t6),(2,t0)]),r (.alloc 56),r (.store 56 t0 t1)] [(6,1)]) (.seq (.seq (.reg [r (fa 41 g2 0),r (ld 5 t0),r (bo .eql 5 t0 (k8 10) 5)] [(23,0)]) (.cond t23 (.seq (.seq (.reg [r (fa 41 g2 4),r (ld 2 t0),r (bo .lss 2 t0 (k 0) 2),rF 0 (fa 41 g2 5),rF 1 (ld 27 t0),rF 2 (ln t0 27),rF 3 (bo .gtr 3 t0 (k 8) 3),r (pk t4 kT t0)] [(32,0)]) (.cond t32 (.seq (.reg [r (.assign kF)] [(4,0)]) (.ret)) (.skip))) (.reg [r (fa 41 g2 4),
 r (.store 2 t0 (k 1))] [])) (.skip))) (.seq (.seq (.reg [r (fa 41 g2 0),r (ld 5 t0),r (bo .geq 5 t0 (k8 5) 5),rT 0 (fa 41 g2 0),rT 1 (ld 5 t0),rT 2 (bo .leq 5 t0 (k8 8) 5),r (pk t3 t0 kF)] [(41,0)]) (.cond t41 (.seq (.seq (.reg [r (fa 41 g2 4),r (ld 2 t0),r (bo .lss 2 t0 (k 0) 2)] [(44,0)]) (.cond t44 (.seq (.reg [r (.assign kF)] [(4,0)]) (.ret)) (.skip))) (.reg [r (fa 41 g2 4),r (.store 2 t0 (k 0))] [])) (.skip))) (.seq (.reg [r (ld 56 g6),r (ld 41 g2),r (cf 20 #[t1,(k 0),t0] #[56,3,41])] [(4,0)]) (.ret))))))
theorem fp_ref11_mayIns:Fp V 56 Tryz.f56 P_ref11_mayIns:=⟨by kernel_rfl,by kernel_rfl,by kernel_rfl⟩
theorem is_ref11_mayIns:(V.F 56).isSome=true:=fp_ref11_mayIns.is
noncomputable def Lc.ref11_mayIns {O vs H R}:=@Fp.lc V O 56 Tryz.f56 P_ref11_mayIns vs H R fp_ref11_mayIns
abbrev F_ref11_ends:FuncId:=57
def P_ref11_ends:PC :=
.seq (.reg [r (.assign kF)] [(2,0)]) (.seq (.reg [.get 0,r (bo .eql 5 t0 (k8 11) 5),rF 0 (.move g0),rF 1 (bo .eql 5 t0 (k8 12) 5),r (pk t2 kT t0),rF 0 (.move g0),rF 1 (bo .eql 5 t0 (k8 13) 5),r (pk t2 kT t0)] [(2,0)]) (.ret))
theorem fp_ref11_ends:Fp V 57 Tryz.f57 P_ref11_ends:=⟨by kernel_rfl,by kernel_rfl,by kernel_rfl⟩
theorem is_ref11_ends:(V.F 57).isSome=true:=fp_ref11_ends.is
noncomputable def Lc.ref11_ends {O vs H R}:=@Fp.lc V O 57 Tryz.f57 P_ref11_ends vs H R fp_ref11_ends
abbrev F_ref11_last:FuncId:=58
def P_ref11_last:PC :=
.seq (.reg [r (.box 39 g0),r (.assign (k8 0))] [(2,0),(1,1)]) (.seq (.seq (.reg [r (fa 39 g1 1),r (ld 37 t0),r (ln t0 37),r (bo .eql 3 t0 (k 0) 3)] [(6,0)]) (.cond t6 (.seq (.reg [r (.assign (k8 0))] [(2,0)]) (.ret)) (.skip))) (.seq (.reg [r (fa 39 g1 1),r (ld 37 t0),r (fa 39 g1 1),r (ld 37 t0),r (ln t0 37),r (bo .sub 3 t0 (k 1) 3),r (ia 37 t4 t0),r (fa 41 t0 0),r (ld 5 t0)] [(2,0)]) (.ret)))
theorem fp_ref11_last:Fp V 58 Tryz.f58 P_ref11_last:=⟨by kernel_rfl,by kernel_rfl,by kernel_rfl⟩
theorem is_ref11_last:(V.F 58).isSome=true:=fp_ref11_last.is
noncomputable def Lc.ref11_last {O vs H R}:=@Fp.lc V O 58 Tryz.f58 P_ref11_last vs H R fp_ref11_last
abbrev F_ref11_within:FuncId:=59
def P_ref11_within:PC :=
.seq (.reg [r (.assign kF)] [(4,0)]) (.seq (.seq (.reg [r (.assign (k 0))] [(5,0)]) (.block 0 (.loop (.seq (.seq (.reg [.get 5,.get 0,r (ln t0 27),r (bo .lss 3 t2 t0 3)] [(9,0)]) (.cond t9 (.skip) (.exit 0))) (.seq (.block 1 (.seq (.reg [.get 0,.get 5,r (ia 27 t1 t0),r (ld 3 t0),r (bo .lss 3 t0 (k 0) 3),rF 0 (.move g0),rF 1 (.move g5),rF 2 (ia 27 t1 t0),rF 3 (ld 3 t0),rF 4 (.move g1),rF 5 (bo .geq 3 t1 t0 3),r (pk t6 kT t0)] [(24,0)]) (.cond t24 (.seq (.reg [r (.assign kF)] [(4,0)]) (.ret)) (.skip)))) (.reg [.get 5,r (bo .add 3 t0 (k 1) 3)] [(5,0)])))))) (.seq (.reg [r (.assign kT)] [(4,0)]) (.ret)))
theorem fp_ref11_within:Fp V 59 Tryz.f59 P_ref11_within:=⟨by kernel_rfl,by kernel_rfl,by kernel_rfl⟩
theorem is_ref11_within:(V.F 59).isSome=true:=fp_ref11_within.is
noncomputable def Lc.ref11_within {O vs H R}:=@Fp.lc V O 59 Tryz.f59 P_ref11_within vs H R fp_ref11_within
abbrev F_ref11_has:FuncId:=60
def P_ref11_has:PC :=
.seq (.reg [r (.assign kF)] [(4,0)]) (.seq (.seq (.reg [r (.assign (k 0))] [(5,0)]) (.block 0 (.loop (.seq (.seq (.reg [.get 5,.get 0,r (ln t0 27),r (bo .lss 3 t2 t0 3)] [(9,0)]) (.cond t9 (.skip) (.exit 0))) (.seq (.block 1 (.seq (.reg [.get 0,.get 5,r (ia 27 t1 t0),r (ld 3 t0),.get 1,r (bo .eql 3 t1 t0 3)] [(17,0)]) (.cond t17 (.seq (.reg [r (.assign kT)] [(4,0)]) (.ret)) (.skip)))) (.reg [.get 5,r (bo .add 3 t0 (k 1) 3)] [(5,0)])))))) (.seq (.reg [r (.assign kF)] [(4,0)]) (.ret)))
theorem fp_ref11_has:Fp V 60 Tryz.f60 P_ref11_has:=⟨by kernel_rfl,by kernel_rfl,by kernel_rfl⟩
theorem is_ref11_has:(V.F 60).isSome=true:=fp_ref11_has.is
noncomputable def Lc.ref11_has {O vs H R}:=@Fp.lc V O 60 Tryz.f60 P_ref11_has vs H R fp_ref11_has
abbrev F_tree_Name:FuncId:=65
def P_tree_Name:PC :=
.seq (.reg [r (.assign kF)] [(2,0)]) (.seq (.seq (.reg [.get 0,r (bo .eql 9 t0 (.const (.string ⟨⟨[]⟩⟩)) 9),rF 0 (.move g0),rF 1 (ln t0 9),rF 2 (bo .gtr 3 t0 (k 32) 3),r (pk t3 kT t0),rF 0 (.slice 117 (.global 0) none none none),rF 1 (.move g0),rF 2 (cf 87 #[t1,t0] #[23,9]),r (pk t3 kT t0),rF 0 (.move g0),rF 1 (.index 9 t0 (k 0)),rF 2 (bo .geq 5 t0 (k8 48) 5),rF 3 (.move t0),rT 0 (.move g0),rT 1 (.index 9 t0 (k 0)),rT 2 (bo .leq 5 t0 (k8 57) 5),rF 7 (pk t3 t0 kF),r (pk t8 kT t0)] [(24,0)]) (.cond t24 (.seq (.reg [r (.assign kF)] [(2,0)]) (.ret)) (.skip))) (.seq (.reg [.get 0,r (.call ⟨.value (.func 88),#[t0,(.const (.string ⟨⟨[97,98,99,100,101,102,103,104,105,106,107,108,109,110,111,112,113,114,115,116,117,118,119,120,121,122,65,66,67,68,69,70,71,72,73,74,75,76,77,78,79,80,81,82,83,84,85,86,87,88,89,90,95,48,49,50,51,52,53,
 54,55,56,57]⟩⟩))],#[9,9]⟩),r (bo .eql 9 t0 (.const (.string ⟨⟨[]⟩⟩)) 9)] [(2,0)]) (.ret)))
theorem fp_tree_Name:Fp V 65 Tryz.f65 P_tree_Name:=⟨by kernel_rfl,by kernel_rfl,by kernel_rfl⟩
theorem is_tree_Name:(V.F 65).isSome=true:=fp_tree_Name.is
noncomputable def Lc.tree_Name {O vs H R}:=@Fp.lc V O 65 Tryz.f65 P_tree_Name vs H R fp_tree_Name
abbrev F_slices_Contains_s_string_string:FuncId:=87
def P_slices_Contains_s_string_string:PC :=
.seq (.reg [r (.assign kF)] [(4,0)]) (.seq (.reg [.get 0,.get 1,r (cf 103 #[t1,t0] #[23,9]),r (bo .geq 3 t0 (k 0) 3)] [(4,0)]) (.ret))
theorem fp_slices_Contains_s_string_string:Fp V 87 Tryz.f87 P_slices_Contains_s_string_string:=⟨by kernel_rfl,by kernel_rfl,by kernel_rfl⟩
theorem is_slices_Contains_s_string_string:(V.F 87).isSome=true:=fp_slices_Contains_s_string_string.is
noncomputable def Lc.slices_Contains_s_string_string {O vs H R}:=@Fp.lc V O 87 Tryz.f87 P_slices_Contains_s_string_string vs H R fp_slices_Contains_s_string_string
abbrev F_slices_Index_s_string_string:FuncId:=103
def P_slices_Index_s_string_string:PC :=
.seq (.reg [r (.assign (k 0))] [(4,0)]) (.seq (.seq (.reg [.get 0,r (ln t0 23),r (.move (k 0))] [(8,0),(7,1)]) (.block 0 (.loop (.seq (.reg [r (bo .lss 3 g8 g7 3)] [(9,0)]) (.seq (.cond t9 (.skip) (.exit 0)) (.seq (.block 1 (.seq (.reg [.get 8] [(5,0)]) (.seq (.reg [.get 1,.get 0,.get 5,r (ia 23 t1 t0),r (ld 9 t0),r (bo .eql 9 t4 t0 9)] [(16,0)]) (.cond t16 (.seq (.reg [.get 5] [(4,0)]) (.ret)) (.skip))))) (.reg [r (bo .add 3 g8 (k 1) 3)] [(8,0)]))))))) (.seq (.reg [r (.assign (k (-1)))] [(4,0)]) (.ret)))
theorem fp_slices_Index_s_string_string:Fp V 103 Tryz.f103 P_slices_Index_s_string_string:=⟨by kernel_rfl,by kernel_rfl,by kernel_rfl⟩
theorem is_slices_Index_s_string_string:(V.F 103).isSome=true:=fp_slices_Index_s_string_string.is
noncomputable def Lc.slices_Index_s_string_string {O vs H R}:=@Fp.lc V O 103 Tryz.f103 P_slices_Index_s_string_string vs H R fp_slices_Index_s_string_string
end Go.Proofs.YtogomfblfpfjhaaGreatDoor.U
namespace Go.Proofs.YtogomfblfpfjhaaGreatDoor.U
open Go Go.Ev
attribute [local irreducible] WL WP WH W
structure KnL (O:Orc):Prop where
 sort:∀ {vs H r},SortRel vs H r→O F_slices_Sort_s_string_string vs H=some r
 comp:∀ {vs H r},CompRel vs H r→O F_slices_Compact_s_string_string vs H=some r
 trim:∀ {vs H r},TrimRel vs H r→O 88 vs H=some r
theorem fn_Trim:V.F 88=some Tryz.f88:=by kernel_rfl
def GN (H:AH):Prop:=0 < H.next∧H.obj 0=.row 117 (strs For.resv) .ro 0 0
theorem GN.fr {H H':AH} (h:GN H) (k:Fr H H'):GN H':=⟨Nat.lt_of_lt_of_le h.1 k.1,(k.2.1 0 h.1).trans h.2⟩
theorem strs_at {l:List ByteArray}{i:Nat} (h:i < l.length):((strs l).drop (i * 1)).take 1=[.string l[i]]:=by
 unfold strs
 rw [Nat.mul_one,← List.map_drop,List.drop_eq_getElem_cons h];rfl
theorem strs_els {A:Av}{H:AH}{v:Value}{l:List ByteArray} (h:Sr A H v 1 l.length (strs l)):Els 1 StrR A H v l:=⟨strs l,h,fun i hi=>strs_at hi⟩
theorem GN.els {H:AH} (h:GN H):Els 1 StrR .no H (.slice (some ⟨0,0,none⟩) 15 15) For.resv:=
 strs_els ⟨rfl,.inr ⟨0,0,15,rfl,fun _=>(Rd.ro h.1 h.2).a⟩⟩
theorem slice_resv {l:SL}{E:List Value}{H:AH}:aopG V (gS V.nG E l) H (.slice 117 (.global 0) none none none)=some (.slice (some ⟨0,0,none⟩) 15 15,H):=by kernel_rfl
theorem marks_ascii:(For.marks.data.toList.all fun b=>decide (b.toNat < 128))=true:=by decide +kernel
attribute [local irreducible] V
variable {O:Orc}{H:AH}
theorem indexStr_c (hO:NoO O) {A:Av}{v:Value}{l:List ByteArray} (hv:Els 1 StrR A H v l) (hL:l.length≤1000000) (s:ByteArray) :
  Lc V O F_slices_Index_s_string_string [v,.string s] H (.int .i64 (idxI (fun x=>s.data.toList==x.data.toList) l)) H:=by
 refine Lc.of_eq (Lc.slices_Index_s_string_string (R:=fun u H'=>u=.int .i64 (idxI (fun x=>s.data.toList==x.data.toList) l)∧H'=H) (hO _ _ _ (by decide)) (Nat.le_of_ble_eq_true rfl) (by kernel_rfl) ?_)
 unfold P_slices_Index_s_string_string
 (repeat first|apply zSeq|apply zReg|apply zBlk|refine wN ?_|refine wG ?_|refine wM ?_|refine wA ?_|refine zLen rfl (hv.len E_s_string) ?_)
 refine WP.loopH (σ:=Nat) (fun i=>[(0,v),(1,.string s),(7,.int .i64 l.length),(8,.int .i64 i)]) (fun i H'=>H'=H∧i≤l.length∧∀ j (h:j < l.length),j < i→(s.data.toList==l[j].data.toList)=false) (fun i=>l.length - i) 0 ⟨rfl,by simp,fun j _ h=>absurd h (by omega)⟩ ⟨rfl,rfl,rfl,rfl,trivial⟩ ?_
 rintro i H1 ⟨e1,hi,hn⟩
 subst e1
 rcases Nat.lt_or_ge i l.length with h|h
 ·have hd:decide ((i:Int) < l.length)=true:=decide_eq_true (by omega)
  obtain ⟨b,off,cs,ha1,hrd,hR⟩:=hv.at E_s_string E_string rfl (kd:=.i64) h
  have hR:cs=[.string l[i]]:=hR
  subst hR
  have hl1:=hrd.load1 (V:=V) E_string rfl
  cases he:s.data.toList==l[i].data.toList
  ·(repeat first|apply zSeq|apply zReg|apply zBlk|apply zSkp|refine wN ?_|refine wG ?_|refine wL ?_|refine zAdd rfl rfl (by omega) ?_|refine zEqS rfl rfl ?_|refine wT ?_|refine wE ?_|refine wI ?_|refine zLd rfl ‹_› ?_)
   refine ⟨i+1,⟨rfl,by omega,fun j hj hji=>?_⟩,by omega,rfl,rfl,rfl,rfl,trivial⟩
   by_cases e:j=i
   ·subst e;exact he
   ·exact hn j hj (by omega)
  ·(repeat first|apply zSeq|apply zReg|apply zBlk|apply zSkp|refine wN ?_|refine wG ?_|refine wL ?_|refine zEqS rfl rfl ?_|refine wT ?_|refine wI ?_|refine zLd rfl ‹_› ?_)
   refine WP.ret ⟨.inr rfl,_,rfl,?_,rfl⟩
   rw [idxI_some (p:=fun x:ByteArray=>s.data.toList==x.data.toList) h he fun j hj=>hn j (by omega) hj];rfl
 ·have hd:decide ((i:Int) < l.length)=false:=decide_eq_false (by omega)
  (repeat first|apply zSeq|apply zReg|refine zExt ?_|refine wN ?_|refine wA ?_|refine wL ?_|refine wE ?_)
  refine WP.ret ⟨.inr rfl,_,rfl,?_,rfl⟩
  rw [idxI_none (p:=fun x:ByteArray=>s.data.toList==x.data.toList) fun j hj=>hn j hj (by omega)];rfl
theorem containsStr_c (hO:NoO O) {A:Av}{v:Value}{l:List ByteArray} (hv:Els 1 StrR A H v l) (hL:l.length≤1000000) (s:ByteArray) :
  Lc V O F_slices_Contains_s_string_string [v,.string s] H (.bool (For.has l s)) H:=by
 refine Lc.of_eq (Lc.slices_Contains_s_string_string (R:=fun u H'=>u=.bool (For.has l s)∧H'=H) (hO _ _ _ (by decide)) (Nat.le_of_ble_eq_true rfl) (by kernel_rfl) ?_)
 unfold P_slices_Contains_s_string_string
 have hc:=indexStr_c hO hv hL s
 (repeat first|apply zSeq|apply zReg|refine wN ?_|refine wG ?_|refine wA ?_)
 refine WL.call rfl rfl is_slices_Index_s_string_string hc ?_
 (repeat first|refine wN ?_|refine zGeq rfl rfl ?_)
 refine WP.ret ⟨.inr rfl,_,rfl,?_,rfl⟩
 rw [For.has,← idxI_any];rfl
theorem name_c (hO:NoO O) (hK:KnL O) (hg:GN H) (s:ByteArray):Lc V O F_tree_Name [.string s] H (.bool (For.nameB s)) H:=by
 refine Lc.of_eq (Lc.tree_Name (R:=fun u H'=>u=.bool (For.nameB s)∧H'=H) (hO _ _ _ (by decide)) (Nat.le_of_ble_eq_true rfl) (by kernel_rfl) ?_)
 unfold P_tree_Name
 have hc:=containsStr_c hO hg.els (by decide) s
 cases c1:s.data.toList==[]
 case true=>
  (repeat first|apply zSeq|apply zReg|refine wN ?_|refine wG ?_|refine zOff rfl rfl ?_|refine zU rfl ?_|refine wF ?_|refine wA ?_|refine zPT rfl rfl rfl ?_|refine wP ?_|refine zEqS rfl rfl ?_|refine zT rfl rfl ?_)
  exact WP.ret ⟨.inr rfl,_,rfl,by unfold For.nameB;rw [c1];rfl,rfl⟩
 cases c2:decide ((s.size:Int) > 32)
 case true=>
  (repeat first|apply zSeq|apply zReg|refine wN ?_|refine wG ?_|refine zOff rfl rfl ?_|refine zU rfl ?_|refine wO ?_|refine wF ?_|refine wM ?_|refine wA ?_|refine zPT rfl rfl rfl ?_|refine wP ?_|refine wR ?_|refine zGtr rfl rfl ?_|refine zLenS rfl E_string ?_|refine zEqS rfl rfl ?_|refine zT rfl rfl ?_)
  exact WP.ret ⟨.inr rfl,_,rfl,by unfold For.nameB;rw [c1,c2];rfl,rfl⟩
 cases c3:For.has For.resv s
 case true=>
  rw [c3] at hc
  (repeat first|apply zSeq|apply zReg|refine wN ?_|refine wG ?_|refine wO ?_|refine wM ?_|refine wA ?_|refine wR ?_|refine zGtr rfl rfl ?_|refine zLenS rfl E_string ?_|refine zEqS rfl rfl ?_)
  refine WL.op slice_resv ?_
  (repeat first|refine wO ?_|refine wM ?_)
  refine WL.call rfl rfl is_slices_Contains_s_string_string hc ?_
  (repeat first|apply zSeq|apply zReg|refine wN ?_|refine zOff rfl rfl ?_|refine zU rfl ?_|refine wA ?_|refine zPT rfl rfl rfl ?_|refine wR ?_|refine zT rfl rfl ?_)
  exact WP.ret ⟨.inr rfl,_,rfl,by unfold For.nameB;rw [c1,c2,c3];rfl,rfl⟩
 rw [c3] at hc
 obtain ⟨b0,t,hbt⟩:∃ b t,s.data.toList=b::t:=by
  cases e:s.data.toList with
  | nil=>rw [e] at c1;cases c1
  | cons b t=>exact ⟨b,t,rfl⟩
 have hx:s.data.toList[(0:Int).toNat]?=some b0:=by rw [hbt];rfl
 have hd:For.byte0 s=(b0.toNat:Int):=by unfold For.byte0;rw [hbt];rfl
 have fin:For.digit (For.byte0 s)=false→For.nameB s=s.data.toList.all (For.marks.data.toList.contains ·):=fun h=>by unfold For.nameB;rw [c1,c2,c3,h];rfl
 have out:For.digit (For.byte0 s)=true→For.nameB s=false:=fun h=>by unfold For.nameB;rw [c1,c2,c3,h];rfl
 have hs:s.size≤32:=by have:=of_decide_eq_false c2;omega
 have ht:Lc V O 88 [.string s,.string For.marks] H (.string ⟨(Lib.trimS s.data.toList For.marks.data.toList).toArray⟩) H:=.orc (hK.trim (.made (by omega) (by decide) marks_ascii))
 have he:((⟨(Lib.trimS s.data.toList For.marks.data.toList).toArray⟩:ByteArray).data.toList==[])=s.data.toList.all (For.marks.data.toList.contains ·):=by
  have h1:=trimS_nil s.data.toList For.marks.data.toList
  rw [Bool.eq_iff_iff,← h1]
  simp
 rw [hd] at fin out
 cases c4:decide ((b0.toNat:Int)≥48)
 ·(repeat first|apply zSeq|apply zReg|refine wN ?_|refine wG ?_|refine wO ?_|refine wM ?_|refine wA ?_|refine wR ?_|refine zGtr rfl rfl ?_|refine zLenS rfl E_string ?_|refine zEqS rfl rfl ?_)
  refine WL.op slice_resv ?_
  (repeat first|refine wO ?_|refine wM ?_)
  refine WL.call rfl rfl is_slices_Contains_s_string_string hc ?_
  (repeat first|refine zOn rfl rfl ?_|refine wM ?_|refine wR ?_)
  refine WL.op (op_indexS rfl rfl E_string (by decide) hx) ?_
  (repeat first|apply zSeq|apply zReg|apply zSkp|refine wN ?_|refine wG ?_|refine zOn rfl rfl ?_|refine wF ?_|refine wM ?_|refine zPF rfl rfl rfl ?_|refine wR ?_|refine zGeq rfl rfl ?_|refine zF rfl rfl ?_)
  refine WL.call rfl rfl (by rw [fn_Trim];rfl) ht ?_
  (repeat first|refine wN ?_|refine zEqS rfl rfl ?_)
  exact WP.ret ⟨.inr rfl,_,rfl,by rw [fin (by unfold For.digit;rw [c4];rfl),← he];rfl,rfl⟩
 cases c5:decide ((b0.toNat:Int)≤57)
 ·(repeat first|apply zSeq|apply zReg|refine wN ?_|refine wG ?_|refine wO ?_|refine wM ?_|refine wA ?_|refine wR ?_|refine zGtr rfl rfl ?_|refine zLenS rfl E_string ?_|refine zEqS rfl rfl ?_)
  refine WL.op slice_resv ?_
  (repeat first|refine wO ?_|refine wM ?_)
  refine WL.call rfl rfl is_slices_Contains_s_string_string hc ?_
  (repeat first|refine zOn rfl rfl ?_|refine wM ?_|refine wR ?_)
  refine WL.op (op_indexS rfl rfl E_string (by decide) hx) ?_
  (repeat first|refine zOn rfl rfl ?_|refine wO ?_|refine wM ?_|refine zGeq rfl rfl ?_)
  refine WL.op (op_indexS rfl rfl E_string (by decide) hx) ?_
  (repeat first|apply zSeq|apply zReg|apply zSkp|refine wN ?_|refine wG ?_|refine zOn rfl rfl ?_|refine wO ?_|refine zPF rfl rfl rfl ?_|refine wP ?_|refine zLeq rfl rfl ?_|refine wE ?_)
  refine WL.call rfl rfl (by rw [fn_Trim];rfl) ht ?_
  (repeat first|refine wN ?_|refine zEqS rfl rfl ?_)
  exact WP.ret ⟨.inr rfl,_,rfl,by rw [fin (by unfold For.digit;rw [c4,c5];rfl),← he];rfl,rfl⟩
 ·(repeat first|apply zSeq|apply zReg|refine wN ?_|refine wG ?_|refine wO ?_|refine wM ?_|refine wA ?_|refine wR ?_|refine zGtr rfl rfl ?_|refine zLenS rfl E_string ?_|refine zEqS rfl rfl ?_)
  refine WL.op slice_resv ?_
  (repeat first|refine wO ?_|refine wM ?_)
  refine WL.call rfl rfl is_slices_Contains_s_string_string hc ?_
  (repeat first|refine zOn rfl rfl ?_|refine wM ?_|refine wR ?_)
  refine WL.op (op_indexS rfl rfl E_string (by decide) hx) ?_
  (repeat first|refine zOn rfl rfl ?_|refine wO ?_|refine wM ?_|refine zGeq rfl rfl ?_)
  refine WL.op (op_indexS rfl rfl E_string (by decide) hx) ?_
  (repeat first|apply zSeq|apply zReg|refine wN ?_|refine zOn rfl rfl ?_|refine wO ?_|refine wA ?_|refine zPF rfl rfl rfl ?_|refine wP ?_|refine zLeq rfl rfl ?_|refine wT ?_)
  exact WP.ret ⟨.inr rfl,_,rfl,by rw [out (by unfold For.digit;rw [c4,c5];rfl)];rfl,rfl⟩
theorem namedQ1_c (hO:NoO O) (hK:KnL O) (hg:GN H) (s:ByteArray):Lc V O F_code_named_q1 [.string s] H (.bool (!For.nameB s)) H:=by
 refine Lc.of_eq (Lc.code_named_q1 (R:=fun u H'=>u=.bool (!For.nameB s)∧H'=H) (hO _ _ _ (by decide)) (Nat.le_of_ble_eq_true rfl) (by kernel_rfl) ?_)
 unfold P_code_named_q1
 have hc:=name_c hO hK hg s
 (repeat first|apply zSeq|apply zReg|refine wN ?_|refine wG ?_|refine wA ?_)
 refine WL.call rfl rfl is_tree_Name hc ?_
 (repeat first|refine wN ?_|refine zNot rfl ?_)
 exact WP.ret ⟨.inr rfl,_,rfl,rfl,rfl⟩
end Go.Proofs.YtogomfblfpfjhaaGreatDoor.U
