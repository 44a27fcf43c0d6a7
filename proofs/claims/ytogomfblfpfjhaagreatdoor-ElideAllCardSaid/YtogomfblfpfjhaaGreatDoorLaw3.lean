/-
  Contracts of code: the names of a program.
-/
import Derived.Test.YtogomfblfpfjhaaGreatDoorLaw2
import Derived.Test.YtogomfblfpfjhaaGreatDoorEv6
set_option linter.all false
namespace Go.Ev
theorem chunk1 {cs:List Value}{i:Nat}{x:Value} (h:(cs.drop (i * 1)).take 1=[x]):cs[i]?=some x:=by
 have:=congrArg (·[0]?) h
 simpa using this
theorem OwR.strs {e:TypeId}{B:Av}{H:AH}{n0:Nat}{v:Value}{xs:List ByteArray}{o:Option (Nat×Nat)} (h:OwR e 1 StrR B H n0 v xs o):Ow H n0 e 1 v xs.length (strs xs) o:=by
 obtain ⟨cs,h1,h2⟩:=h
 have hl:=h1.1
 have:cs=Ev.strs xs:=by
  apply List.ext_getElem?
  intro i
  by_cases hi:i < xs.length
  ·have h3:(cs.drop (i * 1)).take 1=[.string xs[i]]:=h2 i hi
   rw [chunk1 h3]
   simp [Ev.strs,hi]
  ·rw [List.getElem?_eq_none (by omega),List.getElem?_eq_none (by simp [Ev.strs];omega)]
 rw [← this];exact h1
theorem bL_lB (l:List (List UInt8)):bL (lB l)=l:=by
 unfold bL lB
 rw [List.map_map]
 have:((fun s:ByteArray=>s.data.toList) ∘ fun z:List UInt8=>(⟨z.toArray⟩:ByteArray))=id:=by funext z;simp
 rw [this,List.map_id]
theorem lB_bL (l:List ByteArray):lB (bL l)=l:=by
 unfold bL lB
 rw [List.map_map]
 have:((fun z:List UInt8=>(⟨z.toArray⟩:ByteArray)) ∘ fun s:ByteArray=>s.data.toList)=id:=by funext s;simp
 rw [this,List.map_id]
theorem srt_all (l:List ByteArray) (p:ByteArray→Bool):(lB (srt (bL l))).any p=l.any p:=by
 have h1:(lB (srt (bL l))).Perm l:=by
  have:=(srt_perm (bL l)).map fun z:List UInt8=>(⟨z.toArray⟩:ByteArray)
  have e:(bL l).map (fun z:List UInt8=>(⟨z.toArray⟩:ByteArray))=l:=lB_bL l
  rw [e] at this;exact this
 rw [Bool.eq_iff_iff,List.any_eq_true,List.any_eq_true]
 exact ⟨fun ⟨x,hx,hp⟩=>⟨x,h1.mem_iff.1 hx,hp⟩,fun ⟨x,hx,hp⟩=>⟨x,h1.mem_iff.2 hx,hp⟩⟩
theorem strs_one (l:List ByteArray):(strs l).all Value.oneCell'=true:=by
 rw [List.all_eq_true];intro x hx
 obtain ⟨m,_,rfl⟩:=List.mem_map.1 hx;rfl
theorem StrR.one {A:Av}{H:AH}{cs:List Value}{a:ByteArray} (h:StrR A H cs a):cs.all Value.oneCell'=true∧cs.length=1:=by
 have h:cs=[.string a]:=h
 subst h;exact ⟨rfl,rfl⟩
theorem MemR.one {A:Av}{H:AH}{cs:List Value}{a:Mem} (h:MemR A H cs a):cs.all Value.oneCell'=true∧cs.length=3:=by
 have h:cs=[.string a.name,.int .i64 a.size,.int .i64 a.first]:=h
 subst h;exact ⟨rfl,rfl⟩
theorem FunR.one {A:Av}{H:AH}{cs:List Value}{a:Fun} (h:FunR A H cs a):cs.all Value.oneCell'=true∧cs.length=5:=by
 obtain ⟨vc,rfl,h⟩:=h
 have:=h.oneCell
 simp [Fun.cells,Value.oneCell'] at this ⊢
 exact this
theorem GraphR.one {A:Av}{H:AH}{cs:List Value}{a:Graph} (h:GraphR A H cs a):cs.all Value.oneCell'=true∧cs.length=5:=by
 obtain ⟨vc,rfl,h⟩:=h
 have:=h.oneCell
 simp [Value.oneCell'] at this ⊢
 exact this
end Go.Ev
namespace Go.Proofs.YtogomfblfpfjhaaGreatDoor.U
open Go Go.Ev
attribute [local irreducible] WL WP WH W
theorem nil_nilS:aBin V.P V.E .eql 23 (.tmp 0) (.const (.slice none 0 0)) (.slice none 0 0) (.slice none 0 0)=some (.bool true):=by kernel_rfl
theorem fillStr {s:ByteArray}:afill (fun i=>some (i * TI.size ⟨.string,1,16,.string ⟨⟨[]⟩⟩⟩,TI.size ⟨.string,1,16,.string ⟨⟨[]⟩⟩⟩)) (azeros (TI.zv ⟨.string,1,16,.string ⟨⟨[]⟩⟩⟩).cells.toList 1) [(0,.string s)]=some [.string s]:=by rfl
theorem zeroMem:te_Mem.zv.cells.toList=[.string ⟨⟨[]⟩⟩,.int .i64 0,.int .i64 0]:=by kernel_rfl
theorem zeroFun:te_Fun.zv.cells.toList=[.string ⟨⟨[]⟩⟩,.bool false,.int .i64 0,.int .i64 0,.slice none 0 0]:=by kernel_rfl
attribute [local irreducible] V
variable {O:Orc}{H:AH}
theorem op_eqNilS {g:Ft}{x y:Operand}{b off n c:Nat} (hx:g x=some (.slice (some ⟨b,off,none⟩) n c)) (hy:g y=some (.slice none 0 0)):aopG V g H (.binOp .eql 23 x y 23)=some (.bool false,H):=by
 simp only [aopG,hx,hy,aBin,E_s_string,nilRes,Option.map_some]
theorem op_nilNilS {g:Ft} (hx:g (.tmp 0)=some (.slice none 0 0)) (hy:g (.const (.slice none 0 0))=some (.slice none 0 0)):aopG V g H (.binOp .eql 23 (.tmp 0) (.const (.slice none 0 0)) 23)=some (.bool true,H):=by
 simp only [aopG,hx,hy,nil_nilS,Option.map_some]
theorem cloneStr_c (hO:NoO O) {A:Av}{v:Value}{l:List ByteArray} (hv:Sr A H v 1 l.length (strs l)) (hL:l.length≤100000) :
  ∃ u H',Lc V O F_slices_Clone_s_string_string [v] H u H'∧(Fr H H'∧(v=.slice none 0 0→u=.slice none 0 0)∧∃ o,OwE H' H.next 9 1 u l.length (strs l) o):=by
 refine Lc.slices_Clone_s_string_string (R:=fun u H'=>Fr H H'∧(v=.slice none 0 0→u=.slice none 0 0)∧∃ o,OwE H' H.next 9 1 u l.length (strs l) o) (hO _ _ _ (by decide)) (Nat.le_of_ble_eq_true rfl) (by kernel_rfl) ?_
 unfold P_slices_Clone_s_string_string
 obtain ⟨hc,⟨rfl,hn⟩|⟨b,off,cap,rfl,hr⟩⟩:=hv
 ·have hl:l=[]:=List.length_eq_zero_iff.1 hn
  subst hl
  (repeat first|apply zSeq|apply zReg|refine wN ?_|refine wG ?_|refine wA ?_)
  refine WL.op (op_nilNilS rfl rfl) ?_
  (repeat first|apply zSeq|apply zReg|refine wN ?_|refine wA ?_|refine zT rfl rfl ?_)
  exact WP.ret ⟨.inr rfl,_,rfl,.refl _,fun _=>rfl,none,.inl .nil⟩
 ·have hv:Sr A H (.slice (some ⟨b,off,none⟩) l.length cap) 1 l.length (strs l):=⟨hc,.inr ⟨b,off,cap,rfl,hr⟩⟩
  have f5:=Fr.alloc H (.row 9 [] .exact 0 0)
  have w5:OwE (H.alloc (.row 9 [] .exact 0 0)) H.next 9 1 (.slice (some ⟨H.next,0,none⟩) 0 0) 0 [] (some (H.next,H.next)):=.new (Nat.le_refl _)
  obtain ⟨v',H',o',k1,k2,k3,k4⟩:=w5.appSl (V:=V) ((hv.fr f5).sl (by omega)) (by decide) (bytes:=16) (by omega) (by omega) f5.1 (strs_one l) E_s_string E_s_string E_string rfl rfl
  rw [Nat.zero_add,List.nil_append] at k2
  (repeat first|apply zSeq|apply zReg|refine wN ?_|refine wG ?_|refine wA ?_)
  refine WL.op (op_eqNilS rfl rfl) ?_
  (repeat first|apply zSeq|apply zReg|apply zSkp|refine wN ?_|refine zF rfl rfl ?_)
  refine WL.op (op_buildSlice rfl E_s_string E_string (by decide) rfl) ?_
  (repeat first|refine wG ?_)
  refine WL.op (k1 rfl rfl) ?_
  (repeat first|refine wN ?_)
  exact WP.ret ⟨.inr rfl,_,rfl,f5.young k3 w5.young.1 w5.young.2.1,(fun e=>by cases e),o',k2⟩
structure SmallP (p:Prog):Prop where
 mems:p.mems.length≤10000
 locks:p.locks.length≤10000
 funs:p.funs.length≤10000
structure PrR (A:Av) (H:AH) (vm vl vf:Value) (p:Prog):Prop where
 m:Els 3 MemR A H vm p.mems
 l:Els 1 StrR A H vl p.locks
 f:Els 5 FunR A H vf p.funs
theorem PrR.fr {A:Av}{H H':AH}{vm vl vf:Value}{p:Prog} (h:PrR A H vm vl vf p) (k:Fr H H'):PrR A H' vm vl vf p:=⟨h.m.fr MemR.m k,h.l.fr StrR.m k,h.f.fr FunR.m k⟩
theorem PrR.one {A:Av}{H:AH}{vm vl vf:Value}{p:Prog} (h:PrR A H vm vl vf p):(Value.agg #[vm,vl,vf]).cells.toList.all Value.oneCell'=true:=by
 simp [Value.cells,h.m.oneCell,h.l.oneCell,h.f.oneCell]
set_option maxHeartbeats 2000000 in
theorem named_c (hO:NoO O) (hK:KnL O) (hg:GN H) {A:Av}{p:Prog}{vm vl vf:Value} (hp:PrR A H vm vl vf p) (hs:SmallP p) :
  ∃ u H',Lc V O F_code_named [.agg #[vm,vl,vf]] H u H'∧(u=.bool (For.named p)∧Fr H H'):=by
 refine Lc.code_named (R:=fun u H'=>u=.bool (For.named p)∧Fr H H') (hO _ _ _ (by decide)) (Nat.le_of_ble_eq_true rfl) (by kernel_rfl) ?_
 unfold P_code_named
 have hsm:=hs.mems
 have hsl:=hs.locks
 have hsf:=hs.funs
 apply zSeq
 apply zReg
 refine zBox rfl (fun _=>rfl) fun H1 f1 b1 n1=>?_
 have b1':Bx H1 H.next 56 [vm,vl,vf]:=b1
 clear b1
 have hpm:=hp.m.len (V:=V) (H2:=H1) E_s_api_Mem
 (repeat first|refine wN ?_|refine wA ?_)
 apply zSeq
 (repeat first|apply zReg|refine wN ?_|refine wA ?_)
 refine WP.seqS (σ:=Value×Option (Nat×Nat)) (fun x=>[(1,.pointer (some ⟨H.next,0,none⟩)),(3,x.1)]) (fun x Hc=>Fr H1 Hc∧OwR 9 1 StrR .no Hc H1.next x.1 (p.mems.map Mem.name) x.2) ?_ ?_
 ·have hlen1:=fun Hz=>hp.m.len (V:=V) (H2:=Hz) E_s_api_Mem
  (repeat first|apply zSeq|apply zReg|apply zBlk|refine wN ?_|refine wM ?_|refine zFld rfl O_Prog_Mems ?_|refine wB E_s_api_Mem ?_|refine zLen rfl (hlen1 _) ?_)
  refine WP.loopH (σ:=Nat×Value×Option (Nat×Nat)) (fun x=>[(1,.pointer (some ⟨H.next,0,none⟩)),(3,x.2.1),(9,vm),(10,.int .i64 p.mems.length),(11,.int .i64 x.1)]) (fun x Hc=>Fr H1 Hc∧OwR 9 1 StrR .no Hc H1.next x.2.1 ((p.mems.take x.1).map Mem.name) x.2.2∧x.1≤p.mems.length) (fun x=>p.mems.length - x.1) (0,.slice none 0 0,none) ⟨.refl _,.nil,Nat.zero_le _⟩ ⟨rfl,rfl,rfl,rfl,rfl,trivial⟩ ?_
  rintro ⟨k,bv,o⟩ Hc ⟨hfr,how,hk⟩
  simp only at hfr how hk ⊢
  rcases Nat.lt_or_ge k p.mems.length with h|h
  case inr=>
   have g1:decide ((k:Int) < p.mems.length)=false:=decide_eq_false (by omega)
   rw [List.take_of_length_le h] at how
   (repeat first|apply zSeq|apply zReg|refine zExt ?_|refine wN ?_|refine wL ?_|refine wE ?_)
   exact ⟨(bv,o),⟨hfr,how⟩,rfl,rfl,trivial⟩
  have g1:decide ((k:Int) < p.mems.length)=true:=decide_eq_true (by omega)
  obtain ⟨b,off,cs,ha1,hrd,hR⟩:=(hp.m.fr MemR.m (f1.trans hfr)).at E_s_api_Mem E_Mem te_Mem_size (kd:=.i64) h
  have hR:cs=[.string p.mems[k].name,.int .i64 p.mems[k].size,.int .i64 p.mems[k].first]:=hR
  subst hR
  have hl1:=hrd.loadN (V:=V) E_Mem te_Mem_agg te_Mem_size
  (repeat first|apply zSeq|apply zReg|apply zBlk|apply zSkp|refine wN ?_|refine wL ?_|refine wT ?_|refine wI ?_|refine zLd rfl ‹_› ?_)
  refine zAlc E_Mem zeroMem fun H2 f2 b2 n2=>?_
  refine zStB b2 rfl rfl E_Mem (by rw [te_Mem_size];rfl) rfl (by simp [Value.cells]) (by simp [Value.cells]) fun H3 f3 b3 n3=>?_
  have b3':Bx H3 Hc.next 50 [.string p.mems[k].name,.int .i64 p.mems[k].size,.int .i64 p.mems[k].first]:=b3
  have f23:Fr Hc H3:=f2.young f3 (by simp) (by simp)
  have how3:=how.fr StrR.m f23
  have hn:=hfr.1
  have hn3:=f23.1
  obtain ⟨bv',H4,o',k1,k2,k3,k4,k5⟩:=how3.app1 (V:=V) (x:=p.mems[k].name) (cx:=[.string p.mems[k].name]) StrR.m .no rfl StrR.one (by decide) (bytes:=16) (by rw [List.length_map,List.length_take];omega) (by rw [List.length_map,List.length_take];omega) (by omega) E_s_string E_s_string E_string rfl rfl
  have hyo:=how.young
  (repeat first|apply zReg|refine wN ?_|refine wG ?_|refine zFld rfl O_Mem_Name ?_|refine wB E_string ?_)
  refine WL.op (op_buildSlice rfl E_s_string E_string (by decide) fillStr) ?_
  refine WL.op (k1 rfl rfl) ?_
  (repeat first|apply zReg|refine wN ?_|refine zAdd rfl rfl (by omega) ?_)
  exact ⟨(k+1,bv',o'),⟨(hfr.trans f23).young k3 hyo.1 hyo.2.1,by rw [List.take_succ_eq_append_getElem h,List.map_append];exact k2,h⟩,by simp only;omega,rfl,rfl,rfl,rfl,rfl,trivial⟩
 rintro ⟨bv,o⟩ H2 ⟨f2,how⟩
 simp only at f2 how ⊢
 have hyo:=how.young
 have hn2:=f2.1
 have f02:=f1.trans f2
 have b2':=b1'.fr f2
 have hl2:Els 1 StrR (Av.no.and (.of o)) H2 vl p.locks:=(hp.l.gr StrR.m (B:=Av.no.and (.of o)) ⟨fun b hb=>.inr (by simp [Av.and,Av.no,Av.of] at hb;have:=hyo.1 b hb;omega),fun b hb=>.inr (by simp [Av.and,Av.no,Av.of] at hb;have:=hyo.2.1 b hb;omega)⟩).fr StrR.m f02
 obtain ⟨bv',H3,o',k1,k2,k3,k4⟩:=how.app (V:=V) StrR.m hl2 (fun hr=>(StrR.one hr).1) (by decide) (bytes:=16) (by rw [List.length_map];omega) (by rw [List.length_map];omega) (by omega) E_s_string E_s_string E_string rfl rfl
 have f03:Fr H H3:=f02.young k3 (fun b hb=>by have:=hyo.1 b hb;omega) (fun b hb=>by have:=hyo.2.1 b hb;omega)
 have f13:Fr H1 H3:=f2.young k3 (fun b hb=>by have:=hyo.1 b hb;omega) (fun b hb=>by have:=hyo.2.1 b hb;omega)
 have b3':=b1'.fr f13
 have hn3:=f13.1
 clear k3 k4 how hyo hl2
 (repeat first|apply zSeq|apply zReg|refine wG ?_|refine zFld rfl O_Prog_Locks ?_|refine wB E_s_string ?_)
 refine WL.op (k1 rfl rfl) ?_
 clear k1
 (repeat first|refine wN ?_)
 refine WP.seqS (σ:=Value×Option (Nat×Nat)) (fun x=>[(1,.pointer (some ⟨H.next,0,none⟩)),(3,x.1)]) (fun x Hc=>Fr H1 Hc∧OwR 9 1 StrR .no Hc H1.next x.1 (For.namesOf p) x.2) ?_ ?_
 ·have hlen1:=fun Hz=>hp.f.len (V:=V) (H2:=Hz) E_s_api_Fun
  (repeat first|apply zSeq|apply zReg|apply zBlk|refine wN ?_|refine wM ?_|refine zFld rfl O_Prog_Funs ?_|refine wB E_s_api_Fun ?_|refine zLen rfl (hlen1 _) ?_)
  refine WP.loopH (σ:=Nat×Value×Option (Nat×Nat)) (fun x=>[(1,.pointer (some ⟨H.next,0,none⟩)),(3,x.2.1),(26,vf),(27,.int .i64 p.funs.length),(28,.int .i64 x.1)]) (fun x Hc=>Fr H1 Hc∧OwR 9 1 StrR .no Hc H1.next x.2.1 (p.mems.map Mem.name++p.locks++(p.funs.take x.1).map Fun.name) x.2.2∧x.1≤p.funs.length) (fun x=>p.funs.length - x.1) (0,bv',o') ⟨f13,by rw [List.take_zero,List.map_nil,List.append_nil];exact k2,Nat.zero_le _⟩ ⟨rfl,rfl,rfl,rfl,rfl,trivial⟩ ?_
  clear k2 f13 f03 b3' hn3 bv' o'
  rintro ⟨k,bv,o⟩ Hc ⟨hfr,how,hk⟩
  simp only at hfr how hk ⊢
  rcases Nat.lt_or_ge k p.funs.length with h|h
  case inr=>
   have g1:decide ((k:Int) < p.funs.length)=false:=decide_eq_false (by omega)
   rw [List.take_of_length_le h] at how
   (repeat first|apply zSeq|apply zReg|refine zExt ?_|refine wN ?_|refine wL ?_|refine wE ?_)
   exact ⟨(bv,o),⟨hfr,how⟩,rfl,rfl,trivial⟩
  have g1:decide ((k:Int) < p.funs.length)=true:=decide_eq_true (by omega)
  obtain ⟨b,off,cs,ha1,hrd,vc,rfl,hcode⟩:=(hp.f.fr FunR.m (f1.trans hfr)).at E_s_api_Fun E_Fun te_Fun_size (kd:=.i64) h
  have hl1:=hrd.loadN (V:=V) E_Fun te_Fun_agg te_Fun_size
  have hv1:=hcode.oneCell
  (repeat first|apply zSeq|apply zReg|apply zBlk|apply zSkp|refine wN ?_|refine wL ?_|refine wT ?_|refine wI ?_|refine zLd rfl ‹_› ?_)
  refine zAlc E_Fun zeroFun fun H4 f4 b4 n4=>?_
  refine zStB b4 rfl rfl E_Fun (by rw [te_Fun_size];rfl) (by simp [Value.cells,Fun.cells,Value.oneCell'] at hv1 ⊢;exact hv1) (by simp [Value.cells,Fun.cells]) (by simp [Value.cells,Fun.cells]) fun H5 f5 b5 n5=>?_
  have b5':Bx H5 Hc.next 59 (p.funs[k].cells vc):=b5
  have f45:Fr Hc H5:=f4.young f5 (by simp) (by simp)
  have how5:=how.fr StrR.m f45
  have hn:=hfr.1
  have hn5:=f45.1
  obtain ⟨bv',H6,o',k1,k2,k3,k4,k5⟩:=how5.app1 (V:=V) (x:=p.funs[k].name) (cx:=[.string p.funs[k].name]) StrR.m .no rfl StrR.one (by decide) (bytes:=16) (by simp;omega) (by simp;omega) (by omega) E_s_string E_s_string E_string rfl rfl
  have hyo:=how.young
  (repeat first|apply zReg|refine wN ?_|refine wG ?_|refine zFld rfl O_Fun_Name ?_|refine wB E_string ?_)
  refine WL.op (op_buildSlice rfl E_s_string E_string (by decide) fillStr) ?_
  refine WL.op (k1 rfl rfl) ?_
  (repeat first|apply zReg|refine wN ?_|refine zAdd rfl rfl (by omega) ?_)
  exact ⟨(k+1,bv',o'),⟨(hfr.trans f45).young k3 hyo.1 hyo.2.1,by rw [List.take_succ_eq_append_getElem h,List.map_append,← List.append_assoc];exact k2,h⟩,by simp only;omega,rfl,rfl,rfl,rfl,rfl,trivial⟩
 clear k2 f13 f03 b3' hn3 bv' o' f02 f2 b2' hn2
 rintro ⟨bv,o⟩ H2 ⟨f2,how⟩
 simp only at f2 how ⊢
 have hlen:(For.namesOf p).length≤30000:=by simp [For.namesOf];omega
 have how:=how.strs
 generalize hnm:For.namesOf p=nm at *
 have hyo:=how.young
 have f02:=f1.trans f2
 obtain ⟨H3,r3,how3,f3,n3⟩:=how.sortRel
 have f03:Fr H H3:=f02.young f3 (fun b hb=>by have:=hyo.1 b hb;have:=f1.1;omega) (fun b hb=>by have:=hyo.2.1 b hb;have:=f1.1;omega)
 have hs3:Lc V O F_slices_Sort_s_string_string [bv] H2 (.tuple #[]) H3:=.orc (hK.sort r3)
 clear r3 f3
 have hsl3:=how3.sl
 have hll:(lB (srt (bL nm))).length=nm.length:=by rw [lB_length,srt_length,bL_length]
 rw [← hll] at how3 hsl3
 have hlen1:=fun Hz=>hsl3.sr.len (V:=V) (H2:=Hz) E_s_string
 have hyo3:=how3.young
 (repeat first|apply zSeq|apply zReg|refine wG ?_)
 refine WL.call rfl rfl is_slices_Sort_s_string_string hs3 ?_
 (repeat first|apply zSeq|apply zReg|refine wN ?_|refine wG ?_|refine zLeq rfl rfl ?_|refine zLen rfl (hlen1 _) ?_)
 cases c1:decide (((lB (srt (bL nm))).length:Int)≤256)
 ·(repeat first|refine wN ?_|refine zOff rfl rfl ?_|refine zPF rfl rfl rfl ?_)
  refine WP.ret ⟨.inr rfl,_,rfl,?_,f03⟩
  have:decide (nm.length≤256)=false:=decide_eq_false (by have:=of_decide_eq_false c1;omega)
  unfold For.named;rw [hnm,this];rfl
 have c1':decide (nm.length≤256)=true:=decide_eq_true (by have:=of_decide_eq_true c1;omega)
 obtain ⟨u4,H4,hc4,f4,hu4,o4,how4⟩:=cloneStr_c (H:=H3) hO (hsl3.sr) (by omega)
 have f04:=f03.trans f4
 have how4':Ow H4 H3.next 9 1 u4 (lB (srt (bL nm))).length (strs (lB (srt (bL nm)))) (if (lB (srt (bL nm)))=[] then none else o4):=by
  by_cases e:lB (srt (bL nm))=[]
  ·rw [if_pos e]
   have e0:(lB (srt (bL nm))).length=0:=by rw [e];rfl
   rw [e0] at how3
   rw [hu4 how3.isNil,e]
   exact .nil
  ·rw [if_neg e]
   exact how4.ow (List.length_pos_iff.2 e)
 obtain ⟨a5,c5,H5,r5,f5,n5⟩:=how4'.compRel
 have hy4:=how4'.young
 have f05:Fr H H5:=f04.young f5 (fun b hb=>by have:=hy4.1 b hb;have:=f03.1;omega) (fun b hb=>by have:=hy4.2.1 b hb;have:=f03.1;omega)
 have f35:Fr H3 H5:=f4.young f5 hy4.1 hy4.2.1
 have hs5:Lc V O F_slices_Compact_s_string_string [u4] H4 (.slice a5 (Lib.compact (bL (lB (srt (bL nm))))).length c5) H5:=.orc (hK.comp r5)
 rw [bL_lB] at hs5
 have hlen2:∀ Hz,aLen V.E Hz 23 (.slice a5 (Lib.compact (srt (bL nm))).length c5)=some (.int .i64 (Lib.compact (srt (bL nm))).length):=fun Hz=>by simp only [aLen,E_s_string]
 have hnd:(((Lib.compact (srt (bL nm))).length:Int)==((lB (srt (bL nm))).length:Int))=decide (bL nm).Nodup:=by
  rw [Bool.eq_iff_iff,beq_iff_eq,decide_eq_true_eq,← compact_srt,hll,bL_length]
  omega
 cases c2:((Lib.compact (srt (bL nm))).length:Int)==((lB (srt (bL nm))).length:Int)
 ·(repeat first|refine zOn rfl rfl ?_|refine wM ?_)
  refine WL.call rfl rfl is_slices_Clone_s_string_string hc4 ?_
  (repeat first|refine zOn rfl rfl ?_)
  refine WL.call rfl rfl is_slices_Compact_s_string_string hs5 ?_
  (repeat first|refine wN ?_|refine zOn rfl rfl ?_|refine wF ?_|refine wM ?_|refine zPT rfl rfl rfl ?_|refine wR ?_|refine zEql rfl rfl ?_|refine zLen rfl (hlen1 _) ?_|refine zLen rfl (hlen2 _) ?_)
  refine WP.ret ⟨.inr rfl,_,rfl,?_,f05⟩
  rw [c2] at hnd
  unfold For.named;rw [hnm,c1',← hnd];rfl
 have hel:Els 1 StrR .no H5 bv (lB (srt (bL nm))):=strs_els (hsl3.sr.fr f35)
 obtain ⟨H6,hc6,f6⟩:=containsFunc_str_c (H:=H5) (f:=64) (cap:=#[]) (p:=fun s=>!For.nameB s) hO hel (by omega) (by rw [fn_code_named_q1];rfl) (fun x hx Hx fx=>⟨Hx,namedQ1_c hO hK (hg.fr (f05.trans fx)) x,.refl _⟩)
 (repeat first|refine zOn rfl rfl ?_|refine wM ?_)
 refine WL.call rfl rfl is_slices_Clone_s_string_string hc4 ?_
 (repeat first|refine zOn rfl rfl ?_)
 refine WL.call rfl rfl is_slices_Compact_s_string_string hs5 ?_
 (repeat first|refine zOn rfl rfl ?_|refine wO ?_|refine wM ?_|refine zPT rfl rfl rfl ?_|refine zEql rfl rfl ?_|refine zLen rfl (hlen1 _) ?_|refine zLen rfl (hlen2 _) ?_)
 refine WL.call rfl rfl is_slices_ContainsFunc_s_string_string hc6 ?_
 (repeat first|refine wN ?_|refine wO ?_|refine wP ?_|refine zNot rfl ?_)
 refine WP.ret ⟨.inr rfl,_,rfl,?_,f05.trans f6⟩
 rw [c2] at hnd
 unfold For.named
 rw [hnm,c1',← hnd,srt_all,any_not,Bool.not_not];rfl
end Go.Proofs.YtogomfblfpfjhaaGreatDoor.U
namespace Go.Ev
theorem byTF {P:Prop} (b:Bool) (ht:b=true→P) (hf:b=false→P):P:=by
 cases b
 ·exact hf rfl
 ·exact ht rfl
end Go.Ev
namespace Go.Proofs.YtogomfblfpfjhaaGreatDoor.U
open Go Go.Ev
attribute [local irreducible] WL WP WH W
attribute [local irreducible] V
variable {O:Orc}{H:AH}
structure SmallF (f:Fun):Prop where
 code:f.code.length≤1000000
 args:∀ i∈f.code,i.args.length≤100000
 op:∀ i∈f.code,0≤i.op∧i.op < 256
theorem threads_c (hO:NoO O) {A:Av}{p:Prog}{vm vl vf:Value} (hp:PrR A H vm vl vf p) (hs:SmallP p) :
  ∃ u H',Lc V O F_code_Threads [.agg #[vm,vl,vf]] H u H'∧((∀ Hz,aLen V.E Hz 27 u=some (.int .i64 (For.threads p).length))∧Fr H H'):=by
 refine Lc.code_Threads (R:=fun u H'=>(∀ Hz,aLen V.E Hz 27 u=some (.int .i64 (For.threads p).length))∧Fr H H') (hO _ _ _ (by decide)) (Nat.le_of_ble_eq_true rfl) (by kernel_rfl) ?_
 unfold P_code_Threads
 have hsf:=hs.funs
 apply zSeq
 apply zReg
 refine zBox rfl (fun _=>rfl) fun H1 f1 b1 n1=>?_
 have b1':Bx H1 H.next 56 [vm,vl,vf]:=b1
 clear b1
 have hlen1:=fun Hz=>hp.f.len (V:=V) (H2:=Hz) E_s_api_Fun
 let T:Nat→List Int:=fun k=>((List.range k).filter fun n=>match p.funs[n]? with|some f=>f.thread|none=>false).map fun n:Nat=>(n:Int)
 have T0:T 0=[]:=rfl
 have TL:(T p.funs.length).length=(For.threads p).length:=by simp only [T,List.length_map];rfl
 have Tle:∀ k,(T k).length≤k:=fun k=>by
  simp only [T,List.length_map]
  exact Nat.le_trans (List.length_filter_le _ _) (by simp)
 have TS:∀ k (h:k < p.funs.length),T (k+1)=T k++if p.funs[k].thread=true then [(k:Int)] else []:=fun k h=>by
  simp only [T]
  rw [List.range_succ,List.filter_append,List.map_append]
  congr 1
  rw [List.filter_cons,List.filter_nil,List.getElem?_eq_getElem h]
  simp only
  split <;> rfl
 generalize T=T at *
 (repeat first|apply zSeq|apply zReg|apply zBlk|refine wN ?_|refine wM ?_|refine wA ?_|refine zFld rfl O_Prog_Funs ?_|refine wB E_s_api_Fun ?_|refine zLen rfl (hlen1 _) ?_)
 refine WP.loopH (σ:=Nat×Value×Option (Nat×Nat)) (fun x=>[(1,.pointer (some ⟨H.next,0,none⟩)),(3,x.2.1),(7,vf),(8,.int .i64 p.funs.length),(9,.int .i64 x.1)]) (fun x Hc=>Fr H1 Hc∧OwI 3 Hc H1.next x.2.1 (T x.1) x.2.2∧x.1≤p.funs.length) (fun x=>p.funs.length - x.1) (0,.slice none 0 0,none) ⟨.refl _,by simp only;rw [T0];exact .nil,Nat.zero_le _⟩ ⟨rfl,rfl,rfl,rfl,rfl,trivial⟩ ?_
 rintro ⟨k,bv,o⟩ Hc ⟨hfr,how,hk⟩
 simp only at hfr how hk ⊢
 rcases Nat.lt_or_ge k p.funs.length with h|h
 case inr=>
  have g1:decide ((k:Int) < p.funs.length)=false:=decide_eq_false (by omega)
  obtain rfl:k=p.funs.length:=by omega
  (repeat first|apply zSeq|apply zReg|refine zExt ?_|refine wN ?_|refine wG ?_|refine wL ?_|refine wE ?_)
  refine WP.ret ⟨.inr rfl,_,rfl,fun Hz=>?_,f1.trans hfr⟩
  have:=how.sl.sr.len (V:=V) (H2:=Hz) E_s_int
  rw [TL] at this
  exact this
 have g1:decide ((k:Int) < p.funs.length)=true:=decide_eq_true (by omega)
 obtain ⟨b,off,cs,ha1,hrd,vc,rfl,hcode⟩:=(hp.f.fr FunR.m (f1.trans hfr)).at E_s_api_Fun E_Fun te_Fun_size (kd:=.i64) h
 have hl1:=hrd.loadN (V:=V) E_Fun te_Fun_agg te_Fun_size
 have hv1:=hcode.oneCell
 have hTS:=TS k h
 have hTl:=Tle k
 (repeat first|apply zSeq|apply zReg|apply zBlk|apply zSkp|refine wN ?_|refine wG ?_|refine wL ?_|refine wT ?_|refine wI ?_|refine zLd rfl ‹_› ?_)
 refine zAlc E_Fun zeroFun fun H4 f4 b4 n4=>?_
 refine zStB b4 rfl rfl E_Fun (by rw [te_Fun_size];rfl) (by simp [Value.cells,Fun.cells,Value.oneCell'] at hv1 ⊢;exact hv1) (by simp [Value.cells,Fun.cells]) (by simp [Value.cells,Fun.cells]) fun H5 f5 b5 n5=>?_
 have b5':Bx H5 Hc.next 59 (p.funs[k].cells vc):=b5
 have f45:Fr Hc H5:=f4.young f5 (by simp) (by simp)
 have how5:=how.fr f45
 have hn:=hfr.1
 have hn5:=f45.1
 cases t1:p.funs[k].thread
 ·rw [t1] at hTS
  (repeat first|apply zSeq|apply zReg|apply zSkp|refine wN ?_|refine zAdd rfl rfl (by omega) ?_|refine wE ?_|refine zFld rfl O_Fun_Thread ?_|refine wB E_bool ?_)
  exact ⟨(k+1,bv,o),⟨hfr.trans f45,by rw [hTS];simp only [Bool.false_eq_true,if_false,List.append_nil];exact how5,h⟩,by simp only;omega,rfl,rfl,rfl,rfl,rfl,trivial⟩
 ·rw [t1] at hTS
  obtain ⟨bv',H6,o',k1,k2,k3,k4⟩:=how5.app1 (V:=V) (k:Int) (by omega) (by omega) E_s_int E_s_int E_int (by decide)
  have hyo:=how.young
  (repeat first|apply zSeq|apply zReg|refine wN ?_|refine wG ?_|refine wT ?_|refine zFld rfl O_Fun_Thread ?_|refine wB E_bool ?_)
  refine WL.op (op_buildSlice rfl E_s_int E_int (by decide) fill_int) ?_
  refine WL.op (k1 rfl rfl) ?_
  (repeat first|apply zReg|refine wN ?_|refine zAdd rfl rfl (by omega) ?_)
  exact ⟨(k+1,bv',o'),⟨(hfr.trans f45).young k3 hyo.1 hyo.2.1,by rw [hTS];simp only [if_true];exact k2,h⟩,by simp only;omega,rfl,rfl,rfl,rfl,rfl,trivial⟩
theorem mayFunQ1_c (hO:NoO O) (hgh:GH H) {A B C:Av}{p:Prog}{f:Fun}{vm vl vf vc:Value}{b1 b2:Nat} (hp:PrR A H vm vl vf p) (hc:Els 6 InsR B H vc f.code) (h1:Bx H b1 56 [vm,vl,vf]) (h2:Bx H b2 59 (f.cells vc)) {i:Ins}{cs:List Value} (hR:InsR C H cs i) (hL:i.args.length≤100000) (hop:0≤i.op∧i.op < 256) :
  ∃ u H',Lc V O F_code_mayFun_q1 [.agg cs.toArray,.pointer (some ⟨b1,0,none⟩),.pointer (some ⟨b2,0,none⟩)] H u H'∧(u=.bool (!mayG p f i)∧Fr H H'):=by
 obtain ⟨va,rfl,hva⟩:=hR
 refine Lc.code_mayFun_q1 (R:=fun u H'=>u=.bool (!mayG p f i)∧Fr H H') (hO _ _ _ (by decide)) (Nat.le_of_ble_eq_true rfl) (by kernel_rfl) ?_
 unfold P_code_mayFun_q1
 apply zSeq
 apply zReg
 refine zBox rfl (fun _=>rfl) fun H1 f1 b3 n1=>?_
 have b3':Bx H1 H.next 41 (i.cells va):=b3
 obtain ⟨_,H2,hc2,rfl,f2⟩:=codeMayIns_c (H:=H1) hO (hgh.fr f1) (hp.fr f1).m (hp.fr f1).l (hp.fr f1).f (hc.fr InsR.m f1) (hva.fr f1) hL hop
 (repeat first|apply zSeq|apply zReg|refine wN ?_|refine wA ?_)
 refine zLd rfl ((h1.fr f1).ldN E_Prog te_Prog_agg (by rw [te_Prog_size];rfl)) ?_
 refine zLd rfl ((h2.fr f1).ldN E_Fun te_Fun_agg (by rw [te_Fun_size];rfl)) ?_
 refine zLd rfl (b3'.ldN E_Ins te_Ins_agg (by rw [te_Ins_size];rfl)) ?_
 refine WL.call rfl rfl is_code_mayIns hc2 ?_
 (repeat first|refine wN ?_|refine zNot rfl ?_)
 exact WP.ret ⟨.inr rfl,_,rfl,rfl,f1.trans f2⟩
set_option maxHeartbeats 4000000 in
theorem mayFun_c (hO:NoO O) (hgh:GH H) {A B:Av}{p:Prog}{f:Fun}{vm vl vf vc:Value} (hp:PrR A H vm vl vf p) (hc:Els 6 InsR B H vc f.code) (hs:SmallF f) :
    ∃ u H',Lc V O F_code_mayFun [.agg #[vm,vl,vf],.agg (f.cells vc).toArray] H u H'∧(u=.bool (For.mayFun mayG p f)∧Fr H H'):=by
  refine Lc.code_mayFun (R:=fun u H'=>u=.bool (For.mayFun mayG p f)∧Fr H H') (hO _ _ _ (by decide)) (Nat.le_of_ble_eq_true rfl) (by kernel_rfl) ?_
  unfold P_code_mayFun
  apply zSeq
  apply zReg
  refine zBox rfl (fun _=>rfl) fun H1 f1 b1 n1=>?_
  refine zBox rfl (fun _=>rfl) fun H2 f2 b2 n2=>?_
  have b1':Bx H2 H.next 56 [vm,vl,vf]:=b1.fr f2
  have b2':Bx H2 H1.next 59 (f.cells vc):=b2
  have b2c:Bx H2 H1.next 59 [.string f.name,.bool f.thread,.int .i64 f.params,.int .i64 f.regs,vc]:=b2
  have f12:=f1.trans f2
  have hc2:=hc.fr InsR.m f12
  have hlen1:=fun Hz=>hc.len (V:=V) (H2:=Hz) E_s_api_Ins
  clear b1 b2
  (repeat first|refine wN ?_|refine wA ?_)
  apply zSeq
  (repeat first|apply zReg|refine wN ?_|refine zFld rfl O_Fun_Code ?_|refine wB E_s_api_Ins ?_|refine zLen rfl (hlen1 _) ?_)
  have bad:For.oddF f=true→For.mayFun mayG p f=false:=fun h=>by unfold For.mayFun;rw [h];rfl
  refine WP.seqS (σ:=Unit) (fun _=>[(2,.pointer (some ⟨H.next,0,none⟩)),(3,.pointer (some ⟨H1.next,0,none⟩)),(5,.int .i64 f.code.length)]) (fun _ Hc=>Hc=H2∧For.oddF f=false) ?_ ?_
  · cases d1:decide (f.params < 0)
    case true =>
      have e:=bad (by unfold For.oddF;rw [d1];rfl)
      (repeat first|apply zSeq|apply zReg|refine wN ?_|refine zOff rfl rfl ?_|refine zU rfl ?_|refine wF ?_|refine wA ?_|refine zPT rfl rfl rfl ?_|refine wP ?_|refine wL ?_|refine zT rfl rfl ?_|refine zFld rfl O_Fun_Params ?_|refine wB E_int ?_)
      exact WP.ret ⟨.inr rfl,_,rfl,by rw [e];rfl,f12⟩
    cases d2:decide (f.params > 8)
    case true =>
      have e:=bad (by unfold For.oddF;rw [d1,d2];rfl)
      (repeat first|apply zSeq|apply zReg|refine wN ?_|refine zOff rfl rfl ?_|refine zU rfl ?_|refine wO ?_|refine wF ?_|refine wA ?_|refine zPT rfl rfl rfl ?_|refine wP ?_|refine wR ?_|refine wL ?_|refine zGtr rfl rfl ?_|refine zT rfl rfl ?_|refine zFld rfl O_Fun_Params ?_|refine wB E_int ?_)
      exact WP.ret ⟨.inr rfl,_,rfl,by rw [e];rfl,f12⟩
    have rest:∀ (c3:(f.thread&&decide (f.params > 0))=false),For.oddF f=(decide (f.regs < f.params)||(decide (f.regs > 4096)||(decide ((f.code.length:Int) < 1)||decide ((f.code.length:Int) > 16384)))):=fun c3=>by
      unfold For.oddF;rw [d1,d2,c3];rfl
    cases t1:f.thread
    · have rest:=rest (by rw [t1];rfl)
      refine byTF (decide (f.regs < f.params)) (fun d4=>by (have e:=bad (by rw [rest,d4];rfl);(repeat first|apply zSeq|apply zReg|refine wN ?_|refine zOn rfl rfl ?_|refine zOff rfl rfl ?_|refine wO ?_|refine wF ?_|refine wM ?_|refine wA ?_|refine zPT rfl rfl rfl ?_|refine zPF rfl rfl rfl ?_|refine wP ?_|refine wR ?_|refine wL ?_|refine zGtr rfl rfl ?_|refine zT rfl rfl ?_|refine zFld rfl O_Fun_Thread ?_|refine zFld rfl O_Fun_Params ?_|refine zFld rfl O_Fun_Regs ?_|refine wB E_int ?_|refine wB E_bool ?_);exact WP.ret ⟨.inr rfl,_,rfl,by rw [e];rfl,f12⟩)) (fun d4=>?_);refine byTF (decide (f.regs > 4096)) (fun d5=>by (have e:=bad (by rw [rest,d4,d5];rfl);(repeat first|apply zSeq|apply zReg|refine wN ?_|refine zOn rfl rfl ?_|refine zOff rfl rfl ?_|refine wO ?_|refine wF ?_|refine wM ?_|refine wA ?_|refine zPT rfl rfl rfl ?_|refine zPF rfl rfl rfl ?_|refine wP ?_|refine wR ?_|refine wL ?_|refine zGtr rfl rfl ?_|refine zT rfl rfl ?_|refine zFld rfl O_Fun_Thread ?_|refine zFld rfl O_Fun_Params ?_|refine zFld rfl O_Fun_Regs ?_|refine wB E_int ?_|refine wB E_bool ?_);exact WP.ret ⟨.inr rfl,_,rfl,by rw [e];rfl,f12⟩)) (fun d5=>?_);refine byTF (decide ((f.code.length:Int) < 1)) (fun d6=>by (have e:=bad (by rw [rest,d4,d5,d6];rfl);(repeat first|apply zSeq|apply zReg|refine wN ?_|refine zOn rfl rfl ?_|refine wO ?_|refine wF ?_|refine wM ?_|refine wA ?_|refine zPF rfl rfl rfl ?_|refine wP ?_|refine wR ?_|refine wL ?_|refine zGtr rfl rfl ?_|refine zT rfl rfl ?_|refine zFld rfl O_Fun_Thread ?_|refine zFld rfl O_Fun_Params ?_|refine zFld rfl O_Fun_Regs ?_|refine wB E_int ?_|refine wB E_bool ?_);exact WP.ret ⟨.inr rfl,_,rfl,by rw [e];rfl,f12⟩)) (fun d6=>?_);refine byTF (decide ((f.code.length:Int) > 16384)) (fun d7=>by (have e:=bad (by rw [rest,d4,d5,d6,d7];rfl);(repeat first|apply zSeq|apply zReg|refine wN ?_|refine zOn rfl rfl ?_|refine wO ?_|refine wF ?_|refine wM ?_|refine wA ?_|refine zPF rfl rfl rfl ?_|refine wR ?_|refine wL ?_|refine zGtr rfl rfl ?_|refine wT ?_|refine zFld rfl O_Fun_Thread ?_|refine zFld rfl O_Fun_Params ?_|refine zFld rfl O_Fun_Regs ?_|refine wB E_int ?_|refine wB E_bool ?_);exact WP.ret ⟨.inr rfl,_,rfl,by rw [e];rfl,f12⟩)) (fun d7=>?_);((repeat first|apply zSeq|apply zReg|apply zSkp|refine wN ?_|refine zOn rfl rfl ?_|refine wO ?_|refine wF ?_|refine wM ?_|refine zPF rfl rfl rfl ?_|refine wR ?_|refine wL ?_|refine zGtr rfl rfl ?_|refine wE ?_|refine zFld rfl O_Fun_Thread ?_|refine zFld rfl O_Fun_Params ?_|refine zFld rfl O_Fun_Regs ?_|refine wB E_int ?_|refine wB E_bool ?_);exact ⟨(),⟨rfl,by rw [rest,d4,d5,d6,d7];rfl⟩,rfl,rfl,rfl,trivial⟩)
    · cases t2:decide (f.params > 0)
      · have rest:=rest (by rw [t2,Bool.and_false])
        refine byTF (decide (f.regs < f.params)) (fun d4=>by (have e:=bad (by rw [rest,d4];rfl);(repeat first|apply zSeq|apply zReg|refine wN ?_|refine zOff rfl rfl ?_|refine wO ?_|refine wF ?_|refine wM ?_|refine wA ?_|refine zPT rfl rfl rfl ?_|refine wP ?_|refine wR ?_|refine wL ?_|refine zGtr rfl rfl ?_|refine zT rfl rfl ?_|refine zFld rfl O_Fun_Thread ?_|refine zFld rfl O_Fun_Params ?_|refine zFld rfl O_Fun_Regs ?_|refine wB E_int ?_|refine wB E_bool ?_);exact WP.ret ⟨.inr rfl,_,rfl,by rw [e];rfl,f12⟩)) (fun d4=>?_);refine byTF (decide (f.regs > 4096)) (fun d5=>by (have e:=bad (by rw [rest,d4,d5];rfl);(repeat first|apply zSeq|apply zReg|refine wN ?_|refine zOff rfl rfl ?_|refine wO ?_|refine wF ?_|refine wM ?_|refine wA ?_|refine zPT rfl rfl rfl ?_|refine wP ?_|refine wR ?_|refine wL ?_|refine zGtr rfl rfl ?_|refine zT rfl rfl ?_|refine zFld rfl O_Fun_Thread ?_|refine zFld rfl O_Fun_Params ?_|refine zFld rfl O_Fun_Regs ?_|refine wB E_int ?_|refine wB E_bool ?_);exact WP.ret ⟨.inr rfl,_,rfl,by rw [e];rfl,f12⟩)) (fun d5=>?_);refine byTF (decide ((f.code.length:Int) < 1)) (fun d6=>by (have e:=bad (by rw [rest,d4,d5,d6];rfl);(repeat first|apply zSeq|apply zReg|refine wN ?_|refine wO ?_|refine wF ?_|refine wM ?_|refine wA ?_|refine wP ?_|refine wR ?_|refine wL ?_|refine zGtr rfl rfl ?_|refine zT rfl rfl ?_|refine zFld rfl O_Fun_Thread ?_|refine zFld rfl O_Fun_Params ?_|refine zFld rfl O_Fun_Regs ?_|refine wB E_int ?_|refine wB E_bool ?_);exact WP.ret ⟨.inr rfl,_,rfl,by rw [e];rfl,f12⟩)) (fun d6=>?_);refine byTF (decide ((f.code.length:Int) > 16384)) (fun d7=>by (have e:=bad (by rw [rest,d4,d5,d6,d7];rfl);(repeat first|apply zSeq|apply zReg|refine wN ?_|refine wO ?_|refine wM ?_|refine wA ?_|refine wP ?_|refine wR ?_|refine wL ?_|refine zGtr rfl rfl ?_|refine wT ?_|refine zFld rfl O_Fun_Thread ?_|refine zFld rfl O_Fun_Params ?_|refine zFld rfl O_Fun_Regs ?_|refine wB E_int ?_|refine wB E_bool ?_);exact WP.ret ⟨.inr rfl,_,rfl,by rw [e];rfl,f12⟩)) (fun d7=>?_);((repeat first|apply zSeq|apply zReg|apply zSkp|refine wN ?_|refine wO ?_|refine wM ?_|refine wP ?_|refine wR ?_|refine wL ?_|refine zGtr rfl rfl ?_|refine wE ?_|refine zFld rfl O_Fun_Thread ?_|refine zFld rfl O_Fun_Params ?_|refine zFld rfl O_Fun_Regs ?_|refine wB E_int ?_|refine wB E_bool ?_);exact ⟨(),⟨rfl,by rw [rest,d4,d5,d6,d7];rfl⟩,rfl,rfl,rfl,trivial⟩)
      · have e:=bad (by unfold For.oddF;rw [d1,d2,t1,t2];rfl)
        (repeat first|apply zSeq|apply zReg|refine wN ?_|refine zOff rfl rfl ?_|refine wO ?_|refine wF ?_|refine wM ?_|refine wA ?_|refine zPT rfl rfl rfl ?_|refine wP ?_|refine wR ?_|refine wL ?_|refine zGtr rfl rfl ?_|refine zT rfl rfl ?_|refine zFld rfl O_Fun_Thread ?_|refine zFld rfl O_Fun_Params ?_|refine wB E_int ?_|refine wB E_bool ?_)
        exact WP.ret ⟨.inr rfl,_,rfl,by rw [e];rfl,f12⟩
  rintro _ Hc ⟨e,hodd⟩
  subst e
  have hpos:0 < f.code.length:=by
    unfold For.oddF at hodd
    simp only [Bool.or_eq_false_iff] at hodd
    have:=of_decide_eq_false hodd.2.2.2.2.2.1
    omega
  obtain ⟨b,off,cs,ha1,hrd,va,rfl,hva⟩:=hc2.at E_s_api_Ins E_Ins te_Ins_size (kd:=.i64) (i:=f.code.length - 1) (by omega)
  rw [show ((f.code.length - 1:Nat):Int)=(f.code.length:Int) - 1 by omega] at ha1
  have hl1:=(hrd.at1 (i:=0) rfl).load1 (V:=V) E_uint8 rfl
  have hlo:For.lastOp f=(f.code[f.code.length - 1]'(by omega)).op:=by
    unfold For.lastOp
    rw [List.getLast?_eq_getElem?,List.getElem?_eq_getElem (by omega)]
  have hmf:For.mayFun mayG p f=(!((f.code[f.code.length - 1]'(by omega)).op != 11&&(f.code[f.code.length - 1]'(by omega)).op != 13)&&f.code.all (mayG p f)):=by
    unfold For.mayFun;rw [hodd,hlo];rfl
  rw [hmf]
  generalize (f.code[f.code.length - 1]'(by omega)).op=lo at *
  clear hmf bad hlo
  have hp2:=hp.fr f12
  have hsc:=hs.code
  have hg2:=hgh.fr f12
  obtain ⟨H3,hc3,f3⟩:=containsFunc_ins_c (H:=Hc) (f:=68) (cap:=#[.pointer (some ⟨H.next,0,none⟩),.pointer (some ⟨H1.next,0,none⟩)]) (p:=fun i=>!mayG p f i) hO hc2 hs.code (by rw [fn_code_mayFun_q1];rfl) (fun x hx cs Hx fx hR=>by
    obtain ⟨_,Hy,h,rfl,fy⟩:=mayFunQ1_c (H:=Hx) hO (hg2.fr fx) (hp2.fr fx) (hc2.fr InsR.m fx) (b1'.fr fx) (b2'.fr fx) hR (hs.args x hx) (hs.op x hx)
    exact ⟨Hy,h,fy⟩)
  rw [any_not] at hc3
  cases c1:lo != 11
  · (repeat first|apply zSeq|apply zReg|apply zSkp|refine wN ?_|refine wG ?_|refine wF ?_|refine wR ?_|refine zNeq rfl rfl ?_|refine zSub rfl rfl (by omega) ?_|refine zF rfl rfl ?_|refine zFld rfl O_Ins_Op ?_|refine zFld rfl O_Fun_Code ?_|refine wB E_s_api_Ins ?_|refine wI ?_|refine zLd rfl ‹_› ?_)
    refine WL.op (v:=.func (.func 68) #[] #[.pointer (some ⟨H.next,0,none⟩),.pointer (some ⟨H1.next,0,none⟩)]) (H1:=Hc) rfl ?_
    refine WL.call rfl rfl is_slices_ContainsFunc_s_api_Ins_api_Ins hc3 ?_
    (repeat first|refine wN ?_|refine zNot rfl ?_)
    refine WP.ret ⟨.inr rfl,_,rfl,?_,f12.trans f3⟩
    rw [Bool.not_not];rfl
  cases c2:lo != 13
  · (repeat first|apply zSeq|apply zReg|apply zSkp|refine wN ?_|refine wG ?_|refine wO ?_|refine wM ?_|refine wP ?_|refine zNeq rfl rfl ?_|refine zSub rfl rfl (by omega) ?_|refine wE ?_|refine zFld rfl O_Ins_Op ?_|refine zFld rfl O_Fun_Code ?_|refine wB E_s_api_Ins ?_|refine wI ?_|refine zLd rfl ‹_› ?_)
    refine WL.op (v:=.func (.func 68) #[] #[.pointer (some ⟨H.next,0,none⟩),.pointer (some ⟨H1.next,0,none⟩)]) (H1:=Hc) rfl ?_
    refine WL.call rfl rfl is_slices_ContainsFunc_s_api_Ins_api_Ins hc3 ?_
    (repeat first|refine wN ?_|refine zNot rfl ?_)
    refine WP.ret ⟨.inr rfl,_,rfl,?_,f12.trans f3⟩
    rw [Bool.not_not];rfl
  · (repeat first|apply zSeq|apply zReg|refine wN ?_|refine wG ?_|refine wO ?_|refine wM ?_|refine wA ?_|refine wP ?_|refine zNeq rfl rfl ?_|refine zSub rfl rfl (by omega) ?_|refine wT ?_|refine zFld rfl O_Ins_Op ?_|refine zFld rfl O_Fun_Code ?_|refine wB E_s_api_Ins ?_|refine wI ?_|refine zLd rfl ‹_› ?_)
    exact WP.ret ⟨.inr rfl,_,rfl,rfl,f12⟩
end Go.Proofs.YtogomfblfpfjhaaGreatDoor.U
namespace Go.Ev
structure FmR (A:Av) (H:AH) (vm vl vf:Value) (f:For.Form):Prop where
 m:Els 3 MemR A H vm f.mems
 l:Els 1 StrR A H vl f.locks
 f:Els 5 GraphR A H vf f.funs
theorem FmR.frX {A:Av}{H H':AH}{vm vl vf:Value}{f:For.Form} (h:FmR A H vm vl vf f) (k:FrX A.bs A.gs H H'):FmR A H' vm vl vf f:=⟨h.m.frX MemR.m k,h.l.frX StrR.m k,h.f.frX GraphR.m k⟩
theorem FmR.fr {A:Av}{H H':AH}{vm vl vf:Value}{f:For.Form} (h:FmR A H vm vl vf f) (k:Fr H H'):FmR A H' vm vl vf f:=h.frX (k.x _ _)
theorem FmR.gr {A B:Av}{H:AH}{vm vl vf:Value}{f:For.Form} (h:FmR A H vm vl vf f) (k:A.Gr B H.next):FmR B H vm vl vf f:=⟨h.m.gr MemR.m k,h.l.gr StrR.m k,h.f.gr GraphR.m k⟩
theorem OwR.old {α:Type}{e:TypeId}{sz:Nat}{R:Rq α}{B:Av}{H:AH}{n0 n1:Nat}{v:Value}{xs:List α}{o:Option (Nat×Nat)} (h:OwR e sz R B H n0 v xs o) (hn:n1≤n0):OwR e sz R B H n1 v xs o:=let ⟨cs,h1,h2⟩:=h;⟨cs,h1.old hn,h2⟩
end Go.Ev
namespace Go.Proofs.YtogomfblfpfjhaaGreatDoor.U
open Go Go.Ev
attribute [local irreducible] WL WP WH W
theorem zeroGraph:te_Graph.zv.cells.toList=[.string ⟨⟨[]⟩⟩,.bool false,.int .i64 0,.int .i64 0,.slice none 0 0]:=by kernel_rfl
theorem zeroProg:te_Prog.zv.cells.toList=[.slice none 0 0,.slice none 0 0,.slice none 0 0]:=by kernel_rfl
theorem buildProg2 {a1 a2 b1 b2:Nat}{p q:Option Addr}:aBuild V.E 56 [(0,.slice p a1 a2),(1,.slice q b1 b2)]=some (.agg #[.slice p a1 a2,.slice q b1 b2,.slice none 0 0]):=by kernel_rfl
theorem buildJump:aBuild V.E 41 [(0,.int .u8 11)]=some (.agg #[.int .u8 11,.int .i64 0,.int .i64 0,.int .i64 0,.int .i64 0,.slice none 0 0]):=by kernel_rfl
theorem buildFun {s:ByteArray}{t:Bool}{a b:Int}{p:Option Addr}{n c:Nat}:aBuild V.E 59 [(0,.string s),(1,.bool t),(2,.int .i64 a),(3,.int .i64 b),(4,.slice p n c)]=some (.agg #[.string s,.bool t,.int .i64 a,.int .i64 b,.slice p n c]):=by kernel_rfl
theorem fillIns1 {a0 a1 a2 a3 a4 a5:Value}:afill (fun i=>some (i * te_Ins.size,te_Ins.size)) (azeros te_Ins.zv.cells.toList 1) [(0,.agg #[a0,a1,a2,a3,a4,a5])]=some [a0,a1,a2,a3,a4,a5]:=by kernel_rfl
theorem fillFun1 {a0 a1 a2 a3 a4:Value}:afill (fun i=>some (i * te_Fun.size,te_Fun.size)) (azeros te_Fun.zv.cells.toList 1) [(0,.agg #[a0,a1,a2,a3,a4])]=some [a0,a1,a2,a3,a4]:=by kernel_rfl
theorem te_Fun_bytes':te_Fun.bytes=64:=by kernel_rfl
attribute [local irreducible] V
variable {O:Orc}{H:AH}
theorem mayQM_c (hO:NoO O) {m:Mem}{cs:List Value}{A:Av} (hR:MemR A H cs m) :
  ∃ u H',Lc V O F_code_May_q1 [.agg cs.toArray] H u H'∧(u=.bool (!For.memOk m)∧Fr H H'):=by
 have hR:cs=[.string m.name,.int .i64 m.size,.int .i64 m.first]:=hR
 subst hR
 refine Lc.code_May_q1 (R:=fun u H'=>u=.bool (!For.memOk m)∧Fr H H') (hO _ _ _ (by decide)) (Nat.le_of_ble_eq_true rfl) (by kernel_rfl) ?_
 unfold P_code_May_q1
 apply zSeq
 apply zReg
 refine zBox rfl (fun _=>rfl) fun H1 f1 b1 n1=>?_
 have b1':Bx H1 H.next 50 [.string m.name,.int .i64 m.size,.int .i64 m.first]:=b1
 unfold For.memOk
 rw [Bool.not_not]
 cases d1:decide (m.size < 1)
 ·(repeat first|apply zSeq|apply zReg|refine wN ?_|refine wO ?_|refine wA ?_|refine wR ?_|refine wL ?_|refine zGtr rfl rfl ?_|refine zFld rfl O_Mem_Size ?_|refine wB E_int ?_)
  exact WP.ret ⟨.inr rfl,_,rfl,rfl,f1⟩
 ·(repeat first|apply zSeq|apply zReg|refine wN ?_|refine wF ?_|refine wA ?_|refine wP ?_|refine wL ?_|refine zFld rfl O_Mem_Size ?_|refine wB E_int ?_)
  exact WP.ret ⟨.inr rfl,_,rfl,rfl,f1⟩
theorem mayQF_c (hO:NoO O) (hgh:GH H) {A B:Av}{p:Prog}{f:Fun}{vm vl vf:Value}{b1:Nat} (hp:PrR A H vm vl vf p) (h1:Bx H b1 56 [vm,vl,vf]) {cs:List Value} (hR:FunR B H cs f) (hs:SmallF f) :
  ∃ u H',Lc V O F_code_May_q2 [.agg cs.toArray,.pointer (some ⟨b1,0,none⟩)] H u H'∧(u=.bool (!For.mayFun mayG p f)∧Fr H H'):=by
 obtain ⟨vc,rfl,hc⟩:=hR
 refine Lc.code_May_q2 (R:=fun u H'=>u=.bool (!For.mayFun mayG p f)∧Fr H H') (hO _ _ _ (by decide)) (Nat.le_of_ble_eq_true rfl) (by kernel_rfl) ?_
 unfold P_code_May_q2
 apply zSeq
 apply zReg
 refine zBox rfl (fun _=>rfl) fun H1 f1 b2 n1=>?_
 have b2':Bx H1 H.next 59 (f.cells vc):=b2
 obtain ⟨_,H2,hc2,rfl,f2⟩:=mayFun_c (H:=H1) hO (hgh.fr f1) (hp.fr f1) (hc.fr InsR.m f1) hs
 (repeat first|apply zSeq|apply zReg|refine wN ?_|refine wA ?_)
 refine zLd rfl ((h1.fr f1).ldN E_Prog te_Prog_agg (by rw [te_Prog_size];rfl)) ?_
 refine zLd rfl (b2'.ldN E_Fun te_Fun_agg (by rw [te_Fun_size];rfl)) ?_
 refine WL.call rfl rfl is_code_mayFun hc2 ?_
 (repeat first|refine wN ?_|refine zNot rfl ?_)
 exact WP.ret ⟨.inr rfl,_,rfl,rfl,f1.trans f2⟩
theorem codeMay_c (hO:NoO O) (hK:KnL O) (hgh:GH H) (hgn:GN H) {A:Av}{p:Prog}{vm vl vf:Value} (hp:PrR A H vm vl vf p) (hs:SmallP p) (hsf:∀ f∈p.funs,SmallF f) :
  ∃ u H',Lc V O F_code_May [.agg #[vm,vl,vf]] H u H'∧(u=.bool (For.mayP mayG p)∧Fr H H'):=by
 refine Lc.code_May (R:=fun u H'=>u=.bool (For.mayP mayG p)∧Fr H H') (hO _ _ _ (by decide)) (Nat.le_of_ble_eq_true rfl) (by kernel_rfl) ?_
 unfold P_code_May
 have hsm:=hs.mems
 have hsn:=hs.funs
 apply zSeq
 apply zReg
 refine zBox rfl (fun _=>rfl) fun H1 f1 b1 n1=>?_
 have b1':Bx H1 H.next 56 [vm,vl,vf]:=b1
 obtain ⟨_,H2,hc2,rfl,f2⟩:=named_c (H:=H1) hO hK (hgn.fr f1) (hp.fr f1) hs
 have f12:=f1.trans f2
 have b2':=b1'.fr f2
 (repeat first|apply zSeq|apply zReg|refine wN ?_|refine wA ?_)
 refine zLd rfl (b1'.ldN E_Prog te_Prog_agg (by rw [te_Prog_size];rfl)) ?_
 refine WL.call rfl rfl is_code_named hc2 ?_
 cases c0:For.named p
 ·(repeat first|apply zSeq|apply zReg|refine wN ?_|refine zOff rfl rfl ?_|refine wA ?_|refine zPT rfl rfl rfl ?_|refine zNot rfl ?_|refine zT rfl rfl ?_)
  refine WP.ret ⟨.inr rfl,_,rfl,?_,f12⟩
  unfold For.mayP;rw [c0];rfl
 obtain ⟨vt,H3,hc3,hlt,f3⟩:=threads_c (H:=H2) hO (hp.fr f12) hs
 have f13:=f12.trans f3
 have b3':=b2'.fr f3
 (repeat first|refine zOn rfl rfl ?_|refine zNot rfl ?_)
 refine zLd rfl (b2'.ldN E_Prog te_Prog_agg (by rw [te_Prog_size];rfl)) ?_
 (repeat first|refine zOn rfl rfl ?_)
 refine WL.call rfl rfl is_code_Threads hc3 ?_
 (repeat first|refine zOn rfl rfl ?_)
 refine zLen rfl (hlt _) ?_
 (repeat first|refine zOn rfl rfl ?_|refine zPF rfl rfl rfl ?_|refine zGtr rfl rfl ?_)
 cases c1:decide (((For.threads p).length:Int) > 16)
 case true=>
  (repeat first|apply zSeq|apply zReg|refine wN ?_|refine zOff rfl rfl ?_|refine wA ?_|refine zPT rfl rfl rfl ?_|refine zT rfl rfl ?_)
  refine WP.ret ⟨.inr rfl,_,rfl,?_,f13⟩
  unfold For.mayP;rw [c0,c1];rfl
 have hp3:=hp.fr f13
 obtain ⟨H4,hc4,f4⟩:=containsFunc_mem_c (H:=H3) (f:=41) (cap:=#[]) (p:=fun m=>!For.memOk m) hO hp3.m (by omega) (by rw [fn_code_May_q1];rfl) (fun x hx cs Hx fx hR=>by
  obtain ⟨_,Hy,h,rfl,fy⟩:=mayQM_c (H:=Hx) hO hR
  exact ⟨Hy,h,fy⟩)
 have f14:=f13.trans f4
 have b4':=b3'.fr f4
 cases c2:p.mems.any (fun m=>!For.memOk m)
 case true=>
  rw [c2] at hc4
  (repeat first|refine zOn rfl rfl ?_|refine zFld rfl O_Prog_Mems ?_|refine wB E_s_api_Mem ?_)
  refine WL.call rfl rfl is_slices_ContainsFunc_s_api_Mem_api_Mem hc4 ?_
  (repeat first|apply zSeq|apply zReg|refine wN ?_|refine wA ?_|refine zPF rfl rfl rfl ?_|refine zT rfl rfl ?_)
  refine WP.ret ⟨.inr rfl,_,rfl,?_,f14⟩
  unfold For.mayP;rw [c0,c1,c2];rfl
 rw [c2] at hc4
 have hp4:=hp.fr f14
 obtain ⟨H5,hc5,f5⟩:=containsFunc_fun_c (H:=H4) (f:=43) (cap:=#[.pointer (some ⟨H.next,0,none⟩)]) (p:=fun f=>!For.mayFun mayG p f) hO hp4.f (by omega) (by rw [fn_code_May_q2];rfl) (fun x hx cs Hx fx hR=>by
  obtain ⟨_,Hy,h,rfl,fy⟩:=mayQF_c (H:=Hx) hO (hgh.fr (f14.trans fx)) (hp4.fr fx) (b4'.fr fx) hR (hsf x hx)
  exact ⟨Hy,h,fy⟩)
 rw [any_not] at hc5
 (repeat first|refine zOn rfl rfl ?_|refine zFld rfl O_Prog_Mems ?_|refine wB E_s_api_Mem ?_)
 refine WL.call rfl rfl is_slices_ContainsFunc_s_api_Mem_api_Mem hc4 ?_
 (repeat first|apply zSeq|apply zReg|apply zSkp|refine wN ?_|refine zPF rfl rfl rfl ?_|refine zF rfl rfl ?_|refine zFld rfl O_Prog_Funs ?_|refine wB E_s_api_Fun ?_)
 refine WL.op (v:=.func (.func 43) #[] #[.pointer (some ⟨H.next,0,none⟩)]) (H1:=H4) rfl ?_
 refine WL.call rfl rfl is_slices_ContainsFunc_s_api_Fun_api_Fun hc5 ?_
 (repeat first|refine wN ?_|refine zNot rfl ?_)
 refine WP.ret ⟨.inr rfl,_,rfl,?_,f14.trans f5⟩
 unfold For.mayP;rw [c0,c1,c2,Bool.not_not];rfl
structure SmallFm (f:For.Form):Prop where
 mems:f.mems.length≤10000
 locks:f.locks.length≤10000
 funs:f.funs.length≤10000
 gs:∀ g∈f.funs,Small g
 args:∀ g∈f.funs,∀ b∈g.blocks,∀ i∈b.code,i.args.length≤100000
 op:∀ g∈f.funs,∀ b∈g.blocks,∀ i∈b.code,0≤i.op∧i.op < 256
theorem SmallFm.p {f:For.Form} (h:SmallFm f):SmallP (For.bareP f):=⟨h.mems,h.locks,by simp only [For.bareP,List.length_map];exact h.funs⟩
theorem jumpC_R {A:Av}{H:AH}:InsR A H [.int .u8 11,.int .i64 0,.int .i64 0,.int .i64 0,.int .i64 0,.slice none 0 0] For.jumpI:=⟨.slice none 0 0,rfl,.nil⟩
set_option maxHeartbeats 4000000 in
theorem flowBare_c (hO:NoO O) {A:Av}{f:For.Form}{vm vl vf:Value} (hf:FmR A H vm vl vf f) (hs:SmallFm f) :
    ∃ u H',Lc V O F_flow_bare [.agg #[vm,vl,vf]] H u H'∧(∃ bv o,u=.agg #[vm,vl,bv]∧OwR 59 5 FunR (.old H.next) H' H.next bv (f.funs.map fun g=>For.bareF g g.params) o∧Fr H H'):=by
  refine Lc.flow_bare (R:=fun u H'=>∃ bv o,u=.agg #[vm,vl,bv]∧OwR 59 5 FunR (.old H.next) H' H.next bv (f.funs.map fun g=>For.bareF g g.params) o∧Fr H H') (hO _ _ _ (by decide)) (Nat.le_of_ble_eq_true rfl) (by kernel_rfl) ?_
  unfold P_flow_bare
  have hsn:=hs.funs
  have hlen1:=fun Hz=>hf.f.len (V:=V) (H2:=Hz) E_s_api_Graph
  have hvl:=hf.l.oneCell
  have hvm:=hf.m.oneCell
  obtain ⟨am,nm,cm,rfl⟩:∃ a n c,vm=.slice a n c:=let ⟨_,h,_⟩:=hf.m;h.isSl
  obtain ⟨al,nl,cl,rfl⟩:∃ a n c,vl=.slice a n c:=let ⟨_,h,_⟩:=hf.l;h.isSl
  apply zSeq
  apply zReg
  refine zBox rfl (fun _=>rfl) fun H1 f1 b1 n1=>?_
  refine zAlc E_Prog zeroProg fun H2 f2 b2 n2=>?_
  have b1':Bx H2 H.next 26 [.slice am nm cm,.slice al nl cl,vf]:=b1.fr f2
  have f12:=f1.trans f2
  clear b1
  (repeat first|refine wN ?_)
  apply zSeq
  (repeat first|apply zReg|refine zFld rfl O_Form_Mems ?_|refine zFld rfl O_Form_Locks ?_|refine wB E_s_string ?_|refine wB E_s_api_Mem ?_)
  refine WL.op (op_build rfl buildProg2) ?_
  refine zAlc E_Prog zeroProg fun H3 f3 b3 n3=>?_
  refine zStB b3 rfl rfl E_Prog (by rw [te_Prog_size];rfl) rfl (by simp [Value.cells]) (by simp [Value.cells]) fun H4 f4 b4 n4=>?_
  have b4':Bx H4 H2.next 56 [.slice am nm cm,.slice al nl cl,.slice none 0 0]:=b4
  have f24:Fr H2 H4:=f3.young f4 (by simp) (by simp)
  have b14:=b1'.fr f24
  have b24:=b2.fr f24
  have f04:=f12.trans f24
  have hn4:H2.next < H4.next:=b4'.1
  have hn02:=f12.1
  have hBG:∀ {n:Nat},(Av.old H4.next).Gr (.old H.next) n:=Av.old_gr (Av.old_lt.mono (by omega))
  have hBo:∀ b∈(Av.old H4.next).bs,b < H4.next:=fun b hb=>List.mem_range.1 hb
  have hBog:∀ b∈(Av.old H4.next).gs,b < H4.next:=fun b hb=>List.mem_range.1 hb
  have hBlt:(Av.old H4.next).Lt H4.next:=Av.old_lt
  have hBin:∀ {Hx Hy:AH}{c:Nat},c < H4.next→FrX [c] [] Hx Hy→FrX (Av.old H4.next).bs (Av.old H4.next).gs Hx Hy:=fun hc h=>h.sub (fun b hb=>by simp [Av.old] at hb ⊢;omega) (by simp)
  generalize Av.old H4.next=B at *
  clear b1' b2 b3 b4 f3 f4
  (repeat first|refine wN ?_)
  refine WP.seqS (σ:=Value×Option (Nat×Nat)) (fun x=>[(2,.pointer (some ⟨H1.next,0,none⟩)),(3,.pointer (some ⟨H2.next,0,none⟩))]) (fun x Hc=>FrX [H2.next] [] H4 Hc∧Bx Hc H2.next 56 [.slice am nm cm,.slice al nl cl,x.1]∧OwR 59 5 FunR B Hc H4.next x.1 (f.funs.map fun g=>For.bareF g g.params) x.2) ?_ ?_
  · (repeat first|apply zSeq|apply zReg|apply zBlk|refine wN ?_|refine wM ?_|refine zFld rfl O_Form_Funs ?_|refine wB E_s_api_Graph ?_|refine zLen rfl (hlen1 _) ?_)
    refine WP.loopH (σ:=Nat×Value×Option (Nat×Nat)) (fun x=>[(2,.pointer (some ⟨H1.next,0,none⟩)),(3,.pointer (some ⟨H2.next,0,none⟩)),(12,vf),(13,.int .i64 f.funs.length),(14,.int .i64 x.1)]) (fun x Hc=>FrX [H2.next] [] H4 Hc∧Bx Hc H2.next 56 [.slice am nm cm,.slice al nl cl,x.2.1]∧OwR 59 5 FunR B Hc H4.next x.2.1 ((f.funs.take x.1).map fun g=>For.bareF g g.params) x.2.2∧x.1≤f.funs.length) (fun x=>f.funs.length - x.1) (0,.slice none 0 0,none) ⟨.refl _ _ _,b4',.nil,Nat.zero_le _⟩ ⟨rfl,rfl,rfl,rfl,rfl,trivial⟩ ?_
    rintro ⟨k,bv,o⟩ Hc ⟨hfr,hbx,how,hk⟩
    simp only at hfr hbx how hk ⊢
    rcases Nat.lt_or_ge k f.funs.length with h|h
    case inr =>
      have g1:decide ((k:Int) < f.funs.length)=false:=decide_eq_false (by omega)
      rw [List.take_of_length_le h] at how
      (repeat first|apply zSeq|apply zReg|refine zExt ?_|refine wN ?_|refine wL ?_|refine wE ?_)
      exact ⟨(bv,o),⟨hfr,hbx,how⟩,rfl,rfl,trivial⟩
    have g1:decide ((k:Int) < f.funs.length)=true:=decide_eq_true (by omega)
    have frH:Fr H Hc:=f04.young hfr (by simp;omega) (by simp)
    obtain ⟨b,off,cs,ha1,hrd,vb,rfl,hbl⟩:=(hf.f.fr GraphR.m frH).at E_s_api_Graph E_Graph te_Graph_size (kd:=.i64) h
    have hl1:=hrd.loadN (V:=V) E_Graph te_Graph_agg te_Graph_size
    have hv1:=hbl.oneCell
    (repeat first|apply zSeq|apply zReg|apply zBlk|apply zSkp|refine wN ?_|refine wL ?_|refine wT ?_|refine wI ?_|refine zLd rfl ‹_› ?_)
    refine zAlc E_Graph zeroGraph fun H5 f5 b5 n5=>?_
    refine zStB b5 rfl rfl E_Graph (by rw [te_Graph_size];rfl) (by simp [Value.cells,Value.oneCell'] at hv1 ⊢;exact hv1) (by simp [Value.cells]) (by simp [Value.cells]) fun H6 f6 b6 n6=>?_
    have b6':Bx H6 Hc.next 35 [.string f.funs[k].name,.bool f.funs[k].thread,.int .i64 f.funs[k].params,.int .i64 f.funs[k].regs,vb]:=b6
    have f56:Fr Hc H6:=f5.young f6 (by simp) (by simp)
    have hbx6:=hbx.fr f56
    have how6:=how.fr FunR.m f56
    have hnc:=hfr.1
    have hn6:=f56.1
    (repeat first|apply zReg|refine wN ?_|refine zFld rfl O_Graph_Name ?_|refine zFld rfl O_Graph_Thread ?_|refine zFld rfl O_Graph_Params ?_|refine zFld rfl O_Prog_Funs ?_|refine wB E_int ?_|refine wB E_bool ?_|refine wB E_string ?_|refine wB E_s_api_Fun ?_)
    refine WL.op (op_build rfl buildJump) ?_
    refine zLit rfl E_s_api_Ins E_Ins (by rw [te_Ins_size];decide) fillIns1 (by decide) fun H7 f7 b7 n7=>?_
    have hbx7:=hbx6.fr f7
    have how7:=how6.fr FunR.m f7
    have hy7:=how7.young
    have hjr:Els 6 InsR (B.and (.of o)) H7 (.slice (some ⟨H6.next,0,none⟩) 1 1) [For.jumpI]:=by
      refine ⟨[.int .u8 11,.int .i64 0,.int .i64 0,.int .i64 0,.int .i64 0,.slice none 0 0],⟨rfl,.inr ⟨H6.next,0,1,rfl,fun _=>?_⟩⟩,fun i hi=>?_⟩
      · exact Rd.aLt (H0:=H6) ((hBlt.mono (by omega)).and (how6.lt)) (Nat.le_refl _) b7.1 b7.2 (.inl rfl) (by simp) (by simp)
      · have:i=0:=by simp at hi;omega
        subst this
        exact jumpC_R
    refine WL.op (op_build rfl buildFun) ?_
    obtain ⟨bv',H8,o',k1,k2,k3,k4,k5⟩:=how7.app1 (V:=V) (x:=For.bareF f.funs[k] f.funs[k].params) (cx:=[.string f.funs[k].name,.bool f.funs[k].thread,.int .i64 f.funs[k].params,.int .i64 f.funs[k].params,.slice (some ⟨H6.next,0,none⟩) 1 1]) FunR.m (hBlt.mono (by omega)) ⟨_,rfl,hjr⟩ FunR.one (by decide) (bytes:=64) (by simp;omega) (by simp;omega) (by omega) E_s_api_Fun E_s_api_Fun E_Fun te_Fun_size te_Fun_bytes'
    refine WL.op (op_buildSlice rfl E_s_api_Fun E_Fun (by rw [te_Fun_size];decide) fillFun1) ?_
    refine WL.op (k1 rfl rfl) ?_
    have hyc:=how.young
    have hbx8:=hbx7.frX k3 (fun hb=>by have:=hyc.1 _ hb;omega)
    have hyo':=k2.young
    have hk2:=k2.els FunR.m (fun b hb hb2=>by have:=hyo'.1 b hb;have:=hBo b hb2;omega) (fun b hb hb2=>by have:=hyo'.2.1 b hb;have:=hBog b hb2;omega)
    have h1v:=hk2.oneCell
    obtain ⟨a8,n8,c8,rfl⟩:∃ a n c,bv'=.slice a n c:=let ⟨_,h,_⟩:=hk2;h.isSl
    (repeat first|refine zFld rfl O_Prog_Funs ?_)
    refine zStB hbx8 rfl rfl E_s_api_Fun rfl rfl (by simp [Value.cells]) (by simp [Value.cells]) fun H9 f9 b9 n9=>?_
    have b9':Bx H9 H2.next 56 [.slice am nm cm,.slice al nl cl,.slice a8 n8 c8]:=b9
    (repeat first|apply zReg|refine wN ?_|refine zAdd rfl rfl (by omega) ?_)
    have f67:=f56.trans f7
    have hfin:FrX [H2.next] [] H4 H9:=((hfr.trans (f67.x [] []) (by simp) (by simp)).trans k3 (fun b hb hlt=>absurd (hyc.1 b hb) (by omega)) (fun b hb hlt=>absurd (hyc.2.1 b hb) (by omega))).trans f9 (fun b hb _=>hb) (by simp)
    have k2':=k2.frX FunR.m (hBin hn4 f9) (fun b hb hb2=>by have:=hyo'.1 b hb;have:=hBo b hb2;omega) (fun b hb hb2=>by have:=hyo'.2.1 b hb;have:=hBog b hb2;omega)
    exact ⟨(k+1,_,o'),⟨hfin,b9',by rw [List.take_succ_eq_append_getElem h,List.map_append];exact k2',h⟩,by simp only;omega,rfl,rfl,rfl,rfl,rfl,trivial⟩
  · rintro ⟨bv,o⟩ Hp ⟨hfrp,hbxp,howp⟩
    simp only at hfrp hbxp howp ⊢
    have f1p:Fr H Hp:=f04.young hfrp (by simp;omega) (by simp)
    have b2p:=b24.frX hfrp (by simp;omega)
    have hyp:=howp.young
    have hdj:∀ b∈obs o,b∉B.bs:=fun b hb hb2=>by have:=hyp.1 b hb;have:=hBo b hb2;omega
    have hdg:∀ b∈ogs o,b∉B.gs:=fun b hb hb2=>by have:=hyp.2.1 b hb;have:=hBog b hb2;omega
    have hk2:=howp.els FunR.m hdj hdg
    obtain ⟨a8,n8,c8,rfl⟩:∃ a n c,bv=.slice a n c:=let ⟨_,h,_⟩:=hk2;h.isSl
    (repeat first|apply zSeq|apply zReg)
    refine zLd rfl (hbxp.ldN E_Prog te_Prog_agg (by rw [te_Prog_size];rfl)) ?_
    refine zStB b2p rfl rfl E_Prog (by rw [te_Prog_size];rfl) rfl (by simp [Value.cells]) (by simp [Value.cells]) fun H9 f9 b9 n9=>?_
    have b9':Bx H9 H1.next 56 [.slice am nm cm,.slice al nl cl,.slice a8 n8 c8]:=b9
    (repeat first|refine wN ?_)
    exact WP.ret ⟨.inr rfl,_,resL_cell rfl (b9'.ldN E_Prog te_Prog_agg (by rw [te_Prog_size];rfl)) rfl,_,o,rfl,((howp.frX FunR.m (hBin (by omega) f9) hdj hdg).old (by omega)).gr FunR.m hBG,f1p.young f9 (by simp;omega) (by simp)⟩
end Go.Proofs.YtogomfblfpfjhaaGreatDoor.U
namespace Go.Ev
theorem chunk_splice {cs vs:List Value}{n sz i j off:Nat} (hl:cs.length=n * sz) (hi:i < n) (hv:off+vs.length≤sz) :
    ((splice cs (i * sz+off) vs).drop (j * sz)).take sz=if j=i then splice ((cs.drop (i * sz)).take sz) off vs else (cs.drop (j * sz)).take sz:=by
  have hle:(i+1) * sz≤n * sz:=Nat.mul_le_mul_right sz (by omega)
  rw [Nat.add_mul,Nat.one_mul] at hle
  have hf:i * sz+off+vs.length≤cs.length:=by omega
  have hlen:((cs.drop (i * sz)).take sz).length=sz:=by rw [List.length_take,List.length_drop];omega
  apply List.ext_getElem?
  intro k
  by_cases hk:k < sz
  · rw [List.getElem?_take,if_pos hk,List.getElem?_drop,splice_get hf]
    by_cases e:j=i
    · subst e
      rw [if_pos rfl,splice_get (by rw [hlen];exact hv)]
      by_cases h:off≤k∧k < off+vs.length
      · rw [if_pos h,if_pos (by omega),show j * sz+k - (j * sz+off)=k - off by omega]
      · rw [if_neg h,if_neg (by omega),List.getElem?_take,if_pos hk,List.getElem?_drop]
    · rw [if_neg e,List.getElem?_take,if_pos hk,List.getElem?_drop]
      have : ¬ (i * sz+off≤j * sz+k∧j * sz+k < i * sz+off+vs.length):=by
        rcases Nat.lt_or_gt_of_ne e with h|h
        · have:=Nat.mul_le_mul_right sz (show j+1≤i by omega)
          rw [Nat.add_mul,Nat.one_mul] at this
          omega
        · have:=Nat.mul_le_mul_right sz (show i+1≤j by omega)
          rw [Nat.add_mul,Nat.one_mul] at this
          omega
      rw [if_neg this]
  · rw [List.getElem?_eq_none (by rw [List.length_take];omega)]
    split
    · rw [List.getElem?_eq_none]
      rw [splice_length (by rw [hlen];exact hv),hlen];omega
    · rw [List.getElem?_eq_none (by rw [List.length_take];omega)]
theorem OwR.set {α:Type}{e:TypeId}{sz:Nat}{R:Rq α}{B:Av}{H:AH}{n0:Nat}{v:Value}{xs:List α}{o:Option (Nat×Nat)} (hm:MonoF R) (h:OwR e sz R B H n0 v xs o) {i:Nat} (hi:i < xs.length) {x':α}{off:Nat}{vs:List Value} (hne:vs≠[]) (hv:off+vs.length≤sz) (hR:∀ {A H cs},R A H cs xs[i]→R A H (splice cs off vs) x')
  {V:Env}{t:TypeId}{s b:Nat}{z:Value}{te:TI} (ht:V.E t=some ⟨.slice e,s,b,z⟩) (he:V.E e=some te) (hz:te.size=sz) {kd:IntKind} :
  ∃ b off' H',aIndex V.E t v (.int kd i)=some (.pointer (some ⟨b,off',none⟩))∧H.wr b (off'+off) vs=some H'∧OwR e sz R B H' n0 v (xs.set i x') o∧FrX (obs o) (ogs o) H H'∧H'.next=H.next:=by
 obtain ⟨cs,h1,h2⟩:=h
 obtain ⟨b,off',H',k1,_,k2,k3,k4,k5⟩:=h1.set ht he hz (kd:=kd) (i:=(i:Int)) (by omega) (by omega) hne hv
 refine ⟨b,off',H',k1,k2,⟨_,by rw [List.length_set];exact k3,fun j hj=>?_⟩,k4,k5⟩
 have hj':j < xs.length:=by rwa [List.length_set] at hj
 rw [show (i:Int).toNat=i from rfl,chunk_splice h1.1 hi hv,List.getElem_set]
 have hk:FrX (B.and (.of o)).bs (B.and (.of o)).gs H H':=k4.sub (fun b hb=>List.mem_append_right _ hb) (fun b hb=>List.mem_append_right _ hb)
 by_cases e:j=i
 ·subst e
  rw [if_pos rfl,if_pos rfl]
  exact hR (hm.frX hk (h2 j hj'))
 ·rw [if_neg e,if_neg (Ne.symm e)]
  exact hm.frX hk (h2 j hj')
end Go.Ev
namespace Go.For
open Go.Ev
theorem bareK_set {f:Form}{k:Nat} (h:k < f.funs.length):(bareK f k).funs.set k (bareF f.funs[k] f.funs[k].regs)=(bareK f (k+1)).funs:=by
 apply List.ext_getElem
 ·rw [List.length_set,bareK_length,bareK_length]
 ·intro n h1 h2
  rw [bareK_length] at h2
  rw [List.getElem_set,bareK_at (k:=k+1) h2]
  by_cases e:k=n
  ·subst e;rw [if_pos rfl,if_pos (by omega)]
  ·rw [if_neg e,bareK_at (k:=k) h2]
   by_cases hn:n < k
   ·rw [if_pos hn,if_pos (by omega)]
   ·rw [if_neg hn,if_neg (by omega)]
end Go.For
namespace Go.Proofs.YtogomfblfpfjhaaGreatDoor.U
open Go Go.Ev
attribute [local irreducible] WL WP WH W
theorem numG_congr {p q:Prog}{f:Fun}{k:Int}{i:Ins} (hm:p.mems.length=q.mems.length) (hl:p.locks.length=q.locks.length) (hf:p.funs.length=q.funs.length) (h:∀ j (h1:j < p.funs.length) (h2:j < q.funs.length),p.funs[j].thread=q.funs[j].thread∧p.funs[j].params=q.funs[j].params):numG p f k i=numG q f k i:=by
 unfold numG
 rw [hm,hl,hf]
 by_cases hj:i.n.toNat < p.funs.length
 ·rw [List.getElem?_eq_getElem hj,List.getElem?_eq_getElem (hf ▸ hj)]
  obtain ⟨e1,e2⟩:=h _ hj (hf ▸ hj)
  simp only [e1,e2]
 ·rw [List.getElem?_eq_none (by omega),List.getElem?_eq_none (by omega)]
theorem mayG_bareK {f:For.Form}{k:Nat}{g:Fun}{i:Ins}:mayG (For.bareK f k) g i=mayG (For.bareP f) g i:=by
 unfold mayG
 rw [numG_congr (p:=For.bareK f k) (q:=For.bareP f) rfl rfl (by rw [For.bareK_length];simp [For.bareP]) fun j h1 h2=>by
  rw [For.bareK_length] at h1
  have h3:(For.bareP f).funs[j]=(For.bareK f 0).funs[j]'(by rw [For.bareK_length];exact h1):=rfl
  rw [For.bareK_at h1,h3,For.bareK_at h1]
  exact ⟨rfl,rfl⟩]
attribute [local irreducible] V
variable {O:Orc}{H:AH}
theorem mayFormQ_c (hO:NoO O) (hgh:GH H) {A C:Av}{p:Prog}{vm vl vf:Value}{b1 b2 k:Nat} (hk:k < p.funs.length) (hp:PrR A H vm vl vf p) (h1:Bx H b1 56 [vm,vl,vf]) (h2:Bx H b2 3 [.int .i64 k]) {i:Ins}{cs:List Value} (hR:InsR C H cs i) (hL:i.args.length≤100000) (hop:0≤i.op∧i.op < 256) :
  ∃ u H',Lc V O F_flow_MayForm_q1 [.agg cs.toArray,.pointer (some ⟨b1,0,none⟩),.pointer (some ⟨b2,0,none⟩)] H u H'∧(u=.bool (!mayG p p.funs[k] i)∧Fr H H'):=by
 obtain ⟨va,rfl,hva⟩:=hR
 refine Lc.flow_MayForm_q1 (R:=fun u H'=>u=.bool (!mayG p p.funs[k] i)∧Fr H H') (hO _ _ _ (by decide)) (Nat.le_of_ble_eq_true rfl) (by kernel_rfl) ?_
 unfold P_flow_MayForm_q1
 apply zSeq
 apply zReg
 refine zBox rfl (fun _=>rfl) fun H1 f1 b3 n1=>?_
 have b3':Bx H1 H.next 41 (i.cells va):=b3
 have b2':=h2.fr f1
 have hp1:=hp.fr f1
 obtain ⟨_,H2,hc2,rfl,f2⟩:=codeMayIns2_c (H:=H1) hO (hgh.fr f1) hk hp1.m hp1.l hp1.f (hva.fr f1) hL hop
 (repeat first|apply zSeq|apply zReg|refine wN ?_|refine wA ?_)
 refine zLd rfl ((h1.fr f1).ldN E_Prog te_Prog_agg (by rw [te_Prog_size];rfl)) ?_
 (repeat first|refine wB E_int ?_)
 refine zLd rfl (b3'.ldN E_Ins te_Ins_agg (by rw [te_Ins_size];rfl)) ?_
 refine WL.call rfl rfl is_code_MayIns hc2 ?_
 (repeat first|refine wN ?_|refine zNot rfl ?_)
 exact WP.ret ⟨.inr rfl,_,rfl,rfl,f1.trans f2⟩
theorem SmallFm.bareF {f:For.Form} (h:SmallFm f):∀ x∈(For.bareP f).funs,SmallF x:=fun x hx=>by
 simp only [For.bareP,List.mem_map] at hx
 obtain ⟨g,_,rfl⟩:=hx
 refine ⟨by simp [For.bareF],fun i hi=>?_,fun i hi=>?_⟩ <;> simp [For.bareF,For.jumpI] at hi <;> subst hi <;> simp
set_option maxHeartbeats 8000000 in
theorem mayForm_c (hO:NoO O) (hK:KnL O) (hgh:GH H) (hgn:GN H) {A:Av}{f:For.Form}{vm vl vf:Value} (hf:FmR A H vm vl vf f) (hs:SmallFm f) :
  ∃ u H',Lc V O F_flow_MayForm [.agg #[vm,vl,vf]] H u H'∧(u=.bool (For.may mayG mi f)∧Fr H H'):=by
 refine Lc.flow_MayForm (R:=fun u H'=>u=.bool (For.may mayG mi f)∧Fr H H') (hO _ _ _ (by decide)) (Nat.le_of_ble_eq_true rfl) (by kernel_rfl) ?_
 unfold P_flow_MayForm
 have hsn:=hs.funs
 have hlen1:=fun Hz=>hf.f.len (V:=V) (H2:=Hz) E_s_api_Graph
 apply zSeq
 apply zReg
 refine zBox rfl (fun _=>rfl) fun H1 f1 b1 n1=>?_
 have b1':Bx H1 H.next 26 [vm,vl,vf]:=b1
 obtain ⟨_,H2,hc2,bv,o,rfl,how,f2⟩:=flowBare_c (H:=H1) hO (hf.fr f1) hs
 have f12:=f1.trans f2
 have b12:=b1'.fr f2
 have hyo:=how.young
 have hnb:∀ b∈obs o,b∉(Av.old H1.next).bs:=fun b hb hb2=>by have:=hyo.1 b hb;simp [Av.old] at hb2;omega
 have hng:∀ b∈ogs o,b∉(Av.old H1.next).gs:=fun b hb hb2=>by have:=hyo.2.1 b hb;simp [Av.old] at hb2;omega
 have hel:=how.els FunR.m hnb hng
 have hfo:FmR (.of o) H vm vl vf f:=hf.gr ⟨fun b hb=>.inr (by have:=hyo.1 b hb;have:=f1.1;omega),fun b hb=>.inr (by have:=hyo.2.1 b hb;have:=f1.1;omega)⟩
 have hone:=hel.oneCell
 have hp2:PrR .no H2 vm vl bv (For.bareP f):=⟨(hf.m.fr MemR.m f12).gr MemR.m .no,(hf.l.fr StrR.m f12).gr StrR.m .no,hel.gr FunR.m .no⟩
 have hlen2:=fun Hz=>hel.len (V:=V) (H2:=Hz) E_s_api_Fun
 clear b1
 (repeat first|apply zSeq|apply zReg|refine wN ?_|refine wA ?_)
 refine zLd rfl (b1'.ldN E_Form te_Form_agg (by rw [te_Form_size];rfl)) ?_
 refine WL.call rfl rfl is_flow_bare hc2 ?_
 skip
 refine zAlc E_Prog zeroProg fun H3 f3 b3 n3=>?_
 refine zStB b3 rfl rfl E_Prog (by rw [te_Prog_size];rfl) (PrR.one hp2) (by simp [Value.cells]) (by simp [Value.cells]) fun H4 f4 b4 n4=>?_
 have b4':Bx H4 H2.next 56 [vm,vl,bv]:=b4
 have f24:Fr H2 H4:=f3.young f4 (by simp) (by simp)
 have f04:=f12.trans f24
 have b14:=b12.fr f24
 have how4:=how.fr FunR.m f24
 have hn2:H2.next < H4.next:=b4'.1
 have hn12:=f2.1
 have hn01:=f1.1
 obtain ⟨_,H5,hc5,rfl,f5⟩:=codeMay_c (H:=H4) hO hK (hgh.fr f04) (hgn.fr f04) (hp2.fr f24) hs.p hs.bareF
 have f05:=f04.trans f5
 have b15:=b14.fr f5
 have b5':=b4'.fr f5
 have how5:=how4.fr FunR.m f5
 clear b1' b12 b3 b4 f3 f4 how how4 hel b14
 (repeat first|apply zSeq|apply zReg|refine wN ?_)
 refine zLd rfl (b4'.ldN E_Prog te_Prog_agg (by rw [te_Prog_size];rfl)) ?_
 refine WL.call rfl rfl is_code_May hc5 ?_
 cases c0:For.mayP mayG (For.bareP f)
 ·(repeat first|apply zSeq|apply zReg|refine wN ?_|refine wA ?_|refine zNot rfl ?_|refine zT rfl rfl ?_)
  refine WP.ret ⟨.inr rfl,_,rfl,?_,f05⟩
  unfold For.may;rw [c0];rfl
 have hmay:For.may mayG mi f=f.funs.all (For.funOk mayG mi f):=by unfold For.may;rw [c0];rfl
 rw [hmay]
 (repeat first|apply zSeq|apply zReg|apply zBlk|apply zSkp|refine wN ?_|refine wM ?_|refine zNot rfl ?_|refine zF rfl rfl ?_|refine zFld rfl O_Form_Funs ?_|refine wB E_s_api_Graph ?_|refine zLen rfl (hlen1 _) ?_)
 refine WP.loopH (σ:=Nat) (fun k=>[(1,.pointer (some ⟨H.next,0,none⟩)),(3,.pointer (some ⟨H2.next,0,none⟩)),(14,vf),(15,.int .i64 f.funs.length),(16,.int .i64 k)]) (fun k Hc=>FrX (obs o) (ogs o) H5 Hc∧Fr H1 Hc∧Bx Hc H2.next 56 [vm,vl,bv]∧OwR 59 5 FunR (.old H1.next) Hc H1.next bv (For.bareK f k).funs o∧k≤f.funs.length∧∀ j (h:j < f.funs.length),j < k→For.funOk mayG mi f f.funs[j]=true) (fun k=>f.funs.length - k) 0 ⟨.refl _ _ _,(f2.trans f24).trans f5,b5',how5,Nat.zero_le _,fun j _ h=>absurd h (by omega)⟩ ⟨rfl,rfl,rfl,rfl,rfl,trivial⟩ ?_
 rintro k Hc ⟨hfr,hf1,hbx,how,hk,hpre⟩
 rcases Nat.lt_or_ge k f.funs.length with h|h
 case inr=>
  have g1:decide ((k:Int) < f.funs.length)=false:=decide_eq_false (by omega)
  (repeat first|apply zSeq|apply zReg|refine zExt ?_|refine wN ?_|refine wA ?_|refine wL ?_|refine wE ?_)
  refine WP.ret ⟨.inr rfl,_,rfl,?_,f1.trans hf1⟩
  have:f.funs.all (For.funOk mayG mi f)=true:=by
   rw [List.all_eq_true]
   intro x hx
   obtain ⟨j,hj,rfl⟩:=List.mem_iff_getElem.1 hx
   exact hpre j hj (by omega)
  rw [this];rfl
 have g1:decide ((k:Int) < f.funs.length)=true:=decide_eq_true (by omega)
 have bad:For.funOk mayG mi f f.funs[k]=false→f.funs.all (For.funOk mayG mi f)=false:=fun hb=>by
  rw [List.all_eq_false]
  exact ⟨f.funs[k],List.getElem_mem _,by rw [hb];decide⟩
 have f0c:=f1.trans hf1
 obtain ⟨b,off,cs,ha1,hrd,hgr⟩:=(hfo.f.fr GraphR.m f0c).at E_s_api_Graph E_Graph te_Graph_size (kd:=.i64) h
 have hl1:=hrd.loadN (V:=V) E_Graph te_Graph_agg te_Graph_size
 have hsg:=hs.gs f.funs[k] (List.getElem_mem _)
 have hsa:=hs.args f.funs[k] (List.getElem_mem _)
 have hso:=hs.op f.funs[k] (List.getElem_mem _)
 have hgr0:=hgr
 obtain ⟨vb,rfl,hbl⟩:=hgr
 have hv1:=hbl.oneCell
 (repeat first|apply zSeq|apply zReg|apply zBlk|apply zSkp|refine wN ?_|refine wG ?_|refine wL ?_|refine wT ?_|refine wI ?_|refine zLd rfl ‹_› ?_)
 refine zAlc E_int rfl fun H6 f6 b6 n6=>?_
 refine zAlc E_Graph zeroGraph fun H7 f7 b7 n7=>?_
 have b6':=b6.fr f7
 refine zStB b6' rfl rfl E_int rfl rfl (by simp [Value.cells]) (by simp [Value.cells]) fun H8 f8 b8 n8=>?_
 have b8n:Bx H8 Hc.next 3 [.int .i64 k]:=b8
 have b78:=b7.frX f8 (by simp;omega)
 refine zStB b78 rfl rfl E_Graph (by rw [te_Graph_size];rfl) (by simp [Value.cells,Value.oneCell'] at hv1 ⊢;exact hv1) (by simp [Value.cells]) (by simp [Value.cells]) fun H9 f9 b9 n9=>?_
 have b9g:Bx H9 H6.next 35 (graphC f.funs[k] vb):=b9
 have b9n:=b8n.frX f9 (by simp;omega)
 have fc9:Fr Hc H9:=((f6.trans f7).young f8 (by simp) (by simp)).young f9 (by simp;omega) (by simp)
 clear b6 b6' b7 b8 b78 b9 b8n f6 f7 f8 f9
 have f09:=f0c.trans fc9
 obtain ⟨_,Ha,hca,rfl,fa⟩:=may_c (H:=H9) hO (hgh.fr f09) (GraphR.m.fr hgr0 fc9) hsg hso
 have fca:=fc9.trans fa
 have f0a:=f09.trans fa
 have bag:=b9g.fr fa
 have ban:=b9n.fr fa
 have bap:=hbx.fr fca
 have howa:=how.fr FunR.m fca
 have hn9:=fca.1
 have hnc:=hfr.1
 (repeat first|apply zSeq|apply zReg|refine wN ?_)
 refine zLd rfl (b9g.ldN E_Graph te_Graph_agg (by rw [te_Graph_size];rfl)) ?_
 refine WL.call rfl rfl is_flow_May hca ?_
 cases c1:Flo.may mi f.funs[k]
 ·(repeat first|apply zSeq|apply zReg|refine wN ?_|refine wA ?_|refine zNot rfl ?_|refine zT rfl rfl ?_)
  refine WP.ret ⟨.inr rfl,_,rfl,?_,f0a⟩
  rw [bad (by unfold For.funOk;rw [c1];rfl)];rfl
 obtain ⟨bw,ow,Hw,w1,w2,w3,w4,w5⟩:=howa.set (V:=V) (i:=k) (x':=For.bareF f.funs[k] f.funs[k].regs) (off:=3) (vs:=[.int .i64 f.funs[k].regs]) FunR.m (by rw [For.bareK_length];exact h) (by simp) (by simp) (fun {A H cs} hR=>by
  rw [For.bareK_at h] at hR
  obtain ⟨vc,rfl,hc⟩:=hR
  exact ⟨vc,rfl,hc⟩) E_s_api_Fun E_Fun te_Fun_size (kd:=.i64)
 rw [For.bareK_set h] at w3
 have hyw:=w3.young
 have hbxn:H2.next∉obs o:=fun hb=>by have:=hyo.2.2.1 _ hb;omega
 have bwg:Bx Hw H6.next 35 (graphC f.funs[k] vb):=bag.frX w4 (fun hb=>by have:=hyo.2.2.1 _ hb;have:=hfr.1;have:=f5.1;omega)
 have bwn:Bx Hw Hc.next 3 [.int .i64 k]:=ban.frX w4 (fun hb=>by have:=hyo.2.2.1 _ hb;have:=hfr.1;have:=f5.1;omega)
 have bwp:Bx Hw H2.next 56 [vm,vl,bv]:=bap.frX w4 hbxn
 have f1w:Fr H1 Hw:=(hf1.trans fca).young w4 hyw.1 hyw.2.1
 have f0w:=f1.trans f1w
 have bwg':Bx Hw H6.next 35 [.string f.funs[k].name,.bool f.funs[k].thread,.int .i64 f.funs[k].params,.int .i64 f.funs[k].regs,vb]:=bwg
 have bag':Bx Ha H6.next 35 [.string f.funs[k].name,.bool f.funs[k].thread,.int .i64 f.funs[k].params,.int .i64 f.funs[k].regs,vb]:=bag
 (repeat first|apply zSeq|apply zReg|apply zSkp|refine wN ?_|refine zNot rfl ?_|refine zF rfl rfl ?_|refine zFld rfl O_Graph_Regs ?_|refine zFld rfl O_Fun_Regs ?_|refine zFld rfl O_Prog_Funs ?_|refine wB E_int ?_|refine wB E_s_api_Fun ?_|refine wI ?_)
 refine WL.op (op_store rfl rfl E_int rfl rfl w2) ?_
 have hblw:Els 4 BlockR (.of o) Hw vb f.funs[k].blocks:=(hbl.fr BlockR.m fca).frX BlockR.m w4
 have helw:=w3.els FunR.m hnb hng
 have hpw:PrR .no Hw vm vl bv (For.bareK f (k+1)):=⟨(hf.m.fr MemR.m f0w).gr MemR.m .no,(hf.l.fr StrR.m f0w).gr StrR.m .no,helw.gr FunR.m .no⟩
 have hkw:k < (For.bareK f (k+1)).funs.length:=by rw [For.bareK_length];exact h
 have hmg:∀ i,mayG (For.bareK f (k+1)) (For.bareK f (k+1)).funs[k] i=mayG (For.bareP f) (For.bareF f.funs[k] f.funs[k].regs) i:=fun i=>by
  rw [mayG_bareK,For.bareK_at h,if_pos (by omega)]
 have hlen3:=fun Hz=>hblw.len (V:=V) (H2:=Hz) E_s_api_Block
 have hfk:For.funOk mayG mi f f.funs[k]=f.funs[k].blocks.all fun b=>b.code.all (mayG (For.bareP f) (For.bareF f.funs[k] f.funs[k].regs)):=by unfold For.funOk;rw [c1];rfl
 have hfrw:FrX (obs o) (ogs o) H5 Hw:=(hfr.trans (fca.x [] []) (by simp) (by simp)).trans w4 (fun b hb _=>hb) (fun b hb _=>hb)
 have hnb:=hsg.nb
 clear howa how w1 w2 ban bap bag bag' b9g b9n hca helw
 (repeat first|apply zSeq|apply zReg|apply zBlk|refine wN ?_|refine wM ?_|refine zFld rfl O_Graph_Blocks ?_|refine wB E_s_api_Block ?_|refine zLen rfl (hlen3 _) ?_)
 refine WP.loopH (σ:=Nat) (fun j=>[(1,.pointer (some ⟨H.next,0,none⟩)),(3,.pointer (some ⟨H2.next,0,none⟩)),(4,.pointer (some ⟨Hc.next,0,none⟩)),(14,vf),(15,.int .i64 f.funs.length),(16,.int .i64 k),(32,vb),(33,.int .i64 f.funs[k].blocks.length),(34,.int .i64 j)]) (fun j Hd=>Fr Hw Hd∧j≤f.funs[k].blocks.length∧∀ n (h:n < f.funs[k].blocks.length),n < j→f.funs[k].blocks[n].code.all (mayG (For.bareP f) (For.bareF f.funs[k] f.funs[k].regs))=true) (fun j=>f.funs[k].blocks.length - j) 0 ⟨.refl _,Nat.zero_le _,fun n _ h=>absurd h (by omega)⟩ ⟨rfl,rfl,rfl,rfl,rfl,rfl,rfl,rfl,rfl,trivial⟩ ?_
 rintro j Hd ⟨fwd,hj,hpj⟩
 have f0d:=f0w.trans fwd
 rcases Nat.lt_or_ge j f.funs[k].blocks.length with h2|h2
 case inr=>
  have g2:decide ((j:Int) < f.funs[k].blocks.length)=false:=decide_eq_false (by omega)
  have hok:For.funOk mayG mi f f.funs[k]=true:=by
   rw [hfk,List.all_eq_true]
   intro x hx
   obtain ⟨n,hn,rfl⟩:=List.mem_iff_getElem.1 hx
   exact hpj n hn (by omega)
  (repeat first|apply zSeq|apply zReg|refine zExt ?_|refine wN ?_|refine wL ?_|refine zAdd rfl rfl (by omega) ?_|refine wE ?_)
  refine ⟨k+1,⟨hfrw.trans (fwd.x [] []) (by simp) (by simp),f1w.trans fwd,bwp.fr fwd,w3.fr FunR.m fwd,h,fun n hn hnk=>?_⟩,by omega,rfl,rfl,rfl,rfl,rfl,trivial⟩
  by_cases e:n=k
  ·subst e;exact hok
  ·exact hpre n hn (by omega)
 have g2:decide ((j:Int) < f.funs[k].blocks.length)=true:=decide_eq_true (by omega)
 obtain ⟨b2,off2,cs2,ha2,hrd2,hR2⟩:=(hblw.fr BlockR.m fwd).at E_s_api_Block E_Block te_Block_size (kd:=.i64) h2
 have hl2:=hrd2.loadN (V:=V) E_Block te_Block_agg te_Block_size
 have hone2:=(BlockR.one hR2).1
 have hlen2':=(BlockR.one hR2).2
 obtain ⟨vp,vc,vfr,vto,rfl,hP,hC,hF,hT⟩:=hR2
 have hsa2:=hsa f.funs[k].blocks[j] (List.getElem_mem _)
 have hso2:=hso f.funs[k].blocks[j] (List.getElem_mem _)
 have hsc2:=hsg.code f.funs[k].blocks[j] (List.getElem_mem _)
 (repeat first|apply zSeq|apply zReg|apply zBlk|apply zSkp|refine wN ?_|refine wL ?_|refine wT ?_|refine wI ?_|refine zLd rfl ‹_› ?_)
 refine zAlc E_Block zero34 fun He fe be ne=>?_
 refine zStB be rfl rfl E_Block (by rw [te_Block_size];rfl) (by simpa [Value.cells] using hone2) (by simp [Value.cells]) (by simp [Value.cells]) fun Hg fg bg ng=>?_
 have bg':Bx Hg Hd.next 39 [vp,vc,vfr,vto]:=bg
 have fdg:Fr Hd Hg:=fe.young fg (by simp) (by simp)
 have f0g:=f0d.trans fdg
 have fwg:=fwd.trans fdg
 obtain ⟨Hi,hci,fi⟩:=containsFunc_ins_c (H:=Hg) (f:=26) (cap:=#[.pointer (some ⟨H2.next,0,none⟩),.pointer (some ⟨Hc.next,0,none⟩)]) (p:=fun i=>!mayG (For.bareP f) (For.bareF f.funs[k] f.funs[k].regs) i) hO (hC.fr InsR.m fdg) hsc2 (by rw [fn_flow_MayForm_q1];rfl) (fun x hx cs Hx fx hR=>by
  obtain ⟨_,Hy,h,rfl,fy⟩:=mayFormQ_c (H:=Hx) hO (hgh.fr (f0g.trans fx)) hkw (hpw.fr (fwg.trans fx)) (bwp.fr (fwg.trans fx)) (bwn.fr (fwg.trans fx)) hR (hsa2 x hx) (hso2 x hx)
  rw [hmg] at h
  exact ⟨Hy,h,fy⟩)
 rw [any_not] at hci
 (repeat first|apply zSeq|apply zReg|refine wN ?_|refine zFld rfl O_Block_Code ?_|refine wB E_s_api_Ins ?_)
 refine WL.op (v:=.func (.func 26) #[] #[.pointer (some ⟨H2.next,0,none⟩),.pointer (some ⟨Hc.next,0,none⟩)]) (H1:=Hg) rfl ?_
 refine WL.call rfl rfl is_slices_ContainsFunc_s_api_Ins_api_Ins hci ?_
 cases c3:f.funs[k].blocks[j].code.all (mayG (For.bareP f) (For.bareF f.funs[k] f.funs[k].regs))
 ·(repeat first|apply zSeq|apply zReg|refine wN ?_|refine wA ?_|refine zT rfl rfl ?_)
  refine WP.ret ⟨.inr rfl,_,rfl,?_,f0g.trans fi⟩
  rw [bad (by
   rw [hfk,List.all_eq_false]
   exact ⟨_,List.getElem_mem h2,by rw [c3];decide⟩)]
  rfl
 ·(repeat first|apply zReg|apply zSkp|refine wN ?_|refine zAdd rfl rfl (by omega) ?_|refine zF rfl rfl ?_)
  refine ⟨j+1,⟨fwg.trans fi,h2,fun n hn hnj=>?_⟩,by omega,rfl,rfl,rfl,rfl,rfl,rfl,rfl,rfl,rfl,trivial⟩
  by_cases e:n=j
  ·subst e;exact c3
  ·exact hpj n hn (by omega)
end Go.Proofs.YtogomfblfpfjhaaGreatDoor.U
namespace Go.Proofs.YtogomfblfpfjhaaGreatDoor.U
open Go Go.Ev
attribute [local irreducible] WL WP WH W
theorem fill_int2 {sb:Nat}{x y:Int}:afill (fun i=>some (i * TI.size ⟨.int .i64,1,sb,.int .i64 0⟩,TI.size ⟨.int .i64,1,sb,.int .i64 0⟩)) (azeros (TI.zv ⟨.int .i64,1,sb,.int .i64 0⟩).cells.toList 2) [(0,.int .i64 x),(1,.int .i64 y)]=some [.int .i64 x,.int .i64 y]:=by rfl
attribute [local irreducible] V
variable {O:Orc}{H:AH}
theorem rWithin_c (hO:NoO O) (n m:Int):Lc V O F_ref07_within [.int .i64 n,.int .i64 m] H (.bool (decide (n≥0)&&decide (n < m))) H:=by
 refine Lc.of_eq (Lc.ref07_within (R:=fun u H'=>u=.bool (decide (n≥0)&&decide (n < m))∧H'=H) (hO _ _ _ (by decide)) (Nat.le_of_ble_eq_true rfl) (by kernel_rfl) ?_)
 unfold P_ref07_within
 cases c1:decide (n≥0)
 ·(repeat first|apply zSeq|apply zReg|refine wN ?_|refine wG ?_|refine wF ?_|refine wA ?_|refine wR ?_|refine zGeq rfl rfl ?_)
  exact WP.ret ⟨.inr rfl,_,rfl,rfl,rfl⟩
 ·(repeat first|apply zSeq|apply zReg|refine wN ?_|refine wG ?_|refine wO ?_|refine wM ?_|refine wA ?_|refine wP ?_|refine wL ?_|refine zGeq rfl rfl ?_)
  exact WP.ret ⟨.inr rfl,_,rfl,rfl,rfl⟩
set_option maxHeartbeats 4000000 in
theorem rWrites_c (hO:NoO O) {i:Ins}{va:Value} (hop:0≤i.op∧i.op < 256) :
  ∃ u H',Lc V O F_ref07_Writes [insV i va] H u H'∧(u=.tuple #[.int .i64 (if (Flo.opD i.op).r=true then i.r else 0),.bool (Flo.opD i.op).r]∧Fr H H'):=by
 refine Lc.ref07_Writes (R:=fun u H'=>u=.tuple #[.int .i64 (if (Flo.opD i.op).r=true then i.r else 0),.bool (Flo.opD i.op).r]∧Fr H H') (hO _ _ _ (by decide)) (Nat.le_of_ble_eq_true rfl) (by kernel_rfl) ?_
 unfold P_ref07_Writes
 apply zSeq
 apply zReg
 refine zBox rfl (fun _=>rfl) fun H1 f1 b1 n1=>?_
 obtain ⟨op,r,a,b,n,args⟩:=i
 have b1':Bx H1 H.next 41 [.int .u8 op,.int .i64 r,.int .i64 a,.int .i64 b,.int .i64 n,va]:=b1
 clear b1
 simp only at hop ⊢
 by_cases h14:14≤op
 ·have e1:=ne14 h14 (k:=1) (by decide)
  have e2:=ne14 h14 (k:=2) (by decide)
  have e3:=ne14 h14 (k:=3) (by decide)
  have e4:=ne14 h14 (k:=4) (by decide)
  have e5:=ne14 h14 (k:=5) (by decide)
  have e6:=ne14 h14 (k:=10) (by decide)
  rw [opD_out (by unfold Flo.isOp;rw [decide_eq_true (show op≥14 by omega),Bool.or_true];rfl) hop.1]
  (repeat first|apply zSeq|apply zReg|apply zBlk|apply zSkp|refine wN ?_|refine wA ?_|refine zEql rfl rfl ?_|refine wE ?_|refine zFld rfl O_Ins_Op ?_|refine wB E_uint8 ?_)
  exact WP.ret ⟨.inr rfl,_,rfl,rfl,f1⟩
 rcases op_cases0 ⟨hop.1,Int.not_le.1 h14⟩ with rfl|rfl|rfl|rfl|rfl|rfl|rfl|rfl|rfl|rfl|rfl|rfl|rfl|rfl
 all_goals
  (repeat first|apply zSeq|apply zReg|apply zBlk|apply zSkp|refine wN ?_|refine wA ?_|refine zEql rfl rfl ?_|refine zT rfl rfl ?_|refine zF rfl rfl ?_|refine zFld rfl O_Ins_Op ?_|refine zFld rfl O_Ins_R ?_|refine wB E_int ?_|refine wB E_uint8 ?_)
  exact WP.ret ⟨.inr rfl,_,rfl,rfl,f1⟩
set_option maxHeartbeats 8000000 in
theorem rReads_c (hO:NoO O) {A:Av}{i:Ins}{va:Value} (hv:IntsR A H va i.args) (hL:i.args.length≤100000) (hop:0≤i.op∧i.op < 256) :
    ∃ u H',Lc V O F_ref07_Reads [insV i va] H u H'∧(Fr H H'∧∃ o,OwI 3 H' H.next u (readsG (Flo.opD i.op) i) o):=by
  refine Lc.ref07_Reads (R:=fun u H'=>Fr H H'∧∃ o,OwI 3 H' H.next u (readsG (Flo.opD i.op) i) o) (hO _ _ _ (by decide)) (Nat.le_of_ble_eq_true rfl) (by kernel_rfl) ?_
  unfold P_ref07_Reads
  apply zSeq
  apply zReg
  refine zBox rfl (fun _=>rfl) fun H1 f1 b1 n1=>?_
  obtain ⟨op,r,a,b,n,args⟩:=i
  have b1':Bx H1 H.next 41 [.int .u8 op,.int .i64 r,.int .i64 a,.int .i64 b,.int .i64 n,va]:=b1
  clear b1
  simp only at hop hL hv ⊢
  have hn1:H.next≤H1.next:=f1.1
  obtain ⟨v1,H2,o1,k1,k2,k3,k4⟩:=(OwI.nil (e:=3) (H:=H1) (n0:=H.next)).app1 (V:=V) a (by simp) hn1 E_s_int E_s_int E_int (by decide)
  rw [List.nil_append] at k2
  have f2:Fr H H2:=f1.young k3 (by simp [obs]) (by simp [ogs])
  have b2':=b1'.frX k3 (by simp [obs])
  obtain ⟨v3,H3,o3,m1,m2,m3,m4⟩:=k2.app1 (V:=V) b (by simp) f2.1 E_s_int E_s_int E_int (by decide)
  have hy2:=k2.young
  have f3:Fr H H3:=f2.young m3 hy2.1 hy2.2.1
  obtain ⟨v4,H4,o4,p1,p2,p3,p4⟩:=(OwI.nil (e:=3) (H:=H1) (n0:=H.next)).app1 (V:=V) b (by simp) hn1 E_s_int E_s_int E_int (by decide)
  rw [List.nil_append] at p2
  have f4:Fr H H4:=f1.young p3 (by simp [obs]) (by simp [ogs])
  have fl:=Fr.alloc H1 (.row 3 [.int .i64 a,.int .i64 b] .exact 0 0)
  obtain ⟨v5,H5,o5,q1,q2,q3,q4⟩:=(OwI.nil (e:=3) (H:=H1.alloc (.row 3 [.int .i64 a,.int .i64 b] .exact 0 0)) (n0:=H.next)).app (V:=V) (m:=[a,b]) (OneAt.toSl (H:=H1) (e:=3) (cs:=[.int .i64 a,.int .i64 b]) (cap:=2) (by simp)) (by simp) (Nat.le_trans hn1 fl.1) E_s_int E_s_int E_int (by decide)
  rw [List.nil_append] at q2
  have f5:Fr H H5:=(f1.trans fl).young q3 (by simp [obs]) (by simp [ogs])
  obtain ⟨v6,H6,o6,r1,r2,r3,r4⟩:=(OwI.nil (e:=3) (H:=H1) (n0:=H.next)).app (V:=V) (m:=args) ((hv.fr f1).sl (by omega)) (by simp;omega) hn1 E_s_int E_s_int E_int (by decide)
  rw [List.nil_append] at r2
  have f6:Fr H H6:=f1.young r3 (by simp [obs]) (by simp [ogs])
  by_cases h14:14≤op
  · have e2:=ne14 h14 (k:=2) (by decide)
    have e3:=ne14 h14 (k:=3) (by decide)
    have e4:=ne14 h14 (k:=4) (by decide)
    have e5:=ne14 h14 (k:=5) (by decide)
    have e6:=ne14 h14 (k:=6) (by decide)
    have e7:=ne14 h14 (k:=9) (by decide)
    have e8:=ne14 h14 (k:=10) (by decide)
    have e9:=ne14 h14 (k:=12) (by decide)
    have ea:=ne14 h14 (k:=13) (by decide)
    rw [opD_out (by unfold Flo.isOp;rw [decide_eq_true (show op≥14 by omega),Bool.or_true];rfl) hop.1]
    (repeat first|apply zSeq|apply zReg|apply zBlk|apply zSkp|refine wN ?_|refine wG ?_|refine wA ?_|refine zEql rfl rfl ?_|refine wE ?_|refine zFld rfl O_Ins_Op ?_|refine wB E_uint8 ?_)
    exact WP.ret ⟨.inr rfl,_,rfl,f1,none,.nil⟩
  have ha0:a=-1∨(a != -1)=true:=by
    by_cases h:a=-1
    · exact .inl h
    · exact .inr (by simpa using h)
  rcases op_cases0 ⟨hop.1,Int.not_le.1 h14⟩ with rfl|rfl|rfl|rfl|rfl|rfl|rfl|rfl|rfl|rfl|rfl|rfl|rfl|rfl
  case inr.inr.inr.inr.inr.inl =>
    rcases ha0 with rfl|c
    · (repeat first|apply zSeq|apply zReg|apply zBlk|apply zSkp|refine wN ?_|refine wG ?_|refine wA ?_|refine zEql rfl rfl ?_|refine zNeq rfl rfl ?_|refine zT rfl rfl ?_|refine zF rfl rfl ?_|refine zFld rfl O_Ins_Op ?_|refine zFld rfl O_Ins_A ?_|refine wB E_int ?_|refine wB E_uint8 ?_)
      exact WP.ret ⟨.inr rfl,_,rfl,f1,none,.nil⟩
    · have hr:readsG (Flo.opD 5) ⟨5,r,a,b,n,args⟩=[a]:=by
        have:(a==-1)=false:=by simpa using c
        simp [readsG,Flo.opD,Flo.opL,this]
      rw [hr]
      (repeat first|apply zSeq|apply zReg|apply zBlk|refine wN ?_|refine wG ?_|refine wA ?_|refine zEql rfl rfl ?_|refine zNeq rfl rfl ?_|refine zT rfl rfl ?_|refine zF rfl rfl ?_|refine wT ?_|refine zFld rfl O_Ins_Op ?_|refine zFld rfl O_Ins_A ?_|refine wB E_int ?_|refine wB E_uint8 ?_)
      refine WL.op (op_buildSlice rfl E_s_int E_int (by decide) fill_int) ?_
      refine WL.op (k1 rfl rfl) ?_
      (repeat first|apply zSeq|apply zReg|refine wN ?_|refine wG ?_)
      exact WP.ret ⟨.inr rfl,_,rfl,f2,o1,k2⟩
  case inr.inr.inr.inr.inr.inr.inl =>
    rcases ha0 with rfl|c
    · (repeat first|apply zSeq|apply zReg|apply zBlk|apply zSkp|refine wN ?_|refine wG ?_|refine wA ?_|refine zEql rfl rfl ?_|refine zNeq rfl rfl ?_|refine zT rfl rfl ?_|refine zF rfl rfl ?_|refine zFld rfl O_Ins_Op ?_|refine zFld rfl O_Ins_A ?_|refine zFld rfl O_Ins_B ?_|refine wB E_int ?_|refine wB E_uint8 ?_)
      refine WL.op (op_buildSlice rfl E_s_int E_int (by decide) fill_int) ?_
      refine WL.op (p1 rfl rfl) ?_
      (repeat first|apply zSeq|apply zReg|refine wN ?_|refine wG ?_)
      exact WP.ret ⟨.inr rfl,_,rfl,f4,o4,p2⟩
    · have hr:readsG (Flo.opD 6) ⟨6,r,a,b,n,args⟩=[a]++[b]:=by
        have:(a==-1)=false:=by simpa using c
        simp [readsG,Flo.opD,Flo.opL,this]
      rw [hr]
      (repeat first|apply zSeq|apply zReg|apply zBlk|refine wN ?_|refine wG ?_|refine wA ?_|refine zEql rfl rfl ?_|refine zNeq rfl rfl ?_|refine zT rfl rfl ?_|refine zF rfl rfl ?_|refine wT ?_|refine zFld rfl O_Ins_Op ?_|refine zFld rfl O_Ins_A ?_|refine wB E_int ?_|refine wB E_uint8 ?_)
      refine WL.op (op_buildSlice rfl E_s_int E_int (by decide) fill_int) ?_
      refine WL.op (k1 rfl rfl) ?_
      (repeat first|apply zReg|refine wN ?_|refine wG ?_|refine zFld rfl O_Ins_B ?_|refine wB E_int ?_)
      refine WL.op (op_buildSlice rfl E_s_int E_int (by decide) fill_int) ?_
      refine WL.op (m1 rfl rfl) ?_
      (repeat first|apply zSeq|apply zReg|refine wN ?_|refine wG ?_)
      exact WP.ret ⟨.inr rfl,_,rfl,f3,o3,m2⟩
  case inr.inr.inr.inr.inl =>
    (repeat first|apply zSeq|apply zReg|apply zBlk|refine wN ?_|refine wG ?_|refine wA ?_|refine zEql rfl rfl ?_|refine zT rfl rfl ?_|refine zF rfl rfl ?_|refine zFld rfl O_Ins_Op ?_|refine zFld rfl O_Ins_A ?_|refine zFld rfl O_Ins_B ?_|refine wB E_int ?_|refine wB E_uint8 ?_)
    refine WL.op (op_buildSlice rfl E_s_int E_int (by decide) fill_int2) ?_
    refine WL.op (q1 rfl rfl) ?_
    (repeat first|apply zSeq|apply zReg|refine wN ?_|refine wG ?_)
    exact WP.ret ⟨.inr rfl,_,rfl,f5,o5,q2⟩
  case inr.inr.inr.inr.inr.inr.inr.inr.inr.inr.inl =>
    (repeat first|apply zSeq|apply zReg|apply zBlk|refine wN ?_|refine wG ?_|refine wA ?_|refine zEql rfl rfl ?_|refine zT rfl rfl ?_|refine zF rfl rfl ?_|refine zFld rfl O_Ins_Op ?_|refine zFld rfl O_Ins_Args ?_|refine wB E_uint8 ?_|refine wB E_s_int ?_)
    refine WL.op (r1 rfl rfl) ?_
    (repeat first|apply zSeq|apply zReg|refine wN ?_|refine wG ?_)
    exact WP.ret ⟨.inr rfl,_,rfl,f6,o6,r2⟩
  all_goals
    first
    | ((repeat first|apply zSeq|apply zReg|apply zBlk|apply zSkp|refine wN ?_|refine wG ?_|refine wA ?_|refine zEql rfl rfl ?_|refine zT rfl rfl ?_|refine zF rfl rfl ?_|refine zFld rfl O_Ins_Op ?_|refine zFld rfl O_Ins_A ?_|refine wB E_int ?_|refine wB E_uint8 ?_);exact WP.ret ⟨.inr rfl,_,rfl,f1,none,.nil⟩)
    | ((repeat first|apply zSeq|apply zReg|apply zBlk|apply zSkp|refine wN ?_|refine wG ?_|refine wA ?_|refine zEql rfl rfl ?_|refine zT rfl rfl ?_|refine zF rfl rfl ?_|refine zFld rfl O_Ins_Op ?_|refine zFld rfl O_Ins_A ?_|refine wB E_int ?_|refine wB E_uint8 ?_);refine WL.op (op_buildSlice rfl E_s_int E_int (by decide) fill_int) ?_;refine WL.op (k1 rfl rfl) ?_;(repeat first|apply zSeq|apply zReg|refine wN ?_|refine wG ?_);exact WP.ret ⟨.inr rfl,_,rfl,f2,o1,k2⟩)
set_option maxHeartbeats 4000000 in
theorem rSame_c (hO:NoO O) {A B:Av}{i j:Ins}{va vb:Value} (h1:IntsR A H va i.args) (h2:IntsR B H vb j.args) (hL:i.args.length≤1000000) :
  ∃ u H',Lc V O F_ref07_SameIns [insV i va,insV j vb] H u H'∧(u=.bool (sameB i j)∧Fr H H'):=by
 refine Lc.ref07_SameIns (R:=fun u H'=>u=.bool (sameB i j)∧Fr H H') (hO _ _ _ (by decide)) (Nat.le_of_ble_eq_true rfl) (by kernel_rfl) ?_
 unfold P_ref07_SameIns
 apply zSeq
 apply zReg
 refine zBox rfl (fun _=>rfl) fun H1 f1 b1 n1=>?_
 refine zBox rfl (fun _=>rfl) fun H2 f2 b2 n2=>?_
 have b1':Bx H2 H.next 41 (i.cells va):=b1.fr f2
 have b2':Bx H2 H1.next 41 (j.cells vb):=b2
 have f12:=f1.trans f2
 have hlen1:=fun Hz=>h1.len (V:=V) (H2:=Hz) E_s_int
 have hlen2:=fun Hz=>h2.len (V:=V) (H2:=Hz) E_s_int
 clear b1 b2
 unfold sameB
 refine byTF (i.op==j.op) (fun c1=>?_) (fun c1=>by (have c1':(i.op != j.op)=true:=by (unfold bne;rw [c1];rfl));(repeat first|apply zSeq|apply zReg|refine wN ?_|refine zOff rfl rfl ?_|refine wF ?_|refine wA ?_|refine zPT rfl rfl rfl ?_|refine wP ?_|refine zNeq rfl rfl ?_|refine zT rfl rfl ?_|refine zFld rfl O_Ins_Op ?_|refine wB E_uint8 ?_);exact WP.ret ⟨.inr rfl,_,rfl,by rw [c1];rfl,f12⟩)
 have c1':(i.op != j.op)=false:=by unfold bne;rw [c1];rfl
 refine byTF (i.r==j.r) (fun c2=>?_) (fun c2=>by (have c2':(i.r != j.r)=true:=by (unfold bne;rw [c2];rfl));(repeat first|apply zSeq|apply zReg|refine wN ?_|refine zOff rfl rfl ?_|refine wO ?_|refine wF ?_|refine wA ?_|refine zPT rfl rfl rfl ?_|refine wP ?_|refine wR ?_|refine zNeq rfl rfl ?_|refine zT rfl rfl ?_|refine zFld rfl O_Ins_Op ?_|refine zFld rfl O_Ins_R ?_|refine wB E_int ?_|refine wB E_uint8 ?_);exact WP.ret ⟨.inr rfl,_,rfl,by rw [c1,c2];rfl,f12⟩)
 have c2':(i.r != j.r)=false:=by unfold bne;rw [c2];rfl
 refine byTF (i.a==j.a) (fun c3=>?_) (fun c3=>by (have c3':(i.a != j.a)=true:=by (unfold bne;rw [c3];rfl));(repeat first|apply zSeq|apply zReg|refine wN ?_|refine zOff rfl rfl ?_|refine wO ?_|refine wF ?_|refine wA ?_|refine zPT rfl rfl rfl ?_|refine wP ?_|refine wR ?_|refine zNeq rfl rfl ?_|refine zT rfl rfl ?_|refine zFld rfl O_Ins_Op ?_|refine zFld rfl O_Ins_R ?_|refine zFld rfl O_Ins_A ?_|refine wB E_int ?_|refine wB E_uint8 ?_);exact WP.ret ⟨.inr rfl,_,rfl,by rw [c1,c2,c3];rfl,f12⟩)
 have c3':(i.a != j.a)=false:=by unfold bne;rw [c3];rfl
 refine byTF (i.b==j.b) (fun c4=>?_) (fun c4=>by (have c4':(i.b != j.b)=true:=by (unfold bne;rw [c4];rfl));(repeat first|apply zSeq|apply zReg|refine wN ?_|refine zOff rfl rfl ?_|refine wO ?_|refine wF ?_|refine wA ?_|refine zPT rfl rfl rfl ?_|refine wP ?_|refine wR ?_|refine zNeq rfl rfl ?_|refine zT rfl rfl ?_|refine zFld rfl O_Ins_Op ?_|refine zFld rfl O_Ins_R ?_|refine zFld rfl O_Ins_A ?_|refine zFld rfl O_Ins_B ?_|refine wB E_int ?_|refine wB E_uint8 ?_);exact WP.ret ⟨.inr rfl,_,rfl,by rw [c1,c2,c3,c4];rfl,f12⟩)
 have c4':(i.b != j.b)=false:=by unfold bne;rw [c4];rfl
 refine byTF (i.n==j.n) (fun c5=>?_) (fun c5=>by (have c5':(i.n != j.n)=true:=by (unfold bne;rw [c5];rfl));(repeat first|apply zSeq|apply zReg|refine wN ?_|refine wO ?_|refine wF ?_|refine wA ?_|refine wP ?_|refine wR ?_|refine zNeq rfl rfl ?_|refine zT rfl rfl ?_|refine zFld rfl O_Ins_Op ?_|refine zFld rfl O_Ins_R ?_|refine zFld rfl O_Ins_A ?_|refine zFld rfl O_Ins_B ?_|refine zFld rfl O_Ins_N ?_|refine wB E_int ?_|refine wB E_int64 ?_|refine wB E_uint8 ?_);exact WP.ret ⟨.inr rfl,_,rfl,by rw [c1,c2,c3,c4,c5];rfl,f12⟩)
 have c5':(i.n != j.n)=false:=by unfold bne;rw [c5];rfl
 rw [c1,c2,c3,c4,c5]
 simp only [Bool.true_and]
 cases c6:((i.args.length:Int) != j.args.length)
 case true=>
  have hne:(i.args==j.args)=false:=by
   rw [beq_eq_false_iff_ne]
   intro e
   rw [e] at c6;simp at c6
  (repeat first|apply zSeq|apply zReg|refine wN ?_|refine wO ?_|refine wA ?_|refine wR ?_|refine zNeq rfl rfl ?_|refine wT ?_|refine zFld rfl O_Ins_Op ?_|refine zFld rfl O_Ins_R ?_|refine zFld rfl O_Ins_A ?_|refine zFld rfl O_Ins_B ?_|refine zFld rfl O_Ins_N ?_|refine zFld rfl O_Ins_Args ?_|refine wB E_int ?_|refine wB E_int64 ?_|refine wB E_uint8 ?_|refine wB E_s_int ?_|refine zLen rfl (hlen1 _) ?_|refine zLen rfl (hlen2 _) ?_)
  exact WP.ret ⟨.inr rfl,_,rfl,by rw [hne];rfl,f12⟩
 have hll:i.args.length=j.args.length:=by
  have:(i.args.length:Int)=j.args.length:=by simpa using c6
  omega
 (repeat first|apply zSeq|apply zReg|apply zBlk|apply zSkp|refine wN ?_|refine wO ?_|refine wA ?_|refine wR ?_|refine zNeq rfl rfl ?_|refine wE ?_|refine zFld rfl O_Ins_Op ?_|refine zFld rfl O_Ins_R ?_|refine zFld rfl O_Ins_A ?_|refine zFld rfl O_Ins_B ?_|refine zFld rfl O_Ins_N ?_|refine zFld rfl O_Ins_Args ?_|refine wB E_int ?_|refine wB E_int64 ?_|refine wB E_uint8 ?_|refine wB E_s_int ?_|refine zLen rfl (hlen1 _) ?_|refine zLen rfl (hlen2 _) ?_)
 refine WP.loopH (σ:=Nat) (fun k=>[(2,.pointer (some ⟨H.next,0,none⟩)),(3,.pointer (some ⟨H1.next,0,none⟩)),(5,.int .i64 k)]) (fun k Hc=>Hc=H2∧k≤i.args.length∧∀ n (h:n < i.args.length) (h':n < j.args.length),n < k→i.args[n]=j.args[n]) (fun k=>i.args.length - k) 0 ⟨rfl,Nat.zero_le _,fun n _ _ h=>absurd h (by omega)⟩ ⟨rfl,rfl,rfl,trivial⟩ ?_
 rintro k Hc ⟨e,hk,hpre⟩
 subst e
 rcases Nat.lt_or_ge k i.args.length with h|h
 case inr=>
  have g1:decide ((k:Int) < i.args.length)=false:=decide_eq_false (by omega)
  have heq:(i.args==j.args)=true:=by
   rw [beq_iff_eq]
   exact List.ext_getElem hll fun n q1 q2=>hpre n q1 q2 (by omega)
  (repeat first|apply zSeq|apply zReg|refine zExt ?_|refine wN ?_|refine wG ?_|refine wA ?_|refine wL ?_|refine wE ?_|refine zFld rfl O_Ins_Args ?_|refine wB E_s_int ?_|refine zLen rfl (hlen1 _) ?_)
  exact WP.ret ⟨.inr rfl,_,rfl,by rw [heq];rfl,f12⟩
 have g1:decide ((k:Int) < i.args.length)=true:=decide_eq_true (by omega)
 obtain ⟨ba,oa,ha1,hl1⟩:=IntsR.at (h1.fr f12) E_s_int E_int (kd:=.i64) h
 obtain ⟨bb,ob,ha2,hl2⟩:=IntsR.at (h2.fr f12) E_s_int E_int (kd:=.i64) (hll ▸ h)
 cases c7:i.args[k] != j.args[k]'(hll ▸ h)
 ·(repeat first|apply zSeq|apply zReg|apply zBlk|apply zSkp|refine wN ?_|refine wG ?_|refine wL ?_|refine zNeq rfl rfl ?_|refine zAdd rfl rfl (by omega) ?_|refine wT ?_|refine wE ?_|refine zFld rfl O_Ins_Args ?_|refine wB E_s_int ?_|refine wI ?_|refine zLd rfl ‹_› ?_|refine zLen rfl (hlen1 _) ?_)
  refine ⟨k+1,⟨rfl,h,fun n q1 q2 hn=>?_⟩,by omega,rfl,rfl,rfl,trivial⟩
  by_cases e:n=k
  ·subst e;simpa using c7
  ·exact hpre n q1 q2 (by omega)
 ·have hne:(i.args==j.args)=false:=by
   rw [beq_eq_false_iff_ne]
   intro e
   have:i.args[k]=j.args[k]'(hll ▸ h):=by simp only [e]
   rw [this] at c7;simp at c7
  (repeat first|apply zSeq|apply zReg|apply zBlk|apply zSkp|refine wN ?_|refine wG ?_|refine wA ?_|refine wL ?_|refine zNeq rfl rfl ?_|refine wT ?_|refine zFld rfl O_Ins_Args ?_|refine wB E_s_int ?_|refine wI ?_|refine zLd rfl ‹_› ?_|refine zLen rfl (hlen1 _) ?_)
  exact WP.ret ⟨.inr rfl,_,rfl,by rw [hne];rfl,f12⟩
end Go.Proofs.YtogomfblfpfjhaaGreatDoor.U
namespace Go.Proofs.YtogomfblfpfjhaaGreatDoor.U
open Go Go.Ev
attribute [local irreducible] WL WP WH W
theorem buildOp {op:Int}:aBuild V.E 41 [(0,.int .u8 op)]=some (.agg #[.int .u8 op,.int .i64 0,.int .i64 0,.int .i64 0,.int .i64 0,.slice none 0 0]):=by kernel_rfl
attribute [local irreducible] V
variable {O:Orc}{H:AH}
def keptI (o:Flo.OpD) (i:Ins):Ins:=⟨i.op,if o.r=true then i.r else 0,if o.a=true then i.a else 0,if o.b=true then i.b else 0,if (o.n != 0)=true then i.n else 0,if (o.n==6)=true then i.args else []⟩
theorem same_kept (o:Flo.OpD) (i:Ins):sameB i (keptI o i)=sameB (bareI o i) zeroI:=by
 rw [Bool.eq_iff_iff,sameB_iff,sameB_iff]
 obtain ⟨op,r,a,b,n,args⟩:=i
 simp only [keptI,bareI,zeroI,Ins.mk.injEq]
 cases o.r <;> cases o.a <;> cases o.b <;> by_cases h1:o.n=0 <;> by_cases h2:o.n=6 <;> simp [h1,h2]
def Kp (H0:AH) (x y z:Nat) (i:Ins) (va:Value) (cs:List Value) (Hc:AH):Prop:=
 FrX [z] [] H0 Hc∧Bx Hc x 41 [.int .u8 i.op,.int .i64 i.r,.int .i64 i.a,.int .i64 i.b,.int .i64 i.n,va]∧Bx Hc y 41 [.int .u8 0,.int .i64 0,.int .i64 0,.int .i64 0,.int .i64 0,.slice none 0 0]∧Bx Hc z 41 cs
theorem Kp.put {H0 Hc H1:AH}{x y z:Nat}{i:Ins}{va:Value}{cs ds:List Value} (h:Kp H0 x y z i va cs Hc) (hx:x < z) (hy:y < z) (k:FrX [z] [] Hc H1) (hb:Bx H1 z 41 ds):Kp H0 x y z i va ds H1:=
 ⟨h.1.trans k (fun b hb _=>hb) (fun b hb _=>hb),h.2.1.frX k (by simp;omega),h.2.2.1.frX k (by simp;omega),hb⟩
set_option maxHeartbeats 16000000 in
theorem rKept_c (hO:NoO O) {A:Av}{i:Ins}{va:Value} (hv:IntsR A H va i.args) (hop:1≤i.op∧i.op < 14) :
  ∃ u H',Lc V O F_ref07_kept [insV i va] H u H'∧(u=insV (keptI (Flo.opD i.op) i) (if ((Flo.opD i.op).n==6)=true then va else .slice none 0 0)∧Fr H H'):=by
 refine Lc.ref07_kept (R:=fun u H'=>u=insV (keptI (Flo.opD i.op) i) (if ((Flo.opD i.op).n==6)=true then va else .slice none 0 0)∧Fr H H') (hO _ _ _ (by decide)) (Nat.le_of_ble_eq_true rfl) (by kernel_rfl) ?_
 unfold P_ref07_kept
 have hv1:=hv.oneCell
 obtain ⟨av,nv,cv,rfl⟩:=hv.isSl
 apply zSeq
 apply zReg
 refine zBox rfl (fun _=>rfl) fun H1 f1 b1 n1=>?_
 refine zAlc E_Ins zero39 fun H2 f2 b2 n2=>?_
 have b1':Bx H2 H.next 41 [.int .u8 i.op,.int .i64 i.r,.int .i64 i.a,.int .i64 i.b,.int .i64 i.n,.slice av nv cv]:=b1.fr f2
 have f12:=f1.trans f2
 clear b1
 (repeat first|refine wN ?_)
 apply zSeq
 (repeat first|apply zReg|refine zFld rfl O_Ins_Op ?_|refine wB E_uint8 ?_)
 refine WL.op (op_build rfl buildOp) ?_
 refine zAlc E_Ins zero39 fun H3 f3 b3 n3=>?_
 refine zStB b3 rfl rfl E_Ins (by rw [te_Ins_size];rfl) rfl (by simp [Value.cells]) (by simp [Value.cells]) fun H4 f4 b4 n4=>?_
 have b4':Bx H4 H2.next 41 [.int .u8 i.op,.int .i64 0,.int .i64 0,.int .i64 0,.int .i64 0,.slice none 0 0]:=b4
 have f24:Fr H2 H4:=f3.young f4 (by simp) (by simp)
 have b14:=b1'.fr f24
 have b24:=b2.fr f24
 have f04:=f12.trans f24
 obtain ⟨_,H5,hc5,rfl,f5⟩:=rWrites_c (H:=H4) (i:=i) (va:=.slice av nv cv) hO ⟨by omega,by omega⟩
 have f05:=f04.trans f5
 have hxz:H.next < H2.next:=by omega
 have hyz:H1.next < H2.next:=by omega
 have q:Kp H5 H.next H1.next H2.next i (.slice av nv cv) [.int .u8 i.op,.int .i64 0,.int .i64 0,.int .i64 0,.int .i64 0,.slice none 0 0] H5:=⟨.refl _ _ _,b14.fr f5,b24.fr f5,b4'.fr f5⟩
 have hz5:H.next≤H2.next:=by omega
 have hy5:H.next≤H1.next:=by omega
 clear b1' b2 b3 b4 b24 f3 f4 f24 f1 f2 n1 n2 n3 n4
 (repeat first|refine wN ?_)
 apply zSeq
 (repeat first|apply zReg)
 refine zLd rfl (b14.ldN E_Ins te_Ins_agg (by rw [te_Ins_size];rfl)) ?_
 refine WL.call rfl rfl is_ref07_Writes hc5 ?_
 clear hc5 b14 b4'
 obtain ⟨op,r,a,b,n,args⟩:=i
 simp only at hop q hv ⊢
 generalize ho:Flo.opD op=o at *
 (repeat first|refine wN ?_|refine zXtr rfl ?_)
 refine WP.seqS (σ:=Unit) (fun _=>[(1,.pointer (some ⟨H.next,0,none⟩)),(2,.pointer (some ⟨H1.next,0,none⟩)),(3,.pointer (some ⟨H2.next,0,none⟩))]) (fun _ Hc=>Kp H5 H.next H1.next H2.next ⟨op,r,a,b,n,args⟩ (.slice av nv cv) [.int .u8 op,.int .i64 (if o.r=true then r else 0),.int .i64 0,.int .i64 0,.int .i64 0,.slice none 0 0] Hc) ?_ ?_
 ·have b1:=q.2.1
  have b3:=q.2.2.2
  simp only at b1 b3
  cases c:o.r
  ·(repeat first|apply zSeq|apply zReg|apply zSkp|refine wN ?_|refine wG ?_|refine zF rfl rfl ?_)
   exact ⟨(),q,rfl,rfl,rfl,trivial⟩
  ·(repeat first|apply zSeq|apply zReg|refine wN ?_|refine wG ?_|refine zT rfl rfl ?_|refine zFld rfl O_Ins_R ?_|refine wB E_int ?_)
   refine zStB b3 rfl rfl E_int rfl rfl (by simp [Value.cells]) (by simp [Value.cells]) fun H6 f6 b6 n6=>?_
   (repeat first|refine wN ?_)
   exact ⟨(),q.put hxz hyz f6 b6,rfl,rfl,rfl,trivial⟩
 clear q
 rintro _ H6 q
 refine WP.seqS (σ:=Unit) (fun _=>[(1,.pointer (some ⟨H.next,0,none⟩)),(2,.pointer (some ⟨H1.next,0,none⟩)),(3,.pointer (some ⟨H2.next,0,none⟩))]) (fun _ Hc=>Kp H5 H.next H1.next H2.next ⟨op,r,a,b,n,args⟩ (.slice av nv cv) [.int .u8 op,.int .i64 (if o.r=true then r else 0),.int .i64 (if o.a=true then a else 0),.int .i64 0,.int .i64 0,.slice none 0 0] Hc) ?_ ?_
 ·have b1:=q.2.1
  have b3:=q.2.2.2
  simp only at b1 b3
  subst ho
  generalize (if (Flo.opD op).r=true then r else 0)=r' at *
  rcases op_cases' hop with rfl|rfl|rfl|rfl|rfl|rfl|rfl|rfl|rfl|rfl|rfl|rfl|rfl
  all_goals first|((repeat first|apply zSeq|apply zReg|apply zBlk|apply zSkp|refine wN ?_|refine zEql rfl rfl ?_|refine zT rfl rfl ?_|refine zF rfl rfl ?_|refine zFld rfl O_Ins_Op ?_|refine zFld rfl O_Ins_A ?_|refine wB E_int ?_|refine wB E_uint8 ?_);exact ⟨(),q,rfl,rfl,rfl,trivial⟩)|((repeat first|apply zSeq|apply zReg|apply zBlk|apply zSkp|refine wN ?_|refine zEql rfl rfl ?_|refine zT rfl rfl ?_|refine zF rfl rfl ?_|refine zFld rfl O_Ins_Op ?_|refine zFld rfl O_Ins_A ?_|refine wB E_int ?_|refine wB E_uint8 ?_);refine zStB b3 rfl rfl E_int rfl rfl (by simp [Value.cells]) (by simp [Value.cells]) fun H5 f5 b5 n5=>?_;(repeat first|refine wN ?_);exact ⟨(),q.put hxz hyz f5 b5,rfl,rfl,rfl,trivial⟩)
 clear q
 rintro _ H7 q
 refine WP.seqS (σ:=Unit) (fun _=>[(1,.pointer (some ⟨H.next,0,none⟩)),(2,.pointer (some ⟨H1.next,0,none⟩)),(3,.pointer (some ⟨H2.next,0,none⟩))]) (fun _ Hc=>Kp H5 H.next H1.next H2.next ⟨op,r,a,b,n,args⟩ (.slice av nv cv) [.int .u8 op,.int .i64 (if o.r=true then r else 0),.int .i64 (if o.a=true then a else 0),.int .i64 (if o.b=true then b else 0),.int .i64 0,.slice none 0 0] Hc) ?_ ?_
 ·have b1:=q.2.1
  have b3:=q.2.2.2
  simp only at b1 b3
  subst ho
  generalize (if (Flo.opD op).r=true then r else 0)=r' at *
  generalize (if (Flo.opD op).a=true then a else 0)=a' at *
  rcases op_cases' hop with rfl|rfl|rfl|rfl|rfl|rfl|rfl|rfl|rfl|rfl|rfl|rfl|rfl
  all_goals first|((repeat first|apply zSeq|apply zReg|apply zSkp|refine wN ?_|refine zOn rfl rfl ?_|refine zOff rfl rfl ?_|refine zPT rfl rfl rfl ?_|refine zPF rfl rfl rfl ?_|refine zEql rfl rfl ?_|refine zT rfl rfl ?_|refine zF rfl rfl ?_|refine zFld rfl O_Ins_Op ?_|refine zFld rfl O_Ins_B ?_|refine wB E_int ?_|refine wB E_uint8 ?_);exact ⟨(),q,rfl,rfl,rfl,trivial⟩)|((repeat first|apply zSeq|apply zReg|refine wN ?_|refine zOn rfl rfl ?_|refine zOff rfl rfl ?_|refine zPT rfl rfl rfl ?_|refine zPF rfl rfl rfl ?_|refine zEql rfl rfl ?_|refine zT rfl rfl ?_|refine zFld rfl O_Ins_Op ?_|refine zFld rfl O_Ins_B ?_|refine wB E_int ?_|refine wB E_uint8 ?_);refine zStB b3 rfl rfl E_int rfl rfl (by simp [Value.cells]) (by simp [Value.cells]) fun H5 f5 b5 n5=>?_;(repeat first|refine wN ?_);exact ⟨(),q.put hxz hyz f5 b5,rfl,rfl,rfl,trivial⟩)
 clear q
 rintro _ H8 q
 refine WP.seqS (σ:=Unit) (fun _=>[(1,.pointer (some ⟨H.next,0,none⟩)),(2,.pointer (some ⟨H1.next,0,none⟩)),(3,.pointer (some ⟨H2.next,0,none⟩))]) (fun _ Hc=>Kp H5 H.next H1.next H2.next ⟨op,r,a,b,n,args⟩ (.slice av nv cv) [.int .u8 op,.int .i64 (if o.r=true then r else 0),.int .i64 (if o.a=true then a else 0),.int .i64 (if o.b=true then b else 0),.int .i64 (if (o.n != 0)=true then n else 0),.slice none 0 0] Hc) ?_ ?_
 ·have b1:=q.2.1
  have b3:=q.2.2.2
  simp only at b1 b3
  subst ho
  generalize (if (Flo.opD op).r=true then r else 0)=r' at *
  generalize (if (Flo.opD op).a=true then a else 0)=a' at *
  generalize (if (Flo.opD op).b=true then b else 0)=b' at *
  rcases op_cases' hop with rfl|rfl|rfl|rfl|rfl|rfl|rfl|rfl|rfl|rfl|rfl|rfl|rfl
  all_goals first|((repeat first|apply zSeq|apply zReg|apply zSkp|refine wN ?_|refine zOn rfl rfl ?_|refine zOff rfl rfl ?_|refine zPT rfl rfl rfl ?_|refine zPF rfl rfl rfl ?_|refine zNeq rfl rfl ?_|refine zT rfl rfl ?_|refine zF rfl rfl ?_|refine zFld rfl O_Ins_Op ?_|refine zFld rfl O_Ins_N ?_|refine wB E_int64 ?_|refine wB E_uint8 ?_);exact ⟨(),q,rfl,rfl,rfl,trivial⟩)|((repeat first|apply zSeq|apply zReg|refine wN ?_|refine zOn rfl rfl ?_|refine zPT rfl rfl rfl ?_|refine zNeq rfl rfl ?_|refine zT rfl rfl ?_|refine zFld rfl O_Ins_Op ?_|refine zFld rfl O_Ins_N ?_|refine wB E_int64 ?_|refine wB E_uint8 ?_);refine zStB b3 rfl rfl E_int64 rfl rfl (by simp [Value.cells]) (by simp [Value.cells]) fun H5 f5 b5 n5=>?_;(repeat first|refine wN ?_);exact ⟨(),q.put hxz hyz f5 b5,rfl,rfl,rfl,trivial⟩)
 clear q
 rintro _ H9 q
 refine WP.seqS (σ:=Unit) (fun _=>[(1,.pointer (some ⟨H.next,0,none⟩)),(2,.pointer (some ⟨H1.next,0,none⟩)),(3,.pointer (some ⟨H2.next,0,none⟩))]) (fun _ Hc=>Kp H5 H.next H1.next H2.next ⟨op,r,a,b,n,args⟩ (.slice av nv cv) ((keptI o ⟨op,r,a,b,n,args⟩).cells (if (o.n==6)=true then .slice av nv cv else .slice none 0 0)) Hc) ?_ ?_
 ·have b1:=q.2.1
  have b3:=q.2.2.2
  simp only at b1 b3
  subst ho
  unfold keptI Ins.cells
  simp only
  generalize (if (Flo.opD op).r=true then r else 0)=r' at *
  generalize (if (Flo.opD op).a=true then a else 0)=a' at *
  generalize (if (Flo.opD op).b=true then b else 0)=b' at *
  generalize (if ((Flo.opD op).n != 0)=true then n else 0)=n' at *
  rcases op_cases' hop with rfl|rfl|rfl|rfl|rfl|rfl|rfl|rfl|rfl|rfl|rfl|rfl|rfl
  all_goals first|((repeat first|apply zSeq|apply zReg|apply zSkp|refine wN ?_|refine zEql rfl rfl ?_|refine zT rfl rfl ?_|refine zF rfl rfl ?_|refine zFld rfl O_Ins_Op ?_|refine zFld rfl O_Ins_Args ?_|refine wB E_uint8 ?_|refine wB E_s_int ?_);exact ⟨(),q,rfl,rfl,rfl,trivial⟩)|((repeat first|apply zSeq|apply zReg|refine wN ?_|refine zEql rfl rfl ?_|refine zT rfl rfl ?_|refine zFld rfl O_Ins_Op ?_|refine zFld rfl O_Ins_Args ?_|refine wB E_uint8 ?_|refine wB E_s_int ?_);refine zStB b3 rfl rfl E_s_int rfl rfl (by simp [Value.cells]) (by simp [Value.cells]) fun H5 f5 b5 n5=>?_;(repeat first|refine wN ?_);exact ⟨(),q.put hxz hyz f5 b5,rfl,rfl,rfl,trivial⟩)
 clear q
 rintro _ Ha q
 have b2:=q.2.2.1
 have b3:=q.2.2.2
 (repeat first|apply zSeq|apply zReg)
 refine zLd rfl (b3.ldN E_Ins te_Ins_agg (by rw [te_Ins_size];rfl)) ?_
 refine zStB b2 rfl rfl E_Ins (by rw [te_Ins_size];rfl) ?_ (by simp [Value.cells,Ins.cells]) (by simp [Value.cells,Ins.cells]) fun Hb fb bb nb=>?_
 ·cases c:o.n==6 <;> simp [Value.cells,Ins.cells,Value.oneCell']
 (repeat first|refine wN ?_)
 exact WP.ret ⟨.inr rfl,_,resL_cell rfl (bb.ldN E_Ins te_Ins_agg (by rw [te_Ins_size];rfl)) rfl,rfl,(f05.young q.1 (by simp;omega) (by simp)).young fb (by simp;omega) (by simp)⟩
end Go.Proofs.YtogomfblfpfjhaaGreatDoor.U
namespace Go.Proofs.YtogomfblfpfjhaaGreatDoor.U
open Go Go.Ev
attribute [local irreducible] WL WP WH W
attribute [local irreducible] V
variable {O:Orc}{H:AH}
theorem within_ok (regs r:Int):(decide (r≥0)&&decide (r < regs))=okR regs r:=by
 unfold okR
 by_cases h1:r < 0 <;> by_cases h2:r≥regs <;> simp [h1,h2] <;> omega
theorem mayG_of {p:Prog}{f:Fun}{i:Ins} (h1:Flo.isOp i.op=true) (h2:sameB i (keptI (Flo.opD i.op) i)=true) (h3:(readsG (Flo.opD i.op) i++if (Flo.opD i.op).r=true then [i.r] else []).all (okR f.regs)=true):mayG p f i=numG p f (Flo.opD i.op).n i:=by
 unfold mayG
 rw [h1,← same_kept,h2]
 rw [List.all_append,Bool.and_eq_true] at h3
 rw [h3.1]
 have:(!(Flo.opD i.op).r||(decide (i.r≥0)&&decide (i.r < f.regs)))=true:=by
  cases c:(Flo.opD i.op).r
  ·rfl
  ·rw [c] at h3
   have:=h3.2
   simp only [if_true,List.all_cons,List.all_nil,Bool.and_true] at this
   rw [within_ok,this];rfl
 rw [this]
 simp
theorem mayG_out1 {p:Prog}{f:Fun}{i:Ins} (h1:Flo.isOp i.op=false):mayG p f i=false:=by unfold mayG;rw [h1];rfl
theorem mayG_out2 {p:Prog}{f:Fun}{i:Ins} (h2:sameB i (keptI (Flo.opD i.op) i)=false):mayG p f i=false:=by unfold mayG;rw [← same_kept,h2];simp
theorem mayG_out3 {p:Prog}{f:Fun}{i:Ins} (h3:(readsG (Flo.opD i.op) i++if (Flo.opD i.op).r=true then [i.r] else []).all (okR f.regs)=false):mayG p f i=false:=by
 unfold mayG
 rw [List.all_append] at h3
 cases c:(readsG (Flo.opD i.op) i).all (okR f.regs)
 ·simp
 ·rw [c,Bool.true_and] at h3
  cases d:(Flo.opD i.op).r
  ·rw [d] at h3;simp at h3
  ·rw [d] at h3
   simp only [if_true,List.all_cons,List.all_nil,Bool.and_true] at h3
   rw [within_ok,h3];simp
set_option maxHeartbeats 16000000 in
theorem rMayIns_c (hO:NoO O) {A B C:Av}{p:Prog}{f:Fun}{i:Ins}{va vc vm vl vf:Value} (hp:PrR A H vm vl vf p) (hc:Els 6 InsR B H vc f.code) (hv:IntsR C H va i.args) (hL:i.args.length≤100000) (hop:0≤i.op∧i.op < 256) :
    ∃ u H',Lc V O F_ref07_mayIns [.agg #[vm,vl,vf],.agg (f.cells vc).toArray,insV i va] H u H'∧(u=.bool (mayG p f i)∧Fr H H'):=by
  refine Lc.ref07_mayIns (R:=fun u H'=>u=.bool (mayG p f i)∧Fr H H') (hO _ _ _ (by decide)) (Nat.le_of_ble_eq_true rfl) (by kernel_rfl) ?_
  unfold P_ref07_mayIns
  have hv0:=hv
  obtain ⟨av,nv,cv,rfl⟩:=hv.isSl
  apply zSeq
  apply zReg
  refine zBox rfl (fun _=>rfl) fun H1 f1 b1 n1=>?_
  refine zBox rfl (fun _=>rfl) fun H2 f2 b2 n2=>?_
  refine zBox rfl (fun _=>rfl) fun H3 f3 b3 n3=>?_
  have b1':Bx H3 H.next 56 [vm,vl,vf]:=(b1.fr f2).fr f3
  have b2':Bx H3 H1.next 59 [.string f.name,.bool f.thread,.int .i64 f.params,.int .i64 f.regs,vc]:=b2.fr f3
  have b3':Bx H3 H2.next 41 [.int .u8 i.op,.int .i64 i.r,.int .i64 i.a,.int .i64 i.b,.int .i64 i.n,.slice av nv cv]:=b3
  have f03:=(f1.trans f2).trans f3
  clear b1 b2 b3
  (repeat first|refine wN ?_|refine wA ?_)
  refine WP.seqS (σ:=AH) (fun _=>[(3,.pointer (some ⟨H.next,0,none⟩)),(4,.pointer (some ⟨H1.next,0,none⟩)),(5,.pointer (some ⟨H2.next,0,none⟩))]) (fun Hx Hc=>Hx=Hc∧Fr H3 Hc∧Flo.isOp i.op=true∧sameB i (keptI (Flo.opD i.op) i)=true) ?_ ?_
  · apply zSeq
    refine WP.rega ?_
    cases c1:decide (i.op < 1)
    case true =>
      have hio:Flo.isOp i.op=false:=by unfold Flo.isOp;rw [c1];rfl
      (repeat first|refine yOff rfl rfl ?_|refine yOff rfl ‹_› ?_|refine yPT rfl rfl rfl ?_|refine yPT rfl ‹_› rfl ?_|refine yLss rfl rfl ?_|refine yFld rfl O_Ins_Op ?_|refine yLd (ty:=5) rfl (Bx.ld ‹_› (by rfl) E_uint8 rfl) ?_)
      refine WH.nil ⟨fun y hy=>?_,_,rfl,?_⟩
      · rw [List.mem_singleton] at hy;subst hy;exact .inl rfl
      (repeat first|apply zSeq|apply zReg|refine wN ?_|refine wA ?_|refine zT rfl rfl ?_)
      exact WP.ret ⟨.inr rfl,_,rfl,by rw [mayG_out1 hio];rfl,f03⟩
    cases c2:decide (i.op > 13)
    case true =>
      have hio:Flo.isOp i.op=false:=by unfold Flo.isOp;rw [decide_eq_true (show i.op≥14 by have:=of_decide_eq_true c2;omega),Bool.or_true];rfl
      (repeat first|refine yOn rfl ‹_› ?_|refine yOff rfl ‹_› ?_|refine yPT rfl ‹_› rfl ?_|refine yPF rfl ‹_› rfl ?_|refine yLss rfl rfl ?_|refine yGtr rfl rfl ?_|refine yFld rfl O_Ins_Op ?_|refine yLd (ty:=5) rfl (Bx.ld ‹_› (by rfl) E_uint8 rfl) ?_)
      refine WH.nil ⟨fun y hy=>?_,_,rfl,?_⟩
      · rw [List.mem_singleton] at hy;subst hy;exact .inl (by rw [c2];rfl)
      (repeat first|apply zSeq|apply zReg|refine wN ?_|refine wA ?_|refine zT rfl rfl ?_)
      exact WP.ret ⟨.inr rfl,_,rfl,by rw [mayG_out1 hio];rfl,f03⟩
    have hop1:1≤i.op∧i.op < 14:=⟨by have:=of_decide_eq_false c1;omega,by have:=of_decide_eq_false c2;omega⟩
    have hio:Flo.isOp i.op=true:=by unfold Flo.isOp;rw [decide_eq_false (show ¬ i.op < 1 by omega),decide_eq_false (show ¬ i.op≥14 by omega)];rfl
    obtain ⟨_,H4,hc4,rfl,f4⟩:=rKept_c (H:=H3) hO (hv0.fr f03) hop1
    have hkR:IntsR C H4 (if ((Flo.opD i.op).n==6)=true then .slice av nv cv else .slice none 0 0) (keptI (Flo.opD i.op) i).args:=by
      unfold keptI
      cases c:(Flo.opD i.op).n==6
      · exact .nil
      · exact (hv0.fr f03).fr f4
    obtain ⟨_,H5,hc5,rfl,f5⟩:=rSame_c (H:=H4) (i:=i) (j:=keptI (Flo.opD i.op) i) hO ((hv0.fr f03).fr f4) hkR (by omega)
    have b4':=b3'.fr f4
    have b5':=b4'.fr f5
    cases c3:sameB i (keptI (Flo.opD i.op) i)
    · rw [c3] at hc5
      (repeat first|refine yOn rfl ‹_› ?_|refine yPF rfl ‹_› rfl ?_|refine yLss rfl rfl ?_|refine yGtr rfl rfl ?_|refine yFld rfl O_Ins_Op ?_|refine yLd (ty:=5) rfl (Bx.ld ‹_› (by rfl) E_uint8 rfl) ?_)
      refine yLd rfl (b3'.ldN E_Ins te_Ins_agg (by rw [te_Ins_size];rfl)) ?_
      (repeat first|refine yOn rfl ‹_› ?_)
      refine yLd rfl (b3'.ldN E_Ins te_Ins_agg (by rw [te_Ins_size];rfl)) ?_
      (repeat first|refine yOn rfl ‹_› ?_)
      refine WH.call rfl rfl is_ref07_kept hc4 ?_
      (repeat first|refine yOn rfl ‹_› ?_)
      refine WH.call rfl rfl is_ref07_SameIns hc5 ?_
      (repeat first|refine yOn rfl ‹_› ?_|refine yPF rfl ‹_› rfl ?_|refine yNot rfl ?_)
      refine WH.nil ⟨fun y hy=>?_,_,rfl,?_⟩
      · rw [List.mem_singleton] at hy;subst hy
        exact .inr ⟨by rw [c2];rfl,_,_,_,rfl,rfl,op_load rfl (b4'.ldN E_Ins te_Ins_agg (by rw [te_Ins_size];rfl)),by simp [sameV,sameL,same0]⟩
      (repeat first|apply zSeq|apply zReg|refine wN ?_|refine wA ?_|refine zT rfl rfl ?_)
      exact WP.ret ⟨.inr rfl,_,rfl,by rw [mayG_out2 c3];rfl,(f03.trans f4).trans f5⟩
    · rw [c3] at hc5
      (repeat first|refine yOn rfl ‹_› ?_|refine yPF rfl ‹_› rfl ?_|refine yLss rfl rfl ?_|refine yGtr rfl rfl ?_|refine yFld rfl O_Ins_Op ?_|refine yLd (ty:=5) rfl (Bx.ld ‹_› (by rfl) E_uint8 rfl) ?_)
      refine yLd rfl (b3'.ldN E_Ins te_Ins_agg (by rw [te_Ins_size];rfl)) ?_
      (repeat first|refine yOn rfl ‹_› ?_)
      refine yLd rfl (b3'.ldN E_Ins te_Ins_agg (by rw [te_Ins_size];rfl)) ?_
      (repeat first|refine yOn rfl ‹_› ?_)
      refine WH.call rfl rfl is_ref07_kept hc4 ?_
      (repeat first|refine yOn rfl ‹_› ?_)
      refine WH.call rfl rfl is_ref07_SameIns hc5 ?_
      (repeat first|refine yOn rfl ‹_› ?_|refine yPF rfl ‹_› rfl ?_|refine yNot rfl ?_)
      refine WH.nil ⟨fun y hy=>?_,_,rfl,?_⟩
      · rw [List.mem_singleton] at hy;subst hy
        exact .inr ⟨by rw [c2];rfl,_,_,_,rfl,rfl,op_load rfl (b4'.ldN E_Ins te_Ins_agg (by rw [te_Ins_size];rfl)),by simp [sameV,sameL,same0]⟩
      (repeat first|apply zSkp|refine zF rfl rfl ?_)
      exact ⟨H5,⟨rfl,f4.trans f5,hio,rfl⟩,rfl,rfl,rfl,trivial⟩
  rintro Hx' Hx ⟨e,f3x,hio,hsame⟩
  subst e
  have f0x:=f03.trans f3x
  have b1x:=b1'.fr f3x
  have b2x:=b2'.fr f3x
  have b3x:=b3'.fr f3x
  have hvx:=hv0.fr f0x
  clear b1' b2' b3' f3x f03 f1 f2 f3
  obtain ⟨u4,H4,hc4,f4,o4,how4⟩:=rReads_c (H:=Hx') (i:=i) hO hvx hL hop
  have b3y:=b3x.fr f4
  have f04:=f0x.trans f4
  obtain ⟨_,H5,hc5,rfl,f5⟩:=rWrites_c (H:=H4) (i:=i) (va:=.slice av nv cv) hO hop
  have how5:=how4.fr f5
  have f05:=f04.trans f5
  have fx5:=f4.trans f5
  have hrl:=readsG_len (Flo.opD i.op) i
  apply zSeq
  apply zReg
  refine zLd rfl (b3x.ldN E_Ins te_Ins_agg (by rw [te_Ins_size];rfl)) ?_
  refine WL.call rfl rfl is_ref07_Reads hc4 ?_
  (repeat first|refine wN ?_)
  apply zSeq
  apply zReg
  refine zLd rfl (b3y.ldN E_Ins te_Ins_agg (by rw [te_Ins_size];rfl)) ?_
  refine WL.call rfl rfl is_ref07_Writes hc5 ?_
  (repeat first|refine wN ?_|refine zXtr rfl ?_)
  refine WP.seqS (σ:=Value) (fun v=>[(3,.pointer (some ⟨H.next,0,none⟩)),(4,.pointer (some ⟨H1.next,0,none⟩)),(5,.pointer (some ⟨H2.next,0,none⟩)),(7,v)]) (fun v Hc=>Fr H5 Hc∧IntsR .no Hc v (readsG (Flo.opD i.op) i++if (Flo.opD i.op).r=true then [i.r] else [])) ?_ ?_
  · cases c:(Flo.opD i.op).r
    · (repeat first|apply zSeq|apply zReg|apply zSkp|refine wN ?_|refine wG ?_|refine zF rfl rfl ?_)
      exact ⟨u4,⟨.refl _,by simp only [Bool.false_eq_true,if_false,List.append_nil];exact how5.rYoung .no⟩,rfl,rfl,rfl,rfl,trivial⟩
    · have f6:=Fr.alloc H5 (.row 3 [] .exact 0 0)
      have w6:OwI 3 (H5.alloc (.row 3 [] .exact 0 0)) H5.next (.slice (some ⟨H5.next,0,none⟩) 0 0) [] (some (H5.next,H5.next)):=.new (Nat.le_refl _)
      obtain ⟨v7,H7,o7,k1,k2,k3,k4⟩:=w6.app (V:=V) (m:=readsG (Flo.opD i.op) i) ((how5.fr f6).sl) (by simp;omega) f6.1 E_s_int E_s_int E_int (by decide)
      rw [List.nil_append] at k2
      have f57:Fr H5 H7:=f6.young k3 w6.young.1 w6.young.2.1
      obtain ⟨v8,H8,o8,m1,m2,m3,m4⟩:=k2.app1 (V:=V) i.r (by omega) f57.1 E_s_int E_s_int E_int (by decide)
      have f58:Fr H5 H8:=f57.young m3 k2.young.1 k2.young.2.1
      (repeat first|apply zSeq|apply zReg|refine wN ?_|refine wG ?_|refine zT rfl rfl ?_)
      refine WL.op (op_buildSlice rfl E_s_int E_int (by decide) rfl) ?_
      (repeat first|refine wG ?_)
      refine WL.op (k1 rfl rfl) ?_
      (repeat first|refine wG ?_)
      refine WL.op (op_buildSlice rfl E_s_int E_int (by decide) fill_int) ?_
      refine WL.op (m1 rfl rfl) ?_
      (repeat first|refine wN ?_)
      exact ⟨v8,⟨f58,by simp only [if_true];exact m2.rYoung .no⟩,rfl,rfl,rfl,rfl,trivial⟩
  rintro v Hc ⟨f5c,hvr⟩
  have hLl:(readsG (Flo.opD i.op) i++if (Flo.opD i.op).r=true then [i.r] else []).length≤i.args.length+3:=by
    rw [List.length_append]
    have:(if (Flo.opD i.op).r=true then [i.r] else []).length≤1:=by split <;> simp
    omega
  have hof:=mayG_of (p:=p) (f:=f) hio hsame
  have hout:=mayG_out3 (p:=p) (f:=f) (i:=i)
  generalize readsG (Flo.opD i.op) i++(if (Flo.opD i.op).r=true then [i.r] else [])=L at *
  have fxc:=fx5.trans f5c
  have f0c:=f0x.trans fxc
  have b1c:=b1x.fr fxc
  have b2c:=b2x.fr fxc
  have b3c:=b3x.fr fxc
  clear b1x b2x b3x b3y hc4 hc5 how4 how5 hvx
  have hlen1:=fun Hz=>hvr.len (V:=V) (H2:=Hz) E_s_int
  refine WP.seqS (σ:=Unit) (fun _=>[(3,.pointer (some ⟨H.next,0,none⟩)),(4,.pointer (some ⟨H1.next,0,none⟩)),(5,.pointer (some ⟨H2.next,0,none⟩))]) (fun _ Hd=>Hd=Hc∧L.all (okR f.regs)=true) ?_ ?_
  · (repeat first|apply zSeq|apply zReg|apply zBlk|refine wN ?_|refine wA ?_)
    refine WP.loopH (σ:=Nat) (fun k=>[(3,.pointer (some ⟨H.next,0,none⟩)),(4,.pointer (some ⟨H1.next,0,none⟩)),(5,.pointer (some ⟨H2.next,0,none⟩)),(7,v),(10,.int .i64 k)]) (fun k Hd=>Hd=Hc∧k≤L.length∧∀ j (h:j < L.length),j < k→okR f.regs L[j]=true) (fun k=>L.length - k) 0 ⟨rfl,Nat.zero_le _,fun j _ h=>absurd h (by omega)⟩ ⟨rfl,rfl,rfl,rfl,rfl,trivial⟩ ?_
    rintro k Hd ⟨e,hk,hpre⟩
    subst e
    rcases Nat.lt_or_ge k L.length with h|h
    case inr =>
      have g1:decide ((k:Int) < L.length)=false:=decide_eq_false (by omega)
      (repeat first|apply zSeq|apply zReg|refine zExt ?_|refine wN ?_|refine wG ?_|refine wL ?_|refine wE ?_|refine zLen rfl (hlen1 _) ?_)
      refine ⟨(),⟨rfl,?_⟩,rfl,rfl,rfl,trivial⟩
      rw [List.all_eq_true]
      intro x hx
      obtain ⟨j,hj,rfl⟩:=List.mem_iff_getElem.1 hx
      exact hpre j hj (by omega)
    have g1:decide ((k:Int) < L.length)=true:=decide_eq_true (by omega)
    obtain ⟨ba,oa,ha1,hl1⟩:=IntsR.at hvr E_s_int E_int (kd:=.i64) h
    have hcw:=rWithin_c (H:=Hd) hO L[k] f.regs
    rw [within_ok] at hcw
    cases c:okR f.regs L[k]
    · rw [c] at hcw
      (repeat first|apply zSeq|apply zReg|apply zBlk|apply zSkp|refine wN ?_|refine wG ?_|refine wL ?_|refine wT ?_|refine zFld rfl O_Fun_Regs ?_|refine wB E_int ?_|refine wI ?_|refine zLd rfl ‹_› ?_|refine zLen rfl (hlen1 _) ?_)
      refine WL.call rfl rfl is_ref07_within hcw ?_
      (repeat first|apply zSeq|apply zReg|refine wN ?_|refine wA ?_|refine zNot rfl ?_|refine zT rfl rfl ?_)
      refine WP.ret ⟨.inr rfl,_,rfl,?_,f0c⟩
      rw [hout (by rw [List.all_eq_false];exact ⟨_,List.getElem_mem h,by rw [c];decide⟩)];rfl
    · rw [c] at hcw
      (repeat first|apply zSeq|apply zReg|apply zBlk|apply zSkp|refine wN ?_|refine wG ?_|refine wL ?_|refine wT ?_|refine zFld rfl O_Fun_Regs ?_|refine wB E_int ?_|refine wI ?_|refine zLd rfl ‹_› ?_|refine zLen rfl (hlen1 _) ?_)
      refine WL.call rfl rfl is_ref07_within hcw ?_
      (repeat first|apply zReg|apply zSkp|refine wN ?_|refine wG ?_|refine zAdd rfl rfl (by omega) ?_|refine zNot rfl ?_|refine zF rfl rfl ?_)
      refine ⟨k+1,⟨rfl,h,fun j hj hjk=>?_⟩,by omega,rfl,rfl,rfl,rfl,rfl,trivial⟩
      by_cases e:j=k
      · subst e;exact c
      · exact hpre j hj (by omega)
  rintro _ Hd ⟨e,hall⟩
  subst e
  rw [hof hall]
  clear hof hout hvr hlen1
  have hop':=Flo.isOp_of hio
  have hlm:=fun Hz=>hp.m.len (V:=V) (H2:=Hz) E_s_api_Mem
  have hll:=fun Hz=>hp.l.len (V:=V) (H2:=Hz) E_s_string
  have hlf:=fun Hz=>hp.f.len (V:=V) (H2:=Hz) E_s_api_Fun
  have hlc:=fun Hz=>hc.len (V:=V) (H2:=Hz) E_s_api_Ins
  have hla:=fun Hz=>hv0.len (V:=V) (H2:=Hz) E_s_int
  have hpd:=hp.fr f0c
  clear hc hv hv0 hio hsame hrl hLl hall hop hp
  obtain ⟨op,r,a,b,n,args⟩:=i
  simp only at hop' b3c hla hL ⊢
  rcases op_cases' hop' with rfl|rfl|rfl|rfl|rfl|rfl|rfl|rfl|rfl|rfl|rfl|rfl|rfl
  case inr.inr.inl =>
    cases c1:n==5
    · (repeat first|apply zSeq|apply zReg|apply zBlk|refine wN ?_|refine wO ?_|refine wR ?_|refine zEql rfl rfl ?_|refine zT rfl rfl ?_|refine zFld rfl O_Ins_Op ?_|refine zFld rfl O_Ins_N ?_|refine wB E_int64 ?_|refine wB E_uint8 ?_)
      refine WP.ret ⟨.inr rfl,_,rfl,?_,f0c⟩
      have:numG p f (Flo.opD 3).n ⟨3,r,a,b,n,args⟩=(n==5||n==6):=rfl
      rw [this,c1];rfl
    · (repeat first|apply zSeq|apply zReg|apply zBlk|refine wN ?_|refine wF ?_|refine wP ?_|refine zEql rfl rfl ?_|refine zT rfl rfl ?_|refine zFld rfl O_Ins_Op ?_|refine zFld rfl O_Ins_N ?_|refine wB E_int64 ?_|refine wB E_uint8 ?_)
      refine WP.ret ⟨.inr rfl,_,rfl,?_,f0c⟩
      have:numG p f (Flo.opD 3).n ⟨3,r,a,b,n,args⟩=(n==5||n==6):=rfl
      rw [this,c1];rfl
  case inr.inr.inr.inl =>
    cases c1:decide (n≥7)
    · (repeat first|apply zSeq|apply zReg|apply zBlk|refine wN ?_|refine wF ?_|refine wR ?_|refine zGeq rfl rfl ?_|refine zEql rfl rfl ?_|refine zT rfl rfl ?_|refine zF rfl rfl ?_|refine zFld rfl O_Ins_Op ?_|refine zFld rfl O_Ins_N ?_|refine wB E_int64 ?_|refine wB E_uint8 ?_)
      refine WP.ret ⟨.inr rfl,_,rfl,?_,f0c⟩
      have:numG p f (Flo.opD 4).n ⟨4,r,a,b,n,args⟩=(decide (n≥7)&&decide (n≤17)):=rfl
      rw [this,c1];rfl
    · (repeat first|apply zSeq|apply zReg|apply zBlk|refine wN ?_|refine wO ?_|refine wP ?_|refine zLeq rfl rfl ?_|refine zGeq rfl rfl ?_|refine zEql rfl rfl ?_|refine zT rfl rfl ?_|refine zF rfl rfl ?_|refine zFld rfl O_Ins_Op ?_|refine zFld rfl O_Ins_N ?_|refine wB E_int64 ?_|refine wB E_uint8 ?_)
      refine WP.ret ⟨.inr rfl,_,rfl,?_,f0c⟩
      have:numG p f (Flo.opD 4).n ⟨4,r,a,b,n,args⟩=(decide (n≥7)&&decide (n≤17)):=rfl
      rw [this,c1];rfl
  case inr.inr.inr.inr.inr.inr.inr.inr.inr.inl =>
    have hnum:numG p f (Flo.opD 10).n ⟨10,r,a,b,n,args⟩=(decide (n≥0)&&(decide (n < p.funs.length)&&match p.funs[n.toNat]? with|some g=>!g.thread&&(args.length:Int)==g.params|none=>false)):=rfl
    rw [hnum]
    have hcw:=rWithin_c (H:=Hd) hO n p.funs.length
    cases c1:decide (n≥0)
    · rw [c1,Bool.false_and] at hcw
      (repeat first|apply zSeq|apply zReg|apply zBlk|refine wN ?_|refine zEql rfl rfl ?_|refine zT rfl rfl ?_|refine zF rfl rfl ?_|refine zFld rfl O_Ins_Op ?_|refine zFld rfl O_Ins_N ?_|refine zFld rfl O_Prog_Funs ?_|refine wB E_int64 ?_|refine wB E_uint8 ?_|refine wB E_s_api_Fun ?_)
      refine zLen rfl (hlf _) ?_
      refine WL.call rfl rfl is_ref07_within hcw ?_
      (repeat first|refine wN ?_|refine zOff rfl rfl ?_|refine zPF rfl rfl rfl ?_)
      exact WP.ret ⟨.inr rfl,_,rfl,rfl,f0c⟩
    cases c2:decide (n < p.funs.length)
    · rw [c1,c2] at hcw
      have hcw:Lc V O F_ref07_within [.int .i64 n,.int .i64 p.funs.length] Hd (.bool false) Hd:=hcw
      (repeat first|apply zSeq|apply zReg|apply zBlk|refine wN ?_|refine zEql rfl rfl ?_|refine zT rfl rfl ?_|refine zF rfl rfl ?_|refine zFld rfl O_Ins_Op ?_|refine zFld rfl O_Ins_N ?_|refine zFld rfl O_Prog_Funs ?_|refine wB E_int64 ?_|refine wB E_uint8 ?_|refine wB E_s_api_Fun ?_)
      refine zLen rfl (hlf _) ?_
      refine WL.call rfl rfl is_ref07_within hcw ?_
      (repeat first|refine wN ?_|refine zOff rfl rfl ?_|refine zPF rfl rfl rfl ?_)
      exact WP.ret ⟨.inr rfl,_,rfl,rfl,f0c⟩
    rw [c1,c2] at hcw
    have hcw:Lc V O F_ref07_within [.int .i64 n,.int .i64 p.funs.length] Hd (.bool true) Hd:=hcw
    have h0:0≤n:=of_decide_eq_true c1
    have hlt:n.toNat < p.funs.length:=by have:=of_decide_eq_true c2;omega
    rw [List.getElem?_eq_getElem hlt]
    obtain ⟨bf,off,cs,ha1,hrd,vcf,rfl,hcf⟩:=hpd.f.at E_s_api_Fun E_Fun te_Fun_size (kd:=.i64) hlt
    rw [show ((n.toNat:Nat):Int)=n by omega] at ha1
    have hl1:=(hrd.at1 (i:=1) rfl).load1 (V:=V) E_bool rfl
    have hl2:=(hrd.at1 (i:=2) rfl).load1 (V:=V) E_int rfl
    generalize p.funs[n.toNat]=g at *
    cases c3:g.thread
    · rw [c3] at hl1
      (repeat first|apply zSeq|apply zReg|apply zBlk|refine wN ?_|refine zEql rfl rfl ?_|refine zT rfl rfl ?_|refine zF rfl rfl ?_|refine zFld rfl O_Ins_Op ?_|refine zFld rfl O_Ins_N ?_|refine zFld rfl O_Prog_Funs ?_|refine wB E_int64 ?_|refine wB E_uint8 ?_|refine wB E_s_api_Fun ?_)
      refine zLen rfl (hlf _) ?_
      refine WL.call rfl rfl is_ref07_within hcw ?_
      (repeat first|refine zOn rfl rfl ?_|refine zPT rfl rfl rfl ?_|refine zNot rfl ?_|refine zFld rfl O_Ins_N ?_|refine zFld rfl O_Ins_Args ?_|refine zFld rfl O_Fun_Thread ?_|refine zFld rfl O_Prog_Funs ?_|refine wB E_int64 ?_|refine wB E_s_int ?_|refine wB E_s_api_Fun ?_|refine wI ?_|refine zLd rfl ‹_› ?_)
      refine zLen rfl (hla _) ?_
      (repeat first|refine wN ?_|refine zOn rfl rfl ?_|refine zPT rfl rfl rfl ?_|refine zEql rfl rfl ?_|refine zFld rfl O_Ins_N ?_|refine zFld rfl O_Fun_Params ?_|refine zFld rfl O_Prog_Funs ?_|refine wB E_int64 ?_|refine wB E_s_api_Fun ?_|refine wI ?_|refine zLd rfl ‹_› ?_)
      exact WP.ret ⟨.inr rfl,_,rfl,by simp only [c3];rfl,f0c⟩
    · rw [c3] at hl1
      (repeat first|apply zSeq|apply zReg|apply zBlk|refine wN ?_|refine zEql rfl rfl ?_|refine zT rfl rfl ?_|refine zF rfl rfl ?_|refine zFld rfl O_Ins_Op ?_|refine zFld rfl O_Ins_N ?_|refine zFld rfl O_Prog_Funs ?_|refine wB E_int64 ?_|refine wB E_uint8 ?_|refine wB E_s_api_Fun ?_)
      refine zLen rfl (hlf _) ?_
      refine WL.call rfl rfl is_ref07_within hcw ?_
      (repeat first|refine wN ?_|refine zOn rfl rfl ?_|refine zOff rfl rfl ?_|refine zPT rfl rfl rfl ?_|refine zPF rfl rfl rfl ?_|refine zNot rfl ?_|refine zFld rfl O_Ins_N ?_|refine zFld rfl O_Fun_Thread ?_|refine zFld rfl O_Prog_Funs ?_|refine wB E_int64 ?_|refine wB E_s_api_Fun ?_|refine wI ?_|refine zLd rfl ‹_› ?_)
      exact WP.ret ⟨.inr rfl,_,rfl,by simp only [c3];rfl,f0c⟩
  all_goals
    first
    | ((repeat first|apply zSeq|apply zReg|apply zBlk|apply zSkp|refine wN ?_|refine wA ?_|refine zEql rfl rfl ?_|refine zT rfl rfl ?_|refine zF rfl rfl ?_|refine zFld rfl O_Ins_Op ?_|refine zFld rfl O_Ins_N ?_|refine zFld rfl O_Fun_Code ?_|refine zFld rfl O_Prog_Mems ?_|refine zFld rfl O_Prog_Locks ?_|refine wB E_int64 ?_|refine wB E_uint8 ?_|refine wB E_s_string ?_|refine wB E_s_api_Mem ?_|refine wB E_s_api_Ins ?_);exact WP.ret ⟨.inr rfl,_,rfl,rfl,f0c⟩)
    | ((repeat first|apply zSeq|apply zReg|apply zBlk|apply zSkp|refine wN ?_|refine zEql rfl rfl ?_|refine zT rfl rfl ?_|refine zF rfl rfl ?_|refine zFld rfl O_Ins_Op ?_|refine zFld rfl O_Ins_N ?_|refine zFld rfl O_Fun_Code ?_|refine zFld rfl O_Prog_Mems ?_|refine zFld rfl O_Prog_Locks ?_|refine wB E_int64 ?_|refine wB E_uint8 ?_|refine wB E_s_string ?_|refine wB E_s_api_Mem ?_|refine wB E_s_api_Ins ?_);refine zLen rfl (hlm _) ?_;refine WL.call rfl rfl is_ref07_within (rWithin_c (H:=Hd) hO n p.mems.length) ?_;(repeat first|refine wN ?_);exact WP.ret ⟨.inr rfl,_,rfl,rfl,f0c⟩)
    | ((repeat first|apply zSeq|apply zReg|apply zBlk|apply zSkp|refine wN ?_|refine zEql rfl rfl ?_|refine zT rfl rfl ?_|refine zF rfl rfl ?_|refine zFld rfl O_Ins_Op ?_|refine zFld rfl O_Ins_N ?_|refine zFld rfl O_Fun_Code ?_|refine zFld rfl O_Prog_Locks ?_|refine wB E_int64 ?_|refine wB E_uint8 ?_|refine wB E_s_string ?_|refine wB E_s_api_Ins ?_);refine zLen rfl (hll _) ?_;refine WL.call rfl rfl is_ref07_within (rWithin_c (H:=Hd) hO n p.locks.length) ?_;(repeat first|refine wN ?_);exact WP.ret ⟨.inr rfl,_,rfl,rfl,f0c⟩)
    | ((repeat first|apply zSeq|apply zReg|apply zBlk|apply zSkp|refine wN ?_|refine zEql rfl rfl ?_|refine zT rfl rfl ?_|refine zF rfl rfl ?_|refine zFld rfl O_Ins_Op ?_|refine zFld rfl O_Ins_N ?_|refine zFld rfl O_Fun_Code ?_|refine wB E_int64 ?_|refine wB E_uint8 ?_|refine wB E_s_api_Ins ?_);refine zLen rfl (hlc _) ?_;refine WL.call rfl rfl is_ref07_within (rWithin_c (H:=Hd) hO n f.code.length) ?_;(repeat first|refine wN ?_);exact WP.ret ⟨.inr rfl,_,rfl,rfl,f0c⟩)
theorem rMayIns2_c (hO:NoO O) {A C:Av}{p:Prog}{i:Ins}{va vm vl vf:Value}{k:Nat} (hk:k < p.funs.length) (hp:PrR A H vm vl vf p) (hv:IntsR C H va i.args) (hL:i.args.length≤100000) (hop:0≤i.op∧i.op < 256) :
  ∃ u H',Lc V O F_ref07_MayIns [.agg #[vm,vl,vf],.int .i64 k,insV i va] H u H'∧(u=.bool (mayG p p.funs[k] i)∧Fr H H'):=by
 refine Lc.ref07_MayIns (R:=fun u H'=>u=.bool (mayG p p.funs[k] i)∧Fr H H') (hO _ _ _ (by decide)) (Nat.le_of_ble_eq_true rfl) (by kernel_rfl) ?_
 unfold P_ref07_MayIns
 apply zSeq
 apply zReg
 refine zBox rfl (fun _=>rfl) fun H1 f1 b1 n1=>?_
 refine zBox rfl (fun _=>rfl) fun H2 f2 b2 n2=>?_
 have b1':Bx H2 H.next 56 [vm,vl,vf]:=b1.fr f2
 have b2':Bx H2 H1.next 41 (i.cells va):=b2
 have f12:=f1.trans f2
 have hp2:=hp.fr f12
 have hlen1:=fun Hz=>hp.f.len (V:=V) (H2:=Hz) E_s_api_Fun
 obtain ⟨b,off,cs,ha1,hrd,vc,rfl,hc⟩:=hp2.f.at E_s_api_Fun E_Fun te_Fun_size (kd:=.i64) hk
 have hl3:=hrd.loadN (V:=V) E_Fun te_Fun_agg te_Fun_size
 have hcw:=rWithin_c (H:=H2) hO k p.funs.length
 have hw:(decide ((k:Int)≥0)&&decide ((k:Int) < p.funs.length))=true:=by rw [decide_eq_true (show (k:Int)≥0 by omega),decide_eq_true (show (k:Int) < p.funs.length by omega)];rfl
 rw [hw] at hcw
 obtain ⟨_,H3,hc3,rfl,f3⟩:=rMayIns_c (H:=H2) hO hp2 hc (hv.fr f12) hL hop
 (repeat first|apply zSeq|apply zReg|refine wN ?_|refine wG ?_|refine wA ?_|refine zFld rfl O_Prog_Funs ?_|refine wB E_s_api_Fun ?_|refine zLen rfl (hlen1 _) ?_)
 refine WL.call rfl rfl is_ref07_within hcw ?_
 (repeat first|refine zOn rfl rfl ?_)
 refine zLd rfl (b1'.ldN E_Prog te_Prog_agg (by rw [te_Prog_size];rfl)) ?_
 (repeat first|refine zOn rfl rfl ?_|refine wM ?_|refine zFld rfl O_Prog_Funs ?_|refine wB E_s_api_Fun ?_|refine wI ?_|refine zLd rfl ‹_› ?_)
 refine zLd rfl (b2'.ldN E_Ins te_Ins_agg (by rw [te_Ins_size];rfl)) ?_
 (repeat first|refine zOn rfl rfl ?_)
 refine WL.call rfl rfl is_ref07_mayIns hc3 ?_
 (repeat first|refine wN ?_|refine zPT rfl rfl rfl ?_)
 exact WP.ret ⟨.inr rfl,_,rfl,rfl,f12.trans f3⟩
end Go.Proofs.YtogomfblfpfjhaaGreatDoor.U
namespace Go.Proofs.YtogomfblfpfjhaaGreatDoor.U
open Go Go.Ev
attribute [local irreducible] WL WP WH W
theorem buildMem0:aBuild V.E 50 []=some (.agg #[.string ⟨⟨[]⟩⟩,.int .i64 0,.int .i64 0]):=by kernel_rfl
theorem fillMem1 {a0 a1 a2:Value}:afill (fun i=>some (i * te_Mem.size,te_Mem.size)) (azeros te_Mem.zv.cells.toList 1) [(0,.agg #[a0,a1,a2])]=some [a0,a1,a2]:=by kernel_rfl
theorem buildFunA {r:Int}{a:Option Addr}{n c:Nat}:aBuild V.E 59 [(3,.int .i64 r),(4,.slice a n c)]=some (.agg #[.string ⟨⟨[]⟩⟩,.bool false,.int .i64 0,.int .i64 r,.slice a n c]):=by kernel_rfl
theorem buildFunB {r:Int}:aBuild V.E 59 [(2,.int .i64 r)]=some (.agg #[.string ⟨⟨[]⟩⟩,.bool false,.int .i64 r,.int .i64 0,.slice none 0 0]):=by kernel_rfl
theorem fillFun2 {a1 a2 a3 a4 a5 b1 b2 b3 b4 b5:Value}:afill (fun i=>some (i * te_Fun.size,te_Fun.size)) (azeros te_Fun.zv.cells.toList 2) [(0,.agg #[a1,a2,a3,a4,a5]),(1,.agg #[b1,b2,b3,b4,b5])]=some [a1,a2,a3,a4,a5,b1,b2,b3,b4,b5]:=by kernel_rfl
theorem buildProg3 {a1 a2 b1 b2 c1 c2:Nat}{p q r:Option Addr}:aBuild V.E 56 [(0,.slice p a1 a2),(1,.slice q b1 b2),(2,.slice r c1 c2)]=some (.agg #[.slice p a1 a2,.slice q b1 b2,.slice r c1 c2]):=by kernel_rfl
attribute [local irreducible] V
variable {O:Orc}{H:AH}
theorem rEnds_c (hO:NoO O) (op:Int):Lc V O F_ref11_ends [.int .u8 op] H (.bool (Flo.ends op)) H:=by
 refine Lc.of_eq (Lc.ref11_ends (R:=fun u H'=>u=.bool (Flo.ends op)∧H'=H) (hO _ _ _ (by decide)) (Nat.le_of_ble_eq_true rfl) (by kernel_rfl) ?_)
 unfold P_ref11_ends
 cases c1:op==11
 ·cases c2:op==12
  ·(repeat first|apply zSeq|apply zReg|refine wN ?_|refine wG ?_|refine wO ?_|refine wM ?_|refine wA ?_|refine wR ?_|refine zEql rfl rfl ?_)
   exact WP.ret ⟨.inr rfl,_,rfl,by unfold Flo.ends;rw [c1,c2];rfl,rfl⟩
  ·(repeat first|apply zSeq|apply zReg|refine wN ?_|refine wG ?_|refine wO ?_|refine wF ?_|refine wM ?_|refine wA ?_|refine wP ?_|refine wR ?_|refine zEql rfl rfl ?_)
   exact WP.ret ⟨.inr rfl,_,rfl,by unfold Flo.ends;rw [c1,c2];rfl,rfl⟩
 ·(repeat first|apply zSeq|apply zReg|refine wN ?_|refine wG ?_|refine zOff rfl rfl ?_|refine wF ?_|refine wA ?_|refine zPT rfl rfl rfl ?_|refine wP ?_|refine zEql rfl rfl ?_)
  exact WP.ret ⟨.inr rfl,_,rfl,by unfold Flo.ends;rw [c1];rfl,rfl⟩
theorem rHas_c (hO:NoO O) {A:Av}{v:Value}{l:List Int} (hv:IntsR A H v l) (hL:l.length≤1000000) (x:Int):Lc V O F_ref11_has [v,.int .i64 x] H (.bool (l.contains x)) H:=by
  refine Lc.of_eq (Lc.ref11_has (R:=fun u H'=>u=.bool (l.contains x)∧H'=H) (hO _ _ _ (by decide)) (Nat.le_of_ble_eq_true rfl) (by kernel_rfl) ?_)
  unfold P_ref11_has
  have hlen1:=fun Hz=>hv.len (V:=V) (H2:=Hz) E_s_int
  (repeat first|apply zSeq|apply zReg|apply zBlk|refine wN ?_|refine wA ?_)
  refine WP.loopH (σ:=Nat) (fun i=>[(0,v),(1,.int .i64 x),(5,.int .i64 i)]) (fun i H'=>H'=H∧i≤l.length∧∀ j (h:j < l.length),j < i→(l[j]==x)=false) (fun i=>l.length - i) 0 ⟨rfl,by simp,fun j _ h=>absurd h (by omega)⟩ ⟨rfl,rfl,rfl,trivial⟩ ?_
  rintro i Hc ⟨e,hi,hn⟩
  subst e
  rcases Nat.lt_or_ge i l.length with h|h
  case inr =>
    have g1:decide ((i:Int) < l.length)=false:=decide_eq_false (by omega)
    have : l.contains x=false:=by
      cases hc:l.contains x
      · rfl
      · obtain ⟨j,hj,e⟩:=List.mem_iff_getElem.1 (by simpa using hc)
        have:=hn j hj (by omega)
        simp [e] at this
    (repeat first|apply zSeq|apply zReg|refine zExt ?_|refine wN ?_|refine wG ?_|refine wA ?_|refine wL ?_|refine wE ?_|refine zLen rfl (hlen1 _) ?_)
    exact WP.ret ⟨.inr rfl,_,rfl,by rw [this];rfl,rfl⟩
  have g1:decide ((i:Int) < l.length)=true:=decide_eq_true (by omega)
  obtain ⟨b,off,ha1,hl1⟩:=IntsR.at hv E_s_int E_int (kd:=.i64) h
  cases c:l[i]==x
  · (repeat first|apply zSeq|apply zReg|apply zBlk|apply zSkp|refine wN ?_|refine wG ?_|refine wL ?_|refine zEql rfl rfl ?_|refine zAdd rfl rfl (by omega) ?_|refine wT ?_|refine wE ?_|refine wI ?_|refine zLd rfl ‹_› ?_|refine zLen rfl (hlen1 _) ?_)
    refine ⟨i+1,⟨rfl,h,fun j hj hji=>?_⟩,by omega,rfl,rfl,rfl,trivial⟩
    by_cases e:j=i
    · subst e;exact c
    · exact hn j hj (by omega)
  · have:l.contains x=true:=by
      have e:l[i]=x:=by simpa using c
      simp only [List.contains_eq_mem,decide_eq_true_eq]
      rw [← e];exact List.getElem_mem h
    (repeat first|apply zSeq|apply zReg|apply zBlk|apply zSkp|refine wN ?_|refine wG ?_|refine wA ?_|refine wL ?_|refine zEql rfl rfl ?_|refine wT ?_|refine wI ?_|refine zLd rfl ‹_› ?_|refine zLen rfl (hlen1 _) ?_)
    exact WP.ret ⟨.inr rfl,_,rfl,by rw [this];rfl,rfl⟩
theorem rWithinL_c (hO:NoO O) {A:Av}{v:Value}{l:List Int} (hv:IntsR A H v l) (hL:l.length≤1000000) (m:Int):Lc V O F_ref11_within [v,.int .i64 m] H (.bool (l.all (Flo.within m))) H:=by
 refine Lc.of_eq (Lc.ref11_within (R:=fun u H'=>u=.bool (l.all (Flo.within m))∧H'=H) (hO _ _ _ (by decide)) (Nat.le_of_ble_eq_true rfl) (by kernel_rfl) ?_)
 unfold P_ref11_within
 have hlen1:=fun Hz=>hv.len (V:=V) (H2:=Hz) E_s_int
 (repeat first|apply zSeq|apply zReg|apply zBlk|refine wN ?_|refine wA ?_)
 refine WP.loopH (σ:=Nat) (fun i=>[(0,v),(1,.int .i64 m),(5,.int .i64 i)]) (fun i H'=>H'=H∧i≤l.length∧∀ j (h:j < l.length),j < i→Flo.within m l[j]=true) (fun i=>l.length - i) 0 ⟨rfl,by simp,fun j _ h=>absurd h (by omega)⟩ ⟨rfl,rfl,rfl,trivial⟩ ?_
 rintro i Hc ⟨e,hi,hn⟩
 subst e
 rcases Nat.lt_or_ge i l.length with h|h
 case inr=>
  have g1:decide ((i:Int) < l.length)=false:=decide_eq_false (by omega)
  have:l.all (Flo.within m)=true:=by
   rw [List.all_eq_true]
   intro y hy
   obtain ⟨j,hj,rfl⟩:=List.mem_iff_getElem.1 hy
   exact hn j hj (by omega)
  (repeat first|apply zSeq|apply zReg|refine zExt ?_|refine wN ?_|refine wG ?_|refine wA ?_|refine wL ?_|refine wE ?_|refine zLen rfl (hlen1 _) ?_)
  exact WP.ret ⟨.inr rfl,_,rfl,by rw [this];rfl,rfl⟩
 have g1:decide ((i:Int) < l.length)=true:=decide_eq_true (by omega)
 obtain ⟨b,off,ha1,hl1⟩:=IntsR.at hv E_s_int E_int (kd:=.i64) h
 have bad:Flo.within m l[i]=false→l.all (Flo.within m)=false:=fun hb=>by rw [List.all_eq_false];exact ⟨_,List.getElem_mem h,by rw [hb];decide⟩
 cases c:decide (l[i] < 0)
 ·cases c2:decide (l[i]≥m)
  ·(repeat first|apply zSeq|apply zReg|apply zBlk|apply zSkp|refine wN ?_|refine wG ?_|refine wO ?_|refine wM ?_|refine wR ?_|refine wL ?_|refine zGeq rfl rfl ?_|refine zAdd rfl rfl (by omega) ?_|refine wT ?_|refine wE ?_|refine wI ?_|refine zLd rfl ‹_› ?_|refine zLen rfl (hlen1 _) ?_)
   refine ⟨i+1,⟨rfl,h,fun j hj hji=>?_⟩,by omega,rfl,rfl,rfl,trivial⟩
   by_cases e:j=i
   ·subst e;unfold Flo.within;rw [c,c2];rfl
   ·exact hn j hj (by omega)
  ·(repeat first|apply zSeq|apply zReg|apply zBlk|apply zSkp|refine wN ?_|refine wG ?_|refine wO ?_|refine wM ?_|refine wA ?_|refine wR ?_|refine wL ?_|refine zGeq rfl rfl ?_|refine wT ?_|refine wI ?_|refine zLd rfl ‹_› ?_|refine zLen rfl (hlen1 _) ?_)
   exact WP.ret ⟨.inr rfl,_,rfl,by rw [bad (by unfold Flo.within;rw [c,c2];rfl)];rfl,rfl⟩
 ·(repeat first|apply zSeq|apply zReg|apply zBlk|apply zSkp|refine wN ?_|refine wG ?_|refine wF ?_|refine wA ?_|refine wP ?_|refine wL ?_|refine zT rfl rfl ?_|refine wT ?_|refine wI ?_|refine zLd rfl ‹_› ?_|refine zLen rfl (hlen1 _) ?_)
  exact WP.ret ⟨.inr rfl,_,rfl,by rw [bad (by unfold Flo.within;rw [c];rfl)];rfl,rfl⟩
theorem rIntsEq_c (hO:NoO O) {A B:Av}{va vb:Value}{a b:List Int} (h1:IntsR A H va a) (h2:IntsR B H vb b) (hL:a.length≤1000000):Lc V O F_ref11_ints [va,vb] H (.bool (a==b)) H:=by
 refine Lc.of_eq (Lc.ref11_ints (R:=fun u H'=>u=.bool (a==b)∧H'=H) (hO _ _ _ (by decide)) (Nat.le_of_ble_eq_true rfl) (by kernel_rfl) ?_)
 unfold P_ref11_ints
 have hlen1:=fun Hz=>h1.len (V:=V) (H2:=Hz) E_s_int
 have hlen2:=fun Hz=>h2.len (V:=V) (H2:=Hz) E_s_int
 cases c6:((a.length:Int) != b.length)
 case true=>
  have hne:(a==b)=false:=by
   rw [beq_eq_false_iff_ne]
   intro e
   rw [e] at c6;simp at c6
  (repeat first|apply zSeq|apply zReg|refine wN ?_|refine wG ?_|refine wA ?_|refine zNeq rfl rfl ?_|refine wT ?_|refine zLen rfl (hlen1 _) ?_|refine zLen rfl (hlen2 _) ?_)
  exact WP.ret ⟨.inr rfl,_,rfl,by rw [hne];rfl,rfl⟩
 have hll:a.length=b.length:=by
  have:(a.length:Int)=b.length:=by simpa using c6
  omega
 (repeat first|apply zSeq|apply zReg|apply zBlk|apply zSkp|refine wN ?_|refine wG ?_|refine wA ?_|refine zNeq rfl rfl ?_|refine wE ?_|refine zLen rfl (hlen1 _) ?_|refine zLen rfl (hlen2 _) ?_)
 refine WP.loopH (σ:=Nat) (fun k=>[(0,va),(1,vb),(5,.int .i64 k)]) (fun k Hc=>Hc=H∧k≤a.length∧∀ n (h:n < a.length) (h':n < b.length),n < k→a[n]=b[n]) (fun k=>a.length - k) 0 ⟨rfl,Nat.zero_le _,fun n _ _ h=>absurd h (by omega)⟩ ⟨rfl,rfl,rfl,trivial⟩ ?_
 rintro k Hc ⟨e,hk,hpre⟩
 subst e
 rcases Nat.lt_or_ge k a.length with h|h
 case inr=>
  have g1:decide ((k:Int) < a.length)=false:=decide_eq_false (by omega)
  have heq:(a==b)=true:=by
   rw [beq_iff_eq]
   exact List.ext_getElem hll fun n q1 q2=>hpre n q1 q2 (by omega)
  (repeat first|apply zSeq|apply zReg|refine zExt ?_|refine wN ?_|refine wG ?_|refine wA ?_|refine wL ?_|refine wE ?_|refine zLen rfl (hlen1 _) ?_)
  exact WP.ret ⟨.inr rfl,_,rfl,by rw [heq];rfl,rfl⟩
 have g1:decide ((k:Int) < a.length)=true:=decide_eq_true (by omega)
 obtain ⟨ba,oa,ha1,hl1⟩:=IntsR.at h1 E_s_int E_int (kd:=.i64) h
 obtain ⟨bb,ob,ha2,hl2⟩:=IntsR.at h2 E_s_int E_int (kd:=.i64) (hll ▸ h)
 cases c7:a[k] != b[k]'(hll ▸ h)
 ·(repeat first|apply zSeq|apply zReg|apply zBlk|apply zSkp|refine wN ?_|refine wG ?_|refine wL ?_|refine zNeq rfl rfl ?_|refine zAdd rfl rfl (by omega) ?_|refine wT ?_|refine wE ?_|refine wI ?_|refine zLd rfl ‹_› ?_|refine zLen rfl (hlen1 _) ?_)
  refine ⟨k+1,⟨rfl,h,fun n q1 q2 hn=>?_⟩,by omega,rfl,rfl,rfl,trivial⟩
  by_cases e:n=k
  ·subst e;simpa using c7
  ·exact hpre n q1 q2 (by omega)
 ·have hne:(a==b)=false:=by
   rw [beq_eq_false_iff_ne]
   intro e
   have:a[k]=b[k]'(hll ▸ h):=by simp only [e]
   rw [this] at c7;simp at c7
  (repeat first|apply zSeq|apply zReg|apply zBlk|apply zSkp|refine wN ?_|refine wG ?_|refine wA ?_|refine wL ?_|refine zNeq rfl rfl ?_|refine wT ?_|refine wI ?_|refine zLd rfl ‹_› ?_|refine zLen rfl (hlen1 _) ?_)
  exact WP.ret ⟨.inr rfl,_,rfl,by rw [hne];rfl,rfl⟩
theorem rFroms_c (hO:NoO O) {A:Av}{vl:Value}{l:List Block} (hvl:Els 4 BlockR A H vl l) (hL:l.length≤100000) (hLt:∀ b∈l,b.to.length≤1000000) (t:Int) :
  ∃ u H',Lc V O F_ref11_Froms [vl,.int .i64 t] H u H'∧(Fr H H'∧∃ o,OwI 3 H' H.next u (Flo.fromOf l l.length t) o):=by
 refine Lc.ref11_Froms (R:=fun u H'=>Fr H H'∧∃ o,OwI 3 H' H.next u (Flo.fromOf l l.length t) o) (hO _ _ _ (by decide)) (Nat.le_of_ble_eq_true rfl) (by kernel_rfl) ?_
 unfold P_ref11_Froms
 have hlen1:=fun Hz=>hvl.len (V:=V) (H2:=Hz) E_s_api_Block
 (repeat first|apply zSeq|apply zReg|apply zBlk|refine wN ?_|refine wA ?_)
 refine WP.loopH (σ:=Nat×Value×Option (Nat×Nat)) (fun x=>[(0,vl),(1,.int .i64 t),(5,x.2.1),(6,.int .i64 x.1)]) (fun x Hc=>Fr H Hc∧OwI 3 Hc H.next x.2.1 (Flo.fromOf l x.1 t) x.2.2∧x.1≤l.length) (fun x=>l.length - x.1) (0,.slice none 0 0,none) ⟨.refl _,.nil,Nat.zero_le _⟩ ⟨rfl,rfl,rfl,rfl,trivial⟩ ?_
 rintro ⟨k,bv,o⟩ Hc ⟨hfr,how,hk⟩
 simp only at hfr how hk ⊢
 rcases Nat.lt_or_ge k l.length with h|h
 case inr=>
  have g1:decide ((k:Int) < l.length)=false:=decide_eq_false (by omega)
  obtain rfl:k=l.length:=by omega
  (repeat first|apply zSeq|apply zReg|refine zExt ?_|refine wN ?_|refine wG ?_|refine wL ?_|refine wE ?_|refine zLen rfl (hlen1 _) ?_)
  exact WP.ret ⟨.inr rfl,_,rfl,hfr,o,how⟩
 have g1:decide ((k:Int) < l.length)=true:=decide_eq_true (by omega)
 obtain ⟨b,off,cs,ha1,hrd,vp,vc,vf,vt,rfl,hP,hC,hF,hT⟩:=(hvl.fr BlockR.m hfr).at E_s_api_Block E_Block te_Block_size (kd:=.i64) h
 have hl1:=(hrd.at1 (i:=3) rfl).load1 (V:=V) E_s_int rfl
 have hLk:=hLt l[k] (List.getElem_mem _)
 have hcc:=rHas_c (H:=Hc) hO hT hLk t
 have hfs:=fromOf_succ h t
 have hfl:=fromOf_length l k t
 have hn:=hfr.1
 cases c:l[k].to.contains t
 ·rw [c] at hcc hfs
  (repeat first|apply zSeq|apply zReg|apply zBlk|apply zSkp|refine wN ?_|refine wG ?_|refine wL ?_|refine wT ?_|refine zFld rfl O_Block_To ?_|refine wI ?_|refine zLd rfl ‹_› ?_|refine zLen rfl (hlen1 _) ?_)
  refine WL.call rfl rfl is_ref11_has hcc ?_
  (repeat first|apply zReg|apply zSkp|refine wN ?_|refine wG ?_|refine zAdd rfl rfl (by omega) ?_|refine zF rfl rfl ?_)
  exact ⟨(k+1,bv,o),⟨hfr,by rw [hfs];simp only [Bool.false_eq_true,if_false,List.append_nil];exact how,h⟩,by simp only;omega,rfl,rfl,rfl,rfl,trivial⟩
 ·rw [c] at hcc hfs
  obtain ⟨bv',H6,o',k1,k2,k3,k4⟩:=how.app1 (V:=V) (k:Int) (by omega) (by omega) E_s_int E_s_int E_int (by decide)
  have hyo:=how.young
  (repeat first|apply zSeq|apply zReg|apply zBlk|apply zSkp|refine wN ?_|refine wG ?_|refine wL ?_|refine wT ?_|refine zFld rfl O_Block_To ?_|refine wI ?_|refine zLd rfl ‹_› ?_|refine zLen rfl (hlen1 _) ?_)
  refine WL.call rfl rfl is_ref11_has hcc ?_
  (repeat first|apply zReg|refine wN ?_|refine wG ?_|refine zT rfl rfl ?_)
  refine WL.op (op_buildSlice rfl E_s_int E_int (by decide) fill_int) ?_
  refine WL.op (k1 rfl rfl) ?_
  (repeat first|apply zReg|refine wN ?_|refine wG ?_|refine zAdd rfl rfl (by omega) ?_)
  exact ⟨(k+1,bv',o'),⟨hfr.young k3 hyo.1 hyo.2.1,by rw [hfs];simp only [if_true];exact k2,h⟩,by simp only;omega,rfl,rfl,rfl,rfl,trivial⟩
def p1 (regs:Int) (i:Ins):Prog:=⟨[⟨noS,0,0⟩],[noS],[⟨noS,false,0,regs,[zeroI]⟩,⟨noS,false,i.args.length,0,[]⟩]⟩
def f1 (regs:Int):Fun:=⟨noS,false,0,regs,[zeroI]⟩
def rmi (regs:Int) (i:Ins):Bool:=
 if (i.op==10)=true then !(decide (i.n < 0)||decide ((i.args.length:Int) > 8))&&mayG (p1 regs i) (f1 regs) { i with n:=1 }
 else if (decide (i.op≥5)&&decide (i.op≤8))=true then !decide (i.n < 0)&&mayG (p1 regs i) (f1 regs) { i with n:=0 }
 else mayG (p1 regs i) (f1 regs) i
theorem mayG_p1 (regs:Int) (i j:Ins):mayG (p0 regs i) (f1 regs) j=mayG (p1 regs i) (f1 regs) j:=by
 unfold mayG
 rw [numG_congr (p:=p0 regs i) (q:=p1 regs i) rfl rfl rfl fun k h1 h2=>by
  have:k < 2:=h1
  have:k=0∨k=1:=by omega
  rcases this with rfl|rfl <;> exact ⟨rfl,rfl⟩]
theorem mayG_args {p:Prog}{f:Fun}{i:Ins} (h:i.op≠10) (hop:1≤i.op∧i.op < 14) (ha:i.args≠[]):mayG p f i=false:=by
 have:sameB (bareI (Flo.opD i.op) i) zeroI=false:=by
  rw [← Bool.not_eq_true,sameB_iff]
  intro e
  have e:=congrArg Ins.args e
  simp only [bareI,zeroI] at e
  have hn:((Flo.opD i.op).n==6)=false:=by
   obtain ⟨op,r,a,b,n,args⟩:=i
   simp only at h hop ⊢
   rcases op_cases' hop with rfl|rfl|rfl|rfl|rfl|rfl|rfl|rfl|rfl|rfl|rfl|rfl|rfl <;> first|rfl|exact absurd rfl h
  rw [hn] at e
  simp at e
  exact ha e
 unfold mayG;rw [this];simp
theorem mayG_neg {p:Prog}{f:Fun}{i:Ins} (h:i.op≠1) (hn:i.n < 0):mayG p f i=false:=by
 cases hio:Flo.isOp i.op
 ·exact mayG_out1 hio
 have hop:=Flo.isOp_of hio
 unfold mayG numG sameB bareI zeroI
 obtain ⟨op,r,a,b,n,args⟩:=i
 simp only at h hop hn ⊢
 have e0:(n==0)=false:=by rw [beq_eq_false_iff_ne];omega
 have e5:(n==5)=false:=by rw [beq_eq_false_iff_ne];omega
 have e6:(n==6)=false:=by rw [beq_eq_false_iff_ne];omega
 have g0:decide (n≥0)=false:=decide_eq_false (by omega)
 have g7:decide (n≥7)=false:=decide_eq_false (by omega)
 rcases op_cases' hop with rfl|rfl|rfl|rfl|rfl|rfl|rfl|rfl|rfl|rfl|rfl|rfl|rfl <;> first|exact absurd rfl h|(simp [Flo.opD,Flo.opL,e0,e5,e6,g0,g7,hn];try omega)
theorem rmi_mi (regs:Int) (i:Ins):rmi regs i=mi regs i:=by
  unfold mi
  rw [show (⟨noS,false,0,regs,[zeroI]⟩:Fun)=f1 regs from rfl,mayG_p1]
  cases hio:Flo.isOp i.op
  · have h1:∀ p f n,mayG p f { i with n:=n }=false:=fun p f n=>mayG_out1 hio
    have h2:∀ p f,mayG p f i=false:=fun p f=>mayG_out1 hio
    unfold rmi numI
    rw [h1,h1,h2,h1]
    simp
  have hop:=Flo.isOp_of hio
  by_cases h10:i.op=10
  · have e:(i.op==10)=true:=by simpa using h10
    have e1:(i.op != 1)=true:=by rw [h10];decide
    have hn:numI i={ i with n:=1 }:=by unfold numI num;rw [h10];rfl
    unfold rmi
    rw [if_pos e,hn,e1,Bool.and_true]
  have e:¬ (i.op==10)=true:=by simpa using h10
  unfold rmi
  rw [if_neg e]
  by_cases h58:5≤i.op∧i.op≤8
  · have e2:(decide (i.op≥5)&&decide (i.op≤8))=true:=by simp [h58]
    have e1:(i.op != 1)=true:=by rw [bne_iff_ne];omega
    have hn:numI i={ i with n:=0 }:=by
      unfold numI num
      have:(i.op==5||i.op==6||i.op==7||i.op==8)=true:=by
        simp;omega
      rw [if_pos this]
    rw [if_pos e2,hn,e1,Bool.and_true]
    by_cases ha:i.args=[]
    · rw [decide_eq_false (show ¬ (i.args.length:Int) > 8 by rw [ha];simp),Bool.or_false]
    · have:mayG (p1 regs i) (f1 regs) { i with n:=0 }=false:=mayG_args h10 hop ha
      rw [this];simp
  · have e2:¬ (decide (i.op≥5)&&decide (i.op≤8))=true:=by simp;omega
    have hn:numI i=i:=by
      unfold numI num
      have:¬ (i.op==5||i.op==6||i.op==7||i.op==8)=true:=by
        simp;omega
      rw [if_neg this,if_neg e]
    rw [if_neg e2,hn]
    by_cases ha:i.args=[]
    · rw [decide_eq_false (show ¬ (i.args.length:Int) > 8 by rw [ha];simp),Bool.or_false]
      by_cases h1:i.op=1
      · have:(i.op != 1)=false:=by rw [h1];rfl
        rw [this,Bool.and_false];simp
      · by_cases hneg:i.n < 0
        · rw [mayG_neg h1 hneg];simp
        · rw [decide_eq_false hneg,Bool.false_and];simp
    · rw [mayG_args h10 hop ha];simp
end Go.Proofs.YtogomfblfpfjhaaGreatDoor.U
namespace Go.Ev
theorem Bx.elsA {α:Type}{A:Av}{sz:Nat}{R:Rq α}{H:AH}{b:Nat}{e:TypeId}{cs:List Value}{xs:List α}{cap:Nat} (hb:Bx H b e cs) (hn:b∉A.bs) (hc:cs.length=xs.length * sz) (hx:∀ i (h:i < xs.length),R A H ((cs.drop (i * sz)).take sz) xs[i]):Els sz R A H (.slice (some ⟨b,0,none⟩) xs.length cap) xs:=
 ⟨cs,⟨hc,.inr ⟨b,0,cap,rfl,fun _=>⟨hn,e,cs,.exact,0,0,hb.1,hb.2,.inl rfl,by omega,by rw [List.drop_zero,List.take_of_length_le (by omega)]⟩⟩⟩,hx⟩
end Go.Ev
namespace Go.Flo
open Go.Ev
variable (mi:Int→Ins→Bool)
def lastOp (l:List Ins):Int:=match l.getLast? with|some i=>i.op|none=>0
def toL (l:List Ins):Int:=if (lastOp l==13)=true then 0 else if (lastOp l==12)=true then 2 else 1
def phOk (n:Nat) (regs:Int) (nf:Nat) (p:Phi):Bool:=!(n==0)&&(within regs p.r&&(p.args.all (within regs)&&(p.args.length:Int)==nf))
def rblock (l:List Block) (n:Nat) (regs:Int) (b:Block):Bool:=
 codeOk mi regs b.code.length 0 b.code&&((b.to.length:Int)==toL b.code&&(b.to.all (within l.length)&&b.phis.all (phOk n regs b.frm.length)))
variable {mi}
theorem fold_toN {l:List Ins} (h:∀ i∈l,ends i.op=false) (t:Int):l.foldl toN t=t:=by
 induction l generalizing t with
 | nil=>rfl
 | cons a l ih=>
  rw [List.foldl_cons,ih fun i hi=>h i (by simp [hi])]
  have:=h a (by simp)
  unfold ends at this
  simp only [Bool.or_eq_false_iff] at this
  unfold toN
  rw [this.1.2,this.2];rfl
theorem toOf_eq {regs:Int}{l:List Ins} (h:codeOk mi regs l.length 0 l=true):toOf l=toL l:=by
  unfold toOf toL lastOp
  rcases List.eq_nil_or_concat l with rfl|⟨m,a,rfl⟩
  · rfl
  · rw [codeOk_iff] at h
    rw [List.concat_eq_append] at h ⊢
    rw [List.foldl_append,fold_toN (l:=m)]
    · rw [List.getLast?_concat]
      simp only [List.foldl_cons,List.foldl_nil]
      unfold toN
      by_cases h1:a.op==12
      · have:(a.op==13)=false:=by
          rw [beq_eq_false_iff_ne];have:a.op=12:=by simpa using h1
          omega
        rw [if_pos h1,this,h1];rfl
      · rw [if_neg h1]
        have h1:(a.op==12)=false:=by simpa using h1
        rw [h1];simp
    · intro i hi
      obtain ⟨j,hj,rfl⟩:=List.mem_iff_getElem.1 hi
      have:=h j (by simp;omega)
      unfold insOk at this
      rw [Bool.and_eq_true] at this
      have h2:=this.2
      have hd:decide (0+j+1 < (m++[a]).length)=true:=decide_eq_true (by simp;omega)
      rw [hd,List.getElem_append_left hj] at h2
      simpa using h2
theorem phiOk_of {n:Nat}{regs:Int}{nf:Nat}{p:Phi} (hn:n≠0):phOk n regs nf p=phiOk regs nf p:=by
 unfold phOk phiOk
 have:(n==0)=false:=by rw [beq_eq_false_iff_ne];exact hn
 rw [this]
 cases within regs p.r <;> cases p.args.all (within regs) <;> cases ((p.args.length:Int)==nf) <;> rfl
end Go.Flo
namespace Go.Proofs.YtogomfblfpfjhaaGreatDoor.U
open Go Go.Ev
attribute [local irreducible] WL WP WH W
attribute [local irreducible] V
variable {O:Orc}{H:AH}
theorem PrR.frZ {A:Av}{H H':AH}{vm vl vf:Value}{p:Prog} (h:PrR A H vm vl vf p) (k:FrX A.bs A.gs H H'):PrR A H' vm vl vf p:=⟨h.m.frX MemR.m k,h.l.frX StrR.m k,h.f.frX FunR.m k⟩
set_option maxHeartbeats 8000000 in
theorem rIns11_c (hO:NoO O) {A:Av}{i:Ins}{va:Value} (regs:Int) (hv:IntsR A H va i.args) (hL:i.args.length≤100000) (hop:0≤i.op∧i.op < 256) :
    ∃ u H',Lc V O F_ref11_mayIns [insV i va,.int .i64 regs] H u H'∧(u=.bool (mi regs i)∧Fr H H'):=by
  rw [← rmi_mi]
  refine Lc.ref11_mayIns (R:=fun u H'=>u=.bool (rmi regs i)∧Fr H H') (hO _ _ _ (by decide)) (Nat.le_of_ble_eq_true rfl) (by kernel_rfl) ?_
  unfold P_ref11_mayIns
  have hv0:=hv
  obtain ⟨av,nv,cv,rfl⟩:=hv.isSl
  apply zSeq
  apply zReg
  refine zBox rfl (fun _=>rfl) fun H1 f1' b1 n1=>?_
  have b1':Bx H1 H.next 41 [.int .u8 i.op,.int .i64 i.r,.int .i64 i.a,.int .i64 i.b,.int .i64 i.n,.slice av nv cv]:=b1
  clear b1
  (repeat first|refine wN ?_|refine wA ?_)
  apply zSeq
  (repeat first|apply zReg|refine wG ?_)
  refine WL.op (op_build rfl build39) ?_
  refine zLit rfl E_s_api_Ins E_Ins (by rw [te_Ins_size];decide) fillIns1 (by decide) fun H2 f2 b2 n2=>?_
  refine WL.op (op_build rfl buildFunA) ?_
  refine zAlc E_Fun zeroFun fun H3 f3 b3 n3=>?_
  refine zStB b3 rfl rfl E_Fun (by rw [te_Fun_size];rfl) rfl (by simp [Value.cells]) (by simp [Value.cells]) fun H4 f4 b4 n4=>?_
  have b4':Bx H4 H2.next 59 [.string ⟨⟨[]⟩⟩,.bool false,.int .i64 0,.int .i64 regs,.slice (some ⟨H1.next,0,none⟩) 1 1]:=b4
  have f24:Fr H2 H4:=f3.young f4 (by simp) (by simp)
  have f14:=f2.trans f24
  have b14:=b1'.fr f14
  have bi4:=b2.fr f24
  have hlen1:=fun Hz=>hv0.len (V:=V) (H2:=Hz) E_s_int
  clear b1' b2 b3 b4 f3 f4
  (repeat first|refine wN ?_)
  apply zSeq
  (repeat first|apply zReg)
  refine WL.op (op_build rfl buildMem0) ?_
  refine zLit rfl E_s_api_Mem E_Mem (by rw [te_Mem_size];decide) fillMem1 (by decide) fun H5 f5 b5 n5=>?_
  refine zLit rfl E_s_string E_string (by decide) fillStr (by decide) fun H6 f6 b6 n6=>?_
  have f46:=f5.trans f6
  have b46:=b4'.fr f46
  have b16:=b14.fr f46
  refine zLd rfl (b46.ldN E_Fun te_Fun_agg (by rw [te_Fun_size];rfl)) ?_
  (repeat first|refine zFld rfl O_Ins_Args ?_|refine wB E_s_int ?_|refine zLen rfl (hlen1 _) ?_)
  refine WL.op (op_build rfl buildFunB) ?_
  refine zLit rfl E_s_api_Fun E_Fun (by rw [te_Fun_size];decide) fillFun2 (by decide) fun H7 f7 b7 n7=>?_
  refine WL.op (op_build rfl buildProg3) ?_
  refine zAlc E_Prog zeroProg fun H8 f8 b8 n8=>?_
  refine zStB b8 rfl rfl E_Prog (by rw [te_Prog_size];rfl) rfl (by simp [Value.cells]) (by simp [Value.cells]) fun H9 f9 b9 n9=>?_
  have bq0:Bx H9 H7.next 56 [.slice (some ⟨H4.next,0,none⟩) 1 1,.slice (some ⟨H5.next,0,none⟩) 1 1,.slice (some ⟨H6.next,0,none⟩) 2 2]:=b9
  have f79:Fr H7 H9:=f8.young f9 (by simp) (by simp)
  have f69:=f7.trans f79
  have f59:=f6.trans f69
  have f49:=f5.trans f59
  have f09:=(f1'.trans f14).trans f49
  have b19:=b16.fr f69
  have hm1:=f14.1
  have hm2:=f49.1
  have hm3:=f79.1
  have hm4:=f46.1
  have hm5:=f7.1
  have hm6:=f5.1
  have hm7:=f2.1
  have hm8:=f6.1
  have hp:PrR (.box H.next) H9 (.slice (some ⟨H4.next,0,none⟩) 1 1) (.slice (some ⟨H5.next,0,none⟩) 1 1) (.slice (some ⟨H6.next,0,none⟩) 2 2) (p1 regs i):=by
    refine ⟨(b5.fr f59).elsA (α:=Ev.Mem) (xs:=[⟨noS,0,0⟩]) (by simp [Av.box];omega) rfl fun k hk=>?_,(b6.fr f69).elsA (α:=ByteArray) (xs:=[noS]) (by simp [Av.box];omega) rfl fun k hk=>?_,(b7.fr f79).elsA (α:=Ev.Fun) (xs:=[⟨noS,false,0,regs,[zeroI]⟩,⟨noS,false,i.args.length,0,[]⟩]) (by simp [Av.box];omega) rfl fun k hk=>?_⟩
    · have:k=0:=by simp at hk;omega
      subst this;rfl
    · have:k=0:=by simp at hk;omega
      subst this;rfl
    · have:k=0∨k=1:=by simp at hk;omega
      rcases this with rfl|rfl
      · refine ⟨_,rfl,?_⟩
        refine (bi4.fr f49).elsA (xs:=[zeroI]) (sz:=6) (by simp [Av.box];omega) rfl fun k hk=>?_
        have:k=0:=by simp at hk;omega
        subst this
        exact ⟨.slice none 0 0,rfl,.nil⟩
      · exact ⟨.slice none 0 0,rfl,.nil⟩
  have hv9:=(hv0.gr (B:=.box H.next) ⟨fun x hx=>.inr (by simp [Av.box] at hx;omega),fun x hx=>by simp [Av.box] at hx⟩).fr f09
  have hx7:H.next≠H7.next:=by omega
  clear b4' b14 bi4 b5 b6 b46 b16 b7 b8 b9 f8 f9 hv
  (repeat first|refine wN ?_)
  cases c10:i.op==10
  case true =>
    have h10:i.op=10:=by simpa using c10
    have hr:rmi regs i=(!(decide (i.n < 0)||decide ((i.args.length:Int) > 8))&&mayG (p1 regs i) (f1 regs) { i with n:=1 }):=by unfold rmi;rw [if_pos c10]
    rw [hr]
    cases d1:decide (i.n < 0)
    case true =>
      (repeat first|apply zSeq|apply zReg|refine wN ?_|refine wF ?_|refine wA ?_|refine wP ?_|refine wL ?_|refine zEql rfl rfl ?_|refine zT rfl rfl ?_|refine wT ?_|refine zFld rfl O_Ins_Op ?_|refine zFld rfl O_Ins_N ?_|refine wB E_int64 ?_|refine wB E_uint8 ?_)
      exact WP.ret ⟨.inr rfl,_,rfl,rfl,f09⟩
    cases d2:decide ((i.args.length:Int) > 8)
    case true =>
      (repeat first|apply zSeq|apply zReg|refine wN ?_|refine wO ?_|refine wA ?_|refine wR ?_|refine wL ?_|refine zGtr rfl rfl ?_|refine zEql rfl rfl ?_|refine wT ?_|refine zFld rfl O_Ins_Op ?_|refine zFld rfl O_Ins_N ?_|refine zFld rfl O_Ins_Args ?_|refine wB E_int64 ?_|refine wB E_uint8 ?_|refine wB E_s_int ?_|refine zLen rfl (hlen1 _) ?_)
      exact WP.ret ⟨.inr rfl,_,rfl,rfl,f09⟩
    have g1:decide (i.op≥5)=true:=decide_eq_true (by omega)
    have g2:decide (i.op≤8)=false:=decide_eq_false (by omega)
    (repeat first|apply zSeq|apply zReg|apply zSkp|refine wN ?_|refine wO ?_|refine wR ?_|refine wL ?_|refine zGtr rfl rfl ?_|refine zEql rfl rfl ?_|refine wT ?_|refine wE ?_|refine zFld rfl O_Ins_Op ?_|refine zFld rfl O_Ins_N ?_|refine zFld rfl O_Ins_Args ?_|refine wB E_int64 ?_|refine wB E_uint8 ?_|refine wB E_s_int ?_|refine zLen rfl (hlen1 _) ?_)
    refine zStB b19 rfl rfl E_int64 rfl rfl (by simp [Value.cells]) (by simp [Value.cells]) fun Ha fa ba na=>?_
    have bi:Bx Ha H.next 41 [.int .u8 i.op,.int .i64 i.r,.int .i64 i.a,.int .i64 i.b,.int .i64 1,.slice av nv cv]:=ba
    have bq:=bq0.frX fa (by simpa using Ne.symm hx7)
    have hpa:=hp.frZ fa
    have hcm:=rMayIns2_c (H:=Ha) (k:=0) (i:={ i with n:=1 }) hO (show 0 < (p1 regs i).funs.length from Nat.zero_lt_succ 1) hpa (hv9.frX fa) hL hop
    obtain ⟨_,Hb,hcm,rfl,fb⟩:=hcm
    (repeat first|apply zSeq|apply zReg|apply zSkp|refine wN ?_|refine wO ?_|refine wP ?_|refine zLeq rfl rfl ?_|refine zGeq rfl rfl ?_|refine wE ?_|refine zFld rfl O_Ins_Op ?_|refine wB E_uint8 ?_)
    (refine zLd rfl (bq.ldN E_Prog te_Prog_agg (by rw [te_Prog_size];rfl)) ?_;refine zLd rfl (bi.ldN E_Ins te_Ins_agg (by rw [te_Ins_size];rfl)) ?_;refine WL.call rfl rfl is_ref07_MayIns hcm ?_;(repeat first|refine wN ?_))
    exact WP.ret ⟨.inr rfl,_,rfl,rfl,(f09.young fa (by simp) (by simp)).trans fb⟩
  have h10:¬ i.op=10:=by simpa using c10
  cases d1:decide (i.op≥5)
  case false =>
    have hr:rmi regs i=mayG (p1 regs i) (f1 regs) i:=by unfold rmi;rw [if_neg (by rw [c10];decide),d1];rfl
    rw [hr]
    have bi:=b19
    have bq:=bq0
    obtain ⟨_,Hb,hcm,rfl,fb⟩:=rMayIns2_c (H:=H9) (k:=0) (i:=i) hO (show 0 < (p1 regs i).funs.length from Nat.zero_lt_succ 1) hp hv9 hL hop
    (repeat first|apply zSeq|apply zReg|apply zSkp|refine wN ?_|refine wF ?_|refine wR ?_|refine zGeq rfl rfl ?_|refine zEql rfl rfl ?_|refine zF rfl rfl ?_|refine wE ?_|refine zFld rfl O_Ins_Op ?_|refine wB E_uint8 ?_)
    (refine zLd rfl (bq.ldN E_Prog te_Prog_agg (by rw [te_Prog_size];rfl)) ?_;refine zLd rfl (bi.ldN E_Ins te_Ins_agg (by rw [te_Ins_size];rfl)) ?_;refine WL.call rfl rfl is_ref07_MayIns hcm ?_;(repeat first|refine wN ?_))
    exact WP.ret ⟨.inr rfl,_,rfl,rfl,f09.trans fb⟩
  cases d2:decide (i.op≤8)
  case false =>
    have hr:rmi regs i=mayG (p1 regs i) (f1 regs) i:=by unfold rmi;rw [if_neg (by rw [c10];decide),d1,d2];rfl
    rw [hr]
    have bi:=b19
    have bq:=bq0
    obtain ⟨_,Hb,hcm,rfl,fb⟩:=rMayIns2_c (H:=H9) (k:=0) (i:=i) hO (show 0 < (p1 regs i).funs.length from Nat.zero_lt_succ 1) hp hv9 hL hop
    (repeat first|apply zSeq|apply zReg|apply zSkp|refine wN ?_|refine wO ?_|refine wP ?_|refine zLeq rfl rfl ?_|refine zGeq rfl rfl ?_|refine zEql rfl rfl ?_|refine wE ?_|refine zFld rfl O_Ins_Op ?_|refine wB E_uint8 ?_)
    (refine zLd rfl (bq.ldN E_Prog te_Prog_agg (by rw [te_Prog_size];rfl)) ?_;refine zLd rfl (bi.ldN E_Ins te_Ins_agg (by rw [te_Ins_size];rfl)) ?_;refine WL.call rfl rfl is_ref07_MayIns hcm ?_;(repeat first|refine wN ?_))
    exact WP.ret ⟨.inr rfl,_,rfl,rfl,f09.trans fb⟩
  have hr:rmi regs i=(!decide (i.n < 0)&&mayG (p1 regs i) (f1 regs) { i with n:=0 }):=by unfold rmi;rw [if_neg (by rw [c10];decide),d1,d2];rfl
  rw [hr]
  cases d3:decide (i.n < 0)
  case true =>
    (repeat first|apply zSeq|apply zReg|apply zSkp|refine wN ?_|refine wO ?_|refine wA ?_|refine wP ?_|refine wL ?_|refine zLeq rfl rfl ?_|refine zGeq rfl rfl ?_|refine zEql rfl rfl ?_|refine wT ?_|refine wE ?_|refine zFld rfl O_Ins_Op ?_|refine zFld rfl O_Ins_N ?_|refine wB E_int64 ?_|refine wB E_uint8 ?_)
    exact WP.ret ⟨.inr rfl,_,rfl,rfl,f09⟩
  (repeat first|apply zSeq|apply zReg|apply zSkp|refine wN ?_|refine wO ?_|refine wP ?_|refine wL ?_|refine zLeq rfl rfl ?_|refine zGeq rfl rfl ?_|refine zEql rfl rfl ?_|refine wT ?_|refine wE ?_|refine zFld rfl O_Ins_Op ?_|refine zFld rfl O_Ins_N ?_|refine wB E_int64 ?_|refine wB E_uint8 ?_)
  refine zStB b19 rfl rfl E_int64 rfl rfl (by simp [Value.cells]) (by simp [Value.cells]) fun Ha fa ba na=>?_
  have bi:Bx Ha H.next 41 [.int .u8 i.op,.int .i64 i.r,.int .i64 i.a,.int .i64 i.b,.int .i64 0,.slice av nv cv]:=ba
  have bq:=bq0.frX fa (by simpa using Ne.symm hx7)
  have hpa:=hp.frZ fa
  obtain ⟨_,Hb,hcm,rfl,fb⟩:=rMayIns2_c (H:=Ha) (k:=0) (i:={ i with n:=0 }) hO (show 0 < (p1 regs i).funs.length from Nat.zero_lt_succ 1) hpa (hv9.frX fa) hL hop
  (repeat first|apply zSeq|apply zReg|refine wN ?_)
  (refine zLd rfl (bq.ldN E_Prog te_Prog_agg (by rw [te_Prog_size];rfl)) ?_;refine zLd rfl (bi.ldN E_Ins te_Ins_agg (by rw [te_Ins_size];rfl)) ?_;refine WL.call rfl rfl is_ref07_MayIns hcm ?_;(repeat first|refine wN ?_))
  exact WP.ret ⟨.inr rfl,_,rfl,rfl,(f09.young fa (by simp) (by simp)).trans fb⟩
theorem rLast_c (hO:NoO O) {A:Av}{b:Block}{cs:List Value} (hb:BlockR A H cs b) (hL:b.code.length≤1000000) :
  ∃ u H',Lc V O F_ref11_last [.agg cs.toArray] H u H'∧(u=.int .u8 (Flo.lastOp b.code)∧Fr H H'):=by
 obtain ⟨vp,vc,vf,vt,rfl,hP,hC,hF,hT⟩:=hb
 refine Lc.ref11_last (R:=fun u H'=>u=.int .u8 (Flo.lastOp b.code)∧Fr H H') (hO _ _ _ (by decide)) (Nat.le_of_ble_eq_true rfl) (by kernel_rfl) ?_
 unfold P_ref11_last
 apply zSeq
 apply zReg
 refine zBox rfl (fun _=>rfl) fun H1 f1 b1 n1=>?_
 have b1':Bx H1 H.next 39 [vp,vc,vf,vt]:=b1
 have hlen1:=fun Hz=>hC.len (V:=V) (H2:=Hz) E_s_api_Ins
 have hC1:=hC.fr InsR.m f1
 cases c:(b.code.length:Int)==0
 case true=>
  have hz:(b.code.length:Int)=0:=by simpa using c
  have h0:b.code=[]:=List.length_eq_zero_iff.1 (by omega)
  (repeat first|apply zSeq|apply zReg|refine wN ?_|refine wA ?_|refine zEql rfl rfl ?_|refine wT ?_|refine zFld rfl O_Block_Code ?_|refine wB E_s_api_Ins ?_|refine zLen rfl (hlen1 _) ?_)
  exact WP.ret ⟨.inr rfl,_,rfl,by rw [h0];rfl,f1⟩
 have hpos:0 < b.code.length:=by
  have:¬ (b.code.length:Int)=0:=by simpa using c
  omega
 obtain ⟨ba,off,cs,ha1,hrd,va,rfl,hva⟩:=hC1.at E_s_api_Ins E_Ins te_Ins_size (kd:=.i64) (i:=b.code.length - 1) (by omega)
 rw [show ((b.code.length - 1:Nat):Int)=(b.code.length:Int) - 1 by omega] at ha1
 have hl1:=(hrd.at1 (i:=0) rfl).load1 (V:=V) E_uint8 rfl
 have hlo:Flo.lastOp b.code=(b.code[b.code.length - 1]'(by omega)).op:=by
  unfold Flo.lastOp
  rw [List.getLast?_eq_getElem?,List.getElem?_eq_getElem (by omega)]
 rw [hlo]
 (repeat first|apply zSeq|apply zReg|apply zSkp|refine wN ?_|refine wA ?_|refine zEql rfl rfl ?_|refine zSub rfl rfl (by omega) ?_|refine wE ?_|refine zFld rfl O_Ins_Op ?_|refine zFld rfl O_Block_Code ?_|refine wB E_s_api_Ins ?_|refine wI ?_|refine zLd rfl ‹_› ?_|refine zLen rfl (hlen1 _) ?_)
 exact WP.ret ⟨.inr rfl,_,rfl,rfl,f1⟩
end Go.Proofs.YtogomfblfpfjhaaGreatDoor.U
