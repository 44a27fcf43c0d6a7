/-
  Which graphs may be, in plain words: what flow.May answers.
-/
import Derived.Test.YtjiibfgopanbgaaGreatDoorEv5
import Derived.Test.YtjiibfgopanbgaaGreatDoorEv6
import Derived.Test.YtjiibfgopanbgaaGreatDoorProg
import Derived.KernelRfl
set_option linter.all false
namespace Go.Flo
open Go.Ev
structure OpD where
 r:Bool
 a:Bool
 b:Bool
 bare:Bool
 n:Int
def opL:List OpD:=[⟨false,false,false,false,0⟩,⟨true,false,false,false,1⟩,⟨true,true,false,false,0⟩,⟨true,true,false,false,2⟩,⟨true,true,true,false,3⟩,⟨true,true,false,true,4⟩,⟨false,true,true,true,4⟩,⟨false,false,false,false,5⟩,⟨false,false,false,false,5⟩,⟨false,true,false,false,0⟩,⟨true,false,false,false,6⟩,⟨false,false,false,false,7⟩,⟨false,true,false,false,7⟩,⟨false,true,false,false,0⟩]
def opD (op:Int):OpD:=opL.getD op.toNat ⟨false,false,false,false,0⟩
def isOp (op:Int):Bool:=!(decide (op<1)||decide (op≥14))
def ends (op:Int):Bool:=op==11||op==12||op==13
def within (regs x:Int):Bool:=!(decide (x<0)||decide (x≥regs))
variable (mi:Int→Ins→Bool)
def insOk (regs:Int) (len:Nat) (n:Nat) (i:Ins):Bool:=mi regs i&&!(ends i.op&&decide (n+1<len))
def codeOk (regs:Int) (len:Nat):Nat→List Ins→Bool
 | _,[]=>true
 | n,i::l=>insOk mi regs len n i&&codeOk regs len (n+1) l
def toN (t:Int) (i:Ins):Int:=if i.op==12 then 2 else if i.op==13 then 0 else t
def toOf (l:List Ins):Int:=l.foldl toN 1
def phiOk (regs:Int) (nf:Nat) (p:Phi):Bool:=within regs p.r&&(p.args.length:Int)==nf&&p.args.all (within regs)
def blockOk (regs:Int) (b:Block):Bool:=
 codeOk mi regs b.code.length 0 b.code&&(b.to.length:Int)==toOf b.code&&b.phis.all (phiOk regs b.frm.length)
def fromOf (l:List Block) (n:Nat) (t:Int):List Int:=((List.range n).filter fun k=>match l[k]? with|some b=>b.to.contains t|none=>false).map fun k:Nat=>(k:Int)
def froms (l:List Block):Bool:=
 l.all (fun b=>b.to.all (within l.length))&&(List.range l.length).all (fun n=>match l[n]? with|some b=>b.frm==fromOf l l.length n|none=>false)&&(match l[0]? with|some b=>b.frm.isEmpty|none=>false)
def circ (l:List Block) (n:Nat):Nat→Nat→Bool
 | 0,_=>false
 |f+1,at_=>match l[at_]? with
  |some b=>if b.code.length>0 then false else match b.to with
   | t::_=>if t=n then true else circ l n f t.toNat
   | []=>false
  | none=>false
def odd (g:Graph):Bool:=
 decide (g.params<0)||(decide (g.params>8)||((g.thread&&decide (g.params>0))||(decide (g.regs<g.params)||(decide (g.regs>65536)||(decide ((g.blocks.length:Int)<1)||(decide ((g.blocks.length:Int)>32768)||(match g.blocks[0]? with|some b=>decide ((b.phis.length:Int)>0)|none=>false)))))))
def may (g:Graph):Bool:=
 !odd g&&(g.blocks.all (blockOk mi g.regs)&&(froms g.blocks&&(List.range g.blocks.length).all fun k=>!circ g.blocks k g.blocks.length k))
theorem codeOk_iff {mi:Int→Ins→Bool}{regs:Int}{len:Nat}:∀ {l:List Ins}{n:Nat},codeOk mi regs len n l=true↔∀ j (h:j<l.length),insOk mi regs len (n+j) l[j]=true
 | [],n=>by simp [codeOk]
 |i::l,n=>by
  unfold codeOk
  rw [Bool.and_eq_true,codeOk_iff (l:=l) (n:=n+1)]
  constructor
  ·rintro ⟨h1,h2⟩ j hj
   cases j with
   | zero=>simpa using h1
   | succ j=>have:=h2 j (by simpa using hj);simpa [Nat.add_assoc,Nat.add_comm 1 j] using this
  ·intro h
   refine ⟨h 0 (by simp),fun j hj=>?_⟩
   have:=h (j+1) (by simpa using hj)
   simpa [Nat.add_assoc,Nat.add_comm 1 j] using this
theorem isOp_of {i:Ins} (h:isOp i.op=true):1≤i.op∧i.op<14:=by
 unfold isOp at h
 simp at h
 omega
theorem may_op {mi:Int→Ins→Bool} (hmi:∀ r i,mi r i=true→isOp i.op=true) {g:Graph} (h:may mi g=true):∀ b∈g.blocks,∀ i∈b.code,1≤i.op∧i.op<14:=by
 intro b hb i hi
 unfold may at h
 simp only [Bool.and_eq_true] at h
 have h2:=List.all_eq_true.1 h.2.1 b hb
 unfold blockOk at h2
 simp only [Bool.and_eq_true] at h2
 obtain ⟨j,hj,rfl⟩:=List.mem_iff_getElem.1 hi
 have:=codeOk_iff.1 h2.1.1 j hj
 unfold insOk at this
 rw [Bool.and_eq_true] at this
 exact isOp_of (hmi _ _ this.1)
end Go.Flo
namespace Go.Mer
open Go.Ev
def quiet (x:Ins):Bool:=x.op==1||x.op==2||x.op==3||x.op==4
def givesR (lock:Int):List Ins→Option Nat
 | []=>none
 | x::xs=>if quiet x then (givesR lock xs).map (·+1) else if x.op=8∧x.n=lock then some 0 else none
def gives (l:List Ins) (lock:Int):Option Nat:=(givesR lock l.reverse).map fun k=>l.length-1-k
def step (acc:List Ins) (i:Ins):List Ins :=
 if i.op=7 then match gives acc i.n with
    | some at_=>acc.eraseIdx at_
    | none=>acc++[i]
 else acc++[i]
def code (l:List Ins):List Ins:=l.foldl step []
def block (b:Block):Block:={ b with code:=code b.code }
def Pair (l:List Ins) (i k:Nat):Prop:=∃ (_:i<k) (hk:k<l.length),(l[i]'(by omega)).op=8∧l[k].op=7∧(l[i]'(by omega)).n=l[k].n∧∀ j (hj:i<j) (hjk:j<k),quiet (l[j]'(by omega))=true
def NoPair (l:List Ins):Prop:=∀ i k,¬ Pair l i k
theorem givesR_some {lock:Int}:∀ {l:List Ins}{k:Nat},givesR lock l=some k→∃ h:k<l.length,l[k].op=8∧l[k].n=lock∧∀ j (hj:j<k),quiet (l[j]'(by omega))=true
 | [],k,h=>by cases h
 |x::xs,k,h=>by
  unfold givesR at h
  split at h
  ·rename_i hq
   obtain ⟨k',h1,rfl⟩:=Option.map_eq_some_iff.1 h
   obtain ⟨h2,h3,h4,h5⟩:=givesR_some h1
   refine ⟨by simp;omega,by simpa using h3,by simpa using h4,fun j hj=>?_⟩
   cases j with
   | zero=>simpa using hq
   | succ j=>simpa using h5 j (by omega)
  ·split at h
   ·rename_i h1
    cases h
    exact ⟨by simp,by simpa using h1.1,by simpa using h1.2,fun j hj=>absurd hj (by omega)⟩
   ·cases h
theorem givesR_none {lock:Int}:∀ {l:List Ins},givesR lock l=none→∀ k (h:k<l.length),l[k].op=8→l[k].n=lock→(∀ j (hj:j<k),quiet (l[j]'(by omega))=true)→False
 | [],_,k,h,_,_,_=>by simp at h
 |x::xs,hn,k,h,h1,h2,h3=>by
  unfold givesR at hn
  split at hn
  ·rename_i hq
   cases k with
   | zero=>simp at h1;simp [quiet,h1] at hq
   |succ k =>
    exact givesR_none (Option.map_eq_none_iff.1 hn) k (by simpa using h) (by simpa using h1) (by simpa using h2) (fun j hj=>by simpa using h3 (j+1) (by omega))
  ·rename_i hq
   cases k with
   | zero=>rw [if_pos ⟨by simpa using h1,by simpa using h2⟩] at hn;cases hn
   |succ k =>
    have:=h3 0 (by omega)
    simp at this
    exact hq this
theorem gives_some {l:List Ins}{lock:Int}{k:Nat} (h:gives l lock=some k):∃ hk:k<l.length,l[k].op=8∧l[k].n=lock∧∀ j (_:k<j) (h2:j<l.length),quiet l[j]=true:=by
 unfold gives at h
 obtain ⟨m,h1,rfl⟩:=Option.map_eq_some_iff.1 h
 obtain ⟨h2,h3,h4,h5⟩:=givesR_some h1
 rw [List.length_reverse] at h2
 rw [List.getElem_reverse] at h3 h4
 refine ⟨by omega,h3,h4,fun j hj hl=>?_⟩
 have:=h5 (l.length-1-j) (by omega)
 rw [List.getElem_reverse] at this
 simpa [show l.length-1-(l.length-1-j)=j by omega] using this
theorem gives_none {l:List Ins}{lock:Int} (h:gives l lock=none) (k:Nat) (hk:k<l.length) (h1:l[k].op=8) (h2:l[k].n=lock) (h3:∀ j (_:k<j) (h2:j<l.length),quiet l[j]=true):False:=by
 unfold gives at h
 refine givesR_none (Option.map_eq_none_iff.1 h) (l.length-1-k) (by rw [List.length_reverse];omega) ?_ ?_ fun j hj=>?_
 ·rw [List.getElem_reverse];simpa [show l.length-1-(l.length-1-k)=k by omega] using h1
 ·rw [List.getElem_reverse];simpa [show l.length-1-(l.length-1-k)=k by omega] using h2
 ·rw [List.getElem_reverse];exact h3 _ (by omega) (by omega)
theorem NoPair.step {acc:List Ins} (h:NoPair acc) (i:Ins):NoPair (step acc i):=by
 unfold Mer.step
 have app:(i.op=7→gives acc i.n=none)→NoPair (acc++[i]):=fun hg a k ⟨hak,hk,h1,h2,h3,h4⟩=>by
  rw [List.length_append] at hk
  simp at hk
  have ea:∀ j (hj:j<acc.length),(acc++[i])[j]'(by simp;omega)=acc[j]:=fun j hj=>List.getElem_append_left hj
  by_cases hlast:k=acc.length
  ·subst hlast
   have hi:(acc++[i])[acc.length]'(by simp)=i:=by simp
   rw [hi] at h2 h3
   rw [ea a (by omega)] at h1 h3
   refine gives_none (hg h2) a (by omega) h1 h3 fun j hj hl=>?_
   have:=h4 j hj hl
   rwa [ea j hl] at this
  ·rw [ea a (by omega)] at h1 h3
   rw [ea k (by omega)] at h2 h3
   refine h a k ⟨hak,by omega,h1,h2,h3,fun j hj hjk=>?_⟩
   have:=h4 j hj hjk
   rwa [ea j (by omega)] at this
 split
 ·rename_i hop
  split
  ·rename_i at_ hg
   obtain ⟨ha,g1,g2,g3⟩:=gives_some hg
   intro a k ⟨hak,hk,h1,h2,h3,h4⟩
   have hlen:=List.length_eraseIdx_of_lt ha
   have el:∀ j (hj:j<(acc.eraseIdx at_).length),j<at_→(acc.eraseIdx at_)[j]=acc[j]'(by omega):=fun j hj hja=>by rw [List.getElem_eraseIdx,dif_pos hja]
   have er:∀ j (hj:j<(acc.eraseIdx at_).length),¬ j<at_→(acc.eraseIdx at_)[j]=acc[j+1]'(by omega):=fun j hj hja=>by rw [List.getElem_eraseIdx,dif_neg hja]
   by_cases hka:k<at_
   ·rw [el k hk hka] at h2 h3
    rw [el a (by omega) (by omega)] at h1 h3
    refine h a k ⟨hak,by omega,h1,h2,h3,fun j hj hjk=>?_⟩
    have:=h4 j hj hjk
    rwa [el j (by omega) (by omega)] at this
   ·rw [er k hk hka] at h2
    have:=g3 (k+1) (by omega) (by omega)
    simp [quiet,h2] at this
  ·rename_i hg
   exact app fun _=>hg
 ·rename_i hop
  exact app fun h=>absurd h hop
theorem step_same {acc l:List Ins}{i:Ins} (h:NoPair (acc++i::l)):step acc i=acc++[i]:=by
 unfold Mer.step
 split
 ·rename_i hop
  split
  ·rename_i at_ hg
   obtain ⟨ha,g1,g2,g3⟩:=gives_some hg
   have ea:∀ j (hj:j<acc.length),(acc++i::l)[j]'(by simp;omega)=acc[j]:=fun j hj=>List.getElem_append_left hj
   have hi:(acc++i::l)[acc.length]'(by simp)=i:=by simp
   refine absurd ⟨ha,by simp,?_,?_,?_,fun j hj hjk=>?_⟩ (h at_ acc.length)
   ·rw [ea _ ha];exact g1
   ·rw [hi];exact hop
   ·rw [ea _ ha,hi];exact g2
   ·rw [ea j hjk];exact g3 j hj hjk
  ·rfl
 ·rfl
theorem foldl_same:∀ (l acc:List Ins),NoPair (acc++l)→l.foldl step acc=acc++l
 | [],acc,_=>by simp
 | i::l,acc,h=>by
  rw [List.foldl_cons,step_same h,foldl_same l (acc++[i]) (by simpa using h)];simp
theorem code_same {l:List Ins} (h:NoPair l):code l=l:=by
 have:=foldl_same l [] (by simpa using h)
 rw [List.nil_append] at this
 exact this
theorem step_sub {acc l:List Ins} (h:acc.Sublist l) (i:Ins):(step acc i).Sublist (l++[i]):=by
 unfold Mer.step
 have ha:(acc++[i]).Sublist (l++[i]):=h.append (List.Sublist.refl _)
 split
 ·split
  ·exact ((List.eraseIdx_sublist _ _).trans h).trans (List.sublist_append_left _ _)
  ·exact ha
 ·exact ha
theorem foldl_sub:∀ (l acc m:List Ins),acc.Sublist m→(l.foldl step acc).Sublist (m++l)
 | [],_,_,h=>by simpa using h
 | i::l,acc,m,h=>by
  have:=foldl_sub l _ _ (step_sub h i)
  simpa using this
theorem code_sub (l:List Ins):(code l).Sublist l:=by
 have:=foldl_sub l [] [] (List.Sublist.refl _)
 rw [List.nil_append] at this
 exact this
end Go.Mer
namespace Go.For
open Go.Ev
structure Form where
 mems:List Mem
 locks:List ByteArray
 funs:List Graph
def w (l:List UInt8):ByteArray:=⟨⟨l⟩⟩
def resv:List ByteArray:=[w [103,108,111,98,97,108],w [97,114,114,97,121],w [108,111,99,107],w [102,117,110,99],w [116,104,114,101,97,100],w [118,97,114],w [105,102],w [101,108,115,101],w [119,104,105,108,101],w [119,105,116,104],w [112,114,105,110,116],w [99,97,108,108],w [114,101,116,117,114,110],w [116,114,117,101],w [102,97,108,115,101]]
def marks:ByteArray:=w [97,98,99,100,101,102,103,104,105,106,107,108,109,110,111,112,113,114,115,116,117,118,119,120,121,122,65,66,67,68,69,70,71,72,73,74,75,76,77,78,79,80,81,82,83,84,85,86,87,88,89,90,95,48,49,50,51,52,53,54,55,56,57]
def has (l:List ByteArray) (s:ByteArray):Bool:=l.any fun x=>s.data.toList==x.data.toList
def byte0 (s:ByteArray):Int:=((s.data.toList.headD 0).toNat:Int)
def digit (c:Int):Bool:=decide (c≥48)&&decide (c≤57)
def nameB (s:ByteArray):Bool:=!((s.data.toList==[])||(decide ((s.size:Int)>32)||(has resv s||digit (byte0 s))))&&s.data.toList.all (marks.data.toList.contains ·)
def namesOf (p:Prog):List ByteArray:=p.mems.map Mem.name++p.locks++p.funs.map Fun.name
def named (p:Prog):Bool:=decide ((namesOf p).length≤256)&&(decide (bL (namesOf p)).Nodup&&(namesOf p).all nameB)
def threads (p:Prog):List Nat:=(List.range p.funs.length).filter fun n=>match p.funs[n]? with|some f=>f.thread|none=>false
def memOk (m:Mem):Bool:=!(decide (m.size<1)||decide (m.size>1024))
variable (mg:Prog→Fun→Ins→Bool) (mi:Int→Ins→Bool)
def oddF (f:Fun):Bool:=decide (f.params<0)||(decide (f.params>8)||((f.thread&&decide (f.params>0))||(decide (f.regs<f.params)||(decide (f.regs>4096)||(decide ((f.code.length:Int)<1)||decide ((f.code.length:Int)>16384))))))
def lastOp (f:Fun):Int:=match f.code.getLast? with|some i=>i.op|none=>0
def mayFun (p:Prog) (f:Fun):Bool:=!oddF f&&(!(lastOp f != 11&&lastOp f != 13)&&f.code.all (mg p f))
def mayP (p:Prog):Bool:=!(!named p||(decide (((threads p).length:Int)>16)||p.mems.any fun m=>!memOk m))&&p.funs.all (mayFun mg p)
def jumpI:Ins:=⟨11,0,0,0,0,[]⟩
def bareF (g:Graph) (regs:Int):Fun:=⟨g.name,g.thread,g.params,regs,[jumpI]⟩
def bareP (f:Form):Prog:=⟨f.mems,f.locks,f.funs.map fun g=>bareF g g.params⟩
def bareK (f:Form) (k:Nat):Prog:=⟨f.mems,f.locks,(f.funs.take k).map (fun g=>bareF g g.regs)++(f.funs.drop k).map fun g=>bareF g g.params⟩
def funOk (f:Form) (g:Graph):Bool:=Flo.may mi g&&g.blocks.all fun b=>b.code.all (mg (bareP f) (bareF g g.regs))
def may (f:Form):Bool:=mayP mg (bareP f)&&f.funs.all (funOk mg mi f)
theorem bareK_length (f:Form) (k:Nat):(bareK f k).funs.length=f.funs.length:=by
 simp [bareK];omega
theorem bareK_at {f:Form}{k n:Nat} (h:n<f.funs.length):(bareK f k).funs[n]'(by rw [bareK_length];exact h)=bareF f.funs[n] (if n<k then f.funs[n].regs else f.funs[n].params):=by
 simp only [bareK]
 by_cases hk:n<k
 ·rw [List.getElem_append_left (by simp;omega),if_pos hk]
  simp
 ·rw [List.getElem_append_right (by simp;omega),if_neg hk]
  have e1:(List.map (fun g=>bareF g g.regs) (List.take k f.funs)).length=k:=by simp;omega
  simp only [List.getElem_map,List.getElem_drop]
  have:k+(n-(List.map (fun g=>bareF g g.regs) (List.take k f.funs)).length)=n:=by rw [e1];omega
  simp only [this]
end Go.For
namespace Go.Mer
open Go.Ev
def First (l:List Ins) (i k:Nat):Prop:=Pair l i k∧∀ a<i,∀ c,¬ Pair l a c
def cut (l:List Ins) (i k:Nat):List Ins:=(l.take k).eraseIdx i++l.drop (k+1)
theorem cut_length {l:List Ins}{i k:Nat} (h:Pair l i k):(cut l i k).length+2=l.length:=by
 obtain ⟨hik,hk,_⟩:=h
 unfold cut
 rw [List.length_append,List.length_eraseIdx_of_lt (by rw [List.length_take];omega),List.length_take,List.length_drop]
 omega
theorem cut_eq {l:List Ins}{i k:Nat} (h:Pair l i k):cut l i k=l.take i++(l.take k).drop (i+1)++l.drop (k+1):=by
 obtain ⟨hik,hk,_⟩:=h
 unfold cut
 rw [List.eraseIdx_eq_take_drop_succ,List.take_take,Nat.min_eq_left (by omega)]
theorem First.noPair {l:List Ins}{i k:Nat} (h:First l i k):NoPair (l.take k):=by
 rintro a c ⟨hac,hc,h1,h2,h3,h4⟩
 obtain ⟨⟨hik,hk,p1,p2,p3,p4⟩,hf⟩:=h
 rw [List.length_take] at hc
 have hck:c<k:=by omega
 have e:∀ j (hj:j<k),(l.take k)[j]'(by rw [List.length_take];omega)=l[j]'(by omega):=fun j hj=>List.getElem_take
 rw [e a (by omega)] at h1 h3
 rw [e c hck] at h2 h3
 have hp:Pair l a c:=⟨hac,by omega,h1,h2,h3,fun j hj hjc=>by
  have:=h4 j hj hjc
  rwa [e j (by omega)] at this⟩
 rcases Nat.lt_or_ge a i with h5|h5
 ·exact hf a h5 c hp
 ·have:=p4 c (by omega) hck
  simp [quiet,h2] at this
theorem First.gives {l:List Ins}{i k:Nat} (h:First l i k) (hk:k<l.length):gives (l.take k) l[k].n=some i:=by
 obtain ⟨⟨hik,_,p1,p2,p3,p4⟩,_⟩:=h
 have e:∀ j (hj:j<k),(l.take k)[j]'(by rw [List.length_take];omega)=l[j]'(by omega):=fun j hj=>List.getElem_take
 cases hg:Mer.gives (l.take k) l[k].n with
 | none=>
  refine (gives_none hg i (by rw [List.length_take];omega) (by rw [e i hik];exact p1) (by rw [e i hik];exact p3) fun j hj h2=>?_).elim
  rw [List.length_take] at h2
  rw [e j (by omega)];exact p4 j hj (by omega)
 | some a=>
  obtain ⟨ha,g1,g2,g3⟩:=gives_some hg
  rw [List.length_take] at ha
  have hak:a<k:=by omega
  rw [e a hak] at g1
  rcases Nat.lt_trichotomy a i with h5|h5|h5
  ·have:=g3 i h5 (by rw [List.length_take];omega)
   rw [e i hik] at this
   simp [quiet,p1] at this
  ·rw [h5]
  ·have:=p4 a h5 hak
   simp [quiet,g1] at this
theorem First.step {l:List Ins}{i k:Nat} (h:First l i k) (hk:k<l.length):Mer.step (l.take k) l[k]=(l.take k).eraseIdx i:=by
 have hg:=h.gives hk
 obtain ⟨⟨_,_,_,p2,_⟩,_⟩:=h
 unfold Mer.step
 rw [if_pos p2,hg]
theorem code_cut {l:List Ins}{i k:Nat} (h:First l i k):code (cut l i k)=code l:=by
 have hk:k<l.length:=h.1.2.1
 have h1:(l.take k).foldl Mer.step []=l.take k:=by
  have:=foldl_same (l.take k) [] (by simpa using h.noPair)
  rwa [List.nil_append] at this
 have hn:NoPair ((l.take k).eraseIdx i):=by rw [←h.step hk];exact h.noPair.step _
 have h2:((l.take k).eraseIdx i).foldl Mer.step []=(l.take k).eraseIdx i:=by
  have:=foldl_same ((l.take k).eraseIdx i) [] (by simpa using hn)
  rwa [List.nil_append] at this
 unfold code cut
 rw [List.foldl_append,h2]
 conv=>rhs;rw [←List.take_append_drop k l,List.foldl_append,h1,List.drop_eq_getElem_cons hk,List.foldl_cons,h.step hk]
theorem no_op {l:List Ins}{k:Nat} (hk:k<l.length) (h:l[k].op≠8) (c:Nat):¬ Pair l k c:=fun ⟨_,_,h1,_⟩=>h h1
theorem no_end {l:List Ins}{k:Nat} (hq:∀ m,k<m→(h:m<l.length)→quiet l[m]=true) (c:Nat):¬ Pair l k c:=fun ⟨h1,h2,_,h3,_⟩=>by
 have:=hq c h1 h2
 simp [quiet,h3] at this
theorem no_stop {l:List Ins}{k j:Nat} (hkj:k<j) (hj:j<l.length) (hq:∀ m,k<m→m<j→(h:m<l.length)→quiet l[m]=true) (hn:quiet l[j]=false) (h:¬ (l[j].op=7∧l[j].n=(l[k]'(by omega)).n)) (c:Nat):¬ Pair l k c:=fun ⟨h1,h2,_,h3,h4,h5⟩=>by
 rcases Nat.lt_trichotomy c j with h6|h6|h6
 ·have:=hq c h1 h6 h2
  simp [quiet,h3] at this
 ·subst h6;exact h ⟨h3,h4.symm⟩
 ·rw [h5 j hkj h6] at hn;cases hn
theorem upto {l:List Ins}{k:Nat} (h:∀ a<k,∀ c,¬ Pair l a c) (hk:∀ c,¬ Pair l k c):∀ a<k+1,∀ c,¬ Pair l a c:=fun a ha=>by
 rcases Nat.lt_or_ge a k with h1|h1
 ·exact h a h1
 ·have:a=k:=by omega
  subst this;exact hk
end Go.Mer
namespace Go.Ev
open Go.RowKit
section
variable {α:Type}{n:Nat}{R R':Rp α}{H:AH}{cs:List Value}{xs:List α}
theorem RSlice.imp (h:∀ {H cs a},R H cs a→R' H cs a) (k:RSlice n R H cs xs):RSlice n R' H cs xs:=by
 obtain ⟨v,rfl,hl,h1|h1|⟨b,off,cap,et,cells,g,q,h1,h2,h3,h4,h5,h6,h7⟩⟩:=k
 ·exact ⟨v,rfl,hl,.inl h1⟩
 ·exact ⟨v,rfl,hl,.inr (.inl h1)⟩
 ·exact ⟨v,rfl,hl,.inr (.inr ⟨b,off,cap,et,cells,g,q,h1,h2,h3,h4,h5,h6,fun i x hx=>h (h7 i x hx)⟩)⟩
theorem RSlice.each (k:RSlice n R H cs xs):∀ x∈xs,∃ cs',R H cs' x:=fun x hx=>by
 obtain ⟨v,rfl,hl,⟨_,rfl⟩|⟨_,_,_,_,rfl⟩|⟨b,off,cap,et,cells,g,q,h1,h2,h3,h4,h5,h6,h7⟩⟩:=k
 ·cases hx
 ·cases hx
 ·obtain ⟨i,hi⟩:=List.mem_iff_getElem?.1 hx
  exact ⟨_,h7 i x hi⟩
end
def RS {α:Type} (n:Nat) (R:Rp α):Rp (List α):=fun H cs xs=>RSlice n R H cs xs∧xs.length≤140737488351232
theorem RS.mono {α:Type}{n:Nat}{R:Rp α} (hm:Mono R):Mono (RS n R):=fun hk h=>⟨@RSlice.mono _ _ _ @hm _ _ _ _ hk h.1,h.2⟩
theorem Wt.Ent.imp {α:Type}{P:Program}{R R':Rp α}{t:TypeId} (h:∀ {H cs a},R H cs a→R' H cs a) (k:Wt.Ent P R t):Wt.Ent P R' t:=fun enc w fuel cs d ps ht hw H ι hr hro=>by
 obtain ⟨H',ι',as0,a,h1,h2,h3,h4,h5,h6⟩:=k enc w fuel cs d ps ht hw H ι hr hro
 exact ⟨H',ι',as0,a,h1,h2,h3,h4,h5,h h6⟩
theorem Wt.Ent.rs {α:Type}{P:Program}{R:Rp α}{t e:TypeId}{n:Nat} (hu:P.underlying t=some (.slice e)) (hn:P.cellsOf e=n) (h0:0<n) (hb:0<P.bytesOf e) (hR:Wt.Ent P R e) (hm:Mono R):Wt.Ent P (RS n R) t:=
 Wt.Ent.imp (R:=Wt.RSliceW n (P.bytesOf e) R) (fun {H cs a} h=>⟨h.1,by
  have h2:=h.2
  have:a.length*1≤a.length*P.bytesOf e:=Nat.mul_le_mul_left _ hb
  have h3:Go.reachBytes=140737488351232:=rfl
  omega⟩) (Wt.Ent.slice hu hn h0 hR hm)
abbrev RIntsW:=RS 1 (RInt .i64)
def RInsW:=RCons 1 (RInt .u8) (RCons 1 (RInt .i64) (RCons 1 (RInt .i64) (RCons 1 (RInt .i64) (RCons 1 (RInt .i64) (RCons 1 RIntsW REnd)))))
def RPhiW:=RCons 1 (RInt .i64) (RCons 1 RIntsW REnd)
def RBlockW:=RCons 1 (RS 2 RPhiW) (RCons 1 (RS 6 RInsW) (RCons 1 RIntsW (RCons 1 RIntsW REnd)))
def RGraphW:=RCons 1 RStr (RCons 1 RBool (RCons 1 (RInt .i64) (RCons 1 (RInt .i64) (RCons 1 (RS 4 RBlockW) REnd))))
def RMem:=RCons 1 RStr (RCons 1 (RInt .i64) (RCons 1 (RInt .i64) REnd))
def RFormW:=RCons 1 (RS 3 RMem) (RCons 1 (RS 1 RStr) (RCons 1 (RS 5 RGraphW) REnd))
abbrev TMem:=ByteArray×Int×Int×Unit
abbrev TForm:=List TMem×List ByteArray×List TGraph×Unit
def TMem.to (x:TMem):Mem:=⟨x.1,x.2.1,x.2.2.1⟩
def TForm.to (x:TForm):For.Form:=⟨x.1.map TMem.to,x.2.1,x.2.2.1.map TGraph.to⟩
theorem RInsW.un {H:AH}{cs:List Value}{x:TIns} (h:RInsW H cs x):RIns H cs x:=⟨h.1,h.2.1,h.2.2.1,h.2.2.2.1,h.2.2.2.2.1,h.2.2.2.2.2.1.1,h.2.2.2.2.2.2⟩
theorem RPhiW.un {H:AH}{cs:List Value}{x:TPhi} (h:RPhiW H cs x):RPhi H cs x:=⟨h.1,h.2.1.1,h.2.2⟩
theorem RBlockW.un {H:AH}{cs:List Value}{x:TBlock} (h:RBlockW H cs x):RBlock H cs x:=⟨h.1.1.imp RPhiW.un,h.2.1.1.imp RInsW.un,h.2.2.1.1,h.2.2.2.1.1,h.2.2.2.2⟩
theorem RGraphW.un {H:AH}{cs:List Value}{x:TGraph} (h:RGraphW H cs x):RGraph H cs x:=⟨h.1,h.2.1,h.2.2.1,h.2.2.2.1,h.2.2.2.2.1.1.imp RBlockW.un,h.2.2.2.2.2⟩
theorem RMem.to {H:AH}{cs:List Value}{x:TMem} (h:RMem H cs x):MemR .no H cs (TMem.to x):=by
 obtain ⟨⟨h1,_⟩,⟨h2,_⟩,⟨h3,_⟩,h4⟩:=h
 have h4:_=([]:List Value):=h4
 show cs=_
 rw [split1 h1,split1 h2,split1 h3,h4];rfl
theorem RStr.to {H:AH}{cs:List Value}{x:ByteArray} (h:RStr H cs x):StrR .no H cs x:=h.1
theorem RFormW.to {H:AH}{cs:List Value}{x:TForm} (h:RFormW H cs x):∃ vm vl vf,cs=[vm,vl,vf]∧Els 3 MemR .no H vm (TForm.to x).mems∧Els 1 StrR .no H vl (TForm.to x).locks∧Els 5 GraphR .no H vf (TForm.to x).funs:=by
 obtain ⟨h1,h2,h3,h4⟩:=h
 obtain ⟨v1,e1,h1⟩:=els_of (R:=MemR) (f:=TMem.to) (fun _ _ _=>RMem.to) h1.1
 obtain ⟨v2,e2,h2⟩:=els_of (R:=StrR) (f:=id) (fun _ _ _=>RStr.to) h2.1
 obtain ⟨v3,e3,h3⟩:=els_of (R:=GraphR) (f:=TGraph.to) (fun _ _ _ h=>RGraph.to h) (h3.1.imp RGraphW.un)
 have h4:_=([]:List Value):=h4
 refine ⟨v1,v2,v3,?_,h1,by rw [List.map_id] at h2;exact h2,h3⟩
 rw [split1 e1,split1 e2,split1 e3,h4]
structure BoundB (b:Block):Prop where
 code:b.code.length≤140737488351232
 phis:b.phis.length≤140737488351232
 frm:b.frm.length≤140737488351232
 to:b.to.length≤140737488351232
 pargs:∀ p∈b.phis,p.args.length≤140737488351232
 cargs:∀ i∈b.code,i.args.length≤140737488351232
 op:∀ i∈b.code,0≤i.op∧i.op<256
theorem RBlockW.bound {H:AH}{cs:List Value}{x:TBlock} (h:RBlockW H cs x):BoundB (TBlock.to x):=by
 obtain ⟨h1,h2,h3,h4,_⟩:=h
 refine ⟨by simpa [TBlock.to] using h2.2,by simpa [TBlock.to] using h1.2,h3.2,h4.2,fun p hp=>?_,fun i hi=>?_,fun i hi=>?_⟩
 ·simp only [TBlock.to,List.mem_map] at hp
  obtain ⟨y,hy,rfl⟩:=hp
  obtain ⟨_,hr⟩:=h1.1.each y hy
  exact hr.2.1.2
 ·simp only [TBlock.to,List.mem_map] at hi
  obtain ⟨y,hy,rfl⟩:=hi
  obtain ⟨_,hr⟩:=h2.1.each y hy
  exact hr.2.2.2.2.2.1.2
 ·simp only [TBlock.to,List.mem_map] at hi
  obtain ⟨y,hy,rfl⟩:=hi
  obtain ⟨_,hr⟩:=h2.1.each y hy
  exact wf_u8 hr.1.2
theorem RFormW.bound {H:AH}{cs:List Value}{x:TForm} (h:RFormW H cs x):(TForm.to x).mems.length≤140737488351232∧(TForm.to x).locks.length≤140737488351232∧(TForm.to x).funs.length≤140737488351232∧(∀ g∈(TForm.to x).funs,g.blocks.length≤140737488351232)∧∀ g∈(TForm.to x).funs,∀ b∈g.blocks,BoundB b:=by
 obtain ⟨h1,h2,h3,_⟩:=h
 refine ⟨by simpa [TForm.to] using h1.2,h2.2,by simpa [TForm.to] using h3.2,fun g hg=>?_,fun g hg b hb=>?_⟩
 ·simp only [TForm.to,List.mem_map] at hg
  obtain ⟨y,hy,rfl⟩:=hg
  obtain ⟨_,hr⟩:=h3.1.each y hy
  simpa [TGraph.to] using hr.2.2.2.2.1.2
 ·simp only [TForm.to,List.mem_map] at hg
  obtain ⟨y,hy,rfl⟩:=hg
  obtain ⟨_,hr⟩:=h3.1.each y hy
  simp only [TGraph.to,List.mem_map] at hb
  obtain ⟨z,hz,rfl⟩:=hb
  obtain ⟨_,hr2⟩:=hr.2.2.2.2.1.1.each z hz
  exact hr2.bound
end Go.Ev
namespace Go.Proofs.YtjiibfgopanbgaaGreatDoor.U
open Go Go.Ev
section
open Go.Ev.Sh
noncomputable def V:Ev.Env:=envOf Tryz.prog 5
theorem E_int64:V.E 2=some ⟨.int .i64,1,8,(.int .i64 0)⟩:=by kernel_rfl
theorem E_int:V.E 3=some ⟨.int .i64,1,8,(.int .i64 0)⟩:=by kernel_rfl
theorem E_bool:V.E 4=some ⟨.bool,1,1,(.bool false)⟩:=by kernel_rfl
theorem E_uint8:V.E 5=some ⟨.int .u8,1,1,(.int .u8 0)⟩:=by kernel_rfl
theorem E_string:V.E 9=some ⟨.string,1,16,(.string ⟨⟨[]⟩⟩)⟩:=by kernel_rfl
theorem E_s_api_Block:V.E 22=some ⟨.slice 45,1,24,(.slice none 0 0)⟩:=by kernel_rfl
noncomputable def te_Graph:TI:=match V.E 24 with
 | some t=>t
 | none=>⟨.bool,0,0,.nilFunc⟩
theorem E_Graph:V.E 24=some te_Graph:=by kernel_rfl
theorem te_Graph_size:te_Graph.size=5:=by kernel_rfl
theorem te_Graph_bytes:te_Graph.bytes=64:=by kernel_rfl
theorem te_Graph_agg:Desc.agg te_Graph.desc=true:=by kernel_rfl
theorem O_Graph_Name {b o:Nat}:aField V.E 24 0 (.pointer (some ⟨b,o,none⟩))=some (.pointer (some ⟨b,o+0,none⟩)):=by kernel_rfl
theorem O_Graph_Thread {b o:Nat}:aField V.E 24 1 (.pointer (some ⟨b,o,none⟩))=some (.pointer (some ⟨b,o+1,none⟩)):=by kernel_rfl
theorem O_Graph_Params {b o:Nat}:aField V.E 24 2 (.pointer (some ⟨b,o,none⟩))=some (.pointer (some ⟨b,o+2,none⟩)):=by kernel_rfl
theorem O_Graph_Regs {b o:Nat}:aField V.E 24 3 (.pointer (some ⟨b,o,none⟩))=some (.pointer (some ⟨b,o+3,none⟩)):=by kernel_rfl
theorem O_Graph_Blocks {b o:Nat}:aField V.E 24 4 (.pointer (some ⟨b,o,none⟩))=some (.pointer (some ⟨b,o+4,none⟩)):=by kernel_rfl
theorem E_s_api_Mem:V.E 25=some ⟨.slice 60,1,24,(.slice none 0 0)⟩:=by kernel_rfl
theorem E_s_string:V.E 26=some ⟨.slice 9,1,24,(.slice none 0 0)⟩:=by kernel_rfl
theorem E_s_api_Graph:V.E 27=some ⟨.slice 24,1,24,(.slice none 0 0)⟩:=by kernel_rfl
noncomputable def te_Form:TI:=match V.E 29 with
 | some t=>t
 | none=>⟨.bool,0,0,.nilFunc⟩
theorem E_Form:V.E 29=some te_Form:=by kernel_rfl
theorem te_Form_size:te_Form.size=3:=by kernel_rfl
theorem te_Form_agg:Desc.agg te_Form.desc=true:=by kernel_rfl
theorem O_Form_Mems {b o:Nat}:aField V.E 29 0 (.pointer (some ⟨b,o,none⟩))=some (.pointer (some ⟨b,o+0,none⟩)):=by kernel_rfl
theorem O_Form_Locks {b o:Nat}:aField V.E 29 1 (.pointer (some ⟨b,o,none⟩))=some (.pointer (some ⟨b,o+1,none⟩)):=by kernel_rfl
theorem O_Form_Funs {b o:Nat}:aField V.E 29 2 (.pointer (some ⟨b,o,none⟩))=some (.pointer (some ⟨b,o+2,none⟩)):=by kernel_rfl
theorem E_s_api_Phi:V.E 41=some ⟨.slice 49,1,24,(.slice none 0 0)⟩:=by kernel_rfl
theorem E_s_api_Ins:V.E 42=some ⟨.slice 47,1,24,(.slice none 0 0)⟩:=by kernel_rfl
theorem E_s_int:V.E 43=some ⟨.slice 3,1,24,(.slice none 0 0)⟩:=by kernel_rfl
noncomputable def te_Block:TI:=match V.E 45 with
 | some t=>t
 | none=>⟨.bool,0,0,.nilFunc⟩
theorem E_Block:V.E 45=some te_Block:=by kernel_rfl
theorem te_Block_size:te_Block.size=4:=by kernel_rfl
theorem te_Block_bytes:te_Block.bytes=96:=by kernel_rfl
theorem te_Block_agg:Desc.agg te_Block.desc=true:=by kernel_rfl
theorem O_Block_Phis {b o:Nat}:aField V.E 45 0 (.pointer (some ⟨b,o,none⟩))=some (.pointer (some ⟨b,o+0,none⟩)):=by kernel_rfl
theorem O_Block_Code {b o:Nat}:aField V.E 45 1 (.pointer (some ⟨b,o,none⟩))=some (.pointer (some ⟨b,o+1,none⟩)):=by kernel_rfl
theorem O_Block_From {b o:Nat}:aField V.E 45 2 (.pointer (some ⟨b,o,none⟩))=some (.pointer (some ⟨b,o+2,none⟩)):=by kernel_rfl
theorem O_Block_To {b o:Nat}:aField V.E 45 3 (.pointer (some ⟨b,o,none⟩))=some (.pointer (some ⟨b,o+3,none⟩)):=by kernel_rfl
noncomputable def te_Ins:TI:=match V.E 47 with
 | some t=>t
 | none=>⟨.bool,0,0,.nilFunc⟩
theorem E_Ins:V.E 47=some te_Ins:=by kernel_rfl
theorem te_Ins_size:te_Ins.size=6:=by kernel_rfl
theorem te_Ins_bytes:te_Ins.bytes=64:=by kernel_rfl
theorem te_Ins_agg:Desc.agg te_Ins.desc=true:=by kernel_rfl
theorem O_Ins_Op {b o:Nat}:aField V.E 47 0 (.pointer (some ⟨b,o,none⟩))=some (.pointer (some ⟨b,o+0,none⟩)):=by kernel_rfl
theorem O_Ins_R {b o:Nat}:aField V.E 47 1 (.pointer (some ⟨b,o,none⟩))=some (.pointer (some ⟨b,o+1,none⟩)):=by kernel_rfl
theorem O_Ins_A {b o:Nat}:aField V.E 47 2 (.pointer (some ⟨b,o,none⟩))=some (.pointer (some ⟨b,o+2,none⟩)):=by kernel_rfl
theorem O_Ins_B {b o:Nat}:aField V.E 47 3 (.pointer (some ⟨b,o,none⟩))=some (.pointer (some ⟨b,o+3,none⟩)):=by kernel_rfl
theorem O_Ins_N {b o:Nat}:aField V.E 47 4 (.pointer (some ⟨b,o,none⟩))=some (.pointer (some ⟨b,o+4,none⟩)):=by kernel_rfl
theorem O_Ins_Args {b o:Nat}:aField V.E 47 5 (.pointer (some ⟨b,o,none⟩))=some (.pointer (some ⟨b,o+5,none⟩)):=by kernel_rfl
noncomputable def te_Phi:TI:=match V.E 49 with
 | some t=>t
 | none=>⟨.bool,0,0,.nilFunc⟩
theorem E_Phi:V.E 49=some te_Phi:=by kernel_rfl
theorem te_Phi_size:te_Phi.size=2:=by kernel_rfl
theorem te_Phi_bytes:te_Phi.bytes=32:=by kernel_rfl
theorem te_Phi_agg:Desc.agg te_Phi.desc=true:=by kernel_rfl
theorem O_Phi_R {b o:Nat}:aField V.E 49 0 (.pointer (some ⟨b,o,none⟩))=some (.pointer (some ⟨b,o+0,none⟩)):=by kernel_rfl
theorem O_Phi_Args {b o:Nat}:aField V.E 49 1 (.pointer (some ⟨b,o,none⟩))=some (.pointer (some ⟨b,o+1,none⟩)):=by kernel_rfl
noncomputable def te_Mem:TI:=match V.E 60 with
 | some t=>t
 | none=>⟨.bool,0,0,.nilFunc⟩
theorem E_Mem:V.E 60=some te_Mem:=by kernel_rfl
theorem te_Mem_size:te_Mem.size=3:=by kernel_rfl
theorem te_Mem_bytes:te_Mem.bytes=32:=by kernel_rfl
theorem te_Mem_agg:Desc.agg te_Mem.desc=true:=by kernel_rfl
theorem O_Mem_Name {b o:Nat}:aField V.E 60 0 (.pointer (some ⟨b,o,none⟩))=some (.pointer (some ⟨b,o+0,none⟩)):=by kernel_rfl
theorem O_Mem_Size {b o:Nat}:aField V.E 60 1 (.pointer (some ⟨b,o,none⟩))=some (.pointer (some ⟨b,o+1,none⟩)):=by kernel_rfl
theorem E_s_api_Fun:V.E 72=some ⟨.slice 78,1,24,(.slice none 0 0)⟩:=by kernel_rfl
noncomputable def te_Prog:TI:=match V.E 74 with
 | some t=>t
 | none=>⟨.bool,0,0,.nilFunc⟩
theorem E_Prog:V.E 74=some te_Prog:=by kernel_rfl
theorem te_Prog_size:te_Prog.size=3:=by kernel_rfl
theorem te_Prog_agg:Desc.agg te_Prog.desc=true:=by kernel_rfl
theorem O_Prog_Mems {b o:Nat}:aField V.E 74 0 (.pointer (some ⟨b,o,none⟩))=some (.pointer (some ⟨b,o+0,none⟩)):=by kernel_rfl
theorem O_Prog_Locks {b o:Nat}:aField V.E 74 1 (.pointer (some ⟨b,o,none⟩))=some (.pointer (some ⟨b,o+1,none⟩)):=by kernel_rfl
theorem O_Prog_Funs {b o:Nat}:aField V.E 74 2 (.pointer (some ⟨b,o,none⟩))=some (.pointer (some ⟨b,o+2,none⟩)):=by kernel_rfl
noncomputable def te_Fun:TI:=match V.E 78 with
 | some t=>t
 | none=>⟨.bool,0,0,.nilFunc⟩
theorem E_Fun:V.E 78=some te_Fun:=by kernel_rfl
theorem te_Fun_size:te_Fun.size=5:=by kernel_rfl
theorem te_Fun_agg:Desc.agg te_Fun.desc=true:=by kernel_rfl
theorem O_Fun_Name {b o:Nat}:aField V.E 78 0 (.pointer (some ⟨b,o,none⟩))=some (.pointer (some ⟨b,o+0,none⟩)):=by kernel_rfl
theorem O_Fun_Thread {b o:Nat}:aField V.E 78 1 (.pointer (some ⟨b,o,none⟩))=some (.pointer (some ⟨b,o+1,none⟩)):=by kernel_rfl
theorem O_Fun_Params {b o:Nat}:aField V.E 78 2 (.pointer (some ⟨b,o,none⟩))=some (.pointer (some ⟨b,o+2,none⟩)):=by kernel_rfl
theorem O_Fun_Regs {b o:Nat}:aField V.E 78 3 (.pointer (some ⟨b,o,none⟩))=some (.pointer (some ⟨b,o+3,none⟩)):=by kernel_rfl
theorem O_Fun_Code {b o:Nat}:aField V.E 78 4 (.pointer (some ⟨b,o,none⟩))=some (.pointer (some ⟨b,o+4,none⟩)):=by kernel_rfl
noncomputable def te_code_op:TI:=match V.E 113 with
 | some t=>t
 | none=>⟨.bool,0,0,.nilFunc⟩
theorem E_code_op:V.E 113=some te_code_op:=by kernel_rfl
theorem te_code_op_size:te_code_op.size=5:=by kernel_rfl
theorem te_code_op_agg:Desc.agg te_code_op.desc=true:=by kernel_rfl
theorem O_code_op_r {b o:Nat}:aField V.E 113 0 (.pointer (some ⟨b,o,none⟩))=some (.pointer (some ⟨b,o+0,none⟩)):=by kernel_rfl
theorem O_code_op_a {b o:Nat}:aField V.E 113 1 (.pointer (some ⟨b,o,none⟩))=some (.pointer (some ⟨b,o+1,none⟩)):=by kernel_rfl
theorem O_code_op_b {b o:Nat}:aField V.E 113 2 (.pointer (some ⟨b,o,none⟩))=some (.pointer (some ⟨b,o+2,none⟩)):=by kernel_rfl
theorem O_code_op_bare {b o:Nat}:aField V.E 113 3 (.pointer (some ⟨b,o,none⟩))=some (.pointer (some ⟨b,o+3,none⟩)):=by kernel_rfl
theorem O_code_op_n {b o:Nat}:aField V.E 113 4 (.pointer (some ⟨b,o,none⟩))=some (.pointer (some ⟨b,o+4,none⟩)):=by kernel_rfl
theorem E_14_code_op:V.E 133=some ⟨.array 14 113,70,224,(.agg #[(.bool false),(.bool false),(.bool false),(.bool false),(.int .i64 0),(.bool false),(.bool false),(.bool false),(.bool false),(.int .i64 0),(.bool false),(.bool false),(.bool false),(.bool false),(.int .i64 0),(.bool false),(.bool false),(.bool false),(.bool false),(.int .i64 0),(.bool false),(.bool false),(.bool false),(.bool false),(.int .i64 0),(.bool false),(.bool false),(.bool false),(.bool false),(.int .i64 0),(.bool false),(.bool false),(.bool false),(.bool false),(.int .i64 0),(.bool false),(.bool false),(.bool false),(.bool false),(.int .i64 0),(.bool false),(.bool false),(.bool false),(.bool false),(.int .i64 0),(.bool false),(.bool false),(.bool false),(.bool false),(.int .i64 0),(.bool false),(.bool false),(.bool false),(.bool false),(.int .i64 0),(.bool false),(.bool false),(.bool false),(.bool false),(.int .i64 0),(.bool false),(.bool false),(.bool false),(.bool false),(.int .i64 0),(.bool false),(.bool false),(.bool false),(.bool false),(.int .i64 0)])⟩:=by kernel_rfl
abbrev F_flow_May:FuncId:=15
def P_flow_May:PC :=
.seq (.reg [r (.box 24 g0),r (.assign kF)] [(2,0),(1,1)]) (.seq (.reg [r (fa 24 g1 4),r (ld 22 t0),r (ln t0 22)] [(3,0)]) (.seq (.seq (.reg [r (fa 24 g1 2),r (ld 3 t0),r (bo .lss 3 t0 (k 0) 3),rF 0 (fa 24 g1 2),rF 1 (ld 3 t0),rF 2 (bo .gtr 3 t0 (k 8) 3),r (pk t3 kT t0),rF 0 (fa 24 g1 1),rF 1 (ld 4 t0),rF 2 (.move t0),rT 0 (fa 24 g1 2),rT 1 (ld 3 t0),rT 2 (bo .gtr 3 t0 (k 0) 3),rF 6 (pk t3 t0 kF),r (pk t7 kT t0),rF 0 (fa 24 g1 3),rF 1 (ld 3 t0),rF 2 (fa 24 g1 2),rF 3 (ld 3 t0),rF 4 (bo .lss 3 t2 t0 3),r (pk t5 kT t0),rF 0 (fa 24 g1 3),rF 1 (ld 3 t0),rF 2 (bo .gtr 3 t0 (k 65536) 3),r (pk t3 kT t0),rF 0 (.move g3),rF 1 (bo .lss 3 t0 (k 1) 3),r (pk t2 kT t0),rF 0 (.move g3),rF 1 (bo .gtr 3 t0 (k 32768) 3),r (pk t2 kT t0),rF 0 (fa 24 g1 4),rF 1 (ld 22 t0),rF 2 (ia 22 t0 (k 0)),rF 3 (fa 45 t0 0),rF 4 (ld 41 t0),rF 5 (ln t0 41),rF 6 (bo .gtr 3 t0 (k 0) 3),r (pk t7 kT t0)] [(53,
 0)]) (.cond t53 (.seq (.reg [r (.assign kF)] [(2,0)]) (.ret)) (.skip))) (.seq (.seq (.reg [r (fa 24 g1 4),r (ld 22 t0),r (.makeFunc (.func 29) #[] #[g1]),r (cf 28 #[t1,t0] #[22,64]),rF 0 (fa 24 g1 4),rF 1 (ld 22 t0),rF 2 (cf 31 #[t0] #[22]),rF 3 (.unOp .not 4 t0),r (pk t4 kT t0)] [(63,0)]) (.cond t63 (.seq (.reg [r (.assign kF)] [(2,0)]) (.ret)) (.skip))) (.seq (.seq (.reg [r (fa 24 g1 4),r (ld 22 t0),r (ln t0 22),r (.move (k 0))] [(67,0),(66,1)]) (.block 0 (.loop (.seq (.reg [r (bo .lss 3 g67 g66 3)] [(68,0)]) (.seq (.cond t68 (.skip) (.exit 0)) (.seq (.block 1 (.seq (.reg [.get 67] [(4,0)]) (.seq (.reg [r (fa 24 g1 4),r (ld 22 t0),.get 4,r (cf 32 #[t1,t0] #[22,3])] [(73,0)]) (.cond t73 (.seq (.reg [r (.assign kF)] [(2,0)]) (.ret)) (.skip))))) (.reg [r (bo .add 3 g67 (k 1) 3)] [(67,0)]))))))) (.seq (.reg [r (.assign kT)] [(2,0)]) (.ret))))))
theorem fp_flow_May:Fp V 15 Tryz.f15 P_flow_May:=.of
noncomputable def Lc.flow_May {O vs H R}:=@Fp.lq V O 15 Tryz.f15 P_flow_May vs H R fp_flow_May
abbrev F_flow_MayForm:FuncId:=24
def P_flow_MayForm:PC :=
.seq (.reg [r (.box 29 g0),r (.assign kF)] [(2,0),(1,1)]) (.seq (.reg [r (ld 29 g1),r (cf 39 #[t0] #[29]),r (.alloc 74),r (.store 74 t0 t1)] [(3,1)]) (.seq (.seq (.reg [r (ld 74 g3),r (cf 40 #[t0] #[74]),r (.unOp .not 4 t0)] [(12,0)]) (.cond t12 (.seq (.reg [r (.assign kF)] [(2,0)]) (.ret)) (.skip))) (.seq (.seq (.reg [r (fa 29 g1 2),r (ld 27 t0),r (ln t0 27),r (.move (k 0))] [(16,0),(15,1),(14,2)]) (.block 0 (.loop (.seq (.reg [r (bo .lss 3 g16 g15 3)] [(17,0)]) (.seq (.cond t17 (.skip) (.exit 0)) (.seq (.block 1 (.seq (.reg [.get 16,r (ia 27 g14 g16),r (ld 24 t0),r (.alloc 3),r (.alloc 24),r (.store 3 t1 t4),r (.store 24 t1 t3)] [(5,2),(4,3)]) (.seq (.seq (.reg [r (ld 24 g5),r (cf 15 #[t0] #[24]),r (.unOp .not 4 t0)] [(23,0)]) (.cond t23 (.seq (.reg [r (.assign kF)] [(2,0)]) (.ret)) (.skip))) (.seq (.reg [r (fa 74 g3 2),r (ld 72 t0),r (ld 3 g4),r (fa 24 g5 3),
 r (ld 3 t0),r (ia 72 t3 t2),r (fa 78 t0 3),r (.store 3 t0 t2)] []) (.seq (.reg [r (fa 24 g5 4),r (ld 22 t0),r (ln t0 22),r (.move (k 0))] [(34,0),(33,1),(32,2)]) (.block 2 (.loop (.seq (.reg [r (bo .lss 3 g34 g33 3)] [(35,0)]) (.seq (.cond t35 (.skip) (.exit 2)) (.seq (.block 3 (.seq (.reg [r (ia 22 g32 g34),r (ld 45 t0),r (.alloc 45),r (.store 45 t0 t1)] [(7,1)]) (.seq (.reg [r (fa 45 g7 1),r (ld 42 t0),r (.makeFunc (.func 42) #[] #[g3,g4]),r (cf 41 #[t1,t0] #[42,71])] [(41,0)]) (.cond t41 (.seq (.reg [r (.assign kF)] [(2,0)]) (.ret)) (.skip))))) (.reg [r (bo .add 3 g34 (k 1) 3)] [(34,0)]))))))))))) (.reg [r (bo .add 3 g16 (k 1) 3)] [(16,0)]))))))) (.seq (.reg [r (.assign kT)] [(2,0)]) (.ret)))))
theorem fp_flow_MayForm:Fp V 24 Tryz.f24 P_flow_MayForm:=.of
noncomputable def Lc.flow_MayForm {O vs H R}:=@Fp.lq V O 24 Tryz.f24 P_flow_MayForm vs H R fp_flow_MayForm
abbrev F_slices_Clone_s_api_Mem_api_Mem:FuncId:=25
def P_slices_Clone_s_api_Mem_api_Mem:PC :=
.seq (.reg [r (.assign (.const (.slice none 0 0)))] [(2,0)]) (.seq (.seq (.reg [.get 0,r (bo .eql 25 t0 (.const (.slice none 0 0)) 25)] [(4,0)]) (.cond t4 (.seq (.reg [r (.assign (.const (.slice none 0 0)))] [(2,0)]) (.ret)) (.skip))) (.seq (.reg [r (.buildSlice 25 0 #[]),.get 0,r (ap t1 t0 25 25)] [(2,0)]) (.ret)))
theorem fp_slices_Clone_s_api_Mem_api_Mem:Fp V 25 Tryz.f25 P_slices_Clone_s_api_Mem_api_Mem:=.of
noncomputable def Lc.slices_Clone_s_api_Mem_api_Mem {O vs H R}:=@Fp.lq V O 25 Tryz.f25 P_slices_Clone_s_api_Mem_api_Mem vs H R fp_slices_Clone_s_api_Mem_api_Mem
abbrev F_slices_Clone_s_string_string:FuncId:=26
def P_slices_Clone_s_string_string:PC :=
.seq (.reg [r (.assign (.const (.slice none 0 0)))] [(2,0)]) (.seq (.seq (.reg [.get 0,r (bo .eql 26 t0 (.const (.slice none 0 0)) 26)] [(4,0)]) (.cond t4 (.seq (.reg [r (.assign (.const (.slice none 0 0)))] [(2,0)]) (.ret)) (.skip))) (.seq (.reg [r (.buildSlice 26 0 #[]),.get 0,r (ap t1 t0 26 26)] [(2,0)]) (.ret)))
theorem fp_slices_Clone_s_string_string:Fp V 26 Tryz.f26 P_slices_Clone_s_string_string:=.of
noncomputable def Lc.slices_Clone_s_string_string {O vs H R}:=@Fp.lq V O 26 Tryz.f26 P_slices_Clone_s_string_string vs H R fp_slices_Clone_s_string_string
abbrev F_slices_ContainsFunc_s_api_Block_api_Block:FuncId:=28
def P_slices_ContainsFunc_s_api_Block_api_Block:PC :=
.seq (.reg [r (.assign kF)] [(4,0)]) (.seq (.reg [.get 0,.get 1,r (cf 46 #[t1,t0] #[22,64]),r (bo .geq 3 t0 (k 0) 3)] [(4,0)]) (.ret))
theorem fp_slices_ContainsFunc_s_api_Block_api_Block:Fp V 28 Tryz.f28 P_slices_ContainsFunc_s_api_Block_api_Block:=.of
noncomputable def Lc.slices_ContainsFunc_s_api_Block_api_Block {O vs H R}:=@Fp.lq V O 28 Tryz.f28 P_slices_ContainsFunc_s_api_Block_api_Block vs H R fp_slices_ContainsFunc_s_api_Block_api_Block
abbrev F_flow_May_q1:FuncId:=29
def P_flow_May_q1:PC :=
.seq (.reg [r (.box 45 g0),r (.assign kF)] [(3,0),(2,1)]) (.seq (.reg [r (ld 45 g2),r (fa 24 g1 3),r (ld 3 t0),r (cf 30 #[t2,t0] #[45,3]),r (.unOp .not 4 t0)] [(3,0)]) (.ret))
theorem fp_flow_May_q1:Fp V 29 Tryz.f29 P_flow_May_q1:=.of
theorem fn_flow_May_q1:V.F 29=some Tryz.f29:=fp_flow_May_q1.1
noncomputable def Lc.flow_May_q1 {O vs H R}:=@Fp.lq V O 29 Tryz.f29 P_flow_May_q1 vs H R fp_flow_May_q1
abbrev F_flow_block:FuncId:=30
def P_flow_block:PC :=
.seq (.reg [r (.box 45 g0),r (.box 3 g1),r (.assign kF)] [(4,0),(3,1),(2,2)]) (.seq (.reg [r (.assign (k 1))] [(5,0)]) (.seq (.seq (.reg [r (fa 45 g2 1),r (ld 42 t0),r (ln t0 42),r (.move (k 0))] [(12,0),(11,1),(10,2)]) (.block 0 (.loop (.seq (.reg [r (bo .lss 3 g12 g11 3)] [(13,0)]) (.seq (.cond t13 (.skip) (.exit 0)) (.seq (.block 1 (.seq (.reg [.get 12,r (ia 42 g10 g12),r (ld 47 t0),r (.alloc 47),r (.store 47 t0 t1)] [(6,4),(7,1)]) (.seq (.seq (.reg [r (ld 47 g7),r (ld 3 g3),r (cf 47 #[t1,t0] #[47,3]),r (.unOp .not 4 t0),rF 0 (fa 47 g7 0),rF 1 (ld 5 t0),rF 2 (cf 48 #[t0] #[5]),rF 3 (.move t0),rT 0 (.move g6),rT 1 (bo .add 3 t0 (k 1) 3),rT 2 (fa 45 g2 1),rT 3 (ld 42 t0),rT 4 (ln t0 42),rT 5 (bo .lss 3 t3 t0 3),rF 10 (pk t6 t0 kF),r (pk t11 kT t0)] [(33,0)]) (.cond t33 (.seq (.reg [r (.assign kF)] [(4,0)]) (.ret)) (.skip))) (.seq (.reg [r (fa 47 g7 0),
 r (ld 5 t0)] [(35,0)]) (.block 2 (.seq (.reg [r (bo .eql 5 g35 (k8 12) 5)] [(36,0)]) (.cond t36 (.reg [r (.assign (k 2))] [(5,0)]) (.seq (.reg [r (bo .eql 5 g35 (k8 13) 5)] [(38,0)]) (.cond t38 (.reg [r (.assign (k 0))] [(5,0)]) (.skip)))))))))) (.reg [r (bo .add 3 g12 (k 1) 3)] [(12,0)]))))))) (.seq (.reg [r (.makeFunc (.func 49) #[] #[g3]),r (.alloc 84),r (.store 84 t0 t1)] [(8,1)]) (.seq (.reg [r (fa 45 g2 3),r (ld 43 t0),r (ln t0 43),.get 5,r (bo .eql 3 t1 t0 3),rT 0 (fa 45 g2 0),rT 1 (ld 41 t0),rT 2 (.makeFunc (.func 51) #[] #[g8,g2]),rT 3 (cf 50 #[t1,t0] #[41,87]),rT 4 (.unOp .not 4 t0),r (pk t5 t0 kF)] [(4,0)]) (.ret)))))
theorem fp_flow_block:Fp V 30 Tryz.f30 P_flow_block:=.of
noncomputable def Lc.flow_block {O vs H R}:=@Fp.lq V O 30 Tryz.f30 P_flow_block vs H R fp_flow_block
abbrev F_flow_froms:FuncId:=31
def P_flow_froms:PC :=
.seq (.reg [r (.assign kF)] [(2,0)]) (.seq (.reg [.get 0,r (ln t0 22),r (.makeSlice 22 t0 t0)] [(3,0)]) (.seq (.seq (.reg [.get 0,r (ln t0 22),r (.move (k 0))] [(15,0),(14,1),(13,2)]) (.block 0 (.loop (.seq (.reg [r (bo .lss 3 g15 g14 3)] [(16,0)]) (.seq (.cond t16 (.skip) (.exit 0)) (.seq (.block 1 (.seq (.reg [.get 15,r (ia 22 g13 g15),r (ld 45 t0),r (.alloc 45),r (.store 45 t0 t1)] [(4,4),(5,1)]) (.seq (.seq (.reg [r (fa 45 g5 3),r (ld 43 t0),r (ln t0 43),r (.move (k 0))] [(23,0),(22,1),(21,2)]) (.block 2 (.loop (.seq (.reg [r (bo .lss 3 g23 g22 3)] [(24,0)]) (.seq (.cond t24 (.skip) (.exit 2)) (.seq (.block 3 (.seq (.reg [r (ia 43 g21 g23),r (ld 3 t0)] [(7,0)]) (.seq (.reg [.get 7,r (bo .lss 3 t0 (k 0) 3),rF 0 (.move g7),rF 1 (.move g0),rF 2 (ln t0 22),rF 3 (bo .geq 3 t2 t0 3),r (pk t4 kT t0)] [(34,0)]) (.cond t34 (.seq (.reg [r (.assign kF)] [(2,
 0)]) (.ret)) (.skip))))) (.reg [r (bo .add 3 g23 (k 1) 3)] [(23,0)]))))))) (.reg [.get 3,.get 4,r (fa 45 g5 3),r (ld 43 t0),r (ia 22 t3 t2),r (fa 45 t0 3),r (.store 43 t0 t2)] [])))) (.reg [r (bo .add 3 g15 (k 1) 3)] [(15,0)]))))))) (.seq (.reg [.get 3,r (cf 53 #[t0] #[22])] []) (.seq (.seq (.reg [.get 0,r (ln t0 22),r (.move (k 0))] [(47,0),(46,1),(45,2)]) (.block 4 (.loop (.seq (.reg [r (bo .lss 3 g47 g46 3)] [(48,0)]) (.seq (.cond t48 (.skip) (.exit 4)) (.seq (.block 5 (.seq (.reg [.get 47,r (ia 22 g45 g47),r (ld 45 t0),r (.alloc 45),r (.store 45 t0 t1)] [(8,4),(9,1)]) (.seq (.reg [r (fa 45 g9 2),r (ld 43 t0),.get 3,.get 8,r (ia 22 t1 t0),r (fa 45 t0 2),r (ld 43 t0),r (cf 54 #[t5,t0] #[43,43]),r (.unOp .not 4 t0)] [(60,0)]) (.cond t60 (.seq (.reg [r (.assign kF)] [(2,0)]) (.ret)) (.skip))))) (.reg [r (bo .add 3 g47 (k 1) 3)] [(47,0)]))))))) (.seq (.reg [.get 0,
 r (ia 22 t0 (k 0)),r (fa 45 t0 2),r (ld 43 t0),r (ln t0 43),r (bo .eql 3 t0 (k 0) 3)] [(2,0)]) (.ret))))))
theorem fp_flow_froms:Fp V 31 Tryz.f31 P_flow_froms:=.of
noncomputable def Lc.flow_froms {O vs H R}:=@Fp.lq V O 31 Tryz.f31 P_flow_froms vs H R fp_flow_froms
abbrev F_flow_circle:FuncId:=32
def P_flow_circle:PC :=
.seq (.reg [r (.assign kF)] [(4,0)]) (.seq (.reg [.get 1] [(5,0)]) (.seq (.seq (.reg [.get 0,r (ln t0 22),r (.move (k 0))] [(9,0),(8,1)]) (.block 0 (.loop (.seq (.reg [r (bo .lss 3 g9 g8 3)] [(10,0)]) (.seq (.cond t10 (.skip) (.exit 0)) (.seq (.block 1 (.seq (.seq (.reg [.get 0,.get 5,r (ia 22 t1 t0),r (fa 45 t0 1),r (ld 42 t0),r (ln t0 42),r (bo .gtr 3 t0 (k 0) 3)] [(17,0)]) (.cond t17 (.seq (.reg [r (.assign kF)] [(4,0)]) (.ret)) (.skip))) (.seq (.reg [.get 0,.get 5,r (ia 22 t1 t0),r (fa 45 t0 3),r (ld 43 t0),r (ia 43 t0 (k 0)),r (ld 3 t0)] [(5,0)]) (.seq (.reg [.get 5,.get 1,r (bo .eql 3 t1 t0 3)] [(27,0)]) (.cond t27 (.seq (.reg [r (.assign kT)] [(4,0)]) (.ret)) (.skip)))))) (.reg [r (bo .add 3 g9 (k 1) 3)] [(9,0)]))))))) (.seq (.reg [r (.assign kF)] [(4,0)]) (.ret))))
theorem fp_flow_circle:Fp V 32 Tryz.f32 P_flow_circle:=.of
noncomputable def Lc.flow_circle {O vs H R}:=@Fp.lq V O 32 Tryz.f32 P_flow_circle vs H R fp_flow_circle
abbrev F_slices_Clone_s_int_int:FuncId:=33
def P_slices_Clone_s_int_int:PC :=
.seq (.reg [r (.assign (.const (.slice none 0 0)))] [(2,0)]) (.seq (.seq (.reg [.get 0,r (bo .eql 43 t0 (.const (.slice none 0 0)) 43)] [(4,0)]) (.cond t4 (.seq (.reg [r (.assign (.const (.slice none 0 0)))] [(2,0)]) (.ret)) (.skip))) (.seq (.reg [r (.buildSlice 43 0 #[]),.get 0,r (ap t1 t0 43 43)] [(2,0)]) (.ret)))
theorem fp_slices_Clone_s_int_int:Fp V 33 Tryz.f33 P_slices_Clone_s_int_int:=.of
noncomputable def Lc.slices_Clone_s_int_int {O vs H R}:=@Fp.lq V O 33 Tryz.f33 P_slices_Clone_s_int_int vs H R fp_slices_Clone_s_int_int
abbrev F_flow_bare:FuncId:=39
def P_flow_bare:PC :=
.seq (.reg [r (.box 29 g0),r (.alloc 74)] [(2,0),(1,1)]) (.seq (.reg [r (fa 29 g1 0),r (ld 25 t0),r (fa 29 g1 1),r (ld 26 t0),r (.build 74 #[(0,t2),(1,t0)]),r (.alloc 74),r (.store 74 t0 t1)] [(3,1)]) (.seq (.seq (.reg [r (fa 29 g1 2),r (ld 27 t0),r (ln t0 27),r (.move (k 0))] [(14,0),(13,1),(12,2)]) (.block 0 (.loop (.seq (.reg [r (bo .lss 3 g14 g13 3)] [(15,0)]) (.seq (.cond t15 (.skip) (.exit 0)) (.seq (.block 1 (.seq (.reg [r (ia 27 g12 g14),r (ld 24 t0),r (.alloc 24),r (.store 24 t0 t1)] [(5,1)]) (.reg [r (fa 74 g3 2),r (ld 72 t0),r (fa 24 g5 0),r (ld 9 t0),r (fa 24 g5 1),r (ld 4 t0),r (fa 24 g5 2),r (ld 3 t0),r (fa 24 g5 2),r (ld 3 t0),r (.build 47 #[(0,(k8 11))]),r (.buildSlice 42 1 #[(0,t0)]),r (.build 78 #[(0,t8),(1,t6),(2,t4),(3,t2),(4,t0)]),r (.buildSlice 72 1 #[(0,t0)]),r (ap t12 t0 72 72),r (fa 74 g3 2),
 r (.store 72 t0 t1)] []))) (.reg [r (bo .add 3 g14 (k 1) 3)] [(14,0)]))))))) (.seq (.reg [r (ld 74 g3),r (.store 74 g2 t0)] []) (.ret))))
theorem fp_flow_bare:Fp V 39 Tryz.f39 P_flow_bare:=.of
noncomputable def Lc.flow_bare {O vs H R}:=@Fp.lq V O 39 Tryz.f39 P_flow_bare vs H R fp_flow_bare
abbrev F_code_May:FuncId:=40
def P_code_May:PC :=
.seq (.reg [r (.box 74 g0),r (.assign kF)] [(2,0),(1,1)]) (.seq (.seq (.reg [r (ld 74 g1),r (cf 61 #[t0] #[74]),r (.unOp .not 4 t0),rF 0 (ld 74 g1),rF 1 (cf 62 #[t0] #[74]),rF 2 (ln t0 43),rF 3 (bo .gtr 3 t0 (k 16) 3),r (pk t4 kT t0),rF 0 (fa 74 g1 0),rF 1 (ld 25 t0),rF 2 (cf 63 #[t0,(.func 64)] #[25,97]),r (pk t3 kT t0)] [(16,0)]) (.cond t16 (.seq (.reg [r (.assign kF)] [(2,0)]) (.ret)) (.skip))) (.seq (.reg [r (fa 74 g1 2),r (ld 72 t0),r (.makeFunc (.func 66) #[] #[g1]),r (cf 65 #[t1,t0] #[72,100]),r (.unOp .not 4 t0)] [(2,0)]) (.ret)))
theorem fp_code_May:Fp V 40 Tryz.f40 P_code_May:=.of
noncomputable def Lc.code_May {O vs H R}:=@Fp.lq V O 40 Tryz.f40 P_code_May vs H R fp_code_May
abbrev F_slices_ContainsFunc_s_api_Ins_api_Ins:FuncId:=41
def P_slices_ContainsFunc_s_api_Ins_api_Ins:PC :=
.seq (.reg [r (.assign kF)] [(4,0)]) (.seq (.reg [.get 0,.get 1,r (cf 68 #[t1,t0] #[42,71]),r (bo .geq 3 t0 (k 0) 3)] [(4,0)]) (.ret))
theorem fp_slices_ContainsFunc_s_api_Ins_api_Ins:Fp V 41 Tryz.f41 P_slices_ContainsFunc_s_api_Ins_api_Ins:=.of
noncomputable def Lc.slices_ContainsFunc_s_api_Ins_api_Ins {O vs H R}:=@Fp.lq V O 41 Tryz.f41 P_slices_ContainsFunc_s_api_Ins_api_Ins vs H R fp_slices_ContainsFunc_s_api_Ins_api_Ins
abbrev F_flow_MayForm_q1:FuncId:=42
def P_flow_MayForm_q1:PC :=
.seq (.reg [r (.box 47 g0),r (.assign kF)] [(4,0),(3,1)]) (.seq (.reg [r (ld 74 g1),r (ld 3 g2),r (ld 47 g3),r (cf 43 #[t2,t1,t0] #[74,3,47]),r (.unOp .not 4 t0)] [(4,0)]) (.ret))
theorem fp_flow_MayForm_q1:Fp V 42 Tryz.f42 P_flow_MayForm_q1:=.of
theorem fn_flow_MayForm_q1:V.F 42=some Tryz.f42:=fp_flow_MayForm_q1.1
noncomputable def Lc.flow_MayForm_q1 {O vs H R}:=@Fp.lq V O 42 Tryz.f42 P_flow_MayForm_q1 vs H R fp_flow_MayForm_q1
abbrev F_code_MayIns:FuncId:=43
def P_code_MayIns:PC :=
.seq (.reg [r (.box 74 g0),r (.box 47 g2),r (.assign kF)] [(6,0),(5,1),(3,2)]) (.seq (.reg [.get 1,r (bo .geq 3 t0 (k 0) 3),rT 0 (.move g1),rT 1 (fa 74 g3 2),rT 2 (ld 72 t0),rT 3 (ln t0 72),rT 4 (bo .lss 3 t3 t0 3),r (pk t5 t0 kF),rT 0 (ld 74 g3),rT 1 (fa 74 g3 2),rT 2 (ld 72 t0),rT 3 (.move g1),rT 4 (ia 72 t1 t0),rT 5 (ld 78 t0),rT 6 (ld 47 g5),rT 7 (cf 69 #[t6,t1,t0] #[74,78,47]),r (pk t8 t0 kF)] [(6,0)]) (.ret))
theorem fp_code_MayIns:Fp V 43 Tryz.f43 P_code_MayIns:=.of
noncomputable def Lc.code_MayIns {O vs H R}:=@Fp.lq V O 43 Tryz.f43 P_code_MayIns vs H R fp_code_MayIns
abbrev F_slices_IndexFunc_s_api_Block_api_Block:FuncId:=46
def P_slices_IndexFunc_s_api_Block_api_Block:PC :=
.seq (.reg [r (.assign (k 0))] [(4,0)]) (.seq (.seq (.reg [.get 0,r (ln t0 22),r (.move (k 0))] [(8,0),(7,1)]) (.block 0 (.loop (.seq (.reg [r (bo .lss 3 g8 g7 3)] [(9,0)]) (.seq (.cond t9 (.skip) (.exit 0)) (.seq (.block 1 (.seq (.reg [.get 8] [(5,0)]) (.seq (.reg [.get 1,.get 0,.get 5,r (ia 22 t1 t0),r (ld 45 t0),r (.call ⟨.value t4,#[t0],#[45]⟩)] [(16,0)]) (.cond t16 (.seq (.reg [.get 5] [(4,0)]) (.ret)) (.skip))))) (.reg [r (bo .add 3 g8 (k 1) 3)] [(8,0)]))))))) (.seq (.reg [r (.assign (k (-1)))] [(4,0)]) (.ret)))
theorem fp_slices_IndexFunc_s_api_Block_api_Block:Fp V 46 Tryz.f46 P_slices_IndexFunc_s_api_Block_api_Block:=.of
noncomputable def Lc.slices_IndexFunc_s_api_Block_api_Block {O vs H R}:=@Fp.lq V O 46 Tryz.f46 P_slices_IndexFunc_s_api_Block_api_Block vs H R fp_slices_IndexFunc_s_api_Block_api_Block
abbrev F_flow_mayIns:FuncId:=47
def P_flow_mayIns:PC :=
.seq (.reg [r (.box 47 g0),r (.assign kF)] [(4,0),(2,1)]) (.seq (.seq (.reg [r (fa 47 g2 4),r (ld 2 t0),r (bo .lss 2 t0 (k 0) 2),rT 0 (fa 47 g2 0),rT 1 (ld 5 t0),rT 2 (bo .neq 5 t0 (k8 1) 5),r (pk t3 t0 kF),rF 0 (fa 47 g2 5),rF 1 (ld 43 t0),rF 2 (ln t0 43),rF 3 (bo .gtr 3 t0 (k 8) 3),r (pk t4 kT t0)] [(20,0)]) (.cond t20 (.seq (.reg [r (.assign kF)] [(4,0)]) (.ret)) (.skip))) (.seq (.seq (.reg [r (fa 47 g2 0),r (ld 5 t0)] [(22,0)]) (.block 0 (.seq (.seq (.reg [r (bo .eql 5 g22 (k8 5) 5)] [(23,0)]) (.cond t23 (.skip) (.seq (.reg [r (bo .eql 5 g22 (k8 6) 5)] [(23,0)]) (.cond t23 (.skip) (.seq (.reg [r (bo .eql 5 g22 (k8 7) 5)] [(23,0)]) (.cond t23 (.skip) (.reg [r (bo .eql 5 g22 (k8 8) 5)] [(23,0)]))))))) (.cond t23 (.reg [r (fa 47 g2 4),r (.store 2 t0 (k 0))] []) (.seq (.reg [r (bo .eql 5 g22 (k8 10) 5)] [(29,0)]) (.cond t29 (.reg [r (fa 47 g2 4),
 r (.store 2 t0 (k 1))] []) (.skip))))))) (.seq (.reg [r (.build 47 #[]),r (.buildSlice 42 1 #[(0,t0)])] [(5,0)]) (.seq (.reg [r (.makeSlice 25 (k 1) (k 1)),r (.makeSlice 26 (k 1) (k 1)),.get 1,.get 5,r (.build 78 #[(3,t1),(4,t0)]),r (fa 47 g2 5),r (ld 43 t0),r (ln t0 43),.get 5,r (.build 78 #[(2,t1),(4,t0)]),r (.buildSlice 72 2 #[(0,t5),(1,t0)]),r (.build 74 #[(0,t10),(1,t9),(2,t0)]),r (.alloc 74),r (.store 74 t0 t1)] [(6,1)]) (.seq (.reg [r (ld 74 g6),r (ld 47 g2),r (cf 43 #[t1,(k 0),t0] #[74,3,47])] [(4,0)]) (.ret))))))
theorem fp_flow_mayIns:Fp V 47 Tryz.f47 P_flow_mayIns:=.of
noncomputable def Lc.flow_mayIns {O vs H R}:=@Fp.lq V O 47 Tryz.f47 P_flow_mayIns vs H R fp_flow_mayIns
abbrev F_flow_ends:FuncId:=48
def P_flow_ends:PC :=
.seq (.reg [r (.assign kF)] [(2,0)]) (.seq (.reg [.get 0,r (bo .eql 5 t0 (k8 11) 5),rF 0 (.move g0),rF 1 (bo .eql 5 t0 (k8 12) 5),r (pk t2 kT t0),rF 0 (.move g0),rF 1 (bo .eql 5 t0 (k8 13) 5),r (pk t2 kT t0)] [(2,0)]) (.ret))
theorem fp_flow_ends:Fp V 48 Tryz.f48 P_flow_ends:=.of
noncomputable def Lc.flow_ends {O vs H R}:=@Fp.lq V O 48 Tryz.f48 P_flow_ends vs H R fp_flow_ends
abbrev F_flow_block_q1:FuncId:=49
def P_flow_block_q1:PC :=
.seq (.reg [r (.assign kF)] [(3,0)]) (.seq (.reg [.get 0,r (bo .lss 3 t0 (k 0) 3),rF 0 (.move g0),rF 1 (ld 3 g1),rF 2 (bo .geq 3 t1 t0 3),r (pk t3 kT t0)] [(3,0)]) (.ret))
theorem fp_flow_block_q1:Fp V 49 Tryz.f49 P_flow_block_q1:=.of
theorem fn_flow_block_q1:V.F 49=some Tryz.f49:=fp_flow_block_q1.1
noncomputable def Lc.flow_block_q1 {O vs H R}:=@Fp.lq V O 49 Tryz.f49 P_flow_block_q1 vs H R fp_flow_block_q1
abbrev F_slices_ContainsFunc_s_api_Phi_api_Phi:FuncId:=50
def P_slices_ContainsFunc_s_api_Phi_api_Phi:PC :=
.seq (.reg [r (.assign kF)] [(4,0)]) (.seq (.reg [.get 0,.get 1,r (cf 74 #[t1,t0] #[41,87]),r (bo .geq 3 t0 (k 0) 3)] [(4,0)]) (.ret))
theorem fp_slices_ContainsFunc_s_api_Phi_api_Phi:Fp V 50 Tryz.f50 P_slices_ContainsFunc_s_api_Phi_api_Phi:=.of
noncomputable def Lc.slices_ContainsFunc_s_api_Phi_api_Phi {O vs H R}:=@Fp.lq V O 50 Tryz.f50 P_slices_ContainsFunc_s_api_Phi_api_Phi vs H R fp_slices_ContainsFunc_s_api_Phi_api_Phi
abbrev F_flow_block_q2:FuncId:=51
def P_flow_block_q2:PC :=
.seq (.reg [r (.box 49 g0),r (.assign kF)] [(4,0),(3,1)]) (.seq (.reg [r (ld 84 g1),r (fa 49 g3 0),r (ld 3 t0),r (.call ⟨.value t2,#[t0],#[3]⟩),rF 0 (fa 49 g3 1),rF 1 (ld 43 t0),rF 2 (ln t0 43),rF 3 (fa 45 g2 2),rF 4 (ld 43 t0),rF 5 (ln t0 43),rF 6 (bo .neq 3 t3 t0 3),r (pk t7 kT t0),rF 0 (fa 49 g3 1),rF 1 (ld 43 t0),rF 2 (ld 84 g1),rF 3 (cf 52 #[t1,t0] #[43,84]),r (pk t4 kT t0)] [(4,0)]) (.ret))
theorem fp_flow_block_q2:Fp V 51 Tryz.f51 P_flow_block_q2:=.of
theorem fn_flow_block_q2:V.F 51=some Tryz.f51:=fp_flow_block_q2.1
noncomputable def Lc.flow_block_q2 {O vs H R}:=@Fp.lq V O 51 Tryz.f51 P_flow_block_q2 vs H R fp_flow_block_q2
abbrev F_slices_ContainsFunc_s_int_int:FuncId:=52
def P_slices_ContainsFunc_s_int_int:PC :=
.seq (.reg [r (.assign kF)] [(4,0)]) (.seq (.reg [.get 0,.get 1,r (cf 75 #[t1,t0] #[43,84]),r (bo .geq 3 t0 (k 0) 3)] [(4,0)]) (.ret))
theorem fp_slices_ContainsFunc_s_int_int:Fp V 52 Tryz.f52 P_slices_ContainsFunc_s_int_int:=.of
noncomputable def Lc.slices_ContainsFunc_s_int_int {O vs H R}:=@Fp.lq V O 52 Tryz.f52 P_slices_ContainsFunc_s_int_int vs H R fp_slices_ContainsFunc_s_int_int
abbrev F_flow_from:FuncId:=53
def P_flow_from:PC :=
.seq (.reg [.get 0,r (ln t0 22),r (.move (k 0))] [(8,0),(7,1)]) (.block 0 (.loop (.seq (.reg [r (bo .lss 3 g8 g7 3)] [(9,0)]) (.seq (.cond t9 (.skip) (.exit 0)) (.seq (.block 1 (.seq (.reg [.get 8] [(2,0)]) (.seq (.reg [.get 0,.get 2,r (ia 22 t1 t0),r (fa 45 t0 3),r (ld 43 t0),r (ln t0 43),r (.move (k 0))] [(17,0),(16,1),(15,2)]) (.block 2 (.loop (.seq (.reg [r (bo .lss 3 g17 g16 3)] [(18,0)]) (.seq (.cond t18 (.skip) (.exit 2)) (.seq (.block 3 (.seq (.reg [r (ia 43 g15 g17),r (ld 3 t0)] [(4,0)]) (.seq (.reg [.get 0,.get 4,r (ia 22 t1 t0),r (fa 45 t0 2),r (ld 43 t0),r (ln t0 43)] [(5,0)]) (.seq (.reg [.get 5,r (bo .eql 3 t0 (k 0) 3),rF 0 (.move g0),rF 1 (.move g4),rF 2 (ia 22 t1 t0),rF 3 (fa 45 t0 2),rF 4 (ld 43 t0),rF 5 (.move g5),rF 6 (bo .sub 3 t0 (k 1) 3),rF 7 (ia 43 t2 t0),rF 8 (ld 3 t0),rF 9 (.move g2),rF 10 (bo .neq 3 t1 t0 3),r (pk t11 kT t0)] [(41,
 0)]) (.cond t41 (.reg [.get 0,.get 4,.get 0,.get 4,r (ia 22 t1 t0),r (fa 45 t0 2),r (ld 43 t0),.get 2,r (.buildSlice 43 1 #[(0,t0)]),r (ap t2 t0 43 43),r (ia 22 t9 t8),r (fa 45 t0 2),r (.store 43 t0 t2)] []) (.skip)))))) (.reg [r (bo .add 3 g17 (k 1) 3)] [(17,0)]))))))))) (.reg [r (bo .add 3 g8 (k 1) 3)] [(8,0)]))))))
theorem fp_flow_from:Fp V 53 Tryz.f53 P_flow_from:=.of
noncomputable def Lc.flow_from {O vs H R}:=@Fp.lq V O 53 Tryz.f53 P_flow_from vs H R fp_flow_from
abbrev F_slices_Equal_s_int_int:FuncId:=54
def P_slices_Equal_s_int_int:PC :=
.seq (.reg [r (.assign kF)] [(4,0)]) (.seq (.seq (.reg [.get 0,r (ln t0 43),.get 1,r (ln t0 43),r (bo .neq 3 t2 t0 3)] [(10,0)]) (.cond t10 (.seq (.reg [r (.assign kF)] [(4,0)]) (.ret)) (.skip))) (.seq (.seq (.reg [.get 0,r (ln t0 43),r (.move (k 0))] [(13,0),(12,1)]) (.block 0 (.loop (.seq (.reg [r (bo .lss 3 g13 g12 3)] [(14,0)]) (.seq (.cond t14 (.skip) (.exit 0)) (.seq (.block 1 (.seq (.reg [.get 13] [(5,0)]) (.seq (.reg [.get 0,.get 5,r (ia 43 t1 t0),r (ld 3 t0),.get 1,.get 5,r (ia 43 t1 t0),r (ld 3 t0),r (bo .neq 3 t4 t0 3)] [(24,0)]) (.cond t24 (.seq (.reg [r (.assign kF)] [(4,0)]) (.ret)) (.skip))))) (.reg [r (bo .add 3 g13 (k 1) 3)] [(13,0)]))))))) (.seq (.reg [r (.assign kT)] [(4,0)]) (.ret))))
theorem fp_slices_Equal_s_int_int:Fp V 54 Tryz.f54 P_slices_Equal_s_int_int:=.of
noncomputable def Lc.slices_Equal_s_int_int {O vs H R}:=@Fp.lq V O 54 Tryz.f54 P_slices_Equal_s_int_int vs H R fp_slices_Equal_s_int_int
abbrev F_slices_Backward_s_api_Ins_api_Ins:FuncId:=55
def P_slices_Backward_s_api_Ins_api_Ins:PC :=
.seq (.reg [r (.box 42 g0),r (.assign (.const .nilFunc))] [(2,0),(1,1)]) (.seq (.reg [r (.makeFunc (.func 76) #[] #[g1])] [(2,0)]) (.ret))
theorem fp_slices_Backward_s_api_Ins_api_Ins:Fp V 55 Tryz.f55 P_slices_Backward_s_api_Ins_api_Ins:=.of
noncomputable def Lc.slices_Backward_s_api_Ins_api_Ins {O vs H R}:=@Fp.lq V O 55 Tryz.f55 P_slices_Backward_s_api_Ins_api_Ins vs H R fp_slices_Backward_s_api_Ins_api_Ins
abbrev F_code_named:FuncId:=61
def P_code_named:PC :=
.seq (.reg [r (.box 74 g0),r (.assign kF)] [(2,0),(1,1)]) (.seq (.reg [r (.assign (.const (.slice none 0 0)))] [(3,0)]) (.seq (.seq (.reg [r (fa 74 g1 0),r (ld 25 t0),r (ln t0 25),r (.move (k 0))] [(11,0),(10,1),(9,2)]) (.block 0 (.loop (.seq (.reg [r (bo .lss 3 g11 g10 3)] [(12,0)]) (.seq (.cond t12 (.skip) (.exit 0)) (.seq (.block 1 (.seq (.reg [r (ia 25 g9 g11),r (ld 60 t0),r (.alloc 60),r (.store 60 t0 t1)] [(5,1)]) (.reg [.get 3,r (fa 60 g5 0),r (ld 9 t0),r (.buildSlice 26 1 #[(0,t0)]),r (ap t3 t0 26 26)] [(3,0)]))) (.reg [r (bo .add 3 g11 (k 1) 3)] [(11,0)]))))))) (.seq (.reg [.get 3,r (fa 74 g1 1),r (ld 26 t0),r (ap t2 t0 26 26)] [(3,0)]) (.seq (.seq (.reg [r (fa 74 g1 2),r (ld 72 t0),r (ln t0 72),r (.move (k 0))] [(28,0),(27,1),(26,2)]) (.block 2 (.loop (.seq (.reg [r (bo .lss 3 g28 g27 3)] [(29,
 0)]) (.seq (.cond t29 (.skip) (.exit 2)) (.seq (.block 3 (.seq (.reg [r (ia 72 g26 g28),r (ld 78 t0),r (.alloc 78),r (.store 78 t0 t1)] [(7,1)]) (.reg [.get 3,r (fa 78 g7 0),r (ld 9 t0),r (.buildSlice 26 1 #[(0,t0)]),r (ap t3 t0 26 26)] [(3,0)]))) (.reg [r (bo .add 3 g28 (k 1) 3)] [(28,0)]))))))) (.seq (.reg [.get 3,r (cf 77 #[t0] #[26])] []) (.seq (.reg [.get 3,r (ln t0 26),r (bo .leq 3 t0 (k 256) 3),rT 0 (.move g3),rT 1 (cf 26 #[t0] #[26]),rT 2 (cf 78 #[t0] #[26]),rT 3 (ln t0 26),rT 4 (.move g3),rT 5 (ln t0 26),rT 6 (bo .eql 3 t2 t0 3),r (pk t7 t0 kF),rT 0 (.move g3),rT 1 (cf 79 #[t0,(.func 80)] #[26,103]),rT 2 (.unOp .not 4 t0),r (pk t3 t0 kF)] [(2,0)]) (.ret)))))))
theorem fp_code_named:Fp V 61 Tryz.f61 P_code_named:=.of
noncomputable def Lc.code_named {O vs H R}:=@Fp.lq V O 61 Tryz.f61 P_code_named vs H R fp_code_named
abbrev F_code_Threads:FuncId:=62
def P_code_Threads:PC :=
.seq (.reg [r (.box 74 g0),r (.assign (.const (.slice none 0 0)))] [(2,0),(1,1)]) (.seq (.reg [r (.assign (.const (.slice none 0 0)))] [(3,0)]) (.seq (.seq (.reg [r (fa 74 g1 2),r (ld 72 t0),r (ln t0 72),r (.move (k 0))] [(9,0),(8,1),(7,2)]) (.block 0 (.loop (.seq (.reg [r (bo .lss 3 g9 g8 3)] [(10,0)]) (.seq (.cond t10 (.skip) (.exit 0)) (.seq (.block 1 (.seq (.reg [.get 9,r (ia 72 g7 g9),r (ld 78 t0),r (.alloc 78),r (.store 78 t0 t1)] [(4,4),(5,1)]) (.seq (.reg [r (fa 78 g5 1),r (ld 4 t0)] [(15,0)]) (.cond t15 (.reg [.get 3,.get 4,r (.buildSlice 43 1 #[(0,t0)]),r (ap t2 t0 43 43)] [(3,0)]) (.skip))))) (.reg [r (bo .add 3 g9 (k 1) 3)] [(9,0)]))))))) (.seq (.reg [.get 3] [(2,0)]) (.ret))))
theorem fp_code_Threads:Fp V 62 Tryz.f62 P_code_Threads:=.of
noncomputable def Lc.code_Threads {O vs H R}:=@Fp.lq V O 62 Tryz.f62 P_code_Threads vs H R fp_code_Threads
abbrev F_slices_ContainsFunc_s_api_Mem_api_Mem:FuncId:=63
def P_slices_ContainsFunc_s_api_Mem_api_Mem:PC :=
.seq (.reg [r (.assign kF)] [(4,0)]) (.seq (.reg [.get 0,.get 1,r (cf 82 #[t1,t0] #[25,97]),r (bo .geq 3 t0 (k 0) 3)] [(4,0)]) (.ret))
theorem fp_slices_ContainsFunc_s_api_Mem_api_Mem:Fp V 63 Tryz.f63 P_slices_ContainsFunc_s_api_Mem_api_Mem:=.of
noncomputable def Lc.slices_ContainsFunc_s_api_Mem_api_Mem {O vs H R}:=@Fp.lq V O 63 Tryz.f63 P_slices_ContainsFunc_s_api_Mem_api_Mem vs H R fp_slices_ContainsFunc_s_api_Mem_api_Mem
abbrev F_code_May_q1:FuncId:=64
def P_code_May_q1:PC :=
.seq (.reg [r (.box 60 g0),r (.assign kF)] [(2,0),(1,1)]) (.seq (.reg [r (fa 60 g1 1),r (ld 3 t0),r (bo .lss 3 t0 (k 1) 3),rF 0 (fa 60 g1 1),rF 1 (ld 3 t0),rF 2 (bo .gtr 3 t0 (k 1024) 3),r (pk t3 kT t0)] [(2,0)]) (.ret))
theorem fp_code_May_q1:Fp V 64 Tryz.f64 P_code_May_q1:=.of
theorem fn_code_May_q1:V.F 64=some Tryz.f64:=fp_code_May_q1.1
noncomputable def Lc.code_May_q1 {O vs H R}:=@Fp.lq V O 64 Tryz.f64 P_code_May_q1 vs H R fp_code_May_q1
abbrev F_slices_ContainsFunc_s_api_Fun_api_Fun:FuncId:=65
def P_slices_ContainsFunc_s_api_Fun_api_Fun:PC :=
.seq (.reg [r (.assign kF)] [(4,0)]) (.seq (.reg [.get 0,.get 1,r (cf 83 #[t1,t0] #[72,100]),r (bo .geq 3 t0 (k 0) 3)] [(4,0)]) (.ret))
theorem fp_slices_ContainsFunc_s_api_Fun_api_Fun:Fp V 65 Tryz.f65 P_slices_ContainsFunc_s_api_Fun_api_Fun:=.of
noncomputable def Lc.slices_ContainsFunc_s_api_Fun_api_Fun {O vs H R}:=@Fp.lq V O 65 Tryz.f65 P_slices_ContainsFunc_s_api_Fun_api_Fun vs H R fp_slices_ContainsFunc_s_api_Fun_api_Fun
abbrev F_code_May_q2:FuncId:=66
def P_code_May_q2:PC :=
.seq (.reg [r (.box 78 g0),r (.assign kF)] [(3,0),(2,1)]) (.seq (.reg [r (ld 74 g1),r (ld 78 g2),r (cf 67 #[t1,t0] #[74,78]),r (.unOp .not 4 t0)] [(3,0)]) (.ret))
theorem fp_code_May_q2:Fp V 66 Tryz.f66 P_code_May_q2:=.of
theorem fn_code_May_q2:V.F 66=some Tryz.f66:=fp_code_May_q2.1
noncomputable def Lc.code_May_q2 {O vs H R}:=@Fp.lq V O 66 Tryz.f66 P_code_May_q2 vs H R fp_code_May_q2
abbrev F_code_mayFun:FuncId:=67
def P_code_mayFun:PC :=
.seq (.reg [r (.box 74 g0),r (.box 78 g1),r (.assign kF)] [(4,0),(3,1),(2,2)]) (.seq (.reg [r (fa 78 g3 4),r (ld 42 t0),r (ln t0 42)] [(5,0)]) (.seq (.seq (.reg [r (fa 78 g3 2),r (ld 3 t0),r (bo .lss 3 t0 (k 0) 3),rF 0 (fa 78 g3 2),rF 1 (ld 3 t0),rF 2 (bo .gtr 3 t0 (k 8) 3),r (pk t3 kT t0),rF 0 (fa 78 g3 1),rF 1 (ld 4 t0),rF 2 (.move t0),rT 0 (fa 78 g3 2),rT 1 (ld 3 t0),rT 2 (bo .gtr 3 t0 (k 0) 3),rF 6 (pk t3 t0 kF),r (pk t7 kT t0),rF 0 (fa 78 g3 3),rF 1 (ld 3 t0),rF 2 (fa 78 g3 2),rF 3 (ld 3 t0),rF 4 (bo .lss 3 t2 t0 3),r (pk t5 kT t0),rF 0 (fa 78 g3 3),rF 1 (ld 3 t0),rF 2 (bo .gtr 3 t0 (k 4096) 3),r (pk t3 kT t0),rF 0 (.move g5),rF 1 (bo .lss 3 t0 (k 1) 3),r (pk t2 kT t0),rF 0 (.move g5),rF 1 (bo .gtr 3 t0 (k 16384) 3),r (pk t2 kT t0)] [(46,0)]) (.cond t46 (.seq (.reg [r (.assign kF)] [(4,0)]) (.ret)) (.skip))) (.seq (.seq (.reg [r (fa 78 g3 4),r (ld 42 t0),.get 5,
 r (bo .sub 3 t0 (k 1) 3),r (ia 42 t2 t0),r (fa 47 t0 0),r (ld 5 t0)] [(6,0)]) (.seq (.reg [.get 6,r (bo .neq 5 t0 (k8 11) 5),rT 0 (.move g6),rT 1 (bo .neq 5 t0 (k8 13) 5),r (pk t2 t0 kF)] [(59,0)]) (.cond t59 (.seq (.reg [r (.assign kF)] [(4,0)]) (.ret)) (.skip)))) (.seq (.reg [r (fa 78 g3 4),r (ld 42 t0),r (.makeFunc (.func 84) #[] #[g2,g3]),r (cf 41 #[t1,t0] #[42,71]),r (.unOp .not 4 t0)] [(4,0)]) (.ret)))))
theorem fp_code_mayFun:Fp V 67 Tryz.f67 P_code_mayFun:=.of
noncomputable def Lc.code_mayFun {O vs H R}:=@Fp.lq V O 67 Tryz.f67 P_code_mayFun vs H R fp_code_mayFun
abbrev F_slices_IndexFunc_s_api_Ins_api_Ins:FuncId:=68
def P_slices_IndexFunc_s_api_Ins_api_Ins:PC :=
.seq (.reg [r (.assign (k 0))] [(4,0)]) (.seq (.seq (.reg [.get 0,r (ln t0 42),r (.move (k 0))] [(8,0),(7,1)]) (.block 0 (.loop (.seq (.reg [r (bo .lss 3 g8 g7 3)] [(9,0)]) (.seq (.cond t9 (.skip) (.exit 0)) (.seq (.block 1 (.seq (.reg [.get 8] [(5,0)]) (.seq (.reg [.get 1,.get 0,.get 5,r (ia 42 t1 t0),r (ld 47 t0),r (.call ⟨.value t4,#[t0],#[47]⟩)] [(16,0)]) (.cond t16 (.seq (.reg [.get 5] [(4,0)]) (.ret)) (.skip))))) (.reg [r (bo .add 3 g8 (k 1) 3)] [(8,0)]))))))) (.seq (.reg [r (.assign (k (-1)))] [(4,0)]) (.ret)))
theorem fp_slices_IndexFunc_s_api_Ins_api_Ins:Fp V 68 Tryz.f68 P_slices_IndexFunc_s_api_Ins_api_Ins:=.of
noncomputable def Lc.slices_IndexFunc_s_api_Ins_api_Ins {O vs H R}:=@Fp.lq V O 68 Tryz.f68 P_slices_IndexFunc_s_api_Ins_api_Ins vs H R fp_slices_IndexFunc_s_api_Ins_api_Ins
abbrev F_code_mayIns:FuncId:=69
def P_code_mayIns:PC :=
.seq (.reg [r (.box 74 g0),r (.box 78 g1),r (.box 47 g2),r (.alloc 4)] [(6,0),(5,1),(4,2),(3,3)]) (.seq (.reg [r (ld 47 g5),r (cf 85 #[t0] #[47]),r (.extract t0 0),r (.extract t1 1),r (.alloc 113),r (.store 113 t0 t2)] [(8,2),(7,1)]) (.seq (.seq (.reg [.get 8,r (.unOp .not 4 t0),rF 0 (ld 113 g7),rF 1 (ld 47 g5),rF 2 (cf 87 #[t1,t0] #[113,47]),rF 3 (.build 47 #[]),rF 4 (cf 86 #[t1,t0] #[47,47]),rF 5 (.unOp .not 4 t0),r (pk t6 kT t0),rF 0 (ld 74 g3),rF 1 (ld 78 g4),rF 2 (ld 113 g7),rF 3 (ld 47 g5),rF 4 (cf 88 #[t3,t2,t1,t0] #[74,78,113,47]),rF 5 (.unOp .not 4 t0),r (pk t6 kT t0)] [(34,0)]) (.cond t34 (.seq (.reg [r (.store 4 g6 kF)] []) (.ret)) (.skip))) (.seq (.seq (.reg [r (ld 47 g5),r (cf 89 #[t0] #[47])] [(36,0)]) (.block 0 (.rfunc t36 #[37] (.reg [r (.assign g37)] [(9,0)]) (.block 1 (.seq (.reg [.get 9,r (bo .lss 3 t0 (k 0) 3),rF 0 (.move g9),rF 1 (fa 78 g4 3),
 rF 2 (ld 3 t0),rF 3 (bo .geq 3 t2 t0 3),r (pk t4 kT t0)] [(45,0),(44,1),(43,2),(42,3),(41,4),(40,5),(39,5),(38,6)]) (.cond t45 (.seq (.reg [r (.store 4 g6 kF)] []) (.ret)) (.skip))))))) (.seq (.reg [r (ld 47 g5),r (cf 90 #[t0] #[47]),r (.extract t0 0),r (.extract t1 1)] [(11,0),(10,1)]) (.seq (.reg [.get 11,r (.unOp .not 4 t0),rF 0 (.move g10),rF 1 (bo .geq 3 t0 (k 0) 3),rF 2 (.move t0),rT 0 (.move g10),rT 1 (fa 78 g4 3),rT 2 (ld 3 t0),rT 3 (bo .lss 3 t2 t0 3),rF 7 (pk t4 t0 kF),r (pk t8 kT t0),r (.store 4 g6 t0)] []) (.ret))))))
theorem fp_code_mayIns:Fp V 69 Tryz.f69 P_code_mayIns:=.of
noncomputable def Lc.code_mayIns {O vs H R}:=@Fp.lq V O 69 Tryz.f69 P_code_mayIns vs H R fp_code_mayIns
abbrev F_slices_IndexFunc_s_api_Phi_api_Phi:FuncId:=74
def P_slices_IndexFunc_s_api_Phi_api_Phi:PC :=
.seq (.reg [r (.assign (k 0))] [(4,0)]) (.seq (.seq (.reg [.get 0,r (ln t0 41),r (.move (k 0))] [(8,0),(7,1)]) (.block 0 (.loop (.seq (.reg [r (bo .lss 3 g8 g7 3)] [(9,0)]) (.seq (.cond t9 (.skip) (.exit 0)) (.seq (.block 1 (.seq (.reg [.get 8] [(5,0)]) (.seq (.reg [.get 1,.get 0,.get 5,r (ia 41 t1 t0),r (ld 49 t0),r (.call ⟨.value t4,#[t0],#[49]⟩)] [(16,0)]) (.cond t16 (.seq (.reg [.get 5] [(4,0)]) (.ret)) (.skip))))) (.reg [r (bo .add 3 g8 (k 1) 3)] [(8,0)]))))))) (.seq (.reg [r (.assign (k (-1)))] [(4,0)]) (.ret)))
theorem fp_slices_IndexFunc_s_api_Phi_api_Phi:Fp V 74 Tryz.f74 P_slices_IndexFunc_s_api_Phi_api_Phi:=.of
noncomputable def Lc.slices_IndexFunc_s_api_Phi_api_Phi {O vs H R}:=@Fp.lq V O 74 Tryz.f74 P_slices_IndexFunc_s_api_Phi_api_Phi vs H R fp_slices_IndexFunc_s_api_Phi_api_Phi
abbrev F_slices_IndexFunc_s_int_int:FuncId:=75
def P_slices_IndexFunc_s_int_int:PC :=
.seq (.reg [r (.assign (k 0))] [(4,0)]) (.seq (.seq (.reg [.get 0,r (ln t0 43),r (.move (k 0))] [(8,0),(7,1)]) (.block 0 (.loop (.seq (.reg [r (bo .lss 3 g8 g7 3)] [(9,0)]) (.seq (.cond t9 (.skip) (.exit 0)) (.seq (.block 1 (.seq (.reg [.get 8] [(5,0)]) (.seq (.reg [.get 1,.get 0,.get 5,r (ia 43 t1 t0),r (ld 3 t0),r (.call ⟨.value t4,#[t0],#[3]⟩)] [(16,0)]) (.cond t16 (.seq (.reg [.get 5] [(4,0)]) (.ret)) (.skip))))) (.reg [r (bo .add 3 g8 (k 1) 3)] [(8,0)]))))))) (.seq (.reg [r (.assign (k (-1)))] [(4,0)]) (.ret)))
theorem fp_slices_IndexFunc_s_int_int:Fp V 75 Tryz.f75 P_slices_IndexFunc_s_int_int:=.of
noncomputable def Lc.slices_IndexFunc_s_int_int {O vs H R}:=@Fp.lq V O 75 Tryz.f75 P_slices_IndexFunc_s_int_int vs H R fp_slices_IndexFunc_s_int_int
abbrev F_slices_Backward_s_api_Ins_api_Ins__q1:FuncId:=76
def P_slices_Backward_s_api_Ins_api_Ins__q1:PC :=
.seq (.reg [r (ld 42 g1),r (ln t0 42),r (bo .sub 3 t0 (k 1) 3)] [(3,0)]) (.block 0 (.loop (.seq (.seq (.reg [.get 3,r (bo .geq 3 t0 (k 0) 3)] [(8,0)]) (.cond t8 (.skip) (.exit 0))) (.seq (.block 1 (.seq (.reg [.get 0,.get 3,r (ld 42 g1),.get 3,r (ia 42 t1 t0),r (ld 47 t0),r (.call ⟨.value t5,#[t4,t0],#[3,47]⟩),r (.unOp .not 4 t0)] [(18,0)]) (.cond t18 (.ret) (.skip)))) (.reg [.get 3,r (bo .sub 3 t0 (k 1) 3)] [(3,0)])))))
theorem fp_slices_Backward_s_api_Ins_api_Ins__q1:Fp V 76 Tryz.f76 P_slices_Backward_s_api_Ins_api_Ins__q1:=.of
noncomputable def Lc.slices_Backward_s_api_Ins_api_Ins__q1 {O vs H R}:=@Fp.lq V O 76 Tryz.f76 P_slices_Backward_s_api_Ins_api_Ins__q1 vs H R fp_slices_Backward_s_api_Ins_api_Ins__q1
abbrev F_slices_Sort_s_string_string:FuncId:=77
def P_slices_Sort_s_string_string:PC :=
.seq (.reg [.get 0,r (ln t0 26)] [(2,0)]) (.reg [.get 0,.get 2,.get 2,r (.convert 3 128 t0),r (cf 97 #[t0] #[128]),r (cf 96 #[t4,(k 0),t3,t0] #[26,3,3,3])] [])
theorem fp_slices_Sort_s_string_string:Fp V 77 Tryz.f77 P_slices_Sort_s_string_string:=.of
abbrev F_slices_Compact_s_string_string:FuncId:=78
def P_slices_Compact_s_string_string:PC :=
.seq (.reg [r (.assign (.const (.slice none 0 0)))] [(2,0)]) (.seq (.seq (.reg [.get 0,r (ln t0 26),r (bo .lss 3 t0 (k 2) 3)] [(8,0)]) (.cond t8 (.seq (.reg [.get 0] [(2,0)]) (.ret)) (.skip))) (.seq (.seq (.reg [r (.assign (k 1))] [(3,0)]) (.block 0 (.loop (.seq (.seq (.reg [.get 3,.get 0,r (ln t0 26),r (bo .lss 3 t2 t0 3)] [(13,0)]) (.cond t13 (.skip) (.exit 0))) (.seq (.block 1 (.seq (.reg [.get 0,.get 3,r (ia 26 t1 t0),r (ld 9 t0),.get 0,.get 3,r (bo .sub 3 t0 (k 1) 3),r (ia 26 t2 t0),r (ld 9 t0),r (bo .eql 9 t5 t0 9)] [(25,0)]) (.cond t25 (.seq (.reg [.get 0,.get 3,r (.slice 26 t1 (some t0) none none)] [(4,0)]) (.seq (.seq (.reg [r (.assign (k 1))] [(5,0)]) (.block 2 (.loop (.seq (.seq (.reg [.get 5,.get 4,r (ln t0 26),r (bo .lss 3 t2 t0 3)] [(32,0)]) (.cond t32 (.skip) (.exit 2))) (.seq (.block 3 (.seq (.reg [.get 4,.get 5,r (ia 26 t1 t0),r (ld 9 t0),.get 4,.get 5,
 r (bo .sub 3 t0 (k 1) 3),r (ia 26 t2 t0),r (ld 9 t0),r (bo .neq 9 t5 t0 9)] [(44,0)]) (.cond t44 (.seq (.reg [.get 0,.get 3,.get 4,.get 5,r (ia 26 t1 t0),r (ld 9 t0),r (ia 26 t5 t4),r (.store 9 t0 t1)] []) (.reg [.get 3,r (bo .add 3 t0 (k 1) 3)] [(3,0)])) (.skip)))) (.reg [.get 5,r (bo .add 3 t0 (k 1) 3)] [(5,0)])))))) (.seq (.reg [.get 0,.get 3,r (.slice 26 t1 (some t0) none none),r (.call ⟨.builtin .clear,#[t0],#[26]⟩)] []) (.seq (.reg [.get 0,.get 3,r (.slice 26 t1 none (some t0) none)] [(2,0)]) (.ret))))) (.skip)))) (.reg [.get 3,r (bo .add 3 t0 (k 1) 3)] [(3,0)])))))) (.seq (.reg [.get 0] [(2,0)]) (.ret))))
theorem fp_slices_Compact_s_string_string:Fp V 78 Tryz.f78 P_slices_Compact_s_string_string:=.of
abbrev F_slices_ContainsFunc_s_string_string:FuncId:=79
def P_slices_ContainsFunc_s_string_string:PC :=
.seq (.reg [r (.assign kF)] [(4,0)]) (.seq (.reg [.get 0,.get 1,r (cf 98 #[t1,t0] #[26,103]),r (bo .geq 3 t0 (k 0) 3)] [(4,0)]) (.ret))
theorem fp_slices_ContainsFunc_s_string_string:Fp V 79 Tryz.f79 P_slices_ContainsFunc_s_string_string:=.of
noncomputable def Lc.slices_ContainsFunc_s_string_string {O vs H R}:=@Fp.lq V O 79 Tryz.f79 P_slices_ContainsFunc_s_string_string vs H R fp_slices_ContainsFunc_s_string_string
abbrev F_code_named_q1:FuncId:=80
def P_code_named_q1:PC :=
.seq (.reg [r (.assign kF)] [(2,0)]) (.seq (.reg [.get 0,r (cf 81 #[t0] #[9]),r (.unOp .not 4 t0)] [(2,0)]) (.ret))
theorem fp_code_named_q1:Fp V 80 Tryz.f80 P_code_named_q1:=.of
theorem fn_code_named_q1:V.F 80=some Tryz.f80:=fp_code_named_q1.1
noncomputable def Lc.code_named_q1 {O vs H R}:=@Fp.lq V O 80 Tryz.f80 P_code_named_q1 vs H R fp_code_named_q1
abbrev F_slices_IndexFunc_s_api_Mem_api_Mem:FuncId:=82
def P_slices_IndexFunc_s_api_Mem_api_Mem:PC :=
.seq (.reg [r (.assign (k 0))] [(4,0)]) (.seq (.seq (.reg [.get 0,r (ln t0 25),r (.move (k 0))] [(8,0),(7,1)]) (.block 0 (.loop (.seq (.reg [r (bo .lss 3 g8 g7 3)] [(9,0)]) (.seq (.cond t9 (.skip) (.exit 0)) (.seq (.block 1 (.seq (.reg [.get 8] [(5,0)]) (.seq (.reg [.get 1,.get 0,.get 5,r (ia 25 t1 t0),r (ld 60 t0),r (.call ⟨.value t4,#[t0],#[60]⟩)] [(16,0)]) (.cond t16 (.seq (.reg [.get 5] [(4,0)]) (.ret)) (.skip))))) (.reg [r (bo .add 3 g8 (k 1) 3)] [(8,0)]))))))) (.seq (.reg [r (.assign (k (-1)))] [(4,0)]) (.ret)))
theorem fp_slices_IndexFunc_s_api_Mem_api_Mem:Fp V 82 Tryz.f82 P_slices_IndexFunc_s_api_Mem_api_Mem:=.of
noncomputable def Lc.slices_IndexFunc_s_api_Mem_api_Mem {O vs H R}:=@Fp.lq V O 82 Tryz.f82 P_slices_IndexFunc_s_api_Mem_api_Mem vs H R fp_slices_IndexFunc_s_api_Mem_api_Mem
abbrev F_slices_IndexFunc_s_api_Fun_api_Fun:FuncId:=83
def P_slices_IndexFunc_s_api_Fun_api_Fun:PC :=
.seq (.reg [r (.assign (k 0))] [(4,0)]) (.seq (.seq (.reg [.get 0,r (ln t0 72),r (.move (k 0))] [(8,0),(7,1)]) (.block 0 (.loop (.seq (.reg [r (bo .lss 3 g8 g7 3)] [(9,0)]) (.seq (.cond t9 (.skip) (.exit 0)) (.seq (.block 1 (.seq (.reg [.get 8] [(5,0)]) (.seq (.reg [.get 1,.get 0,.get 5,r (ia 72 t1 t0),r (ld 78 t0),r (.call ⟨.value t4,#[t0],#[78]⟩)] [(16,0)]) (.cond t16 (.seq (.reg [.get 5] [(4,0)]) (.ret)) (.skip))))) (.reg [r (bo .add 3 g8 (k 1) 3)] [(8,0)]))))))) (.seq (.reg [r (.assign (k (-1)))] [(4,0)]) (.ret)))
theorem fp_slices_IndexFunc_s_api_Fun_api_Fun:Fp V 83 Tryz.f83 P_slices_IndexFunc_s_api_Fun_api_Fun:=.of
noncomputable def Lc.slices_IndexFunc_s_api_Fun_api_Fun {O vs H R}:=@Fp.lq V O 83 Tryz.f83 P_slices_IndexFunc_s_api_Fun_api_Fun vs H R fp_slices_IndexFunc_s_api_Fun_api_Fun
abbrev F_code_mayFun_q1:FuncId:=84
def P_code_mayFun_q1:PC :=
.seq (.reg [r (.box 47 g0),r (.assign kF)] [(4,0),(3,1)]) (.seq (.reg [r (ld 74 g1),r (ld 78 g2),r (ld 47 g3),r (cf 69 #[t2,t1,t0] #[74,78,47]),r (.unOp .not 4 t0)] [(4,0)]) (.ret))
theorem fp_code_mayFun_q1:Fp V 84 Tryz.f84 P_code_mayFun_q1:=.of
theorem fn_code_mayFun_q1:V.F 84=some Tryz.f84:=fp_code_mayFun_q1.1
noncomputable def Lc.code_mayFun_q1 {O vs H R}:=@Fp.lq V O 84 Tryz.f84 P_code_mayFun_q1 vs H R fp_code_mayFun_q1
abbrev F_code_of:FuncId:=85
def P_code_of:PC :=
.seq (.reg [r (.box 47 g0),r (.alloc 113),r (.assign kF)] [(3,0),(2,1),(1,2)]) (.seq (.seq (.reg [r (fa 47 g1 0),r (ld 5 t0),r (bo .lss 5 t0 (k8 1) 5),rF 0 (fa 47 g1 0),rF 1 (ld 5 t0),rF 2 (.convert 5 3 t0),rF 3 (bo .geq 3 t0 (k 14) 3),r (pk t4 kT t0)] [(12,0)]) (.cond t12 (.seq (.reg [r (.build 113 #[]),r (.store 113 g2 t0),r (.assign kF)] [(3,0)]) (.ret)) (.skip))) (.seq (.reg [r (fa 47 g1 0),r (ld 5 t0),r (ia 133 (.global 2) t0),r (ld 113 t0),r (.store 113 g2 t0),r (.assign kT)] [(3,0)]) (.ret)))
theorem fp_code_of:Fp V 85 Tryz.f85 P_code_of:=.of
noncomputable def Lc.code_of {O vs H R}:=@Fp.lq V O 85 Tryz.f85 P_code_of vs H R fp_code_of
abbrev F_code_SameIns:FuncId:=86
def P_code_SameIns:PC :=
.seq (.reg [r (.box 47 g0),r (.box 47 g1),r (.assign kF)] [(4,0),(3,1),(2,2)]) (.seq (.reg [r (fa 47 g2 0),r (ld 5 t0),r (fa 47 g3 0),r (ld 5 t0),r (bo .eql 5 t2 t0 5),rT 0 (fa 47 g2 1),rT 1 (ld 3 t0),rT 2 (fa 47 g3 1),rT 3 (ld 3 t0),rT 4 (bo .eql 3 t2 t0 3),r (pk t5 t0 kF),rT 0 (fa 47 g2 2),rT 1 (ld 3 t0),rT 2 (fa 47 g3 2),rT 3 (ld 3 t0),rT 4 (bo .eql 3 t2 t0 3),r (pk t5 t0 kF),rT 0 (fa 47 g2 3),rT 1 (ld 3 t0),rT 2 (fa 47 g3 3),rT 3 (ld 3 t0),rT 4 (bo .eql 3 t2 t0 3),r (pk t5 t0 kF),rT 0 (fa 47 g2 4),rT 1 (ld 2 t0),rT 2 (fa 47 g3 4),rT 3 (ld 2 t0),rT 4 (bo .eql 2 t2 t0 2),r (pk t5 t0 kF),rT 0 (fa 47 g2 5),rT 1 (ld 43 t0),rT 2 (fa 47 g3 5),rT 3 (ld 43 t0),rT 4 (cf 54 #[t2,t0] #[43,43]),r (pk t5 t0 kF)] [(4,0)]) (.ret))
theorem fp_code_SameIns:Fp V 86 Tryz.f86 P_code_SameIns:=.of
noncomputable def Lc.code_SameIns {O vs H R}:=@Fp.lq V O 86 Tryz.f86 P_code_SameIns vs H R fp_code_SameIns
abbrev F_code_bare:FuncId:=87
def P_code_bare:PC :=
.seq (.reg [r (.box 113 g0),r (.box 47 g1),r (.alloc 47)] [(4,0),(3,1),(2,2)]) (.seq (.reg [r (fa 47 g3 0),r (.store 5 t0 (k8 0))] []) (.seq (.seq (.reg [r (fa 113 g2 0),r (ld 4 t0)] [(7,0)]) (.cond t7 (.reg [r (fa 47 g3 1),r (.store 3 t0 (k 0))] []) (.skip))) (.seq (.seq (.reg [r (fa 113 g2 1),r (ld 4 t0)] [(10,0)]) (.cond t10 (.reg [r (fa 47 g3 2),r (.store 3 t0 (k 0))] []) (.skip))) (.seq (.seq (.reg [r (fa 113 g2 2),r (ld 4 t0)] [(13,0)]) (.cond t13 (.reg [r (fa 47 g3 3),r (.store 3 t0 (k 0))] []) (.skip))) (.seq (.seq (.reg [r (fa 113 g2 4),r (ld 3 t0),r (bo .neq 3 t0 (k 0) 3)] [(17,0)]) (.cond t17 (.reg [r (fa 47 g3 4),r (.store 2 t0 (k 0))] []) (.skip))) (.seq (.seq (.reg [r (fa 113 g2 4),r (ld 3 t0),r (bo .eql 3 t0 (k 6) 3)] [(21,0)]) (.cond t21 (.reg [r (fa 47 g3 5),r (.store 43 t0 (.const (.slice none 0 0)))] []) (.skip))) (.seq (.reg [r (ld 47 g3),
 r (.store 47 g4 t0)] []) (.ret))))))))
theorem fp_code_bare:Fp V 87 Tryz.f87 P_code_bare:=.of
noncomputable def Lc.code_bare {O vs H R}:=@Fp.lq V O 87 Tryz.f87 P_code_bare vs H R fp_code_bare
abbrev F_code_number:FuncId:=88
def P_code_number:PC :=
.seq (.reg [r (.box 74 g0),r (.box 78 g1),r (.box 113 g2),r (.box 47 g3),r (.assign kF)] [(8,0),(7,1),(6,2),(5,3),(4,4)]) (.seq (.reg [r (fa 47 g7 4),r (ld 2 t0)] [(9,0)]) (.seq (.seq (.reg [r (fa 113 g6 4),r (ld 3 t0)] [(13,0)]) (.block 0 (.seq (.reg [r (bo .eql 3 g13 (k 2) 3)] [(14,0)]) (.cond t14 (.seq (.reg [.get 9,r (bo .eql 2 t0 (k 5) 2),rF 0 (.move g9),rF 1 (bo .eql 2 t0 (k 6) 2),r (pk t2 kT t0)] [(8,0)]) (.ret)) (.seq (.reg [r (bo .eql 3 g13 (k 3) 3)] [(22,0)]) (.cond t22 (.seq (.reg [.get 9,r (bo .geq 2 t0 (k 7) 2),rT 0 (.move g9),rT 1 (bo .leq 2 t0 (k 17) 2),r (pk t2 t0 kF)] [(8,0)]) (.ret)) (.seq (.reg [r (bo .eql 3 g13 (k 4) 3)] [(30,0)]) (.cond t30 (.seq (.reg [.get 9,r (bo .geq 2 t0 (k 0) 2),rT 0 (.move g9),rT 1 (fa 74 g4 0),rT 2 (ld 25 t0),rT 3 (ln t0 25),rT 4 (bo .lss 2 t3 t0 2),r (pk t5 t0 kF)] [(8,
 0)]) (.ret)) (.seq (.reg [r (bo .eql 3 g13 (k 5) 3)] [(41,0)]) (.cond t41 (.seq (.reg [.get 9,r (bo .geq 2 t0 (k 0) 2),rT 0 (.move g9),rT 1 (fa 74 g4 1),rT 2 (ld 26 t0),rT 3 (ln t0 26),rT 4 (bo .lss 2 t3 t0 2),r (pk t5 t0 kF)] [(8,0)]) (.ret)) (.seq (.reg [r (bo .eql 3 g13 (k 7) 3)] [(52,0)]) (.cond t52 (.seq (.reg [.get 9,r (bo .geq 2 t0 (k 0) 2),rT 0 (.move g9),rT 1 (fa 78 g5 4),rT 2 (ld 42 t0),rT 3 (ln t0 42),rT 4 (bo .lss 2 t3 t0 2),r (pk t5 t0 kF)] [(8,0)]) (.ret)) (.seq (.reg [r (bo .eql 3 g13 (k 6) 3)] [(63,0)]) (.cond t63 (.seq (.reg [.get 9,r (bo .geq 2 t0 (k 0) 2),rT 0 (.move g9),rT 1 (fa 74 g4 2),rT 2 (ld 72 t0),rT 3 (ln t0 72),rT 4 (bo .lss 2 t3 t0 2),r (pk t5 t0 kF),rT 0 (fa 74 g4 2),rT 1 (ld 72 t0),rT 2 (.move g9),rT 3 (ia 72 t1 t0),rT 4 (fa 78 t0 1),rT 5 (ld 4 t0),rT 6 (.unOp .not 4 t0),r (pk t7 t0 kF),rT 0 (fa 47 g7 5),rT 1 (ld 43 t0),rT 2 (ln t0 43),
 rT 3 (fa 74 g4 2),rT 4 (ld 72 t0),rT 5 (.move g9),rT 6 (ia 72 t1 t0),rT 7 (fa 78 t0 2),rT 8 (ld 3 t0),rT 9 (bo .eql 3 t6 t0 3),r (pk t10 t0 kF)] [(8,0)]) (.ret)) (.skip))))))))))))))) (.seq (.reg [r (.assign kT)] [(8,0)]) (.ret))))
theorem fp_code_number:Fp V 88 Tryz.f88 P_code_number:=.of
noncomputable def Lc.code_number {O vs H R}:=@Fp.lq V O 88 Tryz.f88 P_code_number vs H R fp_code_number
abbrev F_code_reads:FuncId:=89
def P_code_reads:PC :=
.seq (.reg [r (.box 47 g0),r (.assign (.const .nilFunc))] [(2,0),(1,1)]) (.seq (.reg [r (ld 47 g1),r (cf 85 #[t0] #[47]),r (.extract t0 0),r (.extract t1 1),r (.alloc 113),r (.store 113 t0 t2)] [(3,1)]) (.seq (.reg [r (.buildSlice 43 0 #[])] [(5,0)]) (.seq (.seq (.reg [r (fa 113 g3 1),r (ld 4 t0),rT 0 (fa 113 g3 3),rT 1 (ld 4 t0),rT 2 (.move t0),rT 0 (fa 47 g1 2),rT 1 (ld 3 t0),rT 2 (bo .eql 3 t0 (k (-1)) 3),rT 6 (pk t3 t0 kF),rT 7 (.unOp .not 4 t0),r (pk t8 t0 kF)] [(23,0)]) (.cond t23 (.reg [.get 5,r (fa 47 g1 2),r (ld 3 t0),r (.buildSlice 43 1 #[(0,t0)]),r (ap t3 t0 43 43)] [(5,0)]) (.skip))) (.seq (.seq (.reg [r (fa 113 g3 2),r (ld 4 t0)] [(30,0)]) (.cond t30 (.reg [.get 5,r (fa 47 g1 3),r (ld 3 t0),r (.buildSlice 43 1 #[(0,t0)]),r (ap t3 t0 43 43)] [(5,0)]) (.skip))) (.seq (.seq (.reg [r (fa 113 g3 4),r (ld 3 t0),r (bo .eql 3 t0 (k 6) 3)] [(38,
 0)]) (.cond t38 (.reg [.get 5,r (fa 47 g1 5),r (ld 43 t0),r (ap t2 t0 43 43)] [(5,0)]) (.skip))) (.seq (.reg [.get 5,r (cf 101 #[t0] #[43])] [(2,0)]) (.ret)))))))
theorem fp_code_reads:Fp V 89 Tryz.f89 P_code_reads:=.of
noncomputable def Lc.code_reads {O vs H R}:=@Fp.lq V O 89 Tryz.f89 P_code_reads vs H R fp_code_reads
abbrev F_code_Writes:FuncId:=90
def P_code_Writes:PC :=
.seq (.reg [r (.box 47 g0),r (.assign (k 0)),r (.assign kF)] [(3,0),(2,1),(1,2)]) (.seq (.seq (.reg [r (ld 47 g1),r (cf 85 #[t0] #[47]),r (.extract t0 0),r (.extract t1 1),r (.alloc 113),r (.store 113 t0 t2)] [(5,2),(4,1)]) (.seq (.reg [.get 5,rT 0 (fa 113 g4 0),rT 1 (ld 4 t0),r (pk t2 t0 kF)] [(15,0)]) (.cond t15 (.seq (.reg [r (fa 47 g1 1),r (ld 3 t0),r (.assign kT)] [(3,0),(2,1)]) (.ret)) (.skip)))) (.seq (.reg [r (.assign (k 0)),r (.assign kF)] [(3,0),(2,1)]) (.ret)))
theorem fp_code_Writes:Fp V 90 Tryz.f90 P_code_Writes:=.of
noncomputable def Lc.code_Writes {O vs H R}:=@Fp.lq V O 90 Tryz.f90 P_code_Writes vs H R fp_code_Writes
abbrev F_slices_IndexFunc_s_string_string:FuncId:=98
def P_slices_IndexFunc_s_string_string:PC :=
.seq (.reg [r (.assign (k 0))] [(4,0)]) (.seq (.seq (.reg [.get 0,r (ln t0 26),r (.move (k 0))] [(8,0),(7,1)]) (.block 0 (.loop (.seq (.reg [r (bo .lss 3 g8 g7 3)] [(9,0)]) (.seq (.cond t9 (.skip) (.exit 0)) (.seq (.block 1 (.seq (.reg [.get 8] [(5,0)]) (.seq (.reg [.get 1,.get 0,.get 5,r (ia 26 t1 t0),r (ld 9 t0),r (.call ⟨.value t4,#[t0],#[9]⟩)] [(16,0)]) (.cond t16 (.seq (.reg [.get 5] [(4,0)]) (.ret)) (.skip))))) (.reg [r (bo .add 3 g8 (k 1) 3)] [(8,0)]))))))) (.seq (.reg [r (.assign (k (-1)))] [(4,0)]) (.ret)))
theorem fp_slices_IndexFunc_s_string_string:Fp V 98 Tryz.f98 P_slices_IndexFunc_s_string_string:=.of
noncomputable def Lc.slices_IndexFunc_s_string_string {O vs H R}:=@Fp.lq V O 98 Tryz.f98 P_slices_IndexFunc_s_string_string vs H R fp_slices_IndexFunc_s_string_string
abbrev F_slices_Values_s_int_int:FuncId:=101
def P_slices_Values_s_int_int:PC :=
.seq (.reg [r (.box 43 g0),r (.assign (.const .nilFunc))] [(2,0),(1,1)]) (.seq (.reg [r (.makeFunc (.func 121) #[] #[g1])] [(2,0)]) (.ret))
theorem fp_slices_Values_s_int_int:Fp V 101 Tryz.f101 P_slices_Values_s_int_int:=.of
noncomputable def Lc.slices_Values_s_int_int {O vs H R}:=@Fp.lq V O 101 Tryz.f101 P_slices_Values_s_int_int vs H R fp_slices_Values_s_int_int
abbrev F_slices_Values_s_int_int__q1:FuncId:=121
def P_slices_Values_s_int_int__q1:PC :=
.seq (.reg [r (ld 43 g1),r (ln t0 43),r (.move (k 0))] [(7,0),(6,1),(5,2)]) (.block 0 (.loop (.seq (.reg [r (bo .lss 3 g7 g6 3)] [(8,0)]) (.seq (.cond t8 (.skip) (.exit 0)) (.seq (.block 1 (.seq (.reg [r (ia 43 g5 g7),r (ld 3 t0)] [(4,0)]) (.seq (.reg [.get 0,.get 4,r (.call ⟨.value t1,#[t0],#[3]⟩),r (.unOp .not 4 t0)] [(14,0)]) (.cond t14 (.ret) (.skip))))) (.reg [r (bo .add 3 g7 (k 1) 3)] [(7,0)]))))))
theorem fp_slices_Values_s_int_int__q1:Fp V 121 Tryz.f121 P_slices_Values_s_int_int__q1:=.of
noncomputable def Lc.slices_Values_s_int_int__q1 {O vs H R}:=@Fp.lq V O 121 Tryz.f121 P_slices_Values_s_int_int__q1 vs H R fp_slices_Values_s_int_int__q1
end
section
attribute [local irreducible] WL WP WH W
attribute [local irreducible] V
variable {O:Orc}{H:AH}
def kn:List Nat:=[77,78,100,5]
def NoO (O:Orc):Prop:=∀ f vs H,f∉kn→O f vs H=none
def opC (o:Flo.OpD):List Value:=[.bool o.r,.bool o.a,.bool o.b,.bool o.bare,.int .i64 o.n]
def opV (o:Flo.OpD):Value:=.agg (opC o).toArray
def opsC:List Value:=Flo.opL.flatMap opC
def GH (H:AH):Prop:=2<H.next∧H.obj 2=.row 133 opsC .ro 0 0
theorem GH.fr {H H':AH} (h:GH H) (k:Fr H H'):GH H':=⟨Nat.lt_of_lt_of_le h.1 k.1,(k.2.1 2 h.1).trans h.2⟩
theorem opsC_at (n:Nat) (h:n<14):(opsC.drop (n*5)).take 5=opC (Flo.opD n):=by
 have:n=0∨n=1∨n=2∨n=3∨n=4∨n=5∨n=6∨n=7∨n=8∨n=9∨n=10∨n=11∨n=12∨n=13:=by omega
 rcases this with rfl|rfl|rfl|rfl|rfl|rfl|rfl|rfl|rfl|rfl|rfl|rfl|rfl|rfl<;>rfl
def insV (i:Ins) (va:Value):Value:=.agg (i.cells va).toArray
theorem zero90:te_code_op.zv.cells.toList=[.bool false,.bool false,.bool false,.bool false,.int .i64 0]:=by kernel_rfl
theorem build90:aBuild V.E 113 []=some (.agg #[.bool false,.bool false,.bool false,.bool false,.int .i64 0]):=by kernel_rfl
theorem und5:V.P.underlying 5=some (.int .u8):=by kernel_rfl
theorem und3:V.P.underlying 3=some (.int .i64):=by kernel_rfl
theorem opD_out {op:Int} (h:Flo.isOp op=false) (h0:0≤op):Flo.opD op=⟨false,false,false,false,0⟩:=by
 unfold Flo.isOp at h
 simp only [Bool.not_eq_false',Bool.or_eq_true,decide_eq_true_eq] at h
 rcases h with h|h
 ·have:op=0:=by omega
  subst this;rfl
 ·unfold Flo.opD
  rw [List.getD_eq_getElem?_getD,List.getElem?_eq_none (by simp [Flo.opL];omega)];rfl
theorem of_c (hO:NoO O) (hg:GH H) {i:Ins}{va:Value} (hop:0≤i.op∧i.op<256) :
 ∃ v H',Lc V O F_code_of [insV i va] H v H'∧(v=.tuple #[opV (Flo.opD i.op),.bool (Flo.isOp i.op)]∧Fr H H'):=by
 refine Lc.code_of (hO _ _ _ (by decide)) ?_
 unfold P_code_of
 apply zSeq
 apply zReg
 refine zBox rfl (fun _=>rfl) fun H1 f1 b1 n1=>?_
 refine zAlc E_code_op zero90 fun H2 f2 b2 n2=>?_
 replace b1:=b1.fr f2
 have f12:=f1.trans f2
 have none_:Flo.isOp i.op=false→opV (Flo.opD i.op)=.agg #[.bool false,.bool false,.bool false,.bool false,.int .i64 0]:=fun h=>by rw [opD_out h hop.1];rfl
 have ho:H2.obj 2=.row 133 opsC .ro 0 0:=(hg.fr f12).2
 have hlt:2<H2.next:=(hg.fr f12).1
 cases c1:decide (i.op<1)
 ·cases c2:decide (i.op≥14)
  ·have hn:i.op.toNat<14:=by have:=of_decide_eq_false c1;have:=of_decide_eq_false c2;omega
   have hi:Flo.isOp i.op=true:=by unfold Flo.isOp;rw [c1,c2];rfl
   have e0:i.op=(i.op.toNat:Int):=by omega
   have ha1:aIndex V.E 133 (.pointer (some ⟨2,0,none⟩)) (.int .u8 i.op)=some (.pointer (some ⟨2,0+i.op.toNat*5,none⟩)):=by
    simp only [aIndex,E_14_code_op,E_code_op,te_code_op_size]
    rw [if_pos ⟨by omega,by omega⟩]
   have hr:Rd H2 2 (0+i.op.toNat*5) 5 (opC (Flo.opD i.op)):=by
    have h70:Rd H2 2 0 70 opsC:=Rd.ro hlt ho
    have:=h70.sub (i.op.toNat*5) 5 (by omega)
    rw [opsC_at _ hn,←e0] at this
    exact this
   have hl1:=hr.loadN (V:=V) E_code_op te_code_op_agg te_code_op_size
   repeat first|apply zSeq|apply zReg|refine wN ?_|refine wO ?_|refine wA ?_|refine wL ?_|refine wD O_Ins_Op ?_|refine wB E_uint8 ?_
   refine WL.op (op_conv und5 und3 rfl (m:=i.op) (wrap_i64 (by omega) (by omega))) ?_
   repeat first|apply zSeq|apply zReg|apply zSkp|refine wN ?_|refine wO ?_|refine wR ?_|refine wW ?_|refine wE ?_|refine wD O_Ins_Op ?_|refine wB E_uint8 ?_
   refine zIdx (by unfold V;rfl) rfl ha1 ?_
   refine zLd rfl hl1 ?_
   refine zStB b2 rfl rfl E_code_op (by rw [te_code_op_size];rfl) (by simp [Value.cells,opC,Value.oneCell']) (by simp [Value.cells,opC]) (by simp [Value.cells,opC]) fun H3 f3 b3 n3=>?_
   repeat first|refine wN ?_|refine wA ?_
   refine WP.ret ⟨.inr rfl,_,resL_cell rfl (b3.lN E_code_op te_code_op_agg te_code_op_size) rfl,?_,f12.young f3 (by simp;omega) (by simp)⟩
   rw [hi];rfl
  ·have hi:Flo.isOp i.op=false:=by unfold Flo.isOp;rw [c1,c2];rfl
   repeat first|apply zSeq|apply zReg|refine wN ?_|refine wO ?_|refine wA ?_|refine wL ?_|refine wD O_Ins_Op ?_|refine wB E_uint8 ?_
   refine WL.op (op_conv und5 und3 rfl (m:=i.op) (wrap_i64 (by omega) (by omega))) ?_
   repeat first|apply zSeq|apply zReg|refine wN ?_|refine wO ?_|refine wR ?_|refine wW ?_|refine wT ?_
   refine WL.op (op_build rfl build90) ?_
   refine zStB b2 rfl rfl E_code_op (by rw [te_code_op_size];rfl) rfl (by simp [Value.cells]) (by simp [Value.cells]) fun H3 f3 b3 n3=>?_
   repeat first|refine wN ?_|refine wA ?_
   refine WP.ret ⟨.inr rfl,_,resL_cell rfl (b3.lN E_code_op te_code_op_agg te_code_op_size) rfl,?_,f12.young f3 (by simp;omega) (by simp)⟩
   rw [hi,none_ hi];rfl
 ·have hi:Flo.isOp i.op=false:=by unfold Flo.isOp;rw [c1];rfl
  repeat first|apply zSeq|apply zReg|refine wN ?_|refine wF ?_|refine wA ?_|refine wP ?_|refine wL ?_|refine wt ?_|refine wD O_Ins_Op ?_|refine wB E_uint8 ?_
  refine WL.op (op_build rfl build90) ?_
  refine zStB b2 rfl rfl E_code_op (by rw [te_code_op_size];rfl) rfl (by simp [Value.cells]) (by simp [Value.cells]) fun H3 f3 b3 n3=>?_
  repeat first|refine wN ?_|refine wA ?_
  refine WP.ret ⟨.inr rfl,_,resL_cell rfl (b3.lN E_code_op te_code_op_agg te_code_op_size) rfl,?_,f12.young f3 (by simp;omega) (by simp)⟩
  rw [hi,none_ hi];rfl
end
section
attribute [local irreducible] WL WP WH W
attribute [local irreducible] V
variable {O:Orc}{H:AH}
theorem equal_c (hO:NoO O) {A B:Av}{a b:List Int}{va vb:Value} (h1:IntsR A H va a) (h2:IntsR B H vb b) (hL:a.length≤1000000) :
 Lc V O F_slices_Equal_s_int_int [va,vb] H (.bool (a==b)) H:=by
 refine Lc.of_eq (Lc.slices_Equal_s_int_int (R:=fun u H'=>u=.bool (a==b)∧H'=H) (hO _ _ _ (by decide)) ?_)
 unfold P_slices_Equal_s_int_int
 cases c0:((a.length:Int) != b.length)
 case true =>
  repeat first|apply zSeq|apply zReg|refine wN ?_|refine wG ?_|refine wA ?_|refine wU ?_|refine wT ?_|refine wK (h1.len E_s_int) ?_|refine wK (h2.len E_s_int) ?_
  refine WP.ret ⟨.inr rfl,_,rfl,?_,rfl⟩
  have:(a==b)=false:=by rw [beq_eq_false_iff_ne];rintro rfl;simp at c0
  rw [this];rfl
 have hlen:a.length=b.length:=by have:=bne_eq_false_iff_eq.1 c0;omega
 repeat first|apply zSeq|apply zReg|apply zBlk|apply zSkp|refine wN ?_|refine wG ?_|refine wM ?_|refine wA ?_|refine wU ?_|refine wE ?_|refine wK (h1.len E_s_int) ?_|refine wK (h2.len E_s_int) ?_
 refine WP.loopH (σ:=Nat) (fun i=>[(0,va),(1,vb),(12,.int .i64 a.length),(13,.int .i64 i)]) (fun i H'=>H'=H∧i≤a.length∧a.take i=b.take i) (fun i=>a.length-i) 0 ⟨rfl,Nat.zero_le _,rfl⟩ ⟨rfl,rfl,rfl,rfl,trivial⟩ ?_
 rintro i Hy ⟨hy,hi,he⟩
 replace hy:=hy.symm
 subst hy
 rcases Nat.lt_or_ge i a.length with h|h
 ·have g1:decide ((i:Int)<a.length)=true:=dT
  obtain ⟨b1,o1,ha1,hl1⟩:=h1.at E_s_int E_int (kd:=.i64) h
  obtain ⟨b2,o2,ha2,hl2⟩:=h2.at E_s_int E_int (kd:=.i64) (i:=i) (by omega)
  cases c1:a[i] != b[i]'(by omega)
  ·repeat first|apply zSeq|apply zReg|apply zBlk|apply zSkp|refine wN ?_|refine wG ?_|refine wL ?_|refine wU ?_|refine wS ?_|refine wT ?_|refine wE ?_|refine zIdx rfl rfl ha1 ?_|refine zIdx rfl rfl ha2 ?_|refine zLd rfl hl1 ?_|refine zLd rfl hl2 ?_
   refine ⟨i+1,⟨rfl,h,?_⟩,by omega,rfl,rfl,rfl,rfl,trivial⟩
   rw [List.take_add_one,List.take_add_one,he,List.getElem?_eq_getElem h,List.getElem?_eq_getElem (by omega),bne_eq_false_iff_eq.1 c1]
  ·repeat first|apply zSeq|apply zReg|apply zBlk|apply zSkp|refine wN ?_|refine wG ?_|refine wA ?_|refine wL ?_|refine wU ?_|refine wT ?_|refine zIdx rfl rfl ha1 ?_|refine zIdx rfl rfl ha2 ?_|refine zLd rfl hl1 ?_|refine zLd rfl hl2 ?_
   refine WP.ret ⟨.inr rfl,_,rfl,?_,rfl⟩
   have:(a==b)=false:=by
    rw [beq_eq_false_iff_ne];rintro rfl;simp at c1
   rw [this];rfl
 ·have g1:decide ((i:Int)<a.length)=false:=dF
  repeat first|apply zSeq|apply zReg|apply zExt|refine wN ?_|refine wA ?_|refine wL ?_|refine wE ?_
  refine WP.ret ⟨.inr rfl,_,rfl,?_,rfl⟩
  rw [List.take_of_length_le (by omega),List.take_of_length_le (by omega)] at he
  rw [he,beq_self_eq_true];rfl
def sameB (i j:Ins):Bool:=i.op==j.op&&(i.r==j.r&&(i.a==j.a&&(i.b==j.b&&(i.n==j.n&&i.args==j.args))))
theorem sameB_iff {i j:Ins}:sameB i j=true↔i=j:=by
 unfold sameB
 cases i;cases j
 simp
theorem codeSame_c (hO:NoO O) {A B:Av}{i j:Ins}{va vb:Value} (h1:IntsR A H va i.args) (h2:IntsR B H vb j.args) (hL:i.args.length≤1000000) :
  ∃ v H',Lc V O F_code_SameIns [insV i va,insV j vb] H v H'∧(v=.bool (sameB i j)∧Fr H H'):=by
 refine Lc.code_SameIns (hO _ _ _ (by decide)) ?_
 unfold P_code_SameIns
 apply zSeq
 apply zReg
 refine zBox rfl (fun _=>rfl) fun H1 f1 b1 n1=>?_
 refine zBox rfl (fun _=>rfl) fun H2 f2 b2 n2=>?_
 replace b1:=b1.fr f2
 have f12:=f1.trans f2
 cases c1:i.op==j.op
 ·repeat first|apply zSeq|apply zReg|refine wN ?_|refine wx ?_|refine wF ?_|refine wA ?_|refine wq ?_|refine wR ?_|refine wQ ?_|refine wD O_Ins_Op ?_|refine wB E_uint8 ?_
  exact WP.ret ⟨.inr rfl,_,rfl,by unfold sameB;rw [c1];rfl,f12⟩
 cases c2:i.r==j.r
 ·repeat first|apply zSeq|apply zReg|refine wN ?_|refine wx ?_|refine wO ?_|refine wF ?_|refine wA ?_|refine wq ?_|refine wP ?_|refine wR ?_|refine wQ ?_|refine wD O_Ins_Op ?_|refine wD O_Ins_R ?_|refine wB E_int ?_|refine wB E_uint8 ?_
  exact WP.ret ⟨.inr rfl,_,rfl,by unfold sameB;rw [c1,c2];rfl,f12⟩
 cases c3:i.a==j.a
 ·repeat first|apply zSeq|apply zReg|refine wN ?_|refine wx ?_|refine wO ?_|refine wF ?_|refine wA ?_|refine wq ?_|refine wP ?_|refine wR ?_|refine wQ ?_|refine wD O_Ins_Op ?_|refine wD O_Ins_R ?_|refine wD O_Ins_A ?_|refine wB E_int ?_|refine wB E_uint8 ?_
  exact WP.ret ⟨.inr rfl,_,rfl,by unfold sameB;rw [c1,c2,c3];rfl,f12⟩
 cases c4:i.b==j.b
 ·repeat first|apply zSeq|apply zReg|refine wN ?_|refine wx ?_|refine wO ?_|refine wF ?_|refine wA ?_|refine wq ?_|refine wP ?_|refine wR ?_|refine wQ ?_|refine wD O_Ins_Op ?_|refine wD O_Ins_R ?_|refine wD O_Ins_A ?_|refine wD O_Ins_B ?_|refine wB E_int ?_|refine wB E_uint8 ?_
  exact WP.ret ⟨.inr rfl,_,rfl,by unfold sameB;rw [c1,c2,c3,c4];rfl,f12⟩
 cases c5:i.n==j.n
 ·repeat first|apply zSeq|apply zReg|refine wN ?_|refine wO ?_|refine wF ?_|refine wA ?_|refine wP ?_|refine wR ?_|refine wQ ?_|refine wD O_Ins_Op ?_|refine wD O_Ins_R ?_|refine wD O_Ins_A ?_|refine wD O_Ins_B ?_|refine wD O_Ins_N ?_|refine wB E_int ?_|refine wB E_int64 ?_|refine wB E_uint8 ?_
  exact WP.ret ⟨.inr rfl,_,rfl,by unfold sameB;rw [c1,c2,c3,c4,c5];rfl,f12⟩
 repeat first|apply zSeq|apply zReg|refine wN ?_|refine wO ?_|refine wA ?_|refine wP ?_|refine wQ ?_|refine wD O_Ins_Op ?_|refine wD O_Ins_R ?_|refine wD O_Ins_A ?_|refine wD O_Ins_B ?_|refine wD O_Ins_N ?_|refine wD O_Ins_Args ?_|refine wB E_int ?_|refine wB E_int64 ?_|refine wB E_uint8 ?_|refine wB E_s_int ?_
 refine WL.call rfl rfl fp_slices_Equal_s_int_int.is (equal_c hO (h1.fr f12) (h2.fr f12) hL) ?_
 repeat first|refine wN ?_|refine wP ?_
 exact WP.ret ⟨.inr rfl,_,rfl,by unfold sameB;rw [c1,c2,c3,c4,c5];rfl,f12⟩
end
section
attribute [local irreducible] WL WP WH W
attribute [local irreducible] V
variable {O:Orc}{H:AH}
theorem zero39:te_Ins.zv.cells.toList=[.int .u8 0,.int .i64 0,.int .i64 0,.int .i64 0,.int .i64 0,.slice none 0 0]:=by kernel_rfl
def bareI (o:Flo.OpD) (i:Ins):Ins:=⟨0,if o.r then 0 else i.r,if o.a then 0 else i.a,if o.b then 0 else i.b,if (o.n != 0)=true then 0 else i.n,if (o.n==6)=true then [] else i.args⟩
def BareI (H0:AH) (x y z:Nat) (o:Flo.OpD) (cs:List Value) (Hc:AH):Prop:=
 FrX [y] [] H0 Hc∧Bx Hc x 113 (opC o)∧Bx Hc y 47 cs∧Bx Hc z 47 [.int .u8 0,.int .i64 0,.int .i64 0,.int .i64 0,.int .i64 0,.slice none 0 0]
theorem BareI.put {H0 Hc H1:AH}{x y z:Nat}{o:Flo.OpD}{cs ds:List Value} (h:BareI H0 x y z o cs Hc) (hx:x<y) (hz:y<z) (k:FrX [y] [] Hc H1) (hb:Bx H1 y 47 ds):BareI H0 x y z o ds H1:=
 ⟨h.1.trans k (fun b hb _=>hb) (fun b hb _=>hb),h.2.1.frX k (by simp;omega),hb,h.2.2.2.frX k (by simp;omega)⟩
set_option maxHeartbeats 1000000 in
theorem bare_c (hO:NoO O) {o:Flo.OpD}{i:Ins}{va:Value} (hva:Value.oneCell' va=true) :
  ∃ v H',Lc V O F_code_bare [opV o,insV i va] H v H'∧(v=insV (bareI o i) (if (o.n==6)=true then .slice none 0 0 else va)∧Fr H H'):=by
 refine Lc.code_bare (hO _ _ _ (by decide)) ?_
 unfold P_code_bare
 apply zSeq
 apply zReg
 refine zBox rfl (fun _=>rfl) fun H1 f1 b1 n1=>?_
 refine zBox rfl (fun _=>rfl) fun H2 f2 b2 n2=>?_
 refine zAlc E_Ins zero39 fun H3 f3 b3 n3=>?_
 replace b1:=(b1.fr f2).fr f3
 replace b2:=b2.fr f3
 have f13:=(f1.trans f2).trans f3
 have hx:H.next<H1.next:=by omega
 have hz:H1.next<H2.next:=by omega
 refine wN ?_
 apply zSeq
 apply zReg
 refine wD O_Ins_Op ?_
 refine zStB b2 rfl rfl E_uint8 rfl rfl (by simp [Value.cells]) (by simp [Value.cells,insV,Ins.cells]) fun H4 f4 b4 n4=>?_
 have q:BareI H3 H.next H1.next H2.next o (Ins.cells { i with op:=0 } va) H4:=⟨f4,b1.frX f4 (by simp;omega),b4,b3.frX f4 (by simp;omega)⟩
 clear b1 b2 b3 b4 f4 n4
 refine wN ?_
 refine WP.seqS (σ:=Unit) (fun _=>[(2,.pointer (some ⟨H.next,0,none⟩)),(3,.pointer (some ⟨H1.next,0,none⟩)),(4,.pointer (some ⟨H2.next,0,none⟩))]) (fun _ Hc=>BareI H3 H.next H1.next H2.next o (Ins.cells { i with op:=0,r:=if o.r then 0 else i.r } va) Hc) ?_ ?_
 ·have b1:=q.2.1
  have b2:=q.2.2.1
  cases c:o.r
  ·repeat first|apply zSeq|apply zReg|apply zSkp|refine wN ?_|refine wE ?_|refine wD O_code_op_r ?_|refine wB E_bool ?_
   exact ⟨(),q,rfl,rfl,rfl,trivial⟩
  ·repeat first|apply zSeq|apply zReg|refine wN ?_|refine wT ?_|refine wD O_Ins_R ?_|refine wD O_code_op_r ?_|refine wB E_bool ?_
   refine zStB b2 rfl rfl E_int rfl rfl (by simp [Value.cells]) (by simp [Value.cells,Ins.cells]) fun H5 f5 b5 n5=>?_
   repeat first|refine wN ?_
   exact ⟨(),q.put hx hz f5 b5,rfl,rfl,rfl,trivial⟩
 rintro _ H5 q
 refine WP.seqS (σ:=Unit) (fun _=>[(2,.pointer (some ⟨H.next,0,none⟩)),(3,.pointer (some ⟨H1.next,0,none⟩)),(4,.pointer (some ⟨H2.next,0,none⟩))]) (fun _ Hc=>BareI H3 H.next H1.next H2.next o (Ins.cells { i with op:=0,r:=if o.r then 0 else i.r,a:=if o.a then 0 else i.a } va) Hc) ?_ ?_
 ·have b1:=q.2.1
  have b2:=q.2.2.1
  cases c:o.a
  ·repeat first|apply zSeq|apply zReg|apply zSkp|refine wN ?_|refine wE ?_|refine wD O_code_op_a ?_|refine wB E_bool ?_
   exact ⟨(),q,rfl,rfl,rfl,trivial⟩
  ·repeat first|apply zSeq|apply zReg|refine wN ?_|refine wT ?_|refine wD O_Ins_A ?_|refine wD O_code_op_a ?_|refine wB E_bool ?_
   refine zStB b2 rfl rfl E_int rfl rfl (by simp [Value.cells]) (by simp [Value.cells,Ins.cells]) fun H5 f5 b5 n5=>?_
   repeat first|refine wN ?_
   exact ⟨(),q.put hx hz f5 b5,rfl,rfl,rfl,trivial⟩
 rintro _ H6 q
 refine WP.seqS (σ:=Unit) (fun _=>[(2,.pointer (some ⟨H.next,0,none⟩)),(3,.pointer (some ⟨H1.next,0,none⟩)),(4,.pointer (some ⟨H2.next,0,none⟩))]) (fun _ Hc=>BareI H3 H.next H1.next H2.next o (Ins.cells { i with op:=0,r:=if o.r then 0 else i.r,a:=if o.a then 0 else i.a,b:=if o.b then 0 else i.b } va) Hc) ?_ ?_
 ·have b1:=q.2.1
  have b2:=q.2.2.1
  cases c:o.b
  ·repeat first|apply zSeq|apply zReg|apply zSkp|refine wN ?_|refine wE ?_|refine wD O_code_op_b ?_|refine wB E_bool ?_
   exact ⟨(),q,rfl,rfl,rfl,trivial⟩
  ·repeat first|apply zSeq|apply zReg|refine wN ?_|refine wT ?_|refine wD O_Ins_B ?_|refine wD O_code_op_b ?_|refine wB E_bool ?_
   refine zStB b2 rfl rfl E_int rfl rfl (by simp [Value.cells]) (by simp [Value.cells,Ins.cells]) fun H5 f5 b5 n5=>?_
   repeat first|refine wN ?_
   exact ⟨(),q.put hx hz f5 b5,rfl,rfl,rfl,trivial⟩
 rintro _ H7 q
 refine WP.seqS (σ:=Unit) (fun _=>[(2,.pointer (some ⟨H.next,0,none⟩)),(3,.pointer (some ⟨H1.next,0,none⟩)),(4,.pointer (some ⟨H2.next,0,none⟩))]) (fun _ Hc=>BareI H3 H.next H1.next H2.next o (Ins.cells { i with op:=0,r:=if o.r then 0 else i.r,a:=if o.a then 0 else i.a,b:=if o.b then 0 else i.b,n:=if (o.n != 0)=true then 0 else i.n } va) Hc) ?_ ?_
 ·have b1:=q.2.1
  have b2:=q.2.2.1
  cases c:o.n != 0
  ·repeat first|apply zSeq|apply zReg|apply zSkp|refine wN ?_|refine wU ?_|refine wE ?_|refine wD O_code_op_n ?_|refine wB E_int ?_
   exact ⟨(),q,rfl,rfl,rfl,trivial⟩
  ·repeat first|apply zSeq|apply zReg|refine wN ?_|refine wU ?_|refine wT ?_|refine wD O_Ins_N ?_|refine wD O_code_op_n ?_|refine wB E_int ?_
   refine zStB b2 rfl rfl E_int64 rfl rfl (by simp [Value.cells]) (by simp [Value.cells,Ins.cells]) fun H5 f5 b5 n5=>?_
   repeat first|refine wN ?_
   exact ⟨(),q.put hx hz f5 b5,rfl,rfl,rfl,trivial⟩
 rintro _ H8 q
 refine WP.seqS (σ:=Unit) (fun _=>[(2,.pointer (some ⟨H.next,0,none⟩)),(3,.pointer (some ⟨H1.next,0,none⟩)),(4,.pointer (some ⟨H2.next,0,none⟩))]) (fun _ Hc=>BareI H3 H.next H1.next H2.next o ((bareI o i).cells (if (o.n==6)=true then .slice none 0 0 else va)) Hc) ?_ ?_
 ·have b1:=q.2.1
  have b2:=q.2.2.1
  cases c:o.n==6
  ·repeat first|apply zSeq|apply zReg|apply zSkp|refine wN ?_|refine wQ ?_|refine wE ?_|refine wD O_code_op_n ?_|refine wB E_int ?_
   exact ⟨(),by unfold bareI;rw [c];exact q,rfl,rfl,rfl,trivial⟩
  ·repeat first|apply zSeq|apply zReg|refine wN ?_|refine wQ ?_|refine wT ?_|refine wD O_Ins_Args ?_|refine wD O_code_op_n ?_|refine wB E_int ?_
   refine zStB b2 rfl rfl E_s_int rfl rfl (by simp [Value.cells]) (by simp [Value.cells,Ins.cells]) fun H5 f5 b5 n5=>?_
   repeat first|refine wN ?_
   exact ⟨(),by have:=q.put hx hz f5 b5;unfold bareI;rw [c];exact this,rfl,rfl,rfl,trivial⟩
 rintro _ H9 q
 have b2:=q.2.2.1
 have b3:=q.2.2.2
 repeat first|apply zSeq|apply zReg
 refine zLd rfl (b2.lN E_Ins te_Ins_agg te_Ins_size) ?_
 refine zStB b3 rfl rfl E_Ins (by rw [te_Ins_size];rfl) ?_ (by simp [Value.cells,Ins.cells]) (by simp [Value.cells,Ins.cells]) fun H10 f10 b10 n10=>?_
 ·cases c:o.n==6<;>simp [Value.cells,Ins.cells,Value.oneCell']<;>exact hva
 repeat first|refine wN ?_
 exact WP.ret ⟨.inr rfl,_,resL_cell rfl (b10.lN E_Ins te_Ins_agg te_Ins_size) rfl,rfl,(f13.young q.1 (by simp;omega) (by simp)).young f10 (by simp;omega) (by simp)⟩
def numG (p:Prog) (f:Fun) (k:Int) (i:Ins):Bool :=
 if (k==2)=true then i.n==5||i.n==6
 else if (k==3)=true then decide (i.n≥7)&&decide (i.n≤17)
 else if (k==4)=true then decide (i.n≥0)&&decide (i.n<p.mems.length)
 else if (k==5)=true then decide (i.n≥0)&&decide (i.n<p.locks.length)
 else if (k==7)=true then decide (i.n≥0)&&decide (i.n<f.code.length)
 else if (k==6)=true then decide (i.n≥0)&&(decide (i.n<p.funs.length)&&match p.funs[i.n.toNat]? with
    | some g=>!g.thread&&(i.args.length:Int)==g.params
    | none=>false)
 else true
set_option maxHeartbeats 1000000 in
theorem number_c (hO:NoO O) {A B C:Av}{p:Prog}{f:Fun}{o:Flo.OpD}{i:Ins}{va vc vm vl vf:Value} (hm:Els 3 MemR A H vm p.mems) (hl:Els 1 StrR A H vl p.locks) (hf:Els 5 FunR A H vf p.funs) (hc:Els 6 InsR B H vc f.code) (hv:IntsR C H va i.args) :
  ∃ v H',Lc V O F_code_number [.agg #[vm,vl,vf],.agg (f.cells vc).toArray,opV o,insV i va] H v H'∧(v=.bool (numG p f o.n i)∧Fr H H'):=by
 refine Lc.code_number (hO _ _ _ (by decide)) ?_
 unfold P_code_number
 apply zSeq
 apply zReg
 refine zBox rfl (fun _=>rfl) fun H1 f1 b1 n1=>?_
 refine zBox rfl (fun _=>rfl) fun H2 f2 b2 n2=>?_
 refine zBox rfl (fun _=>rfl) fun H3 f3 b3 n3=>?_
 refine zBox rfl (fun _=>rfl) fun H4 f4 b4 n4=>?_
 replace b1:=((b1.fr f2).fr f3).fr f4
 replace b2:=(b2.fr f3).fr f4
 replace b3:=b3.fr f4
 have f14:=((f1.trans f2).trans f3).trans f4
 replace hf:=hf.fr FunR.m f14
 clear f1 f2 f3 f4
 cases k2:o.n==2
 case true=>
  cases c1:i.n==5
  ·repeat first|apply zSeq|apply zReg|apply zBlk|refine wN ?_|refine wG ?_|refine wO ?_|refine wM ?_|refine wA ?_|refine wR ?_|refine wQ ?_|refine wT ?_|refine wD O_Ins_N ?_|refine wD O_code_op_n ?_|refine wB E_int ?_|refine wB E_int64 ?_
   exact WP.ret ⟨.inr rfl,_,rfl,by unfold numG;rw [if_pos k2,c1];rfl,f14⟩
  ·repeat first|apply zSeq|apply zReg|apply zBlk|refine wN ?_|refine wG ?_|refine wF ?_|refine wA ?_|refine wP ?_|refine wQ ?_|refine wT ?_|refine wD O_Ins_N ?_|refine wD O_code_op_n ?_|refine wB E_int ?_|refine wB E_int64 ?_
   exact WP.ret ⟨.inr rfl,_,rfl,by unfold numG;rw [if_pos k2,c1];rfl,f14⟩
 cases k3:o.n==3
 case true=>
  cases c1:decide (i.n≥7)
  ·repeat first|apply zSeq|apply zReg|apply zBlk|refine wN ?_|refine wG ?_|refine wF ?_|refine wA ?_|refine wR ?_|refine wW ?_|refine wQ ?_|refine wT ?_|refine wE ?_|refine wD O_Ins_N ?_|refine wD O_code_op_n ?_|refine wB E_int ?_|refine wB E_int64 ?_
   exact WP.ret ⟨.inr rfl,_,rfl,by unfold numG;rw [if_neg (by rw [k2];decide),if_pos k3,c1];rfl,f14⟩
  ·repeat first|apply zSeq|apply zReg|apply zBlk|refine wN ?_|refine wG ?_|refine wO ?_|refine wM ?_|refine wA ?_|refine wP ?_|refine zLeq rfl rfl ?_|refine wW ?_|refine wQ ?_|refine wT ?_|refine wE ?_|refine wD O_Ins_N ?_|refine wD O_code_op_n ?_|refine wB E_int ?_|refine wB E_int64 ?_
   exact WP.ret ⟨.inr rfl,_,rfl,by unfold numG;rw [if_neg (by rw [k2];decide),if_pos k3,c1];rfl,f14⟩
 cases k4:o.n==4
 case true=>
  cases c1:decide (i.n≥0)
  ·repeat first|apply zSeq|apply zReg|apply zBlk|refine wN ?_|refine wG ?_|refine wF ?_|refine wA ?_|refine wR ?_|refine wW ?_|refine wQ ?_|refine wT ?_|refine wE ?_|refine wD O_Ins_N ?_|refine wD O_code_op_n ?_|refine wB E_int ?_|refine wB E_int64 ?_
   exact WP.ret ⟨.inr rfl,_,rfl,by unfold numG;rw [if_neg (by rw [k2];decide),if_neg (by rw [k3];decide),if_pos k4,c1];rfl,f14⟩
  ·repeat first|apply zSeq|apply zReg|apply zBlk|refine wN ?_|refine wG ?_|refine wO ?_|refine wM ?_|refine wA ?_|refine wP ?_|refine wL ?_|refine wW ?_|refine wQ ?_|refine wT ?_|refine wE ?_|refine wD O_Ins_N ?_|refine wD O_code_op_n ?_|refine wD O_Prog_Mems ?_|refine wB E_int ?_|refine wB E_int64 ?_|refine wB E_s_api_Mem ?_|refine wK (hm.len E_s_api_Mem) ?_
   exact WP.ret ⟨.inr rfl,_,rfl,by unfold numG;rw [if_neg (by rw [k2];decide),if_neg (by rw [k3];decide),if_pos k4,c1];rfl,f14⟩
 cases k5:o.n==5
 case true=>
  cases c1:decide (i.n≥0)
  ·repeat first|apply zSeq|apply zReg|apply zBlk|refine wN ?_|refine wG ?_|refine wF ?_|refine wA ?_|refine wR ?_|refine wW ?_|refine wQ ?_|refine wT ?_|refine wE ?_|refine wD O_Ins_N ?_|refine wD O_code_op_n ?_|refine wB E_int ?_|refine wB E_int64 ?_
   exact WP.ret ⟨.inr rfl,_,rfl,by unfold numG;rw [if_neg (by rw [k2];decide),if_neg (by rw [k3];decide),if_neg (by rw [k4];decide),if_pos k5,c1];rfl,f14⟩
  ·repeat first|apply zSeq|apply zReg|apply zBlk|refine wN ?_|refine wG ?_|refine wO ?_|refine wM ?_|refine wA ?_|refine wP ?_|refine wL ?_|refine wW ?_|refine wQ ?_|refine wT ?_|refine wE ?_|refine wD O_Ins_N ?_|refine wD O_code_op_n ?_|refine wD O_Prog_Locks ?_|refine wB E_int ?_|refine wB E_int64 ?_|refine wB E_s_string ?_|refine wK (hl.len E_s_string) ?_
   exact WP.ret ⟨.inr rfl,_,rfl,by unfold numG;rw [if_neg (by rw [k2];decide),if_neg (by rw [k3];decide),if_neg (by rw [k4];decide),if_pos k5,c1];rfl,f14⟩
 cases k7:o.n==7
 case true=>
  cases c1:decide (i.n≥0)
  ·repeat first|apply zSeq|apply zReg|apply zBlk|refine wN ?_|refine wG ?_|refine wF ?_|refine wA ?_|refine wR ?_|refine wW ?_|refine wQ ?_|refine wT ?_|refine wE ?_|refine wD O_Ins_N ?_|refine wD O_code_op_n ?_|refine wB E_int ?_|refine wB E_int64 ?_
   exact WP.ret ⟨.inr rfl,_,rfl,by unfold numG;rw [if_neg (by rw [k2];decide),if_neg (by rw [k3];decide),if_neg (by rw [k4];decide),if_neg (by rw [k5];decide),if_pos k7,c1];rfl,f14⟩
  ·repeat first|apply zSeq|apply zReg|apply zBlk|refine wN ?_|refine wG ?_|refine wO ?_|refine wM ?_|refine wA ?_|refine wP ?_|refine wL ?_|refine wW ?_|refine wQ ?_|refine wT ?_|refine wE ?_|refine wD O_Ins_N ?_|refine wD O_code_op_n ?_|refine wD O_Fun_Code ?_|refine wB E_int ?_|refine wB E_int64 ?_|refine wB E_s_api_Ins ?_|refine wK (hc.len E_s_api_Ins) ?_
   exact WP.ret ⟨.inr rfl,_,rfl,by unfold numG;rw [if_neg (by rw [k2];decide),if_neg (by rw [k3];decide),if_neg (by rw [k4];decide),if_neg (by rw [k5];decide),if_pos k7,c1];rfl,f14⟩
 have e0:numG p f o.n i=if (o.n==6)=true then decide (i.n≥0)&&(decide (i.n<p.funs.length)&&match p.funs[i.n.toNat]? with
  | some g=>!g.thread&&(i.args.length:Int)==g.params
  | none=>false) else true:=by
  unfold numG
  rw [if_neg (by rw [k2];decide),if_neg (by rw [k3];decide),if_neg (by rw [k4];decide),if_neg (by rw [k5];decide),if_neg (by rw [k7];decide)]
 rw [e0]
 clear e0
 cases k6:o.n==6
 case false=>
  repeat first|apply zSeq|apply zReg|apply zBlk|apply zSkp|refine wN ?_|refine wA ?_|refine wQ ?_|refine wE ?_|refine wD O_Ins_N ?_|refine wD O_code_op_n ?_|refine wB E_int ?_|refine wB E_int64 ?_
  exact WP.ret ⟨.inr rfl,_,rfl,by rw [if_neg (by decide)];rfl,f14⟩
 rw [if_pos rfl]
 cases c1:decide (i.n≥0)
 ·repeat first|apply zSeq|apply zReg|apply zBlk|refine wN ?_|refine wG ?_|refine wx ?_|refine wF ?_|refine wA ?_|refine wq ?_|refine wR ?_|refine wW ?_|refine wQ ?_|refine wT ?_|refine wE ?_|refine wD O_Ins_N ?_|refine wD O_code_op_n ?_|refine wB E_int ?_|refine wB E_int64 ?_
  exact WP.ret ⟨.inr rfl,_,rfl,rfl,f14⟩
 cases c2:decide (i.n<p.funs.length)
 ·repeat first|apply zSeq|apply zReg|apply zBlk|refine wN ?_|refine wG ?_|refine wx ?_|refine wO ?_|refine wF ?_|refine wM ?_|refine wA ?_|refine wq ?_|refine wP ?_|refine wR ?_|refine wL ?_|refine wW ?_|refine wQ ?_|refine wT ?_|refine wE ?_|refine wD O_Ins_N ?_|refine wD O_code_op_n ?_|refine wD O_Prog_Funs ?_|refine wB E_int ?_|refine wB E_int64 ?_|refine wB E_s_api_Fun ?_|refine wK (hf.len E_s_api_Fun) ?_
  exact WP.ret ⟨.inr rfl,_,rfl,rfl,f14⟩
 have h0:=of_decide_eq_true c1
 have h1:=of_decide_eq_true c2
 have hlt:i.n.toNat<p.funs.length:=by omega
 obtain ⟨b,off,cs,ha1,hr,vc',rfl,_⟩:=hf.at E_s_api_Fun E_Fun te_Fun_size (kd:=.i64) hlt
 rw [show ((i.n.toNat:Nat):Int)=i.n by omega] at ha1
 have hl1:=(hr.at1 (i:=1) rfl).load1 (V:=V) E_bool rfl
 have hl2:=(hr.at1 (i:=2) rfl).load1 (V:=V) E_int rfl
 rw [List.getElem?_eq_getElem hlt]
 simp only
 cases c3:(p.funs[i.n.toNat]).thread
 ·rw [c3] at hl1
  repeat first|apply zSeq|apply zReg|apply zBlk|refine wN ?_|refine wG ?_|refine wo ?_|refine wO ?_|refine wM ?_|refine wA ?_|refine wp ?_|refine wP ?_|refine wL ?_|refine wW ?_|refine wQ ?_|refine wZ ?_|refine wT ?_|refine wE ?_|refine wD O_Ins_N ?_|refine wD O_Ins_Args ?_|refine wD O_code_op_n ?_|refine wD O_Prog_Funs ?_|refine wD O_Fun_Thread ?_|refine wD O_Fun_Params ?_|refine wB E_int ?_|refine wB E_int64 ?_|refine wB E_s_int ?_|refine wB E_s_api_Fun ?_|refine wK (hf.len E_s_api_Fun) ?_|refine wK (hv.len E_s_int) ?_|refine zIdx rfl rfl ha1 ?_|refine zLd rfl hl1 ?_|refine zLd rfl hl2 ?_
  exact WP.ret ⟨.inr rfl,_,rfl,rfl,f14⟩
 ·rw [c3] at hl1
  repeat first|apply zSeq|apply zReg|apply zBlk|refine wN ?_|refine wG ?_|refine wx ?_|refine wO ?_|refine wM ?_|refine wA ?_|refine wq ?_|refine wP ?_|refine wL ?_|refine wW ?_|refine wQ ?_|refine wZ ?_|refine wT ?_|refine wE ?_|refine wD O_Ins_N ?_|refine wD O_code_op_n ?_|refine wD O_Prog_Funs ?_|refine wD O_Fun_Thread ?_|refine wB E_int ?_|refine wB E_int64 ?_|refine wB E_s_api_Fun ?_|refine wK (hf.len E_s_api_Fun) ?_|refine zIdx rfl rfl ha1 ?_|refine zLd rfl hl1 ?_
  exact WP.ret ⟨.inr rfl,_,rfl,rfl,f14⟩
end
section
attribute [local irreducible] WL WP WH W
attribute [local irreducible] V
variable {O:Orc}{H:AH}
theorem values_it (hO:NoO O) {A:Av}{b c:Nat}{v:Value}{l:List Int} (hL:l.length≤1000000) (hbx:Bx H c 43 [v]) (I:Nat→AH→Prop) (J:AH→Prop) (h0:I 0 H) (hr:∀ k Hc,I k Hc→IntsR A Hc v l)
  (step:∀ k (h:k<l.length) Hc,I k Hc→∃ u H',Yd V O b [.int .i64 l[k]] Hc (.bool u) H'∧(u=true→I (k+1) H')∧(u=false→J H')) :
  ∃ w H',Lc V O F_slices_Values_s_int_int__q1 [.func (.yield b) #[] #[],.pointer (some ⟨c,0,none⟩)] H w H'∧(I l.length H'∨J H'):=by
 refine Lc.slices_Values_s_int_int__q1 (hO _ _ _ (by decide)) ?_
 unfold P_slices_Values_s_int_int__q1
 have hv:=hr 0 H h0
 repeat first|apply zSeq|apply zReg|apply zBlk|refine wN ?_|refine wM ?_|refine wB E_s_int ?_|refine wK (hv.len E_s_int) ?_
 refine WP.loopH (σ:=Nat) (fun k=>[(0,.func (.yield b) #[] #[]),(5,v),(6,.int .i64 l.length),(7,.int .i64 k)]) (fun k Hc=>I k Hc∧k≤l.length) (fun k=>l.length-k) 0 ⟨h0,Nat.zero_le _⟩ ⟨rfl,rfl,rfl,rfl,trivial⟩ ?_
 rintro k Hc ⟨hI,hk⟩
 rcases Nat.lt_or_ge k l.length with h|h
 ·have g1:decide ((k:Int)<l.length)=true:=dT
  obtain ⟨b1,o1,ha1,hl1⟩:=(hr k Hc hI).at E_s_int E_int (kd:=.i64) h
  obtain ⟨u,H',hy,h1,h2⟩:=step k h Hc hI
  repeat first|apply zSeq|apply zReg|apply zBlk|apply zSkp|refine wN ?_|refine wG ?_|refine wL ?_|refine wT ?_|refine zIdx rfl rfl ha1 ?_|refine zLd rfl hl1 ?_
  refine WL.yield rfl rfl hy ?_
  cases u
  ·repeat first|refine wN ?_|refine wZ ?_|refine wt ?_
   exact WP.ret ⟨.inr rfl,_,rfl,.inr (h2 rfl)⟩
  ·repeat first|apply zReg|apply zSkp|refine wN ?_|refine wS ?_|refine wZ ?_|refine wf ?_
   exact ⟨k+1,⟨h1 rfl,h⟩,by omega,rfl,rfl,rfl,rfl,trivial⟩
 ·have g1:decide ((k:Int)<l.length)=false:=dF
  obtain rfl:k=l.length:=by omega
  repeat first|apply zSeq|apply zReg|apply zExt|refine wN ?_|refine wL ?_|refine wE ?_
  exact ⟨.inl rfl,_,rfl,.inl hI⟩
theorem values_c (hO:NoO O) (v:Value):∃ w H',Lc V O F_slices_Values_s_int_int [v] H w H'∧(w=.func (.func 121) #[] #[.pointer (some ⟨H.next,0,none⟩)]∧Fr H H'∧Bx H' H.next 43 v.cells.toList):=by
 refine Lc.slices_Values_s_int_int (hO _ _ _ (by decide)) ?_
 unfold P_slices_Values_s_int_int
 apply zSeq
 apply zReg
 refine zBox rfl (fun _=>rfl) fun H1 f1 b1 n1=>?_
 repeat first|apply zSeq|apply zReg|refine wN ?_|refine wA ?_
 refine WL.op rfl ?_
 repeat first|refine wN ?_
 exact WP.ret ⟨.inr rfl,_,rfl,rfl,f1,b1⟩
theorem writes_c (hO:NoO O) (hg:GH H) {i:Ins}{va:Value} (hop:0≤i.op∧i.op<256) :
  ∃ v H',Lc V O F_code_Writes [insV i va] H v H'∧(v=.tuple #[.int .i64 (if (Flo.isOp i.op&&(Flo.opD i.op).r)=true then i.r else 0),.bool (Flo.isOp i.op&&(Flo.opD i.op).r)]∧Fr H H'):=by
 refine Lc.code_Writes (hO _ _ _ (by decide)) ?_
 unfold P_code_Writes
 apply zSeq
 apply zReg
 refine zBox rfl (fun _=>rfl) fun H1 f1 b1 n1=>?_
 repeat first|apply zSeq|apply zReg|refine wN ?_|refine wA ?_
 refine zLd rfl (b1.lN E_Ins te_Ins_agg te_Ins_size) ?_
 obtain ⟨_,H2,hc,rfl,f2⟩:=of_c (va:=va) hO (hg.fr f1) hop
 refine WL.call rfl rfl fp_code_of.is hc ?_
 repeat first|refine zXtr rfl ?_
 refine zAlc E_code_op zero90 fun H3 f3 b3 n3=>?_
 refine zStB b3 rfl rfl E_code_op (by rw [te_code_op_size];rfl) rfl (by simp [Value.cells,opV,opC]) (by simp [Value.cells,opV,opC]) fun H4 f4 b4 n4=>?_
 have b4':Bx H4 H2.next 113 (opC (Flo.opD i.op)):=b4
 have hn2:=f2.1
 replace b1:=((b1.fr f2).fr f3).frX f4 (by simp;omega)
 have f14:Fr H H4:=((f1.trans f2).trans f3).young f4 (by simp;have:=f1.1;omega) (by simp)
 clear b3 b4 f3 f4
 cases c1:Flo.isOp i.op
 ·repeat first|apply zSeq|apply zReg|apply zSkp|refine wN ?_|refine wG ?_|refine wx ?_|refine wA ?_|refine wq ?_|refine wf ?_
  exact WP.ret ⟨.inr rfl,_,rfl,rfl,f14⟩
 ·cases c2:(Flo.opD i.op).r
  ·repeat first|apply zSeq|apply zReg|apply zSkp|refine wN ?_|refine wG ?_|refine wo ?_|refine wA ?_|refine wp ?_|refine wE ?_|refine wD O_code_op_r ?_|refine wB E_bool ?_
   exact WP.ret ⟨.inr rfl,_,rfl,rfl,f14⟩
  ·repeat first|apply zSeq|apply zReg|refine wN ?_|refine wG ?_|refine wo ?_|refine wA ?_|refine wp ?_|refine wT ?_|refine wD O_Ins_R ?_|refine wD O_code_op_r ?_|refine wB E_int ?_|refine wB E_bool ?_
   exact WP.ret ⟨.inr rfl,_,rfl,rfl,f14⟩
def readsG (o:Flo.OpD) (i:Ins):List Int:=
 (if (o.a&&!(o.bare&&i.a==-1))=true then [i.a] else [])++(if o.b=true then [i.b] else [])++if (o.n==6)=true then i.args else []
theorem readsG_len (o:Flo.OpD) (i:Ins):(readsG o i).length≤i.args.length+2:=by
 unfold readsG
 rw [List.length_append,List.length_append]
 have h1:(if (o.a&&!(o.bare&&i.a==-1))=true then [i.a] else []).length≤1:=by split<;>simp
 have h2:(if o.b=true then [i.b] else []).length≤1:=by split<;>simp
 have h3:(if (o.n==6)=true then i.args else []).length≤i.args.length:=by split<;>simp
 omega
set_option maxHeartbeats 1000000 in
theorem reads_c (hO:NoO O) (hg:GH H) {A:Av}{i:Ins}{va:Value} (hva:IntsR A H va i.args) (hL:i.args.length≤100000) (hop:0≤i.op∧i.op<256) :
 ∃ w H',Lc V O F_code_reads [insV i va] H w H'∧(∃ b vl,w=.func (.func 121) #[] #[.pointer (some ⟨b,0,none⟩)]∧Bx H' b 43 [vl]∧IntsR .no H' vl (readsG (Flo.opD i.op) i)∧H.next≤b∧Fr H H'):=by
 refine Lc.code_reads (hO _ _ _ (by decide)) ?_
 unfold P_code_reads
 apply zSeq
 apply zReg
 refine zBox rfl (fun _=>rfl) fun H1 f1 b1 n1=>?_
 repeat first|apply zSeq|apply zReg|refine wN ?_|refine wA ?_
 refine zLd rfl (b1.lN E_Ins te_Ins_agg te_Ins_size) ?_
 obtain ⟨_,H2,hc,rfl,f2⟩:=of_c (va:=va) hO (hg.fr f1) hop
 refine WL.call rfl rfl fp_code_of.is hc ?_
 repeat first|refine zXtr rfl ?_
 refine zAlc E_code_op zero90 fun H3 f3 b3 n3=>?_
 refine zStB b3 rfl rfl E_code_op (by rw [te_code_op_size];rfl) rfl (by simp [Value.cells,opV,opC]) (by simp [Value.cells,opV,opC]) fun H4 f4 b4 n4=>?_
 have b4':Bx H4 H2.next 113 (opC (Flo.opD i.op)):=b4
 have hn2:=f2.1
 replace b1:=((b1.fr f2).fr f3).frX f4 (by simp;omega)
 have f14:Fr H H4:=((f1.trans f2).trans f3).young f4 (by simp;have:=f1.1;omega) (by simp)
 replace hva:=hva.fr f14
 clear b3 b4 f1 f2 f3 f4 hc
 generalize hod:Flo.opD i.op=o at *
 repeat first|refine wN ?_
 apply zSeq
 repeat first|apply zReg
 refine WL.op (op_buildSlice rfl E_s_int E_int (by decide) rfl) ?_
 have f5:=Fr.alloc H4 (.row 3 [] .exact 0 0)
 have w5:OwI 3 (H4.alloc (.row 3 [] .exact 0 0)) H4.next (.slice (some ⟨H4.next,0,none⟩) 0 0) [] (some (H4.next,H4.next)):=.new (Nat.le_refl _)
 repeat first|refine wN ?_
 refine WP.seqS (σ:=Value×Option (Nat×Nat)) (fun x=>[(1,.pointer (some ⟨H.next,0,none⟩)),(3,.pointer (some ⟨H2.next,0,none⟩)),(5,x.1)]) (fun x Hc=>Fr H4 Hc∧OwI 3 Hc H4.next x.1 (if (o.a&&!(o.bare&&i.a==-1))=true then [i.a] else []) x.2) ?_ ?_
 ·replace b1:=b1.fr f5
  replace b4':=b4'.fr f5
  have yes:(o.a&&!(o.bare&&i.a==-1))=true→∃ v' H' o',(∀ {g:Ft}{y w:Operand},g y=some (.slice (some ⟨H4.next,0,none⟩) 0 0)→g w=some (.slice (some ⟨(H4.alloc (.row 3 [] .exact 0 0)).next,0,none⟩) 1 1)→aopG V g ((H4.alloc (.row 3 [] .exact 0 0)).alloc (.row 3 [.int .i64 i.a] .exact 0 0)) (.call ⟨.builtin .append,#[y,w],#[43,43]⟩)=some (v',H'))∧Fr H4 H'∧OwI 3 H' H4.next v' (if (o.a&&!(o.bare&&i.a==-1))=true then [i.a] else []) o':=fun h=>by
   obtain ⟨v',H',o',k1,k2,k3,k4⟩:=w5.app1 (V:=V) i.a (by simp) f5.1 E_s_int E_s_int E_int (by decide)
   exact ⟨v',H',o',k1,f5.young k3 w5.young.1 w5.young.2.1,by rw [if_pos h];exact k2⟩
  cases c1:o.a
  ·repeat first|apply zSeq|apply zReg|apply zSkp|refine wN ?_|refine zU rfl ?_|refine wF ?_|refine wR ?_|refine wf ?_|refine wD O_code_op_a ?_|refine wB E_bool ?_
   exact ⟨(.slice (some ⟨H4.next,0,none⟩) 0 0,some (H4.next,H4.next)),⟨f5,w5⟩,rfl,rfl,rfl,trivial⟩
  ·cases c2:o.bare
   ·obtain ⟨v',H',o',k1,k2,k3⟩:=yes (by rw [c1,c2];rfl)
    rw [c1,c2] at k3
    repeat first|apply zSeq|apply zReg|refine wN ?_|refine wG ?_|refine wO ?_|refine wF ?_|refine wM ?_|refine wP ?_|refine wR ?_|refine wZ ?_|refine wt ?_|refine wD O_Ins_A ?_|refine wD O_code_op_a ?_|refine wD O_code_op_bare ?_|refine wB E_int ?_|refine wB E_bool ?_
    refine WL.op (op_buildSlice rfl E_s_int E_int (by decide) fill_int) ?_
    refine WL.op (k1 rfl rfl) ?_
    repeat first|refine wN ?_
    exact ⟨(v',o'),⟨k2,k3⟩,rfl,rfl,rfl,trivial⟩
   ·cases c3:i.a==-1
    ·obtain ⟨v',H',o',k1,k2,k3⟩:=yes (by rw [c1,c2,c3];rfl)
     rw [c1,c2,c3] at k3
     have c4:(!(i.a==-1))=true:=by rw [c3];rfl
     repeat first|apply zSeq|apply zReg|refine wN ?_|refine wG ?_|refine wO ?_|refine wM ?_|refine wP ?_|refine wQ ?_|refine wZ ?_|refine wT ?_|refine wD O_Ins_A ?_|refine wD O_code_op_a ?_|refine wD O_code_op_bare ?_|refine wB E_int ?_|refine wB E_bool ?_
     refine WL.op (op_buildSlice rfl E_s_int E_int (by decide) fill_int) ?_
     refine WL.op (k1 rfl rfl) ?_
     repeat first|refine wN ?_
     exact ⟨(v',o'),⟨k2,k3⟩,rfl,rfl,rfl,trivial⟩
    ·have c4:(!(i.a==-1))=false:=by rw [c3];rfl
     repeat first|apply zSeq|apply zReg|apply zSkp|refine wN ?_|refine wO ?_|refine wM ?_|refine wP ?_|refine wQ ?_|refine wZ ?_|refine wE ?_|refine wD O_Ins_A ?_|refine wD O_code_op_a ?_|refine wD O_code_op_bare ?_|refine wB E_int ?_|refine wB E_bool ?_
     exact ⟨(.slice (some ⟨H4.next,0,none⟩) 0 0,some (H4.next,H4.next)),⟨f5,w5⟩,rfl,rfl,rfl,trivial⟩
 rintro ⟨v1,o1⟩ H6 ⟨f6,w6⟩
 simp only at f6 w6 ⊢
 clear w5 f5
 generalize hl1:(if (o.a&&!(o.bare&&i.a==-1))=true then [i.a] else [])=l1 at *
 have hl1':l1.length≤1:=by rw [←hl1];split<;>simp
 refine WP.seqS (σ:=Value×Option (Nat×Nat)) (fun x=>[(1,.pointer (some ⟨H.next,0,none⟩)),(3,.pointer (some ⟨H2.next,0,none⟩)),(5,x.1)]) (fun x Hc=>Fr H4 Hc∧OwI 3 Hc H4.next x.1 (l1++if o.b=true then [i.b] else []) x.2) ?_ ?_
 ·replace b1:=b1.fr f6
  replace b4':=b4'.fr f6
  cases c1:o.b
  ·repeat first|apply zSeq|apply zReg|apply zSkp|refine wN ?_|refine wE ?_|refine wD O_code_op_b ?_|refine wB E_bool ?_
   exact ⟨(v1,o1),⟨f6,by simpa using w6⟩,rfl,rfl,rfl,trivial⟩
  ·obtain ⟨v',H',o',k1,k2,k3,k4⟩:=w6.app1 (V:=V) i.b (by omega) f6.1 E_s_int E_s_int E_int (by decide)
   repeat first|apply zSeq|apply zReg|refine wN ?_|refine wG ?_|refine wT ?_|refine wD O_Ins_B ?_|refine wD O_code_op_b ?_|refine wB E_int ?_|refine wB E_bool ?_
   refine WL.op (op_buildSlice rfl E_s_int E_int (by decide) fill_int) ?_
   refine WL.op (k1 rfl rfl) ?_
   repeat first|refine wN ?_
   exact ⟨(v',o'),⟨f6.young k3 w6.young.1 w6.young.2.1,k2⟩,rfl,rfl,rfl,trivial⟩
 rintro ⟨v2,o2⟩ H7 ⟨f7,w7⟩
 simp only at f7 w7 ⊢
 clear w6 f6
 have hl2:(l1++if o.b=true then [i.b] else []).length≤2:=by rw [List.length_append];split<;>simp<;>omega
 refine WP.seqS (σ:=Value×Option (Nat×Nat)) (fun x=>[(5,x.1)]) (fun x Hc=>Fr H4 Hc∧OwI 3 Hc H4.next x.1 (readsG o i) x.2) ?_ ?_
 ·replace b1:=b1.fr f7
  replace b4':=b4'.fr f7
  cases c1:o.n==6
  ·repeat first|apply zSeq|apply zReg|apply zSkp|refine wN ?_|refine wQ ?_|refine wE ?_|refine wD O_code_op_n ?_|refine wB E_int ?_
   refine ⟨(v2,o2),⟨f7,?_⟩,rfl,trivial⟩
   unfold readsG
   rw [c1,hl1];simpa using w7
  ·obtain ⟨v',H',o',k1,k2,k3,k4⟩:=w7.app (V:=V) ((hva.fr f7).sl (by omega)) (by omega) f7.1 E_s_int E_s_int E_int (by decide)
   repeat first|apply zSeq|apply zReg|refine wN ?_|refine wG ?_|refine wQ ?_|refine wT ?_|refine wD O_Ins_Args ?_|refine wD O_code_op_n ?_|refine wB E_int ?_|refine wB E_s_int ?_
   refine WL.op (k1 rfl rfl) ?_
   repeat first|refine wN ?_
   refine ⟨(v',o'),⟨f7.young k3 w7.young.1 w7.young.2.1,?_⟩,rfl,trivial⟩
   unfold readsG
   rw [c1,hl1];exact k2
 rintro ⟨v3,o3⟩ H8 ⟨f8,w8⟩
 simp only at f8 w8 ⊢
 obtain ⟨_,H9,hc,rfl,f9,b9⟩:=values_c (H:=H8) hO v3
 repeat first|apply zSeq|apply zReg|refine wG ?_
 refine WL.call rfl rfl fp_slices_Values_s_int_int.is hc ?_
 repeat first|refine wN ?_
 have hv3:IntsR .no H8 v3 (readsG o i):=w8.rYoung .no
 have e3:v3.cells.toList=[v3]:=by obtain ⟨_,⟨rfl,_⟩|⟨b,off,cap,rfl,_⟩⟩:=hv3<;>rfl
 rw [e3] at b9
 exact WP.ret ⟨.inr rfl,_,rfl,_,v3,rfl,b9,hv3.fr f9,Nat.le_trans (f14.trans f8).1 (Nat.le_refl _),(f14.trans f8).trans f9⟩
end
section
attribute [local irreducible] WL WP WH W
attribute [local irreducible] V
variable {O:Orc}{H:AH}
def zeroI:Ins:=⟨0,0,0,0,0,[]⟩
def okR (regs r:Int):Bool:=!(decide (r<0)||decide (r≥regs))
def mayG (p:Prog) (f:Fun) (i:Ins):Bool:=
 Flo.isOp i.op&&(sameB (bareI (Flo.opD i.op) i) zeroI&&(numG p f (Flo.opD i.op).n i&&((readsG (Flo.opD i.op) i).all (okR f.regs)&&(!(Flo.opD i.op).r||(decide (i.r≥0)&&decide (i.r<f.regs))))))
theorem build39:aBuild V.E 47 []=some (.agg #[.int .u8 0,.int .i64 0,.int .i64 0,.int .i64 0,.int .i64 0,.slice none 0 0]):=by kernel_rfl
theorem bare_args {A:Av}{o:Flo.OpD}{i:Ins}{va:Value} (h:IntsR A H va i.args):IntsR A H (if (o.n==6)=true then .slice none 0 0 else va) (bareI o i).args:=by
 unfold bareI
 cases c:o.n==6
 ·simpa using h
 ·exact Sr.nil
theorem mayRound {n:Nat}{T:PTree Value}{cx cy:Code}{b b4 b6:Nat}{r:Int}{f:Fun}{vc:Value}{Hc:AH} (hn:n=Tryz.f69.ntmps) (ho:Hc.obj b=.loop .ready none n T #[37] cx cy) (hT:Has T [(4,.pointer (some ⟨b4,0,none⟩)),(6,.pointer (some ⟨b6,0,none⟩))])
 (h4:Bx Hc b4 78 (f.cells vc)) (h6:Bx Hc b6 4 [.bool false]) (hb4:b4≠b) (hb6:b6≠b) (hb:b<Hc.next)
 (hx:pcOf V n none cx=some (.reg [.run (.assign (.tmp (far+37))) none] [(9,0)])) (hy:pcOf V n none cy=some (.block 1 (
 .seq (
 .reg [.get 9,
  .run (.binOp .lss 3 (.tmp 0) (.const (.int .i64 0)) 3) none,
  .run (.move (.tmp (far+9))) (some ((.tmp 0),false)),
  .run (.fieldAddr 78 (.tmp (far+4)) 3) (some ((.tmp 1),false)),
  .run (.load 3 (.tmp 0)) (some ((.tmp 2),false)),
  .run (.binOp .geq 3 (.tmp 2) (.tmp 0) 3) (some ((.tmp 3),false)),
  .run (.pick (.tmp 4) (.const (.bool true)) (.tmp 0)) none] [(45,0),(44,1),(43,2),(42,3),(41,4),(40,5),(39,5),(38,6)]) (
 .cond (.tmp 45) (
  .seq (
  .reg [.run (.store 4 (.tmp (far+6)) (.const (.bool false))) none] []) (
  .ret)) (
  .skip))))) (nx:noRF cx=true) (ny:noRF cy=true) :
  ∃ u H',Yd V O b [.int .i64 r] Hc (.bool u) H'∧(u=true→okR f.regs r=true∧FrX [b] [] Hc H'∧H'.obj b=.loop .ready none n T #[37] cx cy)∧(u=false→okR f.regs r=false∧FrX [b,b6] [] Hc H'∧Bx H' b6 4 [.bool false]∧H'.obj b=.loop .done (some .ret) n T #[37] cx cy):=by
 subst hn
 have key:∃ v H',Yd V O b [.int .i64 r] Hc v H'∧∃ u,v=.bool u∧(u=true→okR f.regs r=true∧FrX [b] [] Hc H'∧H'.obj b=.loop .ready none Tryz.f69.ntmps T #[37] cx cy)∧(u=false→okR f.regs r=false∧FrX [b,b6] [] Hc H'∧Bx H' b6 4 [.bool false]∧H'.obj b=.loop .done (some .ret) Tryz.f69.ntmps T #[37] cx cy):=by
  refine Yd.round (l1:=[(37,.int .i64 r),(4,.pointer (some ⟨b4,0,none⟩)),(6,.pointer (some ⟨b6,0,none⟩))]) ho hT ?_ hx hy nx ny ?_
  ·show (if 37<Tryz.f69.ntmps then _ else _)=_
   rw [if_pos (by decide +kernel)];rfl
  apply zReg
  refine wA ?_
  refine WL.nil ⟨_,rfl,rfl,_,_,_,_,_,_,ho,?_⟩
  have b4':=h4.frX (FrX.put (o:=.loop .busy none Tryz.f69.ntmps T #[37] cx cy)) (b:=b4) (bs:=[b]) (by simpa using hb4)
  have b6':=h6.frX (FrX.put (o:=.loop .busy none Tryz.f69.ntmps T #[37] cx cy)) (b:=b6) (bs:=[b]) (by simpa using hb6)
  generalize hHb:Hc.put b (.loop .busy none Tryz.f69.ntmps T #[37] cx cy)=Hb at *
  have fb:FrX [b] [] Hc Hb:=by rw [←hHb];exact .put
  have hob:Hb.obj b=.loop .busy none Tryz.f69.ntmps T #[37] cx cy:=by rw [←hHb];simp
  cases c1:decide (r<0)
  ·cases c2:decide (r≥f.regs)
   ·repeat first|apply zSeq|apply zReg|apply zBlk|apply zSkp|refine wN ?_|refine wG ?_|refine wO ?_|refine wM ?_|refine wR ?_|refine wL ?_|refine wW ?_|refine wE ?_|refine wB E_int ?_|refine wD O_Fun_Regs ?_
    refine ⟨_,_,_,_,_,_,_,hob,true,rfl,fun _=>⟨by unfold okR;rw [c1,c2];rfl,fb.trans .put (by simp) (by simp),by simp [Ex.out,Ex.jump]⟩,fun h=>(by cases h)⟩
   ·repeat first|apply zSeq|apply zReg|apply zBlk|refine wN ?_|refine wG ?_|refine wO ?_|refine wM ?_|refine wR ?_|refine wL ?_|refine wW ?_|refine wT ?_|refine wB E_int ?_|refine wD O_Fun_Regs ?_
    refine zStB b6' rfl rfl E_bool rfl rfl (by simp [Value.cells]) (by simp [Value.cells]) fun H5 f5 b5 n5=>?_
    have ob5:H5.obj b=.loop .busy none Tryz.f69.ntmps T #[37] cx cy:=(f5.2.1 b (Nat.lt_of_lt_of_le hb fb.1) (by simpa using Ne.symm hb6)).trans hob
    have f6:FrX [b,b6] [] Hc H5:=(fb.sub (by simp) (by simp)).trans f5 (by simp) (by simp)
    have b5':Bx H5 b6 4 [.bool false]:=b5
    repeat first|refine wN ?_
    refine WP.ret ⟨_,_,_,_,_,_,_,ob5,false,rfl,fun h=>(by cases h),fun _=>⟨by unfold okR;rw [c1,c2];rfl,f6.trans .put (by simp) (by simp),b5'.frX .put (by simpa using hb6),by simp [Ex.out,Ex.jump]⟩⟩
  ·repeat first|apply zSeq|apply zReg|apply zBlk|refine wN ?_|refine wG ?_|refine wF ?_|refine wP ?_|refine wL ?_|refine wt ?_
   refine zStB b6' rfl rfl E_bool rfl rfl (by simp [Value.cells]) (by simp [Value.cells]) fun H5 f5 b5 n5=>?_
   have ob5:H5.obj b=.loop .busy none Tryz.f69.ntmps T #[37] cx cy:=(f5.2.1 b (Nat.lt_of_lt_of_le hb fb.1) (by simpa using Ne.symm hb6)).trans hob
   have f6:FrX [b,b6] [] Hc H5:=(fb.sub (by simp) (by simp)).trans f5 (by simp) (by simp)
   have b5':Bx H5 b6 4 [.bool false]:=b5
   repeat first|refine wN ?_
   refine WP.ret ⟨_,_,_,_,_,_,_,ob5,false,rfl,fun h=>(by cases h),fun _=>⟨by unfold okR;rw [c1];rfl,f6.trans .put (by simp) (by simp),b5'.frX .put (by simpa using hb6),by simp [Ex.out,Ex.jump]⟩⟩
 obtain ⟨v,H',h,u,rfl,h1,h2⟩:=key
 exact ⟨u,H',h,h1,h2⟩
end
section
attribute [local irreducible] WL WP WH W
attribute [local irreducible] V
variable {O:Orc}{H:AH}
set_option maxHeartbeats 4000000 in
theorem codeMayIns_c (hO:NoO O) (hg:GH H) {A B C:Av}{p:Prog}{f:Fun}{i:Ins}{va vc vm vl vf:Value} (hm:Els 3 MemR A H vm p.mems) (hl:Els 1 StrR A H vl p.locks) (hf:Els 5 FunR A H vf p.funs) (hc:Els 6 InsR B H vc f.code) (hv:IntsR C H va i.args) (hL:i.args.length≤100000) (hop:0≤i.op∧i.op<256) :
 ∃ v H',Lc V O F_code_mayIns [.agg #[vm,vl,vf],.agg (f.cells vc).toArray,insV i va] H v H'∧(v=.bool (mayG p f i)∧Fr H H'):=by
 refine Lc.code_mayIns (hO _ _ _ (by decide)) ?_
 unfold P_code_mayIns
 apply zSeq
 apply zReg
 refine zBox rfl (fun _=>rfl) fun H1 f1 b1 n1=>?_
 refine zBox rfl (fun _=>rfl) fun H2 f2 b2 n2=>?_
 refine zBox rfl (fun _=>rfl) fun H3 f3 b3 n3=>?_
 refine zAlc E_bool rfl fun H4 f4 b4 n4=>?_
 replace b1:=((b1.fr f2).fr f3).fr f4
 replace b2:=(b2.fr f3).fr f4
 replace b3:=b3.fr f4
 have f14:=((f1.trans f2).trans f3).trans f4
 replace hm:=hm.fr MemR.m f14
 replace hl:=hl.fr StrR.m f14
 replace hf:=hf.fr FunR.m f14
 replace hc:=hc.fr InsR.m f14
 replace hv:=hv.fr f14
 replace hg:=hg.fr f14
 clear f1 f2 f3 f4
 refine wN ?_
 apply zSeq
 apply zReg
 refine zLd rfl (b3.lN E_Ins te_Ins_agg te_Ins_size) ?_
 obtain ⟨_,H5,hcall,rfl,f5⟩:=of_c (va:=va) hO hg hop
 refine WL.call rfl rfl fp_code_of.is hcall ?_
 repeat first|refine zXtr rfl ?_
 refine zAlc E_code_op zero90 fun H6 f6 b6 n6=>?_
 refine zStB b6 rfl rfl E_code_op (by rw [te_code_op_size];rfl) rfl (by simp [Value.cells,opV,opC]) (by simp [Value.cells,opV,opC]) fun H7 f7 b7 n7=>?_
 have b7':Bx H7 H5.next 113 (opC (Flo.opD i.op)):=b7
 have hn5:=f5.1
 have f47:Fr H4 H7:=(f5.trans f6).young f7 (by simp;omega) (by simp)
 replace b1:=b1.fr f47
 replace b2:=b2.fr f47
 replace b3:=b3.fr f47
 replace b4:=b4.fr f47
 replace hm:=hm.fr MemR.m f47
 replace hl:=hl.fr StrR.m f47
 replace hf:=hf.fr FunR.m f47
 replace hc:=hc.fr InsR.m f47
 replace hv:=hv.fr f47
 replace hg:=hg.fr f47
 have f17:=f14.trans f47
 have hn7:=f47.1
 clear b6 b7 f5 f6 f7 f14 hcall
 have b4':Bx H7 H3.next 4 [.bool false]:=b4
 repeat first|refine wN ?_
 generalize hod:Flo.opD i.op=o at *
 cases c1:Flo.isOp i.op
 ·repeat first|apply zSeq|apply zReg|refine wN ?_|refine wG ?_|refine wx ?_|refine wp ?_|refine wZ ?_|refine wt ?_
  refine zStB b4' rfl rfl E_bool rfl rfl (by simp [Value.cells]) (by simp [Value.cells]) fun H8 f8 b8 n8=>?_
  repeat first|refine wN ?_
  exact WP.ret ⟨.inr rfl,_,resL_cell rfl (b8.ld rfl E_bool rfl) rfl,by unfold mayG;rw [c1];rfl,f17.young f8 (by simp;omega) (by simp)⟩
 obtain ⟨_,H8,hc8,rfl,f8⟩:=bare_c (H:=H7) (o:=o) (i:=i) (va:=va) hO hv.oneCell
 obtain ⟨_,H9,hc9,rfl,f9⟩:=codeSame_c (H:=H8) (i:=bareI o i) (j:=zeroI) hO (bare_args (hv.fr f8)) (Sr.nil (A:=.no)) (by unfold bareI;show (if _ then [] else i.args).length≤_;split<;>first|(simp;done)|omega)
 have f79:=f8.trans f9
 repeat first|apply zSeq|apply zReg|refine wG ?_|refine wo ?_|refine wZ ?_
 refine zLd rfl (b7'.lN E_code_op te_code_op_agg te_code_op_size) ?_
 refine wo ?_
 refine zLd rfl (b3.lN E_Ins te_Ins_agg te_Ins_size) ?_
 refine wo ?_
 refine WL.call rfl rfl fp_code_bare.is hc8 ?_
 refine wo ?_
 refine WL.op (op_build rfl build39) ?_
 refine wo ?_
 refine WL.call rfl rfl fp_code_SameIns.is hc9 ?_
 cases c2:sameB (bareI o i) zeroI
 ·have b4':=b4'.fr f79
  repeat first|apply zSeq|apply zReg|refine wN ?_|refine wo ?_|refine wx ?_|refine wp ?_|refine wq ?_|refine wZ ?_|refine wt ?_
  refine zStB b4' rfl rfl E_bool rfl rfl (by simp [Value.cells]) (by simp [Value.cells]) fun H10 f10 b10 n10=>?_
  repeat first|refine wN ?_
  exact WP.ret ⟨.inr rfl,_,resL_cell rfl (b10.ld rfl E_bool rfl) rfl,by unfold mayG;rw [hod,c1,c2];rfl,(f17.trans f79).young f10 (by simp;omega) (by simp)⟩
 replace b1:=b1.fr f79
 replace b2:=b2.fr f79
 replace b3:=b3.fr f79
 replace b4':=b4'.fr f79
 replace b7':=b7'.fr f79
 replace hm:=hm.fr MemR.m f79
 replace hl:=hl.fr StrR.m f79
 replace hf:=hf.fr FunR.m f79
 replace hc:=hc.fr InsR.m f79
 replace hv:=hv.fr f79
 replace hg:=hg.fr f79
 have f19:=f17.trans f79
 obtain ⟨_,H10,hc10,rfl,f10⟩:=number_c (H:=H9) (o:=o) hO hm hl hf hc hv
 repeat first|refine wo ?_|refine wq ?_|refine wZ ?_
 refine zLd rfl (b1.lN E_Prog te_Prog_agg te_Prog_size) ?_
 refine wo ?_
 refine zLd rfl (b2.lN E_Fun te_Fun_agg te_Fun_size) ?_
 refine wo ?_
 refine zLd rfl (b7'.lN E_code_op te_code_op_agg te_code_op_size) ?_
 refine wo ?_
 refine zLd rfl (b3.lN E_Ins te_Ins_agg te_Ins_size) ?_
 refine wo ?_
 refine WL.call rfl rfl fp_code_number.is hc10 ?_
 replace b1:=b1.fr f10
 replace b2:=b2.fr f10
 replace b3:=b3.fr f10
 replace b4':=b4'.fr f10
 replace hv:=hv.fr f10
 replace hg:=hg.fr f10
 have f110:=f19.trans f10
 have hn9:=f79.1
 have hn10:=f10.1
 clear hm hl hf hc b7' f17 f19 f79 f8 f9 f10 hc8 hc9 hc10
 cases c3:numG p f o.n i
 ·repeat first|apply zSeq|apply zReg|refine wN ?_|refine wo ?_|refine wq ?_|refine wZ ?_|refine wt ?_
  refine zStB b4' rfl rfl E_bool rfl rfl (by simp [Value.cells]) (by simp [Value.cells]) fun H11 f11 b11 n11=>?_
  repeat first|refine wN ?_
  exact WP.ret ⟨.inr rfl,_,resL_cell rfl (b11.ld rfl E_bool rfl) rfl,by unfold mayG;rw [hod,c1,c2,c3];rfl,f110.young f11 (by simp;omega) (by simp)⟩
 obtain ⟨_,H11,hc11,⟨c,vr,rfl,hbx,hvr,hcn,f11⟩⟩:=reads_c (H:=H10) (va:=va) hO hg hv hL hop
 rw [hod] at hvr
 repeat first|apply zSeq|apply zReg|apply zSkp|refine wN ?_|refine wo ?_|refine wq ?_|refine wZ ?_|refine wf ?_
 refine zLd rfl (b3.lN E_Ins te_Ins_agg te_Ins_size) ?_
 refine WL.call rfl rfl fp_code_reads.is hc11 ?_
 replace b1:=b1.fr f11
 replace b2:=b2.fr f11
 replace b3:=b3.fr f11
 replace b4':=b4'.fr f11
 replace hg:=hg.fr f11
 have f111:=f110.trans f11
 have hn11:=f11.1
 clear hc11 f110 f11
 repeat first|refine wN ?_
 refine WP.block (WP.rfunc rfl fp_slices_Values_s_int_int__q1.is fun T cx cy hT hx hy nx ny=>?_)
 have hLr:(readsG o i).length≤1000000:=by have:=readsG_len o i;omega
 have fa:=Fr.alloc H11 (.loop .ready none Tryz.f69.ntmps T #[37] cx cy)
 have hnb:H11.next<(H11.alloc (.loop .ready none Tryz.f69.ntmps T #[37] cx cy)).next:=by simp
 have hob:(H11.alloc (.loop .ready none Tryz.f69.ntmps T #[37] cx cy)).obj H11.next=.loop .ready none Tryz.f69.ntmps T #[37] cx cy:=by simp
 have hcb:c<H11.next:=hbx.1
 have hvr0:IntsR (.box H11.next) (H11.alloc (.loop .ready none Tryz.f69.ntmps T #[37] cx cy)) vr (readsG o i):=(hvr.gr (B:=.box H11.next) ⟨fun x hx=>.inr (by simp [Av.box] at hx;omega),fun x hx=>(by simp [Av.box] at hx)⟩).fr fa
 have hbx0:=hbx.fr fa
 have b2a:=b2.fr fa
 have b4a:=b4'.fr fa
 have h3b:H3.next≠H11.next:=by omega
 have h1b:H1.next≠H11.next:=by omega
 have hT':Has T [(4,.pointer (some ⟨H1.next,0,none⟩)),(6,.pointer (some ⟨H3.next,0,none⟩))]:=fun t v h=>hT t v (by
  simp only [Ev.look] at h ⊢
  split at h
  ·rename_i e;subst e;simpa using h
  ·split at h
   ·rename_i e;subst e;simpa using h
   ·cases h)
 generalize H11.alloc (.loop .ready none Tryz.f69.ntmps T #[37] cx cy)=H0 at *
 obtain ⟨w,H12,hit,hend⟩:=values_it (H:=H0) (A:=.box H11.next) (b:=H11.next) (c:=c) (v:=vr) (l:=readsG o i) hO hLr hbx0
  (fun k Hc=>Hc.obj H11.next=.loop .ready none Tryz.f69.ntmps T #[37] cx cy∧FrX [H11.next] [] H0 Hc∧∀ j (h:j<(readsG o i).length),j<k→okR f.regs (readsG o i)[j]=true)
  (fun Hc=>Hc.obj H11.next=.loop .done (some .ret) Tryz.f69.ntmps T #[37] cx cy∧FrX [H11.next,H3.next] [] H0 Hc∧Bx Hc H3.next 4 [.bool false]∧(readsG o i).all (okR f.regs)=false)
  ⟨hob,.refl _ _ _,fun j _ h=>absurd h (by omega)⟩ (fun k Hc h=>hvr0.frX h.2.1) (fun k hk Hc ⟨q1,q2,q3⟩=>by
   obtain ⟨u,H',y1,y2,y3⟩:=mayRound (r:=(readsG o i)[k]) rfl q1 hT' (b2a.frX q2 (by simpa using h1b)) (b4a.frX q2 (by simpa using h3b)) h1b h3b (Nat.lt_of_lt_of_le hnb q2.1) hx hy nx ny
   refine ⟨u,H',y1,fun hu=>?_,fun hu=>?_⟩
   ·obtain ⟨z1,z2,z3⟩:=y2 hu
    refine ⟨z3,q2.trans z2 (fun b hb _=>hb) (fun b hb _=>hb),fun j hj hjk=>?_⟩
    by_cases e:j=k
    ·subst e;exact z1
    ·exact q3 j hj (by omega)
   ·obtain ⟨z1,z2,z3,z4⟩:=y3 hu
    refine ⟨z4,(q2.sub (by simp) (by simp)).trans z2 (fun b hb _=>hb) (fun b hb _=>hb),z3,?_⟩
    rw [List.all_eq_false]
    exact ⟨_,List.getElem_mem hk,by rw [z1];simp⟩)
 rcases hend with ⟨q1,q2,q3⟩|⟨q1,q2,q3,q4⟩
 ·refine ⟨w,H12,_,_,_,_,_,_,_,.normal,hit,q1,by simp,rfl,?_⟩
  have c4:(readsG o i).all (okR f.regs)=true:=by
   rw [List.all_eq_true]
   intro x hx
   obtain ⟨j,hj,rfl⟩:=List.mem_iff_getElem.1 hx
   exact q3 j hj hj
  have fz:Fr H11 (H12.put H11.next .dead):=fa.young (q2.trans .put (fun b hb _=>hb) (fun b hb _=>hb)) (by simp) (by simp)
  generalize H12.put H11.next .dead=Hz at *
  replace b2:=b2.fr fz
  replace b3:=b3.fr fz
  replace b4':=b4'.fr fz
  replace hg:=hg.fr fz
  clear hit q1 q2 q3 hT' hT hx hy nx ny hob hnb b2a b4a hbx0 hvr0 hbx hvr
  repeat first|apply zSeq|apply zReg
  refine zLd rfl (b3.lN E_Ins te_Ins_agg te_Ins_size) ?_
  obtain ⟨_,H13,hc13,rfl,f13⟩:=writes_c (H:=Hz) (i:=i) (va:=va) hO hg hop
  rw [hod,c1] at hc13
  refine WL.call rfl rfl fp_code_Writes.is hc13 ?_
  replace b2:=b2.fr f13
  replace b4':=b4'.fr f13
  have f1z:=(f111.trans fz).trans f13
  have hmay:mayG p f i=(!o.r||(decide (i.r≥0)&&decide (i.r<f.regs))):=by unfold mayG;rw [hod,c1,c2,c3,c4];rfl
  rw [hmay]
  clear hmay
  cases c5:o.r
  ·repeat first|apply zSeq|apply zReg|refine wN ?_|refine wG ?_|refine wx ?_|refine zU rfl ?_|refine zXtr rfl ?_|refine wp ?_|refine wZ ?_
   refine zStB b4' rfl rfl E_bool rfl rfl (by simp [Value.cells]) (by simp [Value.cells]) fun H14 f14 b14 n14=>?_
   repeat first|refine wN ?_
   exact WP.ret ⟨.inr rfl,_,resL_cell rfl (b14.ld rfl E_bool rfl) rfl,rfl,f1z.young f14 (by simp;omega) (by simp)⟩
  ·cases c6:decide (i.r≥0)
   ·repeat first|apply zSeq|apply zReg|refine wN ?_|refine wG ?_|refine wo ?_|refine wF ?_|refine wM ?_|refine zXtr rfl ?_|refine wq ?_|refine wR ?_|refine wW ?_|refine wZ ?_
    refine zStB b4' rfl rfl E_bool rfl rfl (by simp [Value.cells]) (by simp [Value.cells]) fun H14 f14 b14 n14=>?_
    repeat first|refine wN ?_
    exact WP.ret ⟨.inr rfl,_,resL_cell rfl (b14.ld rfl E_bool rfl) rfl,rfl,f1z.young f14 (by simp;omega) (by simp)⟩
   ·repeat first|apply zSeq|apply zReg|refine wN ?_|refine wG ?_|refine wo ?_|refine wO ?_|refine wM ?_|refine zXtr rfl ?_|refine wq ?_|refine wP ?_|refine wL ?_|refine wW ?_|refine wZ ?_|refine wB E_int ?_|refine wD O_Fun_Regs ?_
    refine zStB b4' rfl rfl E_bool rfl rfl (by simp [Value.cells]) (by simp [Value.cells]) fun H14 f14 b14 n14=>?_
    repeat first|refine wN ?_
    exact WP.ret ⟨.inr rfl,_,resL_cell rfl (b14.ld rfl E_bool rfl) rfl,rfl,f1z.young f14 (by simp;omega) (by simp)⟩
 ·refine ⟨w,H12,_,_,_,_,_,_,_,.ret,hit,q1,by simp,rfl,?_⟩
  have b4z:Bx (H12.put H11.next .dead) H3.next 4 [.bool false]:=q3.frX .put (by simpa using h3b)
  refine ⟨.inr rfl,_,resL_cell rfl (b4z.ld rfl E_bool rfl) rfl,?_,?_⟩
  ·unfold mayG;rw [hod,c1,c2,c3,q4];rfl
  ·have fx:FrX [H11.next,H3.next] [] H11 (H12.put H11.next .dead):=((fa.x _ _).trans q2 (fun b hb _=>hb) (fun b hb _=>hb)).trans .put (fun b hb _=>by simp at hb;simp [hb]) (by simp)
   exact f111.young fx (by simp;omega) (by simp)
end
section
attribute [local irreducible] WL WP WH W
attribute [local irreducible] V
variable {O:Orc}{H:AH}
theorem indexFunc_block_c (hO:NoO O) {A:Av}{v:Value}{l:List Block} (hv:Els 4 BlockR A H v l) (hL:l.length≤1000000) {f:FuncId}{cap:Array Value}{p:Block→Bool} (hf:(V.F f).isSome=true) (hp:∀ x∈l,∀ cs H1,Fr H H1→BlockR A H1 cs x→∃ H2,Lc V O f ([.agg cs.toArray]++cap.toList) H1 (.bool (p x)) H2∧Fr H1 H2) :
 ∃ H',Lc V O F_slices_IndexFunc_s_api_Block_api_Block [v,.func (.func f) #[] cap] H (.int .i64 (idxI p l)) H'∧Fr H H':=by
 have key:∃ u H',Lc V O F_slices_IndexFunc_s_api_Block_api_Block [v,.func (.func f) #[] cap] H u H'∧(u=.int .i64 (idxI p l)∧Fr H H'):=by
  refine Lc.slices_IndexFunc_s_api_Block_api_Block (hO _ _ _ (by decide)) ?_
  unfold P_slices_IndexFunc_s_api_Block_api_Block
  repeat first|apply zSeq|apply zReg|apply zBlk|refine wN ?_|refine wG ?_|refine wM ?_|refine wA ?_|refine wK (hv.len E_s_api_Block) ?_
  refine WP.loopH (σ:=Nat) (fun i=>[(0,v),(1,.func (.func f) #[] cap),(7,.int .i64 l.length),(8,.int .i64 i)]) (fun i H'=>Fr H H'∧i≤l.length∧∀ j (h:j<l.length),j<i→p l[j]=false) (fun i=>l.length-i) 0 ⟨.refl _,by simp,fun j _ h=>absurd h (by omega)⟩ ⟨rfl,rfl,rfl,rfl,trivial⟩ ?_
  rintro i H1 ⟨hfr,hi,hn⟩
  rcases Nat.lt_or_ge i l.length with h|h
  ·have hd:decide ((i:Int)<l.length)=true:=dT
   obtain ⟨b,off,cs,ha1,hrd,hR⟩:=(hv.fr BlockR.m hfr).at E_s_api_Block E_Block te_Block_size (kd:=.i64) h
   have hl1:=hrd.loadN (V:=V) E_Block te_Block_agg te_Block_size
   obtain ⟨H2,hc,hf2⟩:=hp l[i] (List.getElem_mem _) cs H1 hfr hR
   repeat first|apply zSeq|apply zReg|apply zBlk|apply zSkp|refine wN ?_|refine wG ?_|refine wL ?_|refine wT ?_|refine zIdx rfl rfl ha1 ?_|refine zLd rfl hl1 ?_
   refine WL.call rfl rfl hf hc ?_
   cases he:p l[i]
   ·repeat first|apply zReg|apply zSkp|refine wN ?_|refine wS ?_|refine wf ?_
    refine ⟨i+1,⟨hfr.trans hf2,by omega,fun j hj hji=>?_⟩,by omega,rfl,rfl,rfl,rfl,trivial⟩
    by_cases e:j=i
    ·subst e;exact he
    ·exact hn j hj (by omega)
   ·repeat first|apply zSeq|apply zReg|refine wN ?_|refine wG ?_|refine wt ?_
    refine WP.ret ⟨.inr rfl,_,rfl,?_,hfr.trans hf2⟩
    rw [idxI_some h he fun j hj=>hn j (by omega) hj];rfl
  ·have hd:decide ((i:Int)<l.length)=false:=dF
   repeat first|apply zSeq|apply zReg|apply zExt|refine wN ?_|refine wA ?_|refine wL ?_|refine wE ?_
   refine WP.ret ⟨.inr rfl,_,rfl,?_,hfr⟩
   rw [idxI_none fun j hj=>hn j hj (by omega)];rfl
 obtain ⟨u,H',h,rfl,hk⟩:=key
 exact ⟨H',h,hk⟩
theorem containsFunc_block_c (hO:NoO O) {A:Av}{v:Value}{l:List Block} (hv:Els 4 BlockR A H v l) (hL:l.length≤1000000) {f:FuncId}{cap:Array Value}{p:Block→Bool} (hf:(V.F f).isSome=true) (hp:∀ x∈l,∀ cs H1,Fr H H1→BlockR A H1 cs x→∃ H2,Lc V O f ([.agg cs.toArray]++cap.toList) H1 (.bool (p x)) H2∧Fr H1 H2) :
  ∃ H',Lc V O F_slices_ContainsFunc_s_api_Block_api_Block [v,.func (.func f) #[] cap] H (.bool (l.any p)) H'∧Fr H H':=by
 have key:∃ u H',Lc V O F_slices_ContainsFunc_s_api_Block_api_Block [v,.func (.func f) #[] cap] H u H'∧(u=.bool (l.any p)∧Fr H H'):=by
  refine Lc.slices_ContainsFunc_s_api_Block_api_Block (hO _ _ _ (by decide)) ?_
  unfold P_slices_ContainsFunc_s_api_Block_api_Block
  obtain ⟨H1,hc,f1⟩:=indexFunc_block_c (p:=p) hO hv hL hf hp
  repeat first|apply zSeq|apply zReg|refine wN ?_|refine wG ?_|refine wA ?_
  refine WL.call rfl rfl fp_slices_IndexFunc_s_api_Block_api_Block.is hc ?_
  repeat first|refine wN ?_|refine wW ?_
  refine WP.ret ⟨.inr rfl,_,rfl,?_,f1⟩
  rw [←idxI_any];rfl
 obtain ⟨u,H',h,rfl,hk⟩:=key
 exact ⟨H',h,hk⟩
theorem indexFunc_phi_c (hO:NoO O) {A:Av}{v:Value}{l:List Ev.Phi} (hv:Els 2 PhiR A H v l) (hL:l.length≤1000000) {f:FuncId}{cap:Array Value}{p:Ev.Phi→Bool} (hf:(V.F f).isSome=true) (hp:∀ x∈l,∀ cs H1,Fr H H1→PhiR A H1 cs x→∃ H2,Lc V O f ([.agg cs.toArray]++cap.toList) H1 (.bool (p x)) H2∧Fr H1 H2) :
 ∃ H',Lc V O F_slices_IndexFunc_s_api_Phi_api_Phi [v,.func (.func f) #[] cap] H (.int .i64 (idxI p l)) H'∧Fr H H':=by
 have key:∃ u H',Lc V O F_slices_IndexFunc_s_api_Phi_api_Phi [v,.func (.func f) #[] cap] H u H'∧(u=.int .i64 (idxI p l)∧Fr H H'):=by
  refine Lc.slices_IndexFunc_s_api_Phi_api_Phi (hO _ _ _ (by decide)) ?_
  unfold P_slices_IndexFunc_s_api_Phi_api_Phi
  repeat first|apply zSeq|apply zReg|apply zBlk|refine wN ?_|refine wG ?_|refine wM ?_|refine wA ?_|refine wK (hv.len E_s_api_Phi) ?_
  refine WP.loopH (σ:=Nat) (fun i=>[(0,v),(1,.func (.func f) #[] cap),(7,.int .i64 l.length),(8,.int .i64 i)]) (fun i H'=>Fr H H'∧i≤l.length∧∀ j (h:j<l.length),j<i→p l[j]=false) (fun i=>l.length-i) 0 ⟨.refl _,by simp,fun j _ h=>absurd h (by omega)⟩ ⟨rfl,rfl,rfl,rfl,trivial⟩ ?_
  rintro i H1 ⟨hfr,hi,hn⟩
  rcases Nat.lt_or_ge i l.length with h|h
  ·have hd:decide ((i:Int)<l.length)=true:=dT
   obtain ⟨b,off,cs,ha1,hrd,hR⟩:=(hv.fr PhiR.m hfr).at E_s_api_Phi E_Phi te_Phi_size (kd:=.i64) h
   have hl1:=hrd.loadN (V:=V) E_Phi te_Phi_agg te_Phi_size
   obtain ⟨H2,hc,hf2⟩:=hp l[i] (List.getElem_mem _) cs H1 hfr hR
   repeat first|apply zSeq|apply zReg|apply zBlk|apply zSkp|refine wN ?_|refine wG ?_|refine wL ?_|refine wT ?_|refine zIdx rfl rfl ha1 ?_|refine zLd rfl hl1 ?_
   refine WL.call rfl rfl hf hc ?_
   cases he:p l[i]
   ·repeat first|apply zReg|apply zSkp|refine wN ?_|refine wS ?_|refine wf ?_
    refine ⟨i+1,⟨hfr.trans hf2,by omega,fun j hj hji=>?_⟩,by omega,rfl,rfl,rfl,rfl,trivial⟩
    by_cases e:j=i
    ·subst e;exact he
    ·exact hn j hj (by omega)
   ·repeat first|apply zSeq|apply zReg|refine wN ?_|refine wG ?_|refine wt ?_
    refine WP.ret ⟨.inr rfl,_,rfl,?_,hfr.trans hf2⟩
    rw [idxI_some h he fun j hj=>hn j (by omega) hj];rfl
  ·have hd:decide ((i:Int)<l.length)=false:=dF
   repeat first|apply zSeq|apply zReg|apply zExt|refine wN ?_|refine wA ?_|refine wL ?_|refine wE ?_
   refine WP.ret ⟨.inr rfl,_,rfl,?_,hfr⟩
   rw [idxI_none fun j hj=>hn j hj (by omega)];rfl
 obtain ⟨u,H',h,rfl,hk⟩:=key
 exact ⟨H',h,hk⟩
theorem containsFunc_phi_c (hO:NoO O) {A:Av}{v:Value}{l:List Ev.Phi} (hv:Els 2 PhiR A H v l) (hL:l.length≤1000000) {f:FuncId}{cap:Array Value}{p:Ev.Phi→Bool} (hf:(V.F f).isSome=true) (hp:∀ x∈l,∀ cs H1,Fr H H1→PhiR A H1 cs x→∃ H2,Lc V O f ([.agg cs.toArray]++cap.toList) H1 (.bool (p x)) H2∧Fr H1 H2) :
  ∃ H',Lc V O F_slices_ContainsFunc_s_api_Phi_api_Phi [v,.func (.func f) #[] cap] H (.bool (l.any p)) H'∧Fr H H':=by
 have key:∃ u H',Lc V O F_slices_ContainsFunc_s_api_Phi_api_Phi [v,.func (.func f) #[] cap] H u H'∧(u=.bool (l.any p)∧Fr H H'):=by
  refine Lc.slices_ContainsFunc_s_api_Phi_api_Phi (hO _ _ _ (by decide)) ?_
  unfold P_slices_ContainsFunc_s_api_Phi_api_Phi
  obtain ⟨H1,hc,f1⟩:=indexFunc_phi_c (p:=p) hO hv hL hf hp
  repeat first|apply zSeq|apply zReg|refine wN ?_|refine wG ?_|refine wA ?_
  refine WL.call rfl rfl fp_slices_IndexFunc_s_api_Phi_api_Phi.is hc ?_
  repeat first|refine wN ?_|refine wW ?_
  refine WP.ret ⟨.inr rfl,_,rfl,?_,f1⟩
  rw [←idxI_any];rfl
 obtain ⟨u,H',h,rfl,hk⟩:=key
 exact ⟨H',h,hk⟩
theorem indexFunc_int_c (hO:NoO O) {A:Av}{v:Value}{l:List Int} (hv:IntsR A H v l) (hL:l.length≤1000000) {f:FuncId}{cap:Array Value}{p:Int→Bool} (hf:(V.F f).isSome=true) (hp:∀ x∈l,∀ H1,Fr H H1→∃ H2,Lc V O f ([.int .i64 x]++cap.toList) H1 (.bool (p x)) H2∧Fr H1 H2) :
 ∃ H',Lc V O F_slices_IndexFunc_s_int_int [v,.func (.func f) #[] cap] H (.int .i64 (idxI p l)) H'∧Fr H H':=by
 have key:∃ u H',Lc V O F_slices_IndexFunc_s_int_int [v,.func (.func f) #[] cap] H u H'∧(u=.int .i64 (idxI p l)∧Fr H H'):=by
  refine Lc.slices_IndexFunc_s_int_int (hO _ _ _ (by decide)) ?_
  unfold P_slices_IndexFunc_s_int_int
  repeat first|apply zSeq|apply zReg|apply zBlk|refine wN ?_|refine wG ?_|refine wM ?_|refine wA ?_|refine wK (hv.len E_s_int) ?_
  refine WP.loopH (σ:=Nat) (fun i=>[(0,v),(1,.func (.func f) #[] cap),(7,.int .i64 l.length),(8,.int .i64 i)]) (fun i H'=>Fr H H'∧i≤l.length∧∀ j (h:j<l.length),j<i→p l[j]=false) (fun i=>l.length-i) 0 ⟨.refl _,by simp,fun j _ h=>absurd h (by omega)⟩ ⟨rfl,rfl,rfl,rfl,trivial⟩ ?_
  rintro i H1 ⟨hfr,hi,hn⟩
  rcases Nat.lt_or_ge i l.length with h|h
  ·have hd:decide ((i:Int)<l.length)=true:=dT
   obtain ⟨b,off,ha1,hl1⟩:=IntsR.at (hv.fr hfr) E_s_int E_int (kd:=.i64) h
   obtain ⟨H2,hc,hf2⟩:=hp l[i] (List.getElem_mem _) H1 hfr
   repeat first|apply zSeq|apply zReg|apply zBlk|apply zSkp|refine wN ?_|refine wG ?_|refine wL ?_|refine wT ?_|refine zIdx rfl rfl ha1 ?_|refine zLd rfl hl1 ?_
   refine WL.call rfl rfl hf hc ?_
   cases he:p l[i]
   ·repeat first|apply zReg|apply zSkp|refine wN ?_|refine wS ?_|refine wf ?_
    refine ⟨i+1,⟨hfr.trans hf2,by omega,fun j hj hji=>?_⟩,by omega,rfl,rfl,rfl,rfl,trivial⟩
    by_cases e:j=i
    ·subst e;exact he
    ·exact hn j hj (by omega)
   ·repeat first|apply zSeq|apply zReg|refine wN ?_|refine wG ?_|refine wt ?_
    refine WP.ret ⟨.inr rfl,_,rfl,?_,hfr.trans hf2⟩
    rw [idxI_some h he fun j hj=>hn j (by omega) hj];rfl
  ·have hd:decide ((i:Int)<l.length)=false:=dF
   repeat first|apply zSeq|apply zReg|apply zExt|refine wN ?_|refine wA ?_|refine wL ?_|refine wE ?_
   refine WP.ret ⟨.inr rfl,_,rfl,?_,hfr⟩
   rw [idxI_none fun j hj=>hn j hj (by omega)];rfl
 obtain ⟨u,H',h,rfl,hk⟩:=key
 exact ⟨H',h,hk⟩
theorem containsFunc_int_c (hO:NoO O) {A:Av}{v:Value}{l:List Int} (hv:IntsR A H v l) (hL:l.length≤1000000) {f:FuncId}{cap:Array Value}{p:Int→Bool} (hf:(V.F f).isSome=true) (hp:∀ x∈l,∀ H1,Fr H H1→∃ H2,Lc V O f ([.int .i64 x]++cap.toList) H1 (.bool (p x)) H2∧Fr H1 H2) :
  ∃ H',Lc V O F_slices_ContainsFunc_s_int_int [v,.func (.func f) #[] cap] H (.bool (l.any p)) H'∧Fr H H':=by
 have key:∃ u H',Lc V O F_slices_ContainsFunc_s_int_int [v,.func (.func f) #[] cap] H u H'∧(u=.bool (l.any p)∧Fr H H'):=by
  refine Lc.slices_ContainsFunc_s_int_int (hO _ _ _ (by decide)) ?_
  unfold P_slices_ContainsFunc_s_int_int
  obtain ⟨H1,hc,f1⟩:=indexFunc_int_c (p:=p) hO hv hL hf hp
  repeat first|apply zSeq|apply zReg|refine wN ?_|refine wG ?_|refine wA ?_
  refine WL.call rfl rfl fp_slices_IndexFunc_s_int_int.is hc ?_
  repeat first|refine wN ?_|refine wW ?_
  refine WP.ret ⟨.inr rfl,_,rfl,?_,f1⟩
  rw [←idxI_any];rfl
 obtain ⟨u,H',h,rfl,hk⟩:=key
 exact ⟨H',h,hk⟩
end

end Go.Proofs.YtjiibfgopanbgaaGreatDoor.U