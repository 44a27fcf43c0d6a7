/-
  EV, universal use, part d: loops with a state of one's own.
-/
import Derived.Test.YtjiibfgopanbgaaGreatDoorEv4
import Derived.Test.YtjiibfgopanbgaaGreatDoorEv3
import Derived.Carry
import Derived.WalkKit
import Derived.ProofKit
import Derived.OpenShut
set_option linter.all false
namespace Go.Ev
open Go.RowKit
variable {V:Env}{O:Orc}{live:Option Nat}{n:Nat}
def Kn (l:SL):SL→Prop
 | []=>True
 | (t,v)::r=>look l t=some v∧Kn l r
theorem Kn.look {l:SL}:∀ {r:SL},Kn l r→∀ t v,look r t=some v→look l t=some v
 | [],_,_,_,h=>by cases h
 | (u,w)::r,hk,t,v,h=>by
  simp only [Ev.look] at h
  split at h
  ·rename_i e;subst e;cases h;exact hk.1
  ·exact hk.2.look t v h
theorem aInt_lss (P:Program) (t:TypeId) {k:IntKind}{a b:Int}:aInt P .lss t k a k b=some (.bool (decide (a<b))):=by
 simp only [aInt,if_true]
theorem aInt_neq (P:Program) (t:TypeId) {k:IntKind}{a b:Int}:aInt P .neq t k a k b=some (.bool (a != b)):=by
 simp only [aInt,if_true]
theorem aInt_eql (P:Program) (t:TypeId) {k:IntKind}{a b:Int}:aInt P .eql t k a k b=some (.bool (a==b)):=by
 simp only [aInt,if_true]
theorem aInt_geq (P:Program) (t:TypeId) {k:IntKind}{a b:Int}:aInt P .geq t k a k b=some (.bool (decide (a≥b))):=by
 simp only [aInt,if_true]
theorem aInt_leq (P:Program) (t:TypeId) {k:IntKind}{a b:Int}:aInt P .leq t k a k b=some (.bool (decide (a≤b))):=by
 simp only [aInt,if_true]
theorem aInt_gtr (P:Program) (t:TypeId) {k:IntKind}{a b:Int}:aInt P .gtr t k a k b=some (.bool (decide (a>b))):=by
 simp only [aInt,if_true]
section
variable {g:Ft}{H:AH}
theorem op_pickT {c x y:Operand}{b:Bool}{v:Value} (hc:g c=some (.bool b)) (hb:b=true) (hx:g x=some v):aopG V g H (.pick c x y)=some (v,H):=by
 subst hb;simp only [aopG,hc,if_true,hx,Option.map_some]
theorem op_pickF {c x y:Operand}{b:Bool}{v:Value} (hc:g c=some (.bool b)) (hb:b=false) (hy:g y=some v):aopG V g H (.pick c x y)=some (v,H):=by
 subst hb;simp only [aopG,hc,Bool.false_eq_true,if_false,hy,Option.map_some]
end
section
variable {g:Ft}{H:AH}
theorem op_lenS {x:Operand}{t:TypeId}{s:ByteArray}{n b:Nat}{z:Value} (hx:g x=some (.string s)) (ht:V.E t=some ⟨.string,n,b,z⟩):aopG V g H (.call ⟨.builtin .len,#[x],#[t]⟩)=some (.int .i64 s.size,H):=
 op_len hx (by simp only [aLen,ht])
theorem op_indexS {x y:Operand}{t:TypeId}{s:ByteArray}{n b:Nat}{z:Value}{k:IntKind}{i:Int}{c:UInt8} (hx:g x=some (.string s)) (hy:g y=some (.int k i)) (ht:V.E t=some ⟨.string,n,b,z⟩) (h0:0≤i) (hc:s.data.toList[i.toNat]?=some c) :
  aopG V g H (.index t x y)=some (.int .u8 c.toNat,H):=by
 simp only [aopG,hx,hy,aIndexOf,ht,if_pos h0,hc,Option.map_some]
end
section
variable {o:Op}{x:Operand}{w b:Bool}{is:List LI}{E:List Value}{l:SL}{H:AH}{K:List Value→AH→Prop}
theorem WL.on (hx:gS V.nG E l x=some (.bool b)) (hb:b=w) (h:WL V O (.run o none::is) E l H K):WL V O (.run o (some (x,w))::is) E l H K:=
 .guard hx (fun _=>h) (fun e=>absurd (hb.symm.trans e) (by cases w<;>simp))
theorem WL.off (hx:gS V.nG E l x=some (.bool b)) (hb:b=!w) (h:WL V O is (undef::E) l H K):WL V O (.run o (some (x,w))::is) E l H K:=
 .guard hx (fun e=>absurd (hb.symm.trans e) (by cases w<;>simp)) (fun _=>h)
theorem WL.offU (hx:gS V.nG E l x=some undef) (h:WL V O is (undef::E) l H K):WL V O (.run o (some (x,w))::is) E l H K:=fun T hT=>by
 obtain ⟨N,E',H',h1,h2⟩:=h T hT
 have hv:=gS_le hT V.nG E x _ hx
 refine ⟨N,E',H',fun lf hlf d hd=>?_,h2⟩
 have:=h1 lf hlf d hd
 simp only [runLI,wantL,hv,undef]
 exact this
end
theorem aBin_str {P:Program}{E:TypeId→Option TI}{op:BinOp}{t:TypeId}{ox oy:Operand}{a b:ByteArray}{v:Value} (h:pureRun P (Op.stringOp op a b)=some v) (hv:constOk v=true):aBin P E op t ox oy (.string a) (.string b)=some v:=by
 have e:aBin P E op t ox oy (.string a) (.string b)=(if constOk (.string a)&&constOk (.string b) then match pureRun P (do eqGuard op t ox oy (.string a) (.string b);binOp op t (.string a) (.string b)) with
  | some v=>if constOk v then some v else none
  | none=>none
  else none):=by unfold aBin;rfl
 have e2:(do eqGuard op t ox oy (.string a) (.string b);binOp op t (.string a) (.string b))=Op.stringOp op a b:=by
  have:=binSem_skip (op:=op) (t:=t) (ox:=ox) (oy:=oy) (x:=.string a) (y:=.string b) (fun _ h=>nomatch h) (fun h=>nomatch h)
  unfold binSem at this
  rw [this]
  cases op<;>rfl
 rw [e,e2,h,if_pos (show (constOk (Value.string a)&&constOk (Value.string b))=true from rfl)]
 simp only [hv,if_true]
theorem aBin_eqS {P:Program}{E:TypeId→Option TI}{t:TypeId}{ox oy:Operand}{a b:ByteArray}:aBin P E .eql t ox oy (.string a) (.string b)=some (.bool (a.data.toList==b.data.toList)):=by rw [←ByteArray.toList_eq,←ByteArray.toList_eq];exact aBin_str rfl rfl
theorem aBin_neS {P:Program}{E:TypeId→Option TI}{t:TypeId}{ox oy:Operand}{a b:ByteArray}:aBin P E .neq t ox oy (.string a) (.string b)=some (.bool !(a.data.toList==b.data.toList)):=by rw [←ByteArray.toList_eq,←ByteArray.toList_eq];exact aBin_str rfl rfl
section
variable {g:Ft}{H:AH}
theorem op_eqS {x y:Operand}{t u:TypeId}{a b:ByteArray} (hx:g x=some (.string a)) (hy:g y=some (.string b)):aopG V g H (.binOp .eql t x y u)=some (.bool (a.data.toList==b.data.toList),H):=by
 simp only [aopG,hx,hy,aBin_eqS,Option.map_some]
theorem op_neS {x y:Operand}{t u:TypeId}{a b:ByteArray} (hx:g x=some (.string a)) (hy:g y=some (.string b)):aopG V g H (.binOp .neq t x y u)=some (.bool !(a.data.toList==b.data.toList),H):=by
 simp only [aopG,hx,hy,aBin_neS,Option.map_some]
theorem op_not {x:Operand}{t:TypeId}{b:Bool} (hx:g x=some (.bool b)):aopG V g H (.unOp .not t x)=some (.bool (!b),H):=by
 simp only [aopG,hx];rfl
end
theorem op_buildSlice {g:Ft}{H:AH}{t e:TypeId}{len:Nat}{ps:Array (Nat×Operand)}{vs:List (Nat×Value)}{cs:List Value}{a b:Nat}{z:Value}{te:TI} (hp:gparts g ps.toList=some vs) (ht:V.E t=some ⟨.slice e,a,b,z⟩) (he:V.E e=some te)
  (h1:len*te.size≤16777216) (hf:afill (fun i=>some (i*te.size,te.size)) (azeros te.zv.cells.toList len) vs=some cs) (h2:len<unk:=by decide):aopG V g H (.buildSlice t len ps)=some (.slice (some ⟨H.next,0,none⟩) len len,H.alloc (.row e cs .exact 0 0)):=by
 simp only [aopG,hp,aBuildSlice,ht,he]
 rw [if_neg (by omega),hf]
end Go.Ev
namespace Go.Ev
open Go.RowKit
abbrev Rp (α:Type):=AH→List Value→α→Prop
def Ro (H:AH):Prop:=∀ b,(∃ et cells,H.obj b=.row et cells .ro 0 0)∨H.obj b=.dead
def Kro (H H':AH):Prop:=H.next≤H'.next∧∀ b et cells g v,b<H.next→H.obj b=.row et cells .ro g v→H'.obj b=.row et cells .ro g v
theorem Kro.refl (H:AH):Kro H H:=⟨Nat.le_refl _,fun _ _ _ _ _ _ h=>h⟩
theorem Kro.trans {H H' H'':AH} (h:Kro H H') (k:Kro H' H''):Kro H H'':=⟨Nat.le_trans h.1 k.1,fun b et cells g v hb ho=>k.2 b et cells g v (Nat.lt_of_lt_of_le hb h.1) (h.2 b et cells g v hb ho)⟩
theorem Kro.alloc (H:AH) (o:AObj):Kro H (H.alloc o):=⟨by simp,fun b et cells g v hb ho=>by rw [AH.obj_alloc,if_neg (by omega)];exact ho⟩
def Mono {α:Type} (R:Rp α):Prop:=∀ {H H':AH}{cs:List Value}{a:α},Kro H H'→R H cs a→R H' cs a
variable {P:Program}{w:World}{H:AH}{ι:Emb}
theorem Ro.alloc (h:Ro H) {o:AObj} (ho:(∃ et cells,o=.row et cells .ro 0 0)∨o=.dead):Ro (H.alloc o):=fun b=>by
 rw [AH.obj_alloc]
 split
 ·exact ho
 ·exact h b
def Emb.put (ι:Emb) (b:Nat) (l:ILoc):Emb:=fun c=>if c=b then some l else ι c
theorem Emb.le_put {ι:Emb}{b:Nat}{l:ILoc} (h:ι b=none):ι.le (ι.put b l):=fun c m hc=>by
 unfold Emb.put
 rw [if_neg (fun e=>by subst e;rw [h] at hc;cases hc)];exact hc
theorem HRel.row_ro {B0:Nat} (h:HRel P B0 ι H w) (hr:Ro H) {o:AObj}{l:ILoc} (ho:(∃ et cells,o=.row et cells .ro 0 0)∨o=.dead) (hok:OOk P B0 ι w l o) :
  ι H.next=none∧HRel P B0 (ι.put H.next l) (H.alloc o) w:=by
 have hn:ι H.next=none:=by
  cases e:ι H.next with
  | none=>rfl
  | some m=>exact absurd (h.dom _ _ e) (Nat.lt_irrefl _)
 refine ⟨hn,?_⟩
 have hcase:∀ b m,(ι.put H.next l) b=some m→(b=H.next∧m=l)∨(b≠H.next∧ι b=some m):=fun b m hb=>by
  unfold Emb.put at hb
  split at hb
  ·rename_i e;cases hb;exact .inl ⟨e,rfl⟩
  ·rename_i e;exact .inr ⟨e,hb⟩
 have hro:=hr.alloc ho
 refine { base:=h.base,dom:=fun b m hb=>?_,obj:=fun b m hb ha=>?_,sep:=fun b b' m m' hne hb hb' ha ha' he=>?_,grp:=fun b m et cells st g v hb hobj=>?_ }
 ·rcases hcase b m hb with ⟨rfl,_⟩|⟨_,h2⟩
  ·simp
  ·have:=h.dom b m h2;simp;omega
 ·rcases hcase b m hb with ⟨rfl,rfl⟩|⟨h1,h2⟩
  ·rw [AH.obj_alloc,if_pos rfl]
   exact hok.carry (Emb.le_put hn) rfl
  ·rw [AH.obj_alloc,if_neg h1] at ha ⊢
   refine (h.obj b m h2 ?_).carry (Emb.le_put hn) rfl
   rcases hr b with ⟨et,cells,e⟩|e<;>rw [e] at ha ⊢<;>exact ha
 ·rcases hro b with ⟨et,cells,e⟩|e
  ·rcases hro b' with ⟨et',cells',e'⟩|e'
   ·rw [e,e'];trivial
   ·rw [e'] at ha';simp [AH.alive] at ha'
  ·rw [e] at ha;simp [AH.alive] at ha
 ·rcases hro b with ⟨et',cells',e⟩|e
  ·rw [e] at hobj
   cases hobj
   exact ⟨by simp,Nat.zero_le _⟩
  ·rw [e] at hobj;cases hobj
def Ent {α:Type} (P:Program) (R:Rp α) (t:TypeId):Prop :=
 ∀ {Hd:Type} (enc:TypeId×Value→Hd) (w:World) (fuel:Nat) (cs:List Value) (d:DataW Hd) (ps:List MemPlace),DataW.trod enc P w 0 (fun _=>true) true fuel t cs=some (d,ps) →
   ∀ (H:AH) (ι:Emb),HRel P w.heap.size ι H w→Ro H→∃ H' ι' as,∃ a:α,HRel P w.heap.size ι' H' w∧Ro H'∧Kro H H'∧ι.le ι'∧LRel ι' as cs∧R H' as a
def RInt (k:IntKind):Rp Int:=fun _ cs n=>cs=[.int k n]∧(Lit.int k n).wf=true
def RBool:Rp Bool:=fun _ cs b=>cs=[.bool b]
def RStr:Rp ByteArray:=fun _ cs s=>cs=[.string s]∧s.size≤maxLen
theorem RInt.mono {k:IntKind}:Mono (RInt k):=fun _ h=>h
theorem RBool.mono:Mono RBool:=fun _ h=>h
theorem RStr.mono:Mono RStr:=fun _ h=>h
theorem Ent.int {t:TypeId}{k:IntKind} (hu:P.underlying t=some (.int k)):Ent P (RInt k) t:=fun enc w fuel cs d ps h H ι hr hro=>by
 cases fuel with
 | zero=>simp [DataW.trod] at h
 |succ fuel =>
  simp only [DataW.trod,hu] at h
  split at h<;>first|(exfalso;simp_all;done)|skip
  ·rename_i k0 k' n he
   cases he
   split at h
   ·rename_i hk
    obtain ⟨rfl,hk⟩:=hk
    exact ⟨H,ι,_,n,hr,hro,.refl _,Emb.le_refl _,.cons (.int _ n) .nil,rfl,hk⟩
   ·cases h
theorem Ent.bool {t:TypeId} (hu:P.underlying t=some .bool):Ent P RBool t:=fun enc w fuel cs d ps h H ι hr hro=>by
 cases fuel with
 | zero=>simp [DataW.trod] at h
 | succ fuel=>
  simp only [DataW.trod,hu] at h
  split at h<;>first|(exfalso;simp_all;done)|skip
  ·rename_i b he
   exact ⟨H,ι,_,b,hr,hro,.refl _,Emb.le_refl _,.cons (.bool b) .nil,rfl⟩
theorem Ent.str {t:TypeId} (hu:P.underlying t=some .string):Ent P RStr t:=fun enc w fuel cs d ps h H ι hr hro=>by
 cases fuel with
 | zero=>simp [DataW.trod] at h
 |succ fuel =>
  simp only [DataW.trod,hu] at h
  split at h<;>first|(exfalso;simp_all;done)|skip
  ·rename_i s he
   split at h
   ·rename_i hk
    exact ⟨H,ι,_,s,hr,hro,.refl _,Emb.le_refl _,.cons (.string s) .nil,rfl,hk⟩
   ·cases h
def RSlice {α:Type} (n:Nat) (R:Rp α):Rp (List α):=fun H cs xs =>
 ∃ v,cs=[v]∧xs.length≤maxLen∧((v=.slice none 0 0∧xs=[])∨(∃ b cap,cap<unk∧v=.slice (some ⟨b,0,none⟩) 0 cap∧xs=[]) ∨
   ∃ b off cap et cells g k,v=.slice (some ⟨b,off,none⟩) xs.length cap∧xs.length≤cap∧cap≤maxLen∧b<H.next∧H.obj b=.row et cells .ro g k∧off+xs.length*n≤cells.length ∧
     ∀ (i:Nat) (x:α),xs[i]?=some x→R H ((cells.drop (off+i*n)).take n) x)
theorem RSlice.mono {α:Type}{n:Nat}{R:Rp α} (hm:Mono R):Mono (RSlice n R):=fun hk h=>by
 obtain ⟨v,rfl,hl,h|h|⟨b,off,cap,et,cells,g,k,h1,h2,h3,h4,h5,h6,h7⟩⟩:=h
 ·exact ⟨v,rfl,hl,.inl h⟩
 ·exact ⟨v,rfl,hl,.inr (.inl h)⟩
 ·exact ⟨v,rfl,hl,.inr (.inr ⟨b,off,cap,et,cells,g,k,h1,h2,h3,Nat.lt_of_lt_of_le h4 hk.1,hk.2 _ _ _ _ _ h4 h5,h6,fun i x hx=>hm hk (h7 i x hx)⟩)⟩
theorem cells?_at {base:Nat}{a:Addr}{n:Nat}{cs:List Value} (h:w.cells? base a n=some cs):cs.length=n∧∀ i,i<n→∃ y,cs[i]?=some y∧w.cell? (a.add i)=some y:=by
 unfold World.cells? at h
 split at h
 ·refine ⟨by simpa using Lib.mapM_length h,fun i hi=>?_⟩
  exact Lib.mapM_at h i i (by simp [hi])
 ·cases h
theorem add_add (a:Addr) (i j:Nat):(a.add i).add j=a.add (i+j):=by
 unfold Addr.add
 by_cases h:i=0
 ·subst h;simp
 ·by_cases k:j=0
  ·subst k;simp [h]
  ·rw [if_neg h,if_neg k,if_neg (by omega)]
   simp [Nat.add_assoc]
def REnd:Rp Unit:=fun _ cs _=>cs=[]
def RCons {α β:Type} (n:Nat) (R:Rp α) (S:Rp β):Rp (α×β):=fun H cs x=>R H (cs.take n) x.1∧S H (cs.drop n) x.2
theorem REnd.mono:Mono REnd:=fun _ h=>h
theorem RCons.mono {α β:Type}{n:Nat}{R:Rp α}{S:Rp β} (h:Mono R) (k:Mono S):Mono (RCons n R S):=fun hk hx=>⟨h hk hx.1,k hk hx.2⟩
def EntF {β:Type} (P:Program) (S:Rp β) (fs:List Field) (off size:Nat):Prop :=
 ∀ {Hd:Type} (enc:TypeId×Value→Hd) (w:World) (fuel:Nat) (cs:List Value),cs.length=size →
   (∀ f,f∈fs→∃ y,DataW.trod enc P w 0 (fun _=>true) true fuel f.type ((cs.drop f.offset).take (P.cellsOf f.type))=some y) →
   ∀ (H:AH) (ι:Emb),HRel P w.heap.size ι H w→Ro H→∃ H' ι' as,∃ b:β,HRel P w.heap.size ι' H' w∧Ro H'∧Kro H H'∧ι.le ι'∧LRel ι' as (cs.drop off)∧S H' as b
end Go.Ev
namespace Go.Ev
open Go.RowKit
variable {P:Program}{w:World}{H:AH}{ι:Emb}
def AEnd:Rp Unit:=fun _ avs _=>avs=[]
def AAgg {α β:Type} (R:Rp α) (S:Rp β):Rp (α×β):=fun H avs x=>∃ cs vs,avs=.agg cs::vs∧R H cs.toList x.1∧S H vs x.2
theorem Ro.laid {rows:List AObj} (hr:∀ g o,rows[g]?=some o→RowIn w g o):Ro (startH rows):=fun b=>by
 rw [startH_obj]
 cases h:rows[b]? with
 | none=>exact .inr rfl
 |some o =>
  have hi:=hr b o h
  cases o with
  |row et cells st g v =>
   cases st<;>try exact hi.elim
   cases g with
   | succ g=>exact hi.elim
   |zero=>cases v with
    | succ v=>exact hi.elim
    | zero=>exact .inl ⟨et,cells,rfl⟩
  | dead=>exact .inr rfl
  | map es=>exact hi.elim
  | strIter s p=>exact hi.elim
  | loop=>exact hi.elim
end Go.Ev
namespace Go.Ev
open Go.RowKit Go.ChangeShapes Go.WideShapes Go.ChangeAt
variable {P:Program}{W W':World}
theorem trodAll_stays {Hd:Type}{enc:TypeId×Value→Hd} (hl:laidOutB P=true) (hb:Below W.heap.size W W') {sp:Nat→Bool}:∀ {ts:List TypeId}{vs:List Value}{ds:List (DataW Hd)}{ps:List MemPlace},
 (∀ t∈ts,P.readableRec t=true∧t<P.types.size)→DataW.TrodAll enc P W 0 (fun _=>true) true ts vs ds ps→(∀ x∈ps,x.block<W.heap.size)→(∀ x∈ps,sp x.block=true)→DataW.TrodAll enc P W' 0 sp true ts vs ds ps
 | [],[],[],_,_,h,_,_=>h
 | [],[],_::_,_,_,h,_,_=>h.elim
 | [],_::_,_,_,_,h,_,_=>h.elim
 | _::_,[],_,_,_,h,_,_=>h.elim
 | _::_,_::_,[],_,_,h,_,_=>h.elim
 |t :: ts,v::vs,d::ds,ps,ht,h,hlt,hsp=>by
  obtain ⟨p,q,h1,h2,rfl⟩:=h
  exact ⟨p,q,WideElems.Trod_stays hl (ht t (by simp)).1 (ht t (by simp)).2 h1 (fun x hx=>hb.same (hlt x (by simp [hx]))) (fun x hx=>hsp x (by simp [hx])),
    trodAll_stays hl hb (fun u hu=>ht u (by simp [hu])) h2 (fun x hx=>hlt x (by simp [hx])) (fun x hx=>hsp x (by simp [hx])),rfl⟩
theorem trodAll_len {Hd:Type}{enc:TypeId×Value→Hd}{sp:Nat→Bool}:∀ {ts:List TypeId}{vs:List Value}{ds:List (DataW Hd)}{ps:List MemPlace},DataW.TrodAll enc P W 0 sp true ts vs ds ps→vs.length=ts.length∧ds.length=ts.length
 | [],[],[],_,_=>⟨rfl,rfl⟩
 | [],[],_::_,_,h=>h.elim
 | [],_::_,_,_,h=>h.elim
 | _::_,[],_,_,h=>h.elim
 | _::_,_::_,[],_,h=>h.elim
 | _::_,_::_,_::_,_,h=>by
  obtain ⟨p,q,_,h2,_⟩:=h
  have:=trodAll_len h2
  simp [this.1,this.2]
end Go.Ev
namespace Go.Ev
open Go.RowKit
end Go.Ev
namespace Go.Ev
open Go.RowKit
variable {V:Env}{O:Orc}
section
variable {g:Ft}{H:AH}
end
theorem op_build {g:Ft}{H:AH}{t:TypeId}{ps:Array (Nat×Operand)}{vs:List (Nat×Value)}{v:Value} (hp:gparts g ps.toList=some vs) (h:aBuild V.E t vs=some v):aopG V g H (.build t ps)=some (v,H):=by
 simp only [aopG,hp,h,Option.map_some]
end Go.Ev
namespace Go.Ev
open Go.RowKit
def FrX (bs gs:List Nat) (H H':AH):Prop:=H.next≤H'.next∧(∀ b,b<H.next→b∉bs→H'.obj b=H.obj b)∧(∀ g,g<H.next→g∉gs→H'.ver g=H.ver g)
def Fr (H H':AH):Prop:=H.next≤H'.next∧(∀ b,b<H.next→H'.obj b=H.obj b)∧(∀ g,g<H.next→H'.ver g=H.ver g)
theorem Fr.refl (H:AH):Fr H H:=⟨Nat.le_refl _,fun _ _=>rfl,fun _ _=>rfl⟩
theorem Fr.trans {A B C:AH} (h:Fr A B) (k:Fr B C):Fr A C:=⟨Nat.le_trans h.1 k.1,fun b hb=>(k.2.1 b (Nat.lt_of_lt_of_le hb h.1)).trans (h.2.1 b hb),fun b hb=>(k.2.2 b (Nat.lt_of_lt_of_le hb h.1)).trans (h.2.2 b hb)⟩
theorem Fr.x {A B:AH} (h:Fr A B) (bs gs:List Nat):FrX bs gs A B:=⟨h.1,fun b hb _=>h.2.1 b hb,fun b hb _=>h.2.2 b hb⟩
theorem Fr.alloc (H:AH) (o:AObj):Fr H (H.alloc o):=⟨by simp,fun b hb=>by rw [AH.obj_alloc,if_neg (by omega)],fun g _=>by simp⟩
theorem Fr.young {A B C:AH}{bs gs:List Nat} (h:Fr A B) (k:FrX bs gs B C) (hb:∀ b∈bs,A.next≤b) (hg:∀ g∈gs,A.next≤g):Fr A C:=
 ⟨Nat.le_trans h.1 k.1,fun b hlt=>(k.2.1 b (Nat.lt_of_lt_of_le hlt h.1) fun hm=>by have:=hb b hm;omega).trans (h.2.1 b hlt),fun g hlt=>(k.2.2 g (Nat.lt_of_lt_of_le hlt h.1) fun hm=>by have:=hg g hm;omega).trans (h.2.2 g hlt)⟩
theorem FrX.refl (bs gs:List Nat) (H:AH):FrX bs gs H H:=(Fr.refl H).x _ _
theorem FrX.trans {A B C:AH}{bs gs bs' gs':List Nat} (h:FrX bs gs A B) (k:FrX bs' gs' B C) (hb:∀ b∈bs',b<A.next→b∈bs) (hg:∀ b∈gs',b<A.next→b∈gs):FrX bs gs A C:=
 ⟨Nat.le_trans h.1 k.1,fun b hlt hn=>(k.2.1 b (Nat.lt_of_lt_of_le hlt h.1) fun hm=>hn (hb b hm hlt)).trans (h.2.1 b hlt hn),fun b hlt hn=>(k.2.2 b (Nat.lt_of_lt_of_le hlt h.1) fun hm=>hn (hg b hm hlt)).trans (h.2.2 b hlt hn)⟩
theorem FrX.sub {A B:AH}{bs gs bs' gs':List Nat} (h:FrX bs gs A B) (hb:∀ b∈bs,b∈bs') (hg:∀ b∈gs,b∈gs'):FrX bs' gs' A B:=
 ⟨h.1,fun b hlt hn=>h.2.1 b hlt fun hm=>hn (hb b hm),fun b hlt hn=>h.2.2 b hlt fun hm=>hn (hg b hm)⟩
def Rd (H:AH) (b off n:Nat) (cs:List Value):Prop:=
 ∃ et cells st g v,b<H.next∧H.obj b=.row et cells st g v∧(st=.exact∨st=.ro∨(g<H.next∧H.ver g=v))∧off+n≤cells.length∧cs=(cells.drop off).take n
theorem Rd.len {H:AH}{b off n:Nat}{cs:List Value} (h:Rd H b off n cs):cs.length=n:=by
 obtain ⟨et,cells,st,g,v,_,_,_,h1,rfl⟩:=h;simp;omega
theorem Rd.rd {H:AH}{b off n:Nat}{cs:List Value} (h:Rd H b off n cs):H.rd b off n=some cs:=by
 obtain ⟨et,cells,st,g,v,h0,h1,h2,h3,rfl⟩:=h
 unfold AH.rd
 rw [AH.lo_lt h0,h1]
 simp only
 rw [if_pos]
 rw [Bool.and_eq_true,decide_eq_true_eq]
 refine ⟨?_,h3⟩
 rcases h2 with rfl|rfl|⟨_,h2⟩
 ·rfl
 ·rfl
 ·cases st<;>simp [AH.alive,h2]
theorem Rd.fr {H H':AH}{b off n:Nat}{cs:List Value} (h:Rd H b off n cs) (k:Fr H H'):Rd H' b off n cs:=by
 obtain ⟨et,cells,st,g,v,h0,h1,h2,h3,h4⟩:=h
 refine ⟨et,cells,st,g,v,Nat.lt_of_lt_of_le h0 k.1,(k.2.1 b h0).trans h1,?_,h3,h4⟩
 rcases h2 with h2|h2|⟨h2,h5⟩
 ·exact .inl h2
 ·exact .inr (.inl h2)
 ·exact .inr (.inr ⟨Nat.lt_of_lt_of_le h2 k.1,(k.2.2 g h2).trans h5⟩)
theorem Rd.sub {H:AH}{b off n:Nat}{cs:List Value} (h:Rd H b off n cs) (i m:Nat) (hm:i+m≤n):Rd H b (off+i) m ((cs.drop i).take m):=by
 obtain ⟨et,cells,st,g,v,h0,h1,h2,h3,rfl⟩:=h
 refine ⟨et,cells,st,g,v,h0,h1,h2,by omega,?_⟩
 rw [List.drop_take,List.take_take,Nat.min_eq_left (by omega),List.drop_drop]
theorem Rd.at1 {H:AH}{b off n:Nat}{cs:List Value} (h:Rd H b off n cs) {i:Nat}{c:Value} (hc:cs[i]?=some c):Rd H b (off+i) 1 [c]:=by
 have hlt:=(List.getElem?_eq_some_iff.1 hc).1
 have:=h.sub i 1 (by rw [h.len] at hlt;omega)
 have e:(cs.drop i).take 1=[c]:=by
  rw [List.drop_eq_getElem_cons hlt]
  have:=(List.getElem?_eq_some_iff.1 hc).2
  simp [this]
 rwa [e] at this
theorem Rd.exact {H:AH}{b:Nat}{et:TypeId}{cells:List Value}{g v:Nat} (hb:b<H.next) (h:H.obj b=.row et cells .exact g v):Rd H b 0 cells.length cells:=⟨et,cells,.exact,g,v,hb,h,.inl rfl,by simp,by simp⟩
theorem Rd.ro {H:AH}{b:Nat}{et:TypeId}{cells:List Value}{g v:Nat} (hb:b<H.next) (h:H.obj b=.row et cells .ro g v):Rd H b 0 cells.length cells:=⟨et,cells,.ro,g,v,hb,h,.inr (.inl rfl),by simp,by simp⟩
variable {V:Env}{O:Orc}
theorem Rd.load1 {H:AH}{b off:Nat}{c:Value} (h:Rd H b off 1 [c]) {t:TypeId}{te:TI} (he:V.E t=some te) (ha:Desc.agg te.desc=false):aLoad V.E H t (.pointer (some ⟨b,off,none⟩))=some c:=by
 simp only [aLoad,he,ha,h.rd];rfl
theorem Rd.loadN {H:AH}{b off n:Nat}{cs:List Value} (h:Rd H b off n cs) {t:TypeId}{te:TI} (he:V.E t=some te) (ha:Desc.agg te.desc=true) (hn:te.size=n):aLoad V.E H t (.pointer (some ⟨b,off,none⟩))=some (.agg cs.toArray):=by
 subst hn
 simp only [aLoad,he,ha,h.rd];rfl
def Sl (H:AH) (v:Value) (sz n:Nat) (cs:List Value):Prop:=
 cs.length=n*sz∧n<4611686018427387904∧((v=.slice none 0 0∧n=0)∨∃ b off cap,v=.slice (some ⟨b,off,none⟩) n cap∧(0<n→Rd H b off (n*sz) cs))
theorem Sl.at {H:AH}{v:Value}{sz n:Nat}{cs:List Value} (h:Sl H v sz n cs) {t e:TypeId}{s b:Nat}{z:Value} (ht:V.E t=some ⟨.slice e,s,b,z⟩) {te:TI} (he:V.E e=some te) (hz:te.size=sz) {kd:IntKind}{i:Int} (h0:0≤i) (hi:i<n) :
  ∃ b off,aIndex V.E t v (.int kd i)=some (.pointer (some ⟨b,off,none⟩))∧Rd H b off sz ((cs.drop (i.toNat*sz)).take sz):=by
 obtain ⟨h1,h2,⟨rfl,rfl⟩|⟨b,off,cap,rfl,h4⟩⟩:=h
 ·omega
 ·refine ⟨b,off+i.toNat*sz,?_,(h4 (by omega)).sub _ _ ?_⟩
  ·simp only [aIndex,ht,he,hz]
   rw [if_pos ⟨h0,hi⟩]
  ·have:(i.toNat+1)*sz≤n*sz:=Nat.mul_le_mul_right sz (by omega)
   rwa [Nat.add_mul,Nat.one_mul] at this
def Ow (H:AH) (n0:Nat) (e:TypeId) (sz:Nat) (v:Value) (n:Nat) (cs:List Value) (o:Option (Nat×Nat)):Prop:=
 cs.length=n*sz∧n<4611686018427387904∧((v=.slice none 0 0∧n=0∧o=none)∨∃ b g,o=some (b,g)∧n0≤b∧n0≤g∧b<H.next∧g<H.next∧v=.slice (some ⟨b,0,none⟩) n unk∧H.obj b=.row e cs .loose g (H.ver g)∧0<n)
def obs (o:Option (Nat×Nat)):List Nat:=match o with|none=>[]|some (b,_)=>[b]
def ogs (o:Option (Nat×Nat)):List Nat:=match o with|none=>[]|some (_,g)=>[g]
theorem Ow.nil {H:AH}{n0:Nat}{e:TypeId}{sz:Nat}:Ow H n0 e sz (.slice none 0 0) 0 [] none:=⟨by simp,by omega,.inl ⟨rfl,rfl,rfl⟩⟩
theorem Ow.isNil {H:AH}{n0:Nat}{e:TypeId}{sz:Nat}{v:Value}{cs:List Value}{o:Option (Nat×Nat)} (h:Ow H n0 e sz v 0 cs o):v=.slice none 0 0:=by
 obtain ⟨_,_,⟨h,_⟩|⟨b,g,_,_,_,_,_,_,_,h⟩⟩:=h
 ·exact h
 ·omega
theorem Ow.sl {H:AH}{n0:Nat}{e:TypeId}{sz:Nat}{v:Value}{n:Nat}{cs:List Value}{o:Option (Nat×Nat)} (h:Ow H n0 e sz v n cs o):Sl H v sz n cs:=by
 obtain ⟨h1,h2,⟨rfl,rfl,_⟩|⟨b,g,_,_,_,hb,hg,rfl,ho⟩⟩:=h
 ·exact ⟨h1,h2,.inl ⟨rfl,rfl⟩⟩
 ·exact ⟨h1,h2,.inr ⟨b,0,unk,rfl,fun _=>⟨e,cs,.loose,g,_,hb,ho.1,.inr (.inr ⟨hg,rfl⟩),by omega,by rw [←h1];simp⟩⟩⟩
theorem Ow.old {H:AH}{n0 n1:Nat}{e:TypeId}{sz:Nat}{v:Value}{n:Nat}{cs:List Value}{o:Option (Nat×Nat)} (h:Ow H n0 e sz v n cs o) (hn:n1≤n0):Ow H n1 e sz v n cs o:=by
 obtain ⟨h1,h2,h3|⟨b,g,h3,h4,h5,h6⟩⟩:=h
 ·exact ⟨h1,h2,.inl h3⟩
 ·exact ⟨h1,h2,.inr ⟨b,g,h3,Nat.le_trans hn h4,Nat.le_trans hn h5,h6⟩⟩
theorem Ow.frX {H H':AH}{n0:Nat}{e:TypeId}{sz:Nat}{v:Value}{n:Nat}{cs:List Value}{o:Option (Nat×Nat)} (h:Ow H n0 e sz v n cs o) {bs gs:List Nat} (k:FrX bs gs H H') (hb:∀ b∈obs o,b∉bs) (hg:∀ g∈ogs o,g∉gs):Ow H' n0 e sz v n cs o:=by
 obtain ⟨h1,h2,h3|⟨b,g,rfl,h4,h5,h6,h7,h8,h9⟩⟩:=h
 ·exact ⟨h1,h2,.inl h3⟩
 ·refine ⟨h1,h2,.inr ⟨b,g,rfl,h4,h5,Nat.lt_of_lt_of_le h6 k.1,Nat.lt_of_lt_of_le h7 k.1,h8,?_⟩⟩
  rw [k.2.1 b h6 (hb b (by simp [obs])),h9.1,k.2.2 g h7 (hg g (by simp [ogs]))]
  exact ⟨rfl,h9.2⟩
theorem Ow.fr {H H':AH}{n0:Nat}{e:TypeId}{sz:Nat}{v:Value}{n:Nat}{cs:List Value}{o:Option (Nat×Nat)} (h:Ow H n0 e sz v n cs o) (k:Fr H H'):Ow H' n0 e sz v n cs o:=h.frX (k.x [] []) (by simp) (by simp)
theorem Ow.young {H:AH}{n0:Nat}{e:TypeId}{sz:Nat}{v:Value}{n:Nat}{cs:List Value}{o:Option (Nat×Nat)} (h:Ow H n0 e sz v n cs o):(∀ b∈obs o,n0≤b)∧(∀ g∈ogs o,n0≤g)∧(∀ b∈obs o,b<H.next)∧(∀ g∈ogs o,g<H.next):=by
 obtain ⟨_,_,⟨_,_,rfl⟩|⟨b,g,rfl,h4,h5,h6,h7,_⟩⟩:=h
 ·simp [obs,ogs]
 ·simp [obs,ogs,h4,h5,h6,h7]
theorem Ow.app {H:AH}{n0:Nat}{e:TypeId}{sz bytes n m:Nat}{v:Value}{cs new:List Value}{o:Option (Nat×Nat)} (h:Ow H n0 e sz v n cs o) (hm:0<m) (hz:0<sz) (hn:new.length=m*sz) (hb:(n+m)*bytes≤140737488355328) (hl:n+m<4611686018427387904) (h0:n0≤H.next) :
  ∃ v' H' o',H.app e sz bytes v m new=some (v',H')∧Ow H' n0 e sz v' (n+m) (cs++new) o'∧FrX (obs o) (ogs o) H H'∧(∀ b∈obs o',H.next≤b)∧(∀ g∈ogs o',g∈ogs o∨H.next≤g):=by
 obtain ⟨hc,hlt,⟨rfl,rfl,rfl⟩|⟨b,g,rfl,hb0,hg0,hbl,hgl,rfl,ho⟩⟩:=h
 ·have:cs=[]:=List.length_eq_zero_iff.1 (by simpa using hc)
  subst this
  refine ⟨.slice (some ⟨H.next,0,none⟩) (0+m) unk,H.alloc (.row e new .loose H.next (H.ver H.next)),some (H.next,H.next),?_,⟨by simp [hn],by omega,.inr ⟨H.next,H.next,rfl,h0,h0,by simp,by simp,rfl,by simp,by omega⟩⟩,(Fr.alloc _ _).x _ _,by simp [obs],by simp [ogs]⟩
  simp only [AH.app]
  rw [if_neg (by omega),if_pos ⟨by simpa using hb,by omega,hz⟩]
  simp
 ·have hm':0<m*sz:=Nat.mul_pos hm hz
  refine ⟨.slice (some ⟨H.next,0,none⟩) (n+m) unk,(H.put b (.row e cs .shared g (H.ver g))).alloc (.row e (cs++new) .loose g (H.ver g)),some (H.next,g),?_,⟨by simp [hc,hn,Nat.add_mul],hl,.inr ⟨H.next,g,rfl,h0,hg0,by simp,by simp;omega,rfl,by simp,by omega⟩⟩,⟨by simp,fun c hc hx=>?_,fun c _ _=>by simp⟩,by simp [obs],by simp [ogs]⟩
  ·simp only [AH.app,ho.1]
   rw [if_neg (by omega),if_neg (fun h=>h ⟨hb,hl,hz⟩),if_pos trivial,if_pos ⟨trivial,trivial⟩,if_neg (by omega),if_pos (by omega)]
   simp
  ·rw [AH.obj_alloc,if_neg (by simp;omega),AH.obj_put,if_neg (by simpa [obs] using hx)]
theorem Ow.wr {H:AH}{n0:Nat}{e:TypeId}{sz n:Nat}{v:Value}{cs:List Value}{o:Option (Nat×Nat)} (h:Ow H n0 e sz v n cs o) {off:Nat}{vs:List Value} (hne:vs≠[]) (hf:off+vs.length≤cs.length) :
  ∃ b g H',o=some (b,g)∧v=.slice (some ⟨b,0,none⟩) n unk∧H.wr b off vs=some H'∧Ow H' n0 e sz v n (splice cs off vs) o∧FrX (obs o) (ogs o) H H'∧H'.next=H.next:=by
 obtain ⟨hc,hlt,⟨rfl,rfl,rfl⟩|⟨b,g,rfl,hb0,hg0,hbl,hgl,rfl,ho⟩⟩:=h
 ·have h1:cs=[]:=List.length_eq_zero_iff.1 (by simpa using hc)
  subst h1
  have h2:off+vs.length≤0:=hf
  exact absurd (List.length_eq_zero_iff.1 (by omega)) hne
 ·refine ⟨b,g,(H.put b (.row e (splice cs off vs) .loose g (H.ver g+1))).bump g (H.ver g+1),rfl,rfl,?_,⟨by rw [splice_length hf,hc],hlt,.inr ⟨b,g,rfl,hb0,hg0,by simpa using hbl,by simpa using hgl,rfl,by simp,ho.2⟩⟩,⟨by simp,fun c hc hx=>?_,fun c hc hx=>?_⟩,by simp⟩
  ·unfold AH.wr
   rw [if_neg (by simpa using hne),ho.1]
   simp only [beq_self_eq_true,Bool.true_and,decide_eq_true_eq]
   rw [if_pos hf]
  ·simp only [AH.obj_bump,AH.obj_put]
   rw [if_neg (by simpa [obs] using hx)]
  ·simp only [AH.ver_bump,AH.ver_put]
   rw [if_neg (by simpa [ogs] using hx)]
section
variable {live:Option Nat}{n:Nat}{l:SL}{H:AH}{Q:Ex→SL→AH→Prop}
theorem WP.condT' {x:Operand}{a b:PC}{t:Bool} (hx:lookO V.nG l x=some (.bool t)) (ht:t=true) (h:WP V O live n a l H Q):WP V O live n (.cond x a b) l H Q:=.cond hx (fun _=>h) (fun e=>by rw [ht] at e;cases e)
theorem WP.condF' {x:Operand}{a b:PC}{t:Bool} (hx:lookO V.nG l x=some (.bool t)) (ht:t=false) (h:WP V O live n b l H Q):WP V O live n (.cond x a b) l H Q:=.cond hx (fun e=>by rw [ht] at e;cases e) (fun _=>h)
theorem WP.seqS {σ:Type}{a b:PC} (lit:σ→SL) (F:σ→AH→Prop) (h:WP V O live n a l H (ThenL (fun l' H'=>∃ s,F s H'∧Kn l' (lit s)) Q)) (k:∀ s H',F s H'→WP V O live n b (lit s) H' Q):WP V O live n (.seq a b) l H Q:=
 .seq (h.mono fun e l' H' hq=>by
  cases e with
  | normal=>obtain ⟨s,hf,hk⟩:=hq;exact (k s H' hf).sub hk.look
  | exit id=>exact hq
  | ret=>exact hq)
end
theorem W.loopH {live:Option Nat}{n:Nat}{σ:Type}{c:Code}{Q:Ex→SL→AH→Prop} (lit:σ→SL) (I:σ→AH→Prop) (μ:σ→Nat)
 (hI:∀ s H,I s H→W V O live n c (lit s) H (ThenL (fun l' H'=>∃ s',I s' H'∧μ s'<μ s∧Kn l' (lit s')) Q)) {l:SL}{H:AH} (s0:σ) (h0:I s0 H) (hl:Kn l (lit s0)):W V O live n (.loop c) l H Q:=by
 have key:∀ k s H,I s H→μ s<k→∀ T,Has T (lit s)→Dom live T→∃ N e T' H',(∀ m,N≤m→∀ lf,N≤lf→∀ d,N≤d→loopN (fun T H=>codeL V (fO V O lf d) live none n lf c T H) m T H=some (e,T',H'))∧Dom live T'∧∃ l',Has T' l'∧Q e l' H':=by
  intro k
  induction k with
  | zero=>intro s H _ hk;omega
  |succ k ih =>
   intro s H hi hk T hT hd
   obtain ⟨N,e,T1,H1,h1,d1,l1,h2,h3⟩:=hI s H hi T hT hd
   cases e with
   |normal =>
    obtain ⟨s',i',m',kn'⟩:=h3
    obtain ⟨M,e,T2,H2,k1,k2⟩:=ih s' H1 i' (by omega) T1 (fun t v e=>h2 t v (kn'.look t v e)) d1
    refine ⟨N+M+1,e,T2,H2,fun m hm lf hlf d hdd=>?_,k2⟩
    obtain ⟨m,rfl⟩:∃ m',m=m'+1:=⟨m-1,by omega⟩
    simp only [loopN]
    rw [h1 lf (by omega) d (by omega)]
    exact k1 m (by omega) lf (by omega) d (by omega)
   |exit id =>
    refine ⟨N+1,_,T1,H1,fun m hm lf hlf d hdd=>?_,d1,l1,h2,h3⟩
    obtain ⟨m,rfl⟩:∃ m',m=m'+1:=⟨m-1,by omega⟩
    simp only [loopN]
    rw [h1 lf (by omega) d (by omega)]
   |ret =>
    refine ⟨N+1,_,T1,H1,fun m hm lf hlf d hdd=>?_,d1,l1,h2,h3⟩
    obtain ⟨m,rfl⟩:∃ m',m=m'+1:=⟨m-1,by omega⟩
    simp only [loopN]
    rw [h1 lf (by omega) d (by omega)]
 intro T hT hd
 obtain ⟨N,e,T',H',h1,h2⟩:=key (μ s0+1) s0 H h0 (Nat.lt_succ_self _) T (fun t v e=>hT t v (hl.look t v e)) hd
 exact ⟨N,e,T',H',fun lf hlf d hdd=>by simp only [codeL];exact h1 lf hlf lf hlf d hdd,h2⟩
theorem WP.loopH {live:Option Nat}{n:Nat}{l:SL}{H:AH}{Q:Ex→SL→AH→Prop}{σ:Type}{a:PC} (lit:σ→SL) (I:σ→AH→Prop) (μ:σ→Nat) (s0:σ) (h0:I s0 H) (hl:Kn l (lit s0))
  (hI:∀ s H,I s H→WP V O live n a (lit s) H (ThenL (fun l' H'=>∃ s',I s' H'∧μ s'<μ s∧Kn l' (lit s')) Q)):WP V O live n (.loop a) l H Q:=fun c hc=>by
 obtain ⟨a',rfl,k1⟩:=pcOf_cases hc
 exact .loopH lit I μ (fun s H hi=>hI s H hi a' k1) s0 h0 hl
theorem Lc.of_eq {f:FuncId}{vs:List Value}{H H1:AH}{v:Value} (h:∃ u H',Lc V O f vs H u H'∧(u=v∧H'=H1)):Lc V O f vs H v H1:=by
 obtain ⟨u,H',h,rfl,rfl⟩:=h;exact h
theorem OneAt.toSl {H:AH}{e:TypeId}{cs:List Value}{cap:Nat} (h:cs.length<4611686018427387904):Sl (H.alloc (.row e cs .exact 0 0)) (.slice (some ⟨H.next,0,none⟩) cs.length cap) 1 cs.length cs:=
 ⟨by simp,h,.inr ⟨H.next,0,cap,rfl,fun _=>by simpa using Rd.exact (H:=H.alloc (.row e cs .exact 0 0)) (b:=H.next) (et:=e) (cells:=cs) (g:=0) (v:=0) (by simp) (by simp)⟩⟩
section
variable {g:Ft}{H:AH}
theorem op_alloc {t:TypeId}{te:TI}{cs:List Value} (he:V.E t=some te) (hc:te.zv.cells.toList=cs):aopG V g H (.alloc t)=some (.pointer (some ⟨H.next,0,none⟩),H.alloc (.row t cs .exact 0 0)):=by
 subst hc;simp only [aopG,he]
theorem op_store {t:TypeId}{te:TI}{a x:Operand}{b off:Nat}{v:Value}{H':AH} (ha:g a=some (.pointer (some ⟨b,off,none⟩))) (hx:g x=some v) (he:V.E t=some te) (hs:v.cells.size=te.size) (h1:v.cells.toList.all Value.oneCell'=true) (hw:H.wr b off v.cells.toList=some H') :
  aopG V g H (.store t a x)=some (undef,H'):=by
 simp only [aopG,ha,hx,aStore,he]
 rw [if_pos ⟨hs,h1⟩,hw];rfl
theorem op_makeSlice {l c:Operand}{t e:TypeId}{k k':IntKind}{n m:Nat}{a b:Nat}{z:Value}{te:TI} (hl:g l=some (.int k n)) (hc:g c=some (.int k' m)) (ht:V.E t=some ⟨.slice e,a,b,z⟩) (he:V.E e=some te) (h1:n≤m) (h2:m*te.bytes≤140737488355328) (h3:m<4611686018427387904) :
  aopG V g H (.makeSlice t l c)=some (.slice (some ⟨H.next,0,none⟩) n m,H.alloc (.row e (azeros te.zv.cells.toList m) .exact 0 0)):=by
 simp only [aopG,hl,hc,aMakeSlice,ht,he]
 rw [if_pos ⟨by omega,by omega,h2,by omega⟩];rfl
end
theorem Ow.set {H:AH}{n0:Nat}{e:TypeId}{sz n:Nat}{v:Value}{cs:List Value}{o:Option (Nat×Nat)} (h:Ow H n0 e sz v n cs o) {t:TypeId}{s b:Nat}{z:Value} (ht:V.E t=some ⟨.slice e,s,b,z⟩) {te:TI} (he:V.E e=some te) (hz:te.size=sz)
  {kd:IntKind}{i:Int} (h0:0≤i) (hi:i<n) {vs:List Value} (hne:vs≠[]) {k:Nat} (hk:k+vs.length≤sz) :
  ∃ b off H',aIndex V.E t v (.int kd i)=some (.pointer (some ⟨b,off,none⟩))∧Rd H b off sz ((cs.drop (i.toNat*sz)).take sz)∧H.wr b (off+k) vs=some H'∧Ow H' n0 e sz v n (splice cs (i.toNat*sz+k) vs) o∧FrX (obs o) (ogs o) H H'∧H'.next=H.next:=by
 have hc:=h.1
 have hle:(i.toNat+1)*sz≤n*sz:=Nat.mul_le_mul_right sz (by omega)
 rw [Nat.add_mul,Nat.one_mul] at hle
 obtain ⟨b,off,h1,h2⟩:=h.sl.at ht he hz (kd:=kd) h0 hi
 obtain ⟨b',g,H',e1,e2,e3,e4,e5,e6⟩:=h.wr (off:=i.toNat*sz+k) hne (by omega)
 subst e2
 simp only [aIndex,ht,he,hz] at h1
 rw [if_pos ⟨h0,hi⟩] at h1
 simp only [Option.some.injEq,Value.pointer.injEq,Addr.mk.injEq] at h1
 obtain ⟨rfl,rfl,_⟩:=h1
 refine ⟨b',0+i.toNat*sz,H',?_,h2,?_,e4,e5,e6⟩
 ·simp only [aIndex,ht,he,hz]
  rw [if_pos ⟨h0,hi⟩]
 ·rw [Nat.zero_add];exact e3
theorem Ow.appSl {H:AH}{n0:Nat}{e:TypeId}{sz bytes n m:Nat}{v y:Value}{cs new:List Value}{o:Option (Nat×Nat)} (h:Ow H n0 e sz v n cs o) (hs:Sl H y sz m new) (hz:0<sz) (hb:(n+m)*bytes≤140737488355328) (hl:n+m<4611686018427387904) (h0:n0≤H.next)
 (h1:new.all Value.oneCell'=true) {t u:TypeId}{a b a2 b2:Nat}{z z2:Value}{te:TI} (ht:V.E t=some ⟨.slice e,a,b,z⟩) (hu:V.E u=some ⟨.slice e,a2,b2,z2⟩) (he:V.E e=some te) (hsz:te.size=sz) (hby:te.bytes=bytes) :
 ∃ v' H' o',(∀ {g:Ft}{x w:Operand},g x=some v→g w=some y→aopG V g H (.call ⟨.builtin .append,#[x,w],#[t,u]⟩)=some (v',H'))∧Ow H' n0 e sz v' (n+m) (cs++new) o'∧FrX (obs o) (ogs o) H H'∧(∀ b∈obs o',b∈obs o∨H.next≤b)∧(∀ g∈ogs o',g∈ogs o∨H.next≤g):=by
 subst hsz hby
 have hsrc:H.src te.size y m=some new∧srcLen y=some m:=by
  obtain ⟨h1,h2,⟨rfl,rfl⟩|⟨b,off,cap,rfl,h4⟩⟩:=hs
  ·have:new=[]:=List.length_eq_zero_iff.1 (by simpa using h1)
   subst this;exact ⟨rfl,rfl⟩
  ·refine ⟨?_,rfl⟩
   unfold AH.src
   by_cases hm:m=0
   ·have:new=[]:=List.length_eq_zero_iff.1 (by rw [h1,hm];simp)
    subst this;simp [hm]
   ·simp only [if_neg hm]
    exact (h4 (by omega)).rd
 by_cases hm:m=0
 ·subst hm
  have hnew:new=[]:=List.length_eq_zero_iff.1 (by rw [hs.1];simp)
  subst hnew
  refine ⟨v,H,o,fun {g x w} hx hw=>?_,by simpa using h,FrX.refl _ _ _,fun b hb=>.inl hb,fun b hb=>.inl hb⟩
  simp only [aopG,gvals,hx,hw,aBuiltin,ht,hu,he,hsrc.1,hsrc.2]
  obtain ⟨_,_,⟨rfl,_,_⟩|⟨b,g,_,_,_,_,_,rfl,_⟩⟩:=h<;>simp [AH.app]
 ·obtain ⟨v',H',o',q1,q2,q3,q4,q5⟩:=h.app (bytes:=te.bytes) (m:=m) (new:=new) (by omega) hz hs.1 hb hl h0
  refine ⟨v',H',o',fun {g x w} hx hw=>?_,q2,q3,fun b hb=>.inr (q4 b hb),q5⟩
  simp only [aopG,gvals,hx,hw,aBuiltin,ht,hu,he,hsrc.1,hsrc.2,h1,if_true,q1]
theorem pureRun_und {α:Type}{P:Program}{t:TypeId}{d:TypeDesc} (h:P.underlying t=some d) (f:TypeDesc→Sem α):pureRun P (underlying t >>= f)=pureRun P (f d):=by
 have e:pureRun P (underlying t >>= f)=pureRun P ((match P.underlying t with|some d=>pure d|none => stuck "no such type" : Sem TypeDesc) >>= f):=rfl
 rw [e,h];rfl
theorem op_conv {V:Env}{g:Ft}{H:AH}{s d:TypeId}{x:Operand}{k k':IntKind}{n m:Int}{ds:TypeDesc} (hs:V.P.underlying s=some ds) (hd:V.P.underlying d=some (.int k)) (hx:g x=some (.int k' n)) (h:k.wrap n=m):aopG V g H (.convert s d x)=some (.int k m,H):=by
 have e:pureRun V.P (convert s d (.int k' n))=some (.int k m):=by
  unfold convert
  rw [pureRun_und hs,pureRun_und hd,←h];rfl
 have e2:aConvert V.P V.E H s d (.int k' n)=(aPure V.P [.int k' n] (convert s d (.int k' n))).map (·,H):=by unfold aConvert;rfl
 simp only [aopG,hx,e2,aPure,e]
 rfl
def Bx (H:AH) (b:Nat) (et:TypeId) (cs:List Value):Prop:=b<H.next∧H.obj b=.row et cs .exact 0 0
section
variable {H H':AH}{b:Nat}{et:TypeId}{cs:List Value}
theorem Bx.new:Bx (H.alloc (.row et cs .exact 0 0)) H.next et cs:=⟨by simp,by simp⟩
theorem Bx.rd (h:Bx H b et cs) {n:Nat} (hn:cs.length=n):Rd H b 0 n cs:=by subst hn;exact Rd.exact h.1 h.2
theorem Bx.frX (h:Bx H b et cs) {bs gs:List Nat} (k:FrX bs gs H H') (hb:b∉bs):Bx H' b et cs:=⟨Nat.lt_of_lt_of_le h.1 k.1,(k.2.1 b h.1 hb).trans h.2⟩
theorem Bx.fr (h:Bx H b et cs) (k:Fr H H'):Bx H' b et cs:=h.frX (k.x [] []) (by simp)
theorem Bx.wr (h:Bx H b et cs) {off:Nat}{vs:List Value} (hne:vs≠[]) (hf:off+vs.length≤cs.length) :
  ∃ H',H.wr b off vs=some H'∧Bx H' b et (splice cs off vs)∧FrX [b] [] H H'∧H'.next=H.next:=by
 refine ⟨H.put b (.row et (splice cs off vs) .exact 0 0),?_,⟨by simpa using h.1,by simp⟩,⟨by simp,fun c _ hx=>by rw [AH.obj_put,if_neg (by simpa using hx)],fun c _ _=>by simp⟩,by simp⟩
 unfold AH.wr
 rw [if_neg (by simpa using hne),h.2]
 simp only
 rw [if_pos hf]
end
end Go.Ev
namespace Go.Ev
open Go.RowKit
section
variable {V:Env}{O:Orc}{live:Option Nat}{n:Nat}{l:SL}{H:AH}{Q:Ex→SL→AH→Prop}{a b:PC}{id:Nat}{is:List LI}{outs:List (Tmp×Nat)}{E:List Value}{K:List Value→AH→Prop}{o:Op}{x y z:Operand}{w t:Bool}{u v:Value}
theorem zSeq (h:WP V O live n a l H (ThenL (fun l1 H1=>WP V O live n b l1 H1 Q) Q)):WP V O live n (.seq a b) l H Q:=.seq h
theorem zReg (h:WL V O is [] l H fun E H'=>∃ l',outsL E outs l=some l'∧Q .normal l' H'):WP V O live n (.reg is outs) l H Q:=.reg h
theorem zBlk (h:WP V O live n a l H fun e l' H'=>Q (e.out id) l' H'):WP V O live n (.block id a) l H Q:=.block h
theorem zSkp (h:Q .normal l H):WP V O live n .skip l H Q:=.skip h
theorem zExt (h:Q (.exit id) l H):WP V O live n (.exit id) l H Q:=.exit h
theorem zNil {l':SL} (h:outsL E outs l=some l') (k:Q .normal l' H):WL V O [] E l H fun E H'=>∃ l',outsL E outs l=some l'∧Q .normal l' H':=.nil ⟨l',h,k⟩
theorem zGet {t:Tmp} (hv:look l t=some v) (h:WL V O is (v::E) l H K):WL V O (.get t::is) E l H K:=.get hv h
theorem zOn (hx:gS V.nG E l x=some (.bool t)) (hb:t=w) (h:WL V O (.run o none::is) E l H K):WL V O (.run o (some (x,w))::is) E l H K:=.on hx hb h
theorem zOff (hx:gS V.nG E l x=some (.bool t)) (hb:t=!w) (h:WL V O is (undef::E) l H K):WL V O (.run o (some (x,w))::is) E l H K:=.off hx hb h
theorem zU (hx:gS V.nG E l x=some undef) (h:WL V O is (undef::E) l H K):WL V O (.run o (some (x,w))::is) E l H K:=.offU hx h
theorem zMov (hx:gS V.nG E l x=some v) (h:WL V O is (v::E) l H K):WL V O (.run (.move x) none::is) E l H K:=.op (by simp only [aopG,hx,Option.map_some]) h
theorem zAsg (hx:gS V.nG E l x=some v) (h:WL V O is (v::E) l H K):WL V O (.run (.assign x) none::is) E l H K:=.op (by simp only [aopG,hx,Option.map_some]) h
theorem zXtr {i:Nat} (hx:aopG V (gS V.nG E l) H (.extract x i)=some (v,H)) (h:WL V O is (v::E) l H K):WL V O (.run (.extract x i) none::is) E l H K:=.op hx h
theorem zPT (hc:gS V.nG E l x=some (.bool t)) (hb:t=true) (hx:gS V.nG E l y=some v) (h:WL V O is (v::E) l H K):WL V O (.run (.pick x y z) none::is) E l H K:=.op (op_pickT hc hb hx) h
theorem zPF (hc:gS V.nG E l x=some (.bool t)) (hb:t=false) (hx:gS V.nG E l z=some v) (h:WL V O is (v::E) l H K):WL V O (.run (.pick x y z) none::is) E l H K:=.op (op_pickF hc hb hx) h
section
variable {ty ty2:TypeId}{k:IntKind}{i j:Int} (hx:gS V.nG E l x=some (.int k i)) (hy:gS V.nG E l y=some (.int k j))
include hx hy
theorem zLss (h:WL V O is (.bool (decide (i<j))::E) l H K):WL V O (.run (.binOp .lss ty x y ty2) none::is) E l H K:=.op (op_int hx hy (aInt_lss _ _)) h
theorem zLeq (h:WL V O is (.bool (decide (i≤j))::E) l H K):WL V O (.run (.binOp .leq ty x y ty2) none::is) E l H K:=.op (op_int hx hy (aInt_leq _ _)) h
theorem zGtr (h:WL V O is (.bool (decide (i>j))::E) l H K):WL V O (.run (.binOp .gtr ty x y ty2) none::is) E l H K:=.op (op_int hx hy (aInt_gtr _ _)) h
theorem zGeq (h:WL V O is (.bool (decide (i≥j))::E) l H K):WL V O (.run (.binOp .geq ty x y ty2) none::is) E l H K:=.op (op_int hx hy (aInt_geq _ _)) h
theorem zEql (h:WL V O is (.bool (i==j)::E) l H K):WL V O (.run (.binOp .eql ty x y ty2) none::is) E l H K:=.op (op_int hx hy (aInt_eql _ _)) h
theorem zNeq (h:WL V O is (.bool (i != j)::E) l H K):WL V O (.run (.binOp .neq ty x y ty2) none::is) E l H K:=.op (op_int hx hy (aInt_neq _ _)) h
end
theorem zAdd {ty ty2:TypeId}{i j:Int} (hx:gS V.nG E l x=some (.int .i64 i)) (hy:gS V.nG E l y=some (.int .i64 j)) (h1:-9223372036854775808≤i+j∧i+j≤9223372036854775807) (h:WL V O is (.int .i64 (i+j)::E) l H K):WL V O (.run (.binOp .add ty x y ty2) none::is) E l H K:=.op (op_int hx hy (aInt_add _ _ h1.1 h1.2)) h
theorem zSub {ty ty2:TypeId}{i j:Int} (hx:gS V.nG E l x=some (.int .i64 i)) (hy:gS V.nG E l y=some (.int .i64 j)) (h1:-9223372036854775808≤i-j∧i-j≤9223372036854775807) (h:WL V O is (.int .i64 (i-j)::E) l H K):WL V O (.run (.binOp .sub ty x y ty2) none::is) E l H K:=.op (op_int hx hy (aInt_sub _ _ h1.1 h1.2)) h
theorem zLenS {ty:TypeId}{s:ByteArray}{n b:Nat}{z:Value} (hx:gS V.nG E l x=some (.string s)) (ht:V.E ty=some ⟨.string,n,b,z⟩) (h:WL V O is (.int .i64 s.size::E) l H K):WL V O (.run (.call ⟨.builtin .len,#[x],#[ty]⟩) none::is) E l H K:=.op (op_lenS hx ht) h
theorem zLen {ty:TypeId} (hx:gS V.nG E l x=some u) (h0:aLen V.E H ty u=some v) (h:WL V O is (v::E) l H K):WL V O (.run (.call ⟨.builtin .len,#[x],#[ty]⟩) none::is) E l H K:=.op (op_len hx h0) h
theorem zNot {ty:TypeId} (hx:gS V.nG E l x=some (.bool t)) (h:WL V O is (.bool (!t)::E) l H K):WL V O (.run (.unOp .not ty x) none::is) E l H K:=.op (op_not hx) h
theorem zEqS {ty ty2:TypeId}{s r:ByteArray} (hx:gS V.nG E l x=some (.string s)) (hy:gS V.nG E l y=some (.string r)) (h:WL V O is (.bool (s.data.toList==r.data.toList)::E) l H K):WL V O (.run (.binOp .eql ty x y ty2) none::is) E l H K:=.op (op_eqS hx hy) h
theorem zNeS {ty ty2:TypeId}{s r:ByteArray} (hx:gS V.nG E l x=some (.string s)) (hy:gS V.nG E l y=some (.string r)) (h:WL V O is (.bool (!(s.data.toList==r.data.toList))::E) l H K):WL V O (.run (.binOp .neq ty x y ty2) none::is) E l H K:=.op (op_neS hx hy) h
theorem zIdx {ty:TypeId}{p:Value} (hx:gS V.nG E l x=some u) (hi:gS V.nG E l y=some v) (h0:aIndex V.E ty u v=some p) (h:WL V O is (p::E) l H K):WL V O (.run (.indexAddr ty x y) none::is) E l H K:=.op (op_indexAddr hx hi h0) h
theorem zLd {ty:TypeId} (hx:gS V.nG E l x=some u) (h0:aLoad V.E H ty u=some v) (h:WL V O is (v::E) l H K):WL V O (.run (.load ty x) none::is) E l H K:=.op (op_load hx h0) h
theorem zFld {ty:TypeId}{f:Nat} (hx:gS V.nG E l x=some u) (h0:aField V.E ty f u=some v) (h:WL V O is (v::E) l H K):WL V O (.run (.fieldAddr ty x f) none::is) E l H K:=.op (op_fieldAddr hx h0) h
theorem zT (hx:lookO V.nG l x=some (.bool t)) (ht:t=true) (h:WP V O live n a l H Q):WP V O live n (.cond x a b) l H Q:=.condT' hx ht h
theorem zF (hx:lookO V.nG l x=some (.bool t)) (ht:t=false) (h:WP V O live n b l H Q):WP V O live n (.cond x a b) l H Q:=.condF' hx ht h
end
end Go.Ev
namespace Go.Ev
open Go.RowKit
section
variable {V:Env}{H:AH}{b:Nat}{f:Int→Option Value}{t kt et:TypeId}{s0 b0:Nat}{z0:Value}
end
section
variable {V:Env}{g:Ft}{H H':AH}
end
section
variable {V:Env}{H H':AH}{n0:Nat}{e:TypeId}{sz n:Nat}{v:Value}{cs tl:List Value}{o:Option (Nat×Nat)}
end
section
variable {V:Env}{H:AH}{b n:Nat}{e t:TypeId}{cells:List Value}{te:TI}{s0 b0:Nat}{z0:Value}
theorem slice_unk (hr:H.rowOf b e=some cells) (ht:V.E t=some ⟨.slice e,s0,b0,z0⟩) (he:V.E e=some te) (hz:0<te.size) {lo hi:Option Value}{l h:Nat} (hh:optBound hi n (reach cells 0 te.size n)=some h) (hl:optBound lo 0 h=some l) :
  aSlice V.E H t (.slice (some ⟨b,0,none⟩) n unk) lo hi none=some (if l=0 then .slice (some ⟨b,0,none⟩) h unk else .slice (some ⟨b,l*te.size,none⟩) (h-l) unk):=by
 simp only [aSlice,ht,he,Option.isSome_none,Bool.false_and,Bool.false_eq_true,if_false,if_true]
 rw [if_neg (by omega),hr]
 simp only [hh,hl,Nat.zero_add]
 split<;>rfl
theorem bound_int {k:IntKind}{i y:Nat} (h:i≤y):optBound (some (.int k (i:Int))) 0 y=some i∧∀ d,optBound (some (.int k (i:Int))) d y=some i:=by
 have:∀ d,optBound (some (.int k (i:Int))) d y=some i:=fun d=>by
  simp only [optBound,bound];rw [if_pos ⟨by omega,by omega⟩];rfl
 exact ⟨this 0,this⟩
end
section
variable {V:Env}{g:Ft}{H H':AH}
theorem op_slice {t:TypeId}{x:Operand}{lo hi mx:Option Operand}{u w:Value}{l h m:Option Value} (hx:g x=some u) (hl:gopt g lo=some l) (hh:gopt g hi=some h) (hm:gopt g mx=some m) (hs:aSlice V.E H t u l h m=some w):aopG V g H (.slice t x lo hi mx)=some (w,H):=by
 simp only [aopG,hx,hl,hh,hm,hs,Option.map_some]
end
section
variable {V:Env}{H H':AH}{n0:Nat}{e:TypeId}{sz n:Nat}{v:Value}{cs tl:List Value}{o:Option (Nat×Nat)}{t:TypeId}{s0 b0:Nat}{z0:Value}{te:TI}
end
end Go.Ev
namespace Go.Ev
open Go.RowKit
section
variable {V:Env}{H H':AH}{n0:Nat}{e:TypeId}{sz n:Nat}{v:Value}{cs tl:List Value}{o:Option (Nat×Nat)}{t:TypeId}{s0 b0:Nat}{z0:Value}{te:TI}
end
end Go.Ev
namespace Go.Ev
open Go.RowKit
def OwE (H:AH) (n0:Nat) (e:TypeId) (sz:Nat) (v:Value) (n:Nat) (cs:List Value) (o:Option (Nat×Nat)):Prop:=
 Ow H n0 e sz v n cs o∨(n=0∧cs=[]∧∃ b,o=some (b,b)∧n0≤b∧v=.slice (some ⟨b,0,none⟩) 0 0∧Bx H b e [])
section
variable {V:Env}{H H':AH}{n0:Nat}{e:TypeId}{sz n:Nat}{v:Value}{cs:List Value}{o:Option (Nat×Nat)}{t:TypeId}{s0 b0:Nat}{z0:Value}{te:TI}
theorem OwE.ow (h:OwE H n0 e sz v n cs o) (h0:0<n):Ow H n0 e sz v n cs o:=by
 rcases h with h|⟨h,_⟩
 ·exact h
 ·omega
theorem OwE.sl (h:OwE H n0 e sz v n cs o):Sl H v sz n cs:=by
 rcases h with h|⟨rfl,rfl,b,_,_,rfl,hb⟩
 ·exact h.sl
 ·exact ⟨by simp,by omega,.inr ⟨b,0,0,rfl,fun h=>absurd h (by omega)⟩⟩
theorem OwE.frX (h:OwE H n0 e sz v n cs o) {bs gs:List Nat} (k:FrX bs gs H H') (hb:∀ b∈obs o,b∉bs) (hg:∀ g∈ogs o,g∉gs):OwE H' n0 e sz v n cs o:=by
 rcases h with h|⟨rfl,rfl,b,rfl,h1,rfl,h2⟩
 ·exact .inl (h.frX k hb hg)
 ·exact .inr ⟨rfl,rfl,b,rfl,h1,rfl,h2.frX k (hb b (by simp [obs]))⟩
theorem OwE.fr (h:OwE H n0 e sz v n cs o) (k:Fr H H'):OwE H' n0 e sz v n cs o:=h.frX (k.x [] []) (by simp) (by simp)
theorem OwE.young (h:OwE H n0 e sz v n cs o):(∀ b∈obs o,n0≤b)∧(∀ g∈ogs o,n0≤g)∧(∀ b∈obs o,b<H.next)∧(∀ g∈ogs o,g<H.next):=by
 rcases h with h|⟨rfl,rfl,b,rfl,h1,rfl,h2⟩
 ·exact h.young
 ·have:=h2.1
  simp [obs,ogs,h1,this]
theorem OwE.new (h0:n0≤H.next):OwE (H.alloc (.row e [] .exact 0 0)) n0 e sz (.slice (some ⟨H.next,0,none⟩) 0 0) 0 [] (some (H.next,H.next)):=
 .inr ⟨rfl,rfl,H.next,rfl,h0,rfl,.new⟩
theorem OwE.appSl (h:OwE H n0 e sz v n cs o) {m bytes:Nat}{y:Value}{new:List Value} (hs:Sl H y sz m new) (hz:0<sz) (hb:(n+m)*bytes≤140737488355328) (hl:n+m<4611686018427387904) (h0:n0≤H.next)
 (h1:new.all Value.oneCell'=true) {u:TypeId}{a2 b2:Nat}{z2:Value} (ht:V.E t=some ⟨.slice e,s0,b0,z0⟩) (hu:V.E u=some ⟨.slice e,a2,b2,z2⟩) (he:V.E e=some te) (hsz:te.size=sz) (hby:te.bytes=bytes) :
 ∃ v' H' o',(∀ {g:Ft}{x w:Operand},g x=some v→g w=some y→aopG V g H (.call ⟨.builtin .append,#[x,w],#[t,u]⟩)=some (v',H'))∧OwE H' n0 e sz v' (n+m) (cs++new) o'∧FrX (obs o) (ogs o) H H'∧(∀ b∈obs o',b∈obs o∨H.next≤b)∧(∀ g∈ogs o',g∈ogs o∨H.next≤g):=by
 rcases h with h|⟨rfl,rfl,b,rfl,hnb,rfl,hbx⟩
 ·obtain ⟨v',H',o',k1,k2,k3⟩:=h.appSl hs hz hb hl h0 h1 ht hu he hsz hby
  exact ⟨v',H',o',k1,.inl k2,k3⟩
 subst hsz hby
 have hsrc:H.src te.size y m=some new∧srcLen y=some m:=by
  obtain ⟨h1,h2,⟨rfl,rfl⟩|⟨b,off,cap,rfl,h4⟩⟩:=hs
  ·have:new=[]:=List.length_eq_zero_iff.1 (by simpa using h1)
   subst this;exact ⟨rfl,rfl⟩
  ·refine ⟨?_,rfl⟩
   unfold AH.src
   by_cases hm:m=0
   ·have:new=[]:=List.length_eq_zero_iff.1 (by rw [h1,hm];simp)
    subst this;simp [hm]
   ·simp only [if_neg hm]
    exact (h4 (by omega)).rd
 by_cases hm:m=0
 ·subst hm
  have hnew:new=[]:=List.length_eq_zero_iff.1 (by rw [hs.1];simp)
  subst hnew
  refine ⟨_,H,_,fun {g x w} hx hw=>?_,.inr ⟨rfl,rfl,b,rfl,hnb,rfl,hbx⟩,FrX.refl _ _ _,fun b hb=>.inl hb,fun b hb=>.inl hb⟩
  simp only [aopG,gvals,hx,hw,aBuiltin,ht,hu,he,hsrc.1,hsrc.2]
  simp [AH.app]
 ·have hrd:H.rd b 0 (0*te.size)=some []:=by rw [Nat.zero_mul];exact (hbx.rd (n:=0) rfl).rd
  have happ:H.app e te.size te.bytes (.slice (some ⟨b,0,none⟩) 0 0) m new=some (.slice (some ⟨H.next,0,none⟩) (0+m) unk,H.alloc (.row e new .loose H.next (H.ver H.next))):=by
   simp only [AH.app]
   rw [if_neg hm,if_neg (fun h=>h ⟨hb,hl,hz⟩),if_neg (by unfold unk;omega),if_neg (by omega),hrd]
   rfl
  refine ⟨.slice (some ⟨H.next,0,none⟩) (0+m) unk,H.alloc (.row e new .loose H.next (H.ver H.next)),some (H.next,H.next),fun {g x w} hx hw=>?_,.inl ⟨by rw [List.nil_append,hs.1,Nat.zero_add],hl,.inr ⟨H.next,H.next,rfl,h0,h0,by simp,by simp,rfl,by simp,by omega⟩⟩,(Fr.alloc _ _).x _ _,by simp [obs],by simp [ogs]⟩
  simp only [aopG,gvals,hx,hw,aBuiltin,ht,hu,he,hsrc.1,hsrc.2,h1,if_true,happ]
end
end Go.Ev
namespace Go.Ev
open Go.RowKit
theorem all_of {α:Type}{R:Rp α}{P:α→Prop} (hR:∀ H cs x,R H cs x→P x) {H:AH}{cs:List Value}{xs:List α}{n:Nat} (h:RSlice n R H cs xs):∀ x∈xs,P x:=by
 obtain ⟨v,rfl,hl,⟨_,rfl⟩|⟨b,cap,_,_,rfl⟩|⟨b,off,cap,et,cells,g,k,_,_,_,_,_,_,h7⟩⟩:=h
 ·intro x hx;cases hx
 ·intro x hx;cases hx
 ·intro x hx
  obtain ⟨i,hi,rfl⟩:=List.mem_iff_getElem.1 hx
  exact hR _ _ _ (h7 i _ (List.getElem?_eq_getElem hi))
end Go.Ev
namespace Go.Ev
open Go.RowKit
theorem codeL_ro {V:Env}{call:CallFn}{live:Option Nat}{ro:Option Nat}{n lf:Nat}:∀ (c:Code),noRF c=true→∀ T H,codeL V call live ro n lf c T H=codeL V call live none n lf c T H:=by
 intro c
 induction c with
 | seq a b iha ihb=>
  intro h T H
  simp only [noRF,Bool.and_eq_true] at h
  simp only [codeL,iha h.1]
  split
  ·exact ihb h.2 _ _
  ·rfl
 | cond x a b iha ihb=>
  intro h T H
  simp only [noRF,Bool.and_eq_true] at h
  simp only [codeL]
  split
  ·exact iha h.1 _ _
  ·exact ihb h.2 _ _
  ·rfl
 | block id c ih=>
  intro h T H
  simp only [noRF] at h
  simp only [codeL,ih h]
 | loop c ih=>
  intro h T H
  simp only [noRF] at h
  simp only [codeL]
  congr 1
  funext T H
  exact ih h T H
 | rangeFunc f ps x y _ _=>intro h;simp [noRF] at h
 | _=>intro _ _ _;rfl
variable {V:Env}{O:Orc}
def Yd (V:Env) (O:Orc) (b:Nat) (vs:List Value) (H:AH) (v:Value) (H':AH):Prop:=∃ N,∀ lf,N≤lf→∀ d,N≤d→fO V O lf d (.yld b) vs H=some (v,H')
theorem WL.yield {f:Operand}{args:Array Operand}{ts:Array TypeId}{b:Nat}{first cap:Array Value}{vs:List Value}{is:List LI}{E:List Value}{l:SL}{H H1:AH}{K:List Value→AH→Prop}{v:Value}
  (hf:gS V.nG E l f=some (.func (.yield b) first cap)) (ha:gvals (gS V.nG E l) args.toList=some vs) (hc:Yd V O b vs H v H1) (h:WL V O is (v::E) l H1 K) :
  WL V O (.run (.call ⟨.value f,args,ts⟩) none::is) E l H K:=fun T hT=>by
 obtain ⟨N,E',H',h1,h2⟩:=h T hT
 obtain ⟨M,hc⟩:=hc
 have e1:=gS_le hT V.nG E f _ hf
 have e2:=gvals_mono (gS_le hT V.nG E) ha
 refine ⟨N+M,E',H',fun lf hlf d hd=>?_,h2⟩
 simp only [runLI,wantL,evOpG,e1,e2,hc lf (by omega) d (by omega)]
 exact h1 lf (by omega) d (by omega)
theorem W.rfunc {live:Option Nat}{n:Nat}{f:Operand}{ps:Array Tmp}{cx cy:Code}{l:SL}{H:AH}{Q:Ex→SL→AH→Prop}{g:FuncId}{first cap:Array Value} (hf:lookO V.nG l f=some (.func (.func g) first cap)) (hg:(V.F g).isSome=true)
  (h:∀ T,Has T l→∃ v H2 st pend n2 T2 ps2 x2 y2 e,Lc V O g (first.toList++[.func (.yield H.next) #[] #[]]++cap.toList) (H.alloc (.loop .ready none n T ps cx cy)) v H2∧H2.obj H.next=.loop st pend n2 T2 ps2 x2 y2∧st≠.busy∧ofJump pend=some e∧Q e l (H2.put H.next .dead)) :
  W V O live n (.rangeFunc f ps cx cy) l H Q:=fun T hT hd=>by
 obtain ⟨v,H2,st,pend,n2,T2,ps2,x2,y2,e,⟨N,hc⟩,ho,hst,hj,hq⟩:=h T hT
 have hv:=hT.oval hf
 obtain ⟨fn,hfn⟩:=Option.isSome_iff_exists.1 hg
 refine ⟨N,e,T,H2.put H.next .dead,fun lf hlf d hdd=>?_,hd,l,hT,hq⟩
 simp only [codeL,evC,roAlive,hv,hfn,hc lf hlf d hdd,loopEnd,ho,if_neg hst,hj,Option.map_some]
theorem WP.rfunc {live:Option Nat}{n:Nat}{f:Operand}{ps:Array Tmp}{x y:PC}{l:SL}{H:AH}{Q:Ex→SL→AH→Prop}{g:FuncId}{first cap:Array Value} (hf:lookO V.nG l f=some (.func (.func g) first cap)) (hg:(V.F g).isSome=true)
  (h:∀ T cx cy,Has T l→pcOf V n none cx=some x→pcOf V n none cy=some y→noRF cx=true→noRF cy=true →
   ∃ v H2 st pend n2 T2 ps2 x2 y2 e,Lc V O g (first.toList++[.func (.yield H.next) #[] #[]]++cap.toList) (H.alloc (.loop .ready none n T ps cx cy)) v H2∧H2.obj H.next=.loop st pend n2 T2 ps2 x2 y2∧st≠.busy∧ofJump pend=some e∧Q e l (H2.put H.next .dead)) :
  WP V O live n (.rfunc f ps x y) l H Q:=fun c hc=>by
 obtain ⟨cx,cy,rfl,h1,h2,h3,h4⟩:=pcOf_cases hc
 exact .rfunc hf hg fun T hT=>h T cx cy hT h1 h2 h3 h4
def psL (n:Nat):List Tmp→List Value→SL→Option SL
 | [],[],l=>some l
 | t::ts,v::vs,l=>if t<n then psL n ts vs ((t,v)::l) else none
 | _,_,_=>none
theorem psL_ok {n:Nat}:∀ {ps:List Tmp}{vs:List Value}{l l':SL}{T:PTree Value},psL n ps vs l=some l'→Has T l→∃ T',setPs n ps vs T=some T'∧Has T' l'
 | [],[],l,l',T,h,hT=>by simp [psL] at h;subst h;exact ⟨T,rfl,hT⟩
 | [],_::_,l,l',T,h,_=>by simp [psL] at h
 | _::_,[],l,l',T,h,_=>by simp [psL] at h
 |t::ts,v::vs,l,l',T,h,hT=>by
  simp only [psL] at h
  split at h
  ·rename_i ht
   simp only [setPs,if_pos ht]
   refine psL_ok h fun u w hu=>?_
   simp only [look] at hu
   split at hu
   ·rename_i e;subst e;cases hu;exact PTree.get_set_same _ _ _
   ·rename_i e;rw [PTree.get_set_ne _ _ (Ne.symm e)];exact hT u w hu
  ·cases h
theorem Yd.round {b n:Nat}{st:LoopState}{pe:Option Code}{T:PTree Value}{ps:Array Tmp}{cx cy:Code}{x y:PC}{l l1:SL}{vs:List Value}{H:AH}{K:Value→AH→Prop} (ho:H.obj b=.loop st pe n T ps cx cy) (hT:Has T l) (hps:psL n ps.toList vs l=some l1)
  (hx:pcOf V n none cx=some x) (hy:pcOf V n none cy=some y) (nx:noRF cx=true) (ny:noRF cy=true)
  (h:WP V O none n x l1 H fun e l2 H2=>e=.normal∧∃ pe2 n2 T2 ps2 x2 y2,H2.obj b=.loop .ready pe2 n2 T2 ps2 x2 y2∧WP V O none n y l2 (H2.put b (.loop .busy pe2 n2 T2 ps2 x2 y2)) fun e l4 H4=>∃ st4 pe4 n4 T4 ps4 x4 y4,H4.obj b=.loop st4 pe4 n4 T4 ps4 x4 y4∧K (.bool e.jump.isNone) (H4.put b (.loop (if e.jump.isNone then .ready else .done) e.jump n4 T4 ps4 x4 y4))) :
  ∃ v H',Yd V O b vs H v H'∧K v H':=by
 obtain ⟨T1,k1,hT1⟩:=psL_ok hps hT
 obtain ⟨N,e,T2,H2,r1,d2,l2,hT2,rfl,pe2,n2,T2',ps2,x2,y2,ho2,hW⟩:=h cx hx T1 hT1 (dom_none T1)
 obtain ⟨M,e4,T4,H4,r2,d4,l4,hT4,st4,pe4,n4,T4',ps4,x4,y4,ho4,hK⟩:=hW cy hy T2 hT2 d2
 refine ⟨_,_,⟨N+M+1,fun lf hlf d hd=>?_⟩,hK⟩
 obtain ⟨d,rfl⟩:∃ d',d=d'+1:=⟨d-1,by omega⟩
 simp only [fO,roundL,ho,k1]
 rw [codeL_ro cx nx,r1 lf (by omega) d (by omega)]
 simp only [ho2]
 rw [codeL_ro cy ny,r2 lf (by omega) d (by omega)]
 simp only [ho4]
end Go.Ev
namespace Go.Ev
open Go.RowKit
structure Av where
 bs:List Nat
 gs:List Nat
def Av.no:Av:=⟨[],[]⟩
def Av.of (o:Option (Nat×Nat)):Av:=⟨obs o,ogs o⟩
def Av.box (b:Nat):Av:=⟨[b],[]⟩
def Av.and (a b:Av):Av:=⟨a.bs++b.bs,a.gs++b.gs⟩
def Av.Lt (A:Av) (n:Nat):Prop:=(∀ b∈A.bs,b<n)∧∀ g∈A.gs,g<n
def Av.Gr (A B:Av) (n:Nat):Prop:=(∀ b∈B.bs,b∈A.bs∨n≤b)∧∀ g∈B.gs,g∈A.gs∨n≤g
theorem Av.Gr.refl {A:Av}{n:Nat}:A.Gr A n:=⟨fun _ h=>.inl h,fun _ h=>.inl h⟩
theorem Av.Gr.no {A:Av}{n:Nat}:A.Gr .no n:=⟨fun _ h=>(by cases h),fun _ h=>(by cases h)⟩
theorem Av.Gr.left {A B:Av}{n:Nat}:(A.and B).Gr A n:=⟨fun _ h=>.inl (List.mem_append_left _ h),fun _ h=>.inl (List.mem_append_left _ h)⟩
theorem Av.Gr.and {A B C D:Av}{n:Nat} (h:A.Gr B n) (k:C.Gr D n):(A.and C).Gr (B.and D) n:=
 ⟨fun b hb=>(List.mem_append.1 hb).elim (fun hb=>(h.1 b hb).imp (List.mem_append_left _) id) (fun hb=>(k.1 b hb).imp (List.mem_append_right _) id),fun b hb=>(List.mem_append.1 hb).elim (fun hb=>(h.2 b hb).imp (List.mem_append_left _) id) (fun hb=>(k.2 b hb).imp (List.mem_append_right _) id)⟩
theorem Av.Lt.and {A B:Av}{n:Nat} (h:A.Lt n) (k:B.Lt n):(A.and B).Lt n:=⟨fun b hb=>(List.mem_append.1 hb).elim (h.1 b) (k.1 b),fun b hb=>(List.mem_append.1 hb).elim (h.2 b) (k.2 b)⟩
theorem Av.Lt.mono {A:Av}{n m:Nat} (h:A.Lt n) (k:n≤m):A.Lt m:=⟨fun b hb=>Nat.lt_of_lt_of_le (h.1 b hb) k,fun b hb=>Nat.lt_of_lt_of_le (h.2 b hb) k⟩
theorem Av.Lt.no {n:Nat}:Av.no.Lt n:=⟨fun _ h=>(by cases h),fun _ h=>(by cases h)⟩
theorem Av.Lt.box {b n:Nat} (h:b<n):(Av.box b).Lt n:=⟨fun c hc=>by simp [Av.box] at hc;omega,fun c hc=>by simp [Av.box] at hc⟩
def RdA (A:Av) (H:AH) (b off n:Nat) (cs:List Value):Prop:=
 b∉A.bs∧∃ et cells st g v,b<H.next∧H.obj b=.row et cells st g v∧(st=.exact∨st=.ro∨(g<H.next∧g∉A.gs∧H.ver g=v))∧off+n≤cells.length∧cs=(cells.drop off).take n
section
variable {A B:Av}{H H':AH}{b off n:Nat}{cs:List Value}
theorem RdA.rd (h:RdA A H b off n cs):Rd H b off n cs:=by
 obtain ⟨_,et,cells,st,g,v,h1,h2,h3,h4,h5⟩:=h
 exact ⟨et,cells,st,g,v,h1,h2,h3.imp id fun h=>h.imp id fun h=>⟨h.1,h.2.2⟩,h4,h5⟩
theorem Rd.a (h:Rd H b off n cs):RdA .no H b off n cs:=by
 obtain ⟨et,cells,st,g,v,h1,h2,h3,h4,h5⟩:=h
 exact ⟨by simp [Av.no],et,cells,st,g,v,h1,h2,h3.imp id fun h=>h.imp id fun h=>⟨h.1,by simp [Av.no],h.2⟩,h4,h5⟩
theorem RdA.frX (h:RdA A H b off n cs) (k:FrX A.bs A.gs H H'):RdA A H' b off n cs:=by
 obtain ⟨h0,et,cells,st,g,v,h1,h2,h3,h4,h5⟩:=h
 refine ⟨h0,et,cells,st,g,v,Nat.lt_of_lt_of_le h1 k.1,(k.2.1 b h1 h0).trans h2,?_,h4,h5⟩
 rcases h3 with h3|h3|⟨h3,h6,h7⟩
 ·exact .inl h3
 ·exact .inr (.inl h3)
 ·exact .inr (.inr ⟨Nat.lt_of_lt_of_le h3 k.1,h6,(k.2.2 g h3 h6).trans h7⟩)
theorem RdA.gr (h:RdA A H b off n cs) (k:A.Gr B H.next):RdA B H b off n cs:=by
 obtain ⟨h0,et,cells,st,g,v,h1,h2,h3,h4,h5⟩:=h
 refine ⟨fun hb=>(k.1 b hb).elim h0 fun h=>by omega,et,cells,st,g,v,h1,h2,?_,h4,h5⟩
 rcases h3 with h3|h3|⟨h3,h6,h7⟩
 ·exact .inl h3
 ·exact .inr (.inl h3)
 ·exact .inr (.inr ⟨h3,fun hg=>(k.2 g hg).elim h6 fun h=>by omega,h7⟩)
end
theorem Rd.aLt {H H0:AH}{A:Av} (hA:A.Lt H0.next) {b off n:Nat}{cs:List Value}{et:TypeId}{cells:List Value}{st:RowSt}{g v:Nat} (hb:H0.next≤b) (hb2:b<H.next) (ho:H.obj b=.row et cells st g v) (hs:st=.exact∨st=.ro∨(H0.next≤g∧g<H.next∧H.ver g=v)) (hl:off+n≤cells.length) (hc:cs=(cells.drop off).take n):RdA A H b off n cs:=
 ⟨fun h=>by have:=hA.1 b h;omega,et,cells,st,g,v,hb2,ho,hs.imp id fun h=>h.imp id fun h=>⟨h.2.1,fun hg=>by have:=hA.2 g hg;omega,h.2.2⟩,hl,hc⟩
def Sr (A:Av) (H:AH) (v:Value) (sz n:Nat) (cs:List Value):Prop:=
 cs.length=n*sz∧((v=.slice none 0 0∧n=0)∨∃ b off cap,v=.slice (some ⟨b,off,none⟩) n cap∧(0<n→RdA A H b off (n*sz) cs))
section
variable {A B:Av}{H H':AH}{v:Value}{sz n:Nat}{cs:List Value}
theorem Sr.sl (h:Sr A H v sz n cs) (hn:n<4611686018427387904):Sl H v sz n cs:=⟨h.1,hn,h.2.imp id fun ⟨b,off,cap,h1,h2⟩=>⟨b,off,cap,h1,fun h=>(h2 h).rd⟩⟩
theorem Sl.sr (h:Sl H v sz n cs):Sr .no H v sz n cs:=⟨h.1,h.2.2.imp id fun ⟨b,off,cap,h1,h2⟩=>⟨b,off,cap,h1,fun h=>(h2 h).a⟩⟩
theorem Sr.nil:Sr A H (.slice none 0 0) sz 0 []:=⟨by simp,.inl ⟨rfl,rfl⟩⟩
theorem Sr.empty {b off cap:Nat}:Sr A H (.slice (some ⟨b,off,none⟩) 0 cap) sz 0 []:=⟨by simp,.inr ⟨b,off,cap,rfl,fun h=>absurd h (by simp)⟩⟩
theorem Sr.frX (h:Sr A H v sz n cs) (k:FrX A.bs A.gs H H'):Sr A H' v sz n cs:=⟨h.1,h.2.imp id fun ⟨b,off,cap,h1,h2⟩=>⟨b,off,cap,h1,fun h=>(h2 h).frX k⟩⟩
theorem Sr.gr (h:Sr A H v sz n cs) (k:A.Gr B H.next):Sr B H v sz n cs:=⟨h.1,h.2.imp id fun ⟨b,off,cap,h1,h2⟩=>⟨b,off,cap,h1,fun h=>(h2 h).gr k⟩⟩
theorem Sr.len (h:Sr A H v sz n cs) {V:Env}{H2:AH}{t e:TypeId}{s b:Nat}{z:Value} (ht:V.E t=some ⟨.slice e,s,b,z⟩):aLen V.E H2 t v=some (.int .i64 n):=by
 unfold aLen
 rw [ht]
 rcases h.2 with ⟨rfl,rfl⟩|⟨b,off,cap,rfl,_⟩<;>rfl
theorem Sr.at (h:Sr A H v sz n cs) {V:Env}{t e:TypeId}{s b:Nat}{z:Value} (ht:V.E t=some ⟨.slice e,s,b,z⟩) {te:TI} (he:V.E e=some te) (hz:te.size=sz) {kd:IntKind}{i:Int} (h0:0≤i) (hi:i<n) :
  ∃ b off,aIndex V.E t v (.int kd i)=some (.pointer (some ⟨b,off,none⟩))∧Rd H b off sz ((cs.drop (i.toNat*sz)).take sz):=by
 obtain ⟨h1,⟨rfl,rfl⟩|⟨b,off,cap,rfl,h4⟩⟩:=h
 ·omega
 ·refine ⟨b,off+i.toNat*sz,?_,(h4 (by omega)).rd.sub _ _ ?_⟩
  ·simp only [aIndex,ht,he,hz]
   rw [if_pos ⟨h0,hi⟩]
  ·have:(i.toNat+1)*sz≤n*sz:=Nat.mul_le_mul_right sz (by omega)
   rwa [Nat.add_mul,Nat.one_mul] at this
end
def ints (l:List Int):List Value:=l.map fun x=>.int .i64 x
theorem ints_len (l:List Int):(ints l).length=l.length:=List.length_map _
theorem ints_app (l m:List Int):ints (l++m)=ints l++ints m:=List.map_append
theorem ints_one (l:List Int):(ints l).all Value.oneCell'=true:=by
 rw [List.all_eq_true];intro x hx
 obtain ⟨m,_,rfl⟩:=List.mem_map.1 hx;rfl
theorem ints_at {l:List Int}{i:Nat} (h:i<l.length):((ints l).drop (i*1)).take 1=[.int .i64 l[i]]:=by
 unfold ints
 rw [Nat.mul_one,←List.map_drop,List.drop_eq_getElem_cons h];rfl
abbrev IntsR (A:Av) (H:AH) (v:Value) (l:List Int):Prop:=Sr A H v 1 l.length (ints l)
theorem IntsR.at {A:Av}{H:AH}{v:Value}{l:List Int} (h:IntsR A H v l) {V:Env}{t e:TypeId}{s b sb:Nat}{z:Value} (ht:V.E t=some ⟨.slice e,s,b,z⟩) (he:V.E e=some ⟨.int .i64,1,sb,.int .i64 0⟩) {kd:IntKind}{i:Nat} (hi:i<l.length) :
  ∃ b off,aIndex V.E t v (.int kd i)=some (.pointer (some ⟨b,off,none⟩))∧aLoad V.E H e (.pointer (some ⟨b,off,none⟩))=some (.int .i64 l[i]):=by
 obtain ⟨b,off,h1,h2⟩:=Sr.at h ht he rfl (kd:=kd) (i:=(i:Int)) (by omega) (by omega)
 rw [show (i:Int).toNat=i from rfl,ints_at hi] at h2
 exact ⟨b,off,h1,h2.load1 he rfl⟩
abbrev Rq (α:Type):=Av→AH→List Value→α→Prop
structure MonoF {α:Type} (R:Rq α):Prop where
 frX:∀ {A H H' cs a},FrX A.bs A.gs H H'→R A H cs a→R A H' cs a
 gr:∀ {A B:Av}{H cs a},A.Gr B H.next→R A H cs a→R B H cs a
def Els {α:Type} (sz:Nat) (R:Rq α) (A:Av) (H:AH) (v:Value) (xs:List α):Prop:=∃ cs,Sr A H v sz xs.length cs∧∀ i (h:i<xs.length),R A H ((cs.drop (i*sz)).take sz) xs[i]
section
variable {α:Type}{sz:Nat}{R:Rq α}{A B:Av}{H H':AH}{v:Value}{xs:List α}
theorem Els.nil:Els sz R A H (.slice none 0 0) []:=⟨[],.nil,fun i h=>absurd h (by simp)⟩
theorem Els.frX (hm:MonoF R) (h:Els sz R A H v xs) (k:FrX A.bs A.gs H H'):Els sz R A H' v xs:=
 let ⟨cs,h1,h2⟩:=h
 ⟨cs,h1.frX k,fun i hi=>hm.frX k (h2 i hi)⟩
theorem Els.gr (hm:MonoF R) (h:Els sz R A H v xs) (k:A.Gr B H.next):Els sz R B H v xs:=
 let ⟨cs,h1,h2⟩:=h
 ⟨cs,h1.gr k,fun i hi=>hm.gr k (h2 i hi)⟩
theorem Els.len (h:Els sz R A H v xs) {V:Env}{H2:AH}{t e:TypeId}{s b:Nat}{z:Value} (ht:V.E t=some ⟨.slice e,s,b,z⟩):aLen V.E H2 t v=some (.int .i64 xs.length):=let ⟨_,h1,_⟩:=h;h1.len ht
theorem Els.at (h:Els sz R A H v xs) {V:Env}{t e:TypeId}{s b:Nat}{z:Value} (ht:V.E t=some ⟨.slice e,s,b,z⟩) {te:TI} (he:V.E e=some te) (hz:te.size=sz) {kd:IntKind}{i:Nat} (hi:i<xs.length) :
  ∃ b off cs,aIndex V.E t v (.int kd i)=some (.pointer (some ⟨b,off,none⟩))∧Rd H b off sz cs∧R A H cs xs[i]:=by
 obtain ⟨cs,h1,h2⟩:=h
 obtain ⟨b,off,k1,k2⟩:=h1.at ht he hz (kd:=kd) (i:=(i:Int)) (by omega) (by omega)
 exact ⟨b,off,_,k1,k2,h2 i hi⟩
theorem els_of {β:Type}{R0:Rp β}{f:β→α} (hR:∀ H cs x,R0 H cs x→R .no H cs (f x)) {cs:List Value}{ys:List β} (h:RSlice sz R0 H cs ys):∃ v,cs=[v]∧Els sz R .no H v (ys.map f):=by
 obtain ⟨v,rfl,hl,h|⟨b,cap,_,rfl,rfl⟩|⟨b,off,cap,et,cells,g,k,rfl,h2,h3,h4,h5,h6,h7⟩⟩:=h
 ·obtain ⟨rfl,rfl⟩:=h
  exact ⟨_,rfl,.nil⟩
 ·exact ⟨_,rfl,[],.empty,fun i h=>absurd h (by simp)⟩
 ·refine ⟨_,rfl,(cells.drop off).take (ys.length*sz),⟨by rw [List.length_take,List.length_drop,List.length_map];omega,.inr ⟨b,off,cap,by rw [List.length_map],fun _=>⟨by simp [Av.no],et,cells,.ro,g,k,h4,h5,.inr (.inl rfl),by rw [List.length_map];exact h6,by rw [List.length_map]⟩⟩⟩,fun i hi=>?_⟩
  rw [List.length_map] at hi
  have hle:(i+1)*sz≤ys.length*sz:=Nat.mul_le_mul_right sz hi
  rw [Nat.add_mul,Nat.one_mul] at hle
  rw [List.getElem_map,List.drop_take,List.take_take,Nat.min_eq_left (by omega),List.drop_drop]
  exact hR _ _ _ (h7 i ys[i] (List.getElem?_eq_getElem hi))
end
theorem intsR_of {H:AH}{cs:List Value}{l:List Int} (h:RSlice 1 (RInt .i64) H cs l):∃ v,cs=[v]∧IntsR .no H v l:=by
 obtain ⟨v,rfl,hl,h|⟨b,cap,_,rfl,rfl⟩|⟨b,off,cap,et,cells,g,k,rfl,h2,h3,h4,h5,h6,h7⟩⟩:=h
 ·obtain ⟨rfl,rfl⟩:=h
  exact ⟨_,rfl,.nil⟩
 ·exact ⟨_,rfl,.empty⟩
 ·refine ⟨_,rfl,⟨by rw [ints_len,Nat.mul_one],.inr ⟨b,off,cap,rfl,fun _=>⟨by simp [Av.no],et,cells,.ro,g,k,h4,h5,.inr (.inl rfl),h6,?_⟩⟩⟩⟩
  apply List.ext_getElem?
  intro i
  unfold ints
  rw [List.getElem?_map]
  by_cases hi:i<l.length
  ·have:=(h7 i l[i] (List.getElem?_eq_getElem hi)).1
   rw [Nat.mul_one] at this
   rw [List.getElem?_eq_getElem hi,Option.map_some,List.getElem?_take,if_pos (by omega),List.getElem?_drop]
   have h8:=congrArg (·[0]?) this
   simp only [List.getElem?_take,List.getElem?_drop] at h8
   simpa using h8.symm
  ·rw [List.getElem?_eq_none (by omega),List.getElem?_eq_none (by rw [List.length_take];omega)];rfl
structure Ins where
 op:Int
 r:Int
 a:Int
 b:Int
 n:Int
 args:List Int
 deriving DecidableEq
structure Phi where
 r:Int
 args:List Int
 deriving DecidableEq
structure Block where
 phis:List Phi
 code:List Ins
 frm:List Int
 to:List Int
 deriving DecidableEq
structure Graph where
 name:ByteArray
 thread:Bool
 params:Int
 regs:Int
 blocks:List Block
def Ins.cells (i:Ins) (va:Value):List Value:=[.int .u8 i.op,.int .i64 i.r,.int .i64 i.a,.int .i64 i.b,.int .i64 i.n,va]
def InsR:Rq Ins:=fun A H cs i=>∃ va,cs=i.cells va∧IntsR A H va i.args
def PhiR:Rq Phi:=fun A H cs p=>∃ va,cs=[.int .i64 p.r,va]∧IntsR A H va p.args
def BlockR:Rq Block:=fun A H cs b=>∃ vp vc vf vt,cs=[vp,vc,vf,vt]∧Els 2 PhiR A H vp b.phis∧Els 6 InsR A H vc b.code∧IntsR A H vf b.frm∧IntsR A H vt b.to
def GraphR:Rq Graph:=fun A H cs g=>∃ vb,cs=[.string g.name,.bool g.thread,.int .i64 g.params,.int .i64 g.regs,vb]∧Els 4 BlockR A H vb g.blocks
theorem InsR.m:MonoF InsR:=⟨fun k ⟨va,h1,h2⟩=>⟨va,h1,h2.frX k⟩,fun k ⟨va,h1,h2⟩=>⟨va,h1,h2.gr k⟩⟩
theorem PhiR.m:MonoF PhiR:=⟨fun k ⟨va,h1,h2⟩=>⟨va,h1,h2.frX k⟩,fun k ⟨va,h1,h2⟩=>⟨va,h1,h2.gr k⟩⟩
theorem BlockR.m:MonoF BlockR:=⟨fun k ⟨vp,vc,vf,vt,h1,h2,h3,h4,h5⟩=>⟨vp,vc,vf,vt,h1,h2.frX PhiR.m k,h3.frX InsR.m k,h4.frX k,h5.frX k⟩,fun k ⟨vp,vc,vf,vt,h1,h2,h3,h4,h5⟩=>⟨vp,vc,vf,vt,h1,h2.gr PhiR.m k,h3.gr InsR.m k,h4.gr k,h5.gr k⟩⟩
theorem GraphR.m:MonoF GraphR:=⟨fun k ⟨vb,h1,h2⟩=>⟨vb,h1,h2.frX BlockR.m k⟩,fun k ⟨vb,h1,h2⟩=>⟨vb,h1,h2.gr BlockR.m k⟩⟩
theorem MonoF.fr {α:Type}{R:Rq α} (hm:MonoF R) {A:Av}{H H':AH}{cs:List Value}{a:α} (h:R A H cs a) (k:Fr H H'):R A H' cs a:=hm.frX (k.x _ _) h
theorem Sr.fr {A:Av}{H H':AH}{v:Value}{sz n:Nat}{cs:List Value} (h:Sr A H v sz n cs) (k:Fr H H'):Sr A H' v sz n cs:=h.frX (k.x _ _)
theorem Els.fr {α:Type}{sz:Nat}{R:Rq α}{A:Av}{H H':AH}{v:Value}{xs:List α} (h:Els sz R A H v xs) (hm:MonoF R) (k:Fr H H'):Els sz R A H' v xs:=h.frX hm (k.x _ _)
def OwR {α:Type} (e:TypeId) (sz:Nat) (R:Rq α) (B:Av) (H:AH) (n0:Nat) (v:Value) (xs:List α) (o:Option (Nat×Nat)):Prop:=
 ∃ cs,Ow H n0 e sz v xs.length cs o∧∀ i (h:i<xs.length),R (B.and (.of o)) H ((cs.drop (i*sz)).take sz) xs[i]
section
variable {α:Type}{e:TypeId}{sz:Nat}{R:Rq α}{A B:Av}{H H':AH}{n0:Nat}{v:Value}{xs:List α}{o:Option (Nat×Nat)}
theorem OwR.nil:OwR e sz R B H n0 (.slice none 0 0) ([]:List α) none:=⟨[],.nil,fun i h=>absurd h (by simp)⟩
theorem OwR.young (h:OwR e sz R B H n0 v xs o):(∀ b∈obs o,n0≤b)∧(∀ g∈ogs o,n0≤g)∧(∀ b∈obs o,b<H.next)∧(∀ g∈ogs o,g<H.next):=let ⟨_,h,_⟩:=h;h.young
theorem OwR.lt (h:OwR e sz R B H n0 v xs o):(Av.of o).Lt H.next:=⟨h.young.2.2.1,h.young.2.2.2⟩
theorem OwR.els (hm:MonoF R) (h:OwR e sz R B H n0 v xs o) (hb:∀ b∈obs o,b∉B.bs) (hg:∀ g∈ogs o,g∉B.gs):Els sz R B H v xs:=by
 obtain ⟨cs,h1,h2⟩:=h
 refine ⟨cs,?_,fun i hi=>hm.gr .left (h2 i hi)⟩
 obtain ⟨k1,k2,⟨k3,k4,_⟩|⟨b,g,rfl,k4,k5,k6,k7,k8,k9,_⟩⟩:=h1
 ·exact ⟨k1,.inl ⟨k3,k4⟩⟩
 ·exact ⟨k1,.inr ⟨b,0,unk,k8,fun _=>⟨hb b (by simp [obs]),e,cs,.loose,g,_,k6,k9,.inr (.inr ⟨k7,hg g (by simp [ogs]),rfl⟩),by omega,by rw [←k1];simp⟩⟩⟩
theorem OwR.frX (hm:MonoF R) (h:OwR e sz R B H n0 v xs o) (k:FrX B.bs B.gs H H') (hb:∀ b∈obs o,b∉B.bs) (hg:∀ g∈ogs o,g∉B.gs):OwR e sz R B H' n0 v xs o:=
 let ⟨cs,h1,h2⟩:=h
 ⟨cs,h1.frX k hb hg,fun i hi=>hm.frX (k.sub (fun b hb=>List.mem_append_left _ hb) (fun b hb=>List.mem_append_left _ hb)) (h2 i hi)⟩
theorem OwR.fr (hm:MonoF R) (h:OwR e sz R B H n0 v xs o) (k:Fr H H'):OwR e sz R B H' n0 v xs o:=
 let ⟨cs,h1,h2⟩:=h
 ⟨cs,h1.fr k,fun i hi=>hm.fr (h2 i hi) k⟩
theorem OwR.gr (hm:MonoF R) (h:OwR e sz R A H n0 v xs o) (k:A.Gr B H.next):OwR e sz R B H n0 v xs o:=
 let ⟨cs,h1,h2⟩:=h
 ⟨cs,h1,fun i hi=>hm.gr (k.and .refl) (h2 i hi)⟩
theorem all_chunks {p:Value→Bool}{cs:List Value}{n sz:Nat} (hl:cs.length=n*sz) (hz:0<sz) (h:∀ i,i<n→((cs.drop (i*sz)).take sz).all p=true):cs.all p=true:=by
 rw [List.all_eq_true]
 intro x hx
 obtain ⟨k,hk,rfl⟩:=List.mem_iff_getElem.1 hx
 have hi:k / sz<n:=Nat.div_lt_of_lt_mul (by rw [Nat.mul_comm,←hl];exact hk)
 have:=List.all_eq_true.1 (h (k / sz) hi) cs[k]
 refine this (List.mem_iff_getElem.2 ⟨k % sz,?_,?_⟩)
 ·have h1:=Nat.mod_lt k hz
  have h2:=Nat.div_add_mod k sz
  rw [List.length_take,List.length_drop,Nat.mul_comm]
  omega
 ·have h2:=Nat.div_add_mod k sz
  simp only [List.getElem_take,List.getElem_drop]
  congr 1
  rw [Nat.mul_comm];exact h2
theorem OwR.app (hm:MonoF R) (h:OwR e sz R B H n0 v xs o) {y:Value}{ys:List α} (hs:Els sz R (B.and (.of o)) H y ys) (h1:∀ {A H cs a},R A H cs a→cs.all Value.oneCell'=true) (hz:0<sz) {bytes:Nat} (hb:(xs.length+ys.length)*bytes≤140737488355328) (hl:xs.length+ys.length<4611686018427387904) (h0:n0≤H.next)
  {V:Env}{t u:TypeId}{a b a2 b2:Nat}{z z2:Value}{te:TI} (ht:V.E t=some ⟨.slice e,a,b,z⟩) (hu:V.E u=some ⟨.slice e,a2,b2,z2⟩) (he:V.E e=some te) (hsz:te.size=sz) (hby:te.bytes=bytes) :
  ∃ v' H' o',(∀ {g:Ft}{x w:Operand},g x=some v→g w=some y→aopG V g H (.call ⟨.builtin .append,#[x,w],#[t,u]⟩)=some (v',H'))∧OwR e sz R B H' n0 v' (xs++ys) o'∧FrX (obs o) (ogs o) H H'∧(Av.of o).Gr (.of o') H.next:=by
 obtain ⟨cs,k1,k2⟩:=h
 obtain ⟨ds,m1,m2⟩:=hs
 obtain ⟨v',H',o',q1,q2,q3,q4,q5⟩:=k1.appSl (V:=V) (m1.sl (by omega)) hz hb hl h0 (all_chunks m1.1 hz fun i hi=>h1 (m2 i hi)) ht hu he hsz hby
 have hc:=k1.1
 have hgr:(B.and (.of o)).Gr (B.and (.of o')) H.next:=Av.Gr.refl.and ⟨q4,q5⟩
 have hfx:FrX (B.and (.of o)).bs (B.and (.of o)).gs H H':=q3.sub (fun b hb=>List.mem_append_right _ hb) (fun b hb=>List.mem_append_right _ hb)
 refine ⟨v',H',o',q1,⟨cs++ds,by rw [List.length_append];exact q2,fun i hi=>?_⟩,q3,q4,q5⟩
 rw [List.length_append] at hi
 have up:∀ {c a},R (B.and (.of o)) H c a→R (B.and (.of o')) H' c a:=fun hr=>by
  have r1:=hm.gr hgr hr
  have r2:R ((B.and (.of o)).and (.of o')) H _ _:=hm.gr (B:=(B.and (.of o)).and (.of o')) ⟨fun b hb=>(List.mem_append.1 hb).elim .inl fun hb=>(q4 b hb).imp (fun h=>List.mem_append_right _ h) id,fun b hb=>(List.mem_append.1 hb).elim .inl fun hb=>(q5 b hb).imp (fun h=>List.mem_append_right _ h) id⟩ hr
  have r3:=hm.frX (H':=H') (q3.sub (fun b hb=>List.mem_append_left _ (List.mem_append_right _ hb)) (fun b hb=>List.mem_append_left _ (List.mem_append_right _ hb))) r2
  exact hm.gr (B:=B.and (.of o')) ⟨fun b hb=>.inl ((List.mem_append.1 hb).elim (fun h=>List.mem_append_left _ (List.mem_append_left _ h)) (fun h=>List.mem_append_right _ h)),fun b hb=>.inl ((List.mem_append.1 hb).elim (fun h=>List.mem_append_left _ (List.mem_append_left _ h)) (fun h=>List.mem_append_right _ h))⟩ r3
 by_cases hlt:i<xs.length
 ·have hle:(i+1)*sz≤xs.length*sz:=Nat.mul_le_mul_right sz hlt
  rw [Nat.add_mul,Nat.one_mul] at hle
  rw [List.drop_append_of_le_length (by omega),List.take_append_of_le_length (by rw [List.length_drop];omega),List.getElem_append_left hlt]
  exact up (k2 i hlt)
 ·have hge:xs.length*sz≤i*sz:=Nat.mul_le_mul_right sz (by omega)
  rw [List.drop_append,List.drop_eq_nil_of_le (by omega),List.nil_append,hc,←Nat.sub_mul,List.getElem_append_right (by omega)]
  exact up (m2 (i-xs.length) (by omega))
end
theorem InsR.one {A:Av}{H:AH}{cs:List Value}{a:Ins} (h:InsR A H cs a):cs.all Value.oneCell'=true∧cs.length=6:=by
 obtain ⟨va,rfl,⟨_,⟨rfl,_⟩|⟨b,off,cap,rfl,_⟩⟩⟩:=h<;>exact ⟨rfl,rfl⟩
theorem PhiR.one {A:Av}{H:AH}{cs:List Value}{a:Phi} (h:PhiR A H cs a):cs.all Value.oneCell'=true∧cs.length=2:=by
 obtain ⟨va,rfl,⟨_,⟨rfl,_⟩|⟨b,off,cap,rfl,_⟩⟩⟩:=h<;>exact ⟨rfl,rfl⟩
theorem Sr.oneCell {A:Av}{H:AH}{v:Value}{sz n:Nat}{cs:List Value} (h:Sr A H v sz n cs):Value.oneCell' v=true:=by
 obtain ⟨_,⟨rfl,_⟩|⟨b,off,cap,rfl,_⟩⟩:=h<;>rfl
theorem Els.oneCell {α:Type}{sz:Nat}{R:Rq α}{A:Av}{H:AH}{v:Value}{xs:List α} (h:Els sz R A H v xs):Value.oneCell' v=true:=let ⟨_,h,_⟩:=h;h.oneCell
theorem BlockR.one {A:Av}{H:AH}{cs:List Value}{a:Block} (h:BlockR A H cs a):cs.all Value.oneCell'=true∧cs.length=4:=by
 obtain ⟨vp,vc,vf,vt,rfl,h1,h2,h3,h4⟩:=h
 simp [h1.oneCell,h2.oneCell,h3.oneCell,h4.oneCell]
theorem OwR.app1 {α:Type}{e:TypeId}{sz:Nat}{R:Rq α}{B:Av}{H:AH}{n0:Nat}{v:Value}{xs:List α}{o:Option (Nat×Nat)} (hm:MonoF R) (h:OwR e sz R B H n0 v xs o) (hB:B.Lt H.next) {cx:List Value}{x:α} (hx:R (B.and (.of o)) H cx x) (h1:∀ {A H cs a},R A H cs a→cs.all Value.oneCell'=true∧cs.length=sz) (hz:0<sz) {bytes:Nat} (hb:(xs.length+1)*bytes≤140737488355328) (hl:xs.length+1<4611686018427387904) (h0:n0≤H.next)
  {V:Env}{t u:TypeId}{a b a2 b2:Nat}{z z2:Value}{te:TI} (ht:V.E t=some ⟨.slice e,a,b,z⟩) (hu:V.E u=some ⟨.slice e,a2,b2,z2⟩) (he:V.E e=some te) (hsz:te.size=sz) (hby:te.bytes=bytes) :
  ∃ v' H' o',(∀ {g:Ft}{y w:Operand},g y=some v→g w=some (.slice (some ⟨H.next,0,none⟩) 1 1)→aopG V g (H.alloc (.row e cx .exact 0 0)) (.call ⟨.builtin .append,#[y,w],#[t,u]⟩)=some (v',H'))∧OwR e sz R B H' n0 v' (xs++[x]) o'∧FrX (obs o) (ogs o) H H'∧(Av.of o).Gr (.of o') H.next∧Fr H (H.alloc (.row e cx .exact 0 0)):=by
 have hfa:=Fr.alloc H (.row e cx .exact 0 0)
 have hlt:=hB.and h.lt
 have hcx:=(h1 hx).2
 have hs:Els sz R (B.and (.of o)) (H.alloc (.row e cx .exact 0 0)) (.slice (some ⟨H.next,0,none⟩) 1 1) [x]:=⟨cx,⟨by simpa using hcx,.inr ⟨H.next,0,1,rfl,fun _=>Rd.aLt (H0:=H) hlt (et:=e) (cells:=cx) (st:=.exact) (g:=0) (v:=0) (Nat.le_refl _) (by simp) (by simp) (.inl rfl) (by simp;omega) (by simp only [List.length_cons,List.length_nil,List.drop_zero];rw [List.take_of_length_le (by omega)])⟩⟩,fun i hi=>by
  have:i=0:=by simp at hi;omega
  subst this
  simp only [Nat.zero_mul,List.drop_zero,List.getElem_cons_zero]
  rw [List.take_of_length_le (by omega)]
  exact hm.fr hx hfa⟩
 obtain ⟨v',H',o',k1,k2,k3,k4⟩:=(h.fr hm hfa).app (V:=V) hm hs (fun hr=>(h1 hr).1) hz hb hl (Nat.le_trans h0 hfa.1) ht hu he hsz hby
 exact ⟨v',H',o',k1,k2,(hfa.x _ _).trans k3 (fun b hb _=>hb) (fun b hb _=>hb),⟨fun b hb=>(k4.1 b hb).imp id (fun h=>Nat.le_trans hfa.1 h),fun b hb=>(k4.2 b hb).imp id (fun h=>Nat.le_trans hfa.1 h)⟩,hfa⟩
def RIns:=RCons 1 (RInt .u8) (RCons 1 (RInt .i64) (RCons 1 (RInt .i64) (RCons 1 (RInt .i64) (RCons 1 (RInt .i64) (RCons 1 (RSlice 1 (RInt .i64)) REnd)))))
def RPhi:=RCons 1 (RInt .i64) (RCons 1 (RSlice 1 (RInt .i64)) REnd)
def RBlock:=RCons 1 (RSlice 2 RPhi) (RCons 1 (RSlice 6 RIns) (RCons 1 (RSlice 1 (RInt .i64)) (RCons 1 (RSlice 1 (RInt .i64)) REnd)))
def RGraph:=RCons 1 RStr (RCons 1 RBool (RCons 1 (RInt .i64) (RCons 1 (RInt .i64) (RCons 1 (RSlice 4 RBlock) REnd))))
abbrev TIns:=Int×Int×Int×Int×Int×List Int×Unit
abbrev TPhi:=Int×List Int×Unit
abbrev TBlock:=List TPhi×List TIns×List Int×List Int×Unit
abbrev TGraph:=ByteArray×Bool×Int×Int×List TBlock×Unit
def TIns.to (x:TIns):Ins:=⟨x.1,x.2.1,x.2.2.1,x.2.2.2.1,x.2.2.2.2.1,x.2.2.2.2.2.1⟩
def TPhi.to (x:TPhi):Phi:=⟨x.1,x.2.1⟩
def TBlock.to (x:TBlock):Block:=⟨x.1.map TPhi.to,x.2.1.map TIns.to,x.2.2.1,x.2.2.2.1⟩
def TGraph.to (x:TGraph):Graph:=⟨x.1,x.2.1,x.2.2.1,x.2.2.2.1,x.2.2.2.2.1.map TBlock.to⟩
theorem split1 {cs:List Value}{v:Value} (h:cs.take 1=[v]):cs=v::cs.drop 1:=by
 cases cs with
 | nil=>cases h
 | cons a l=>simp at h;simp [h]
theorem RIns.to {H:AH}{cs:List Value}{x:TIns} (h:RIns H cs x):InsR .no H cs (TIns.to x):=by
 obtain ⟨⟨h1,_⟩,⟨h2,_⟩,⟨h3,_⟩,⟨h4,_⟩,⟨h5,_⟩,h6,h7⟩:=h
 obtain ⟨va,e6,h6⟩:=intsR_of h6
 refine ⟨va,?_,h6⟩
 have h7:_=([]:List Value):=h7
 rw [split1 h1,split1 h2,split1 h3,split1 h4,split1 h5,split1 e6,h7];rfl
theorem RPhi.to {H:AH}{cs:List Value}{x:TPhi} (h:RPhi H cs x):PhiR .no H cs (TPhi.to x):=by
 obtain ⟨⟨h1,_⟩,h6,h7⟩:=h
 obtain ⟨va,e6,h6⟩:=intsR_of h6
 refine ⟨va,?_,h6⟩
 have h7:_=([]:List Value):=h7
 rw [split1 h1,split1 e6,h7];rfl
theorem RBlock.to {H:AH}{cs:List Value}{x:TBlock} (h:RBlock H cs x):BlockR .no H cs (TBlock.to x):=by
 obtain ⟨h1,h2,h3,h4,h5⟩:=h
 obtain ⟨v1,e1,h1⟩:=els_of (R:=PhiR) (f:=TPhi.to) (fun _ _ _=>RPhi.to) h1
 obtain ⟨v2,e2,h2⟩:=els_of (R:=InsR) (f:=TIns.to) (fun _ _ _=>RIns.to) h2
 obtain ⟨v3,e3,h3⟩:=intsR_of h3
 obtain ⟨v4,e4,h4⟩:=intsR_of h4
 refine ⟨v1,v2,v3,v4,?_,h1,h2,h3,h4⟩
 have h5:_=([]:List Value):=h5
 rw [split1 e1,split1 e2,split1 e3,split1 e4,h5]
theorem RGraph.to {H:AH}{cs:List Value}{x:TGraph} (h:RGraph H cs x):GraphR .no H cs (TGraph.to x):=by
 obtain ⟨⟨h1,_⟩,h2,⟨h3,_⟩,⟨h4,_⟩,h5,h6⟩:=h
 obtain ⟨vb,e5,h5⟩:=els_of (R:=BlockR) (f:=TBlock.to) (fun _ _ _=>RBlock.to) h5
 refine ⟨vb,?_,h5⟩
 have h6:_=([]:List Value):=h6
 have h2:_=[_]:=h2
 rw [split1 h1,split1 h2,split1 h3,split1 h4,split1 e5,h6];rfl
def I64 (x:Int):Prop:=-9223372036854775808≤x∧x≤9223372036854775807
structure Ins.Ok (i:Ins):Prop where
 op:0≤i.op∧i.op<256
 r:I64 i.r
 a:I64 i.a
 b:I64 i.b
 n:I64 i.n
structure Graph.Ok (g:Graph):Prop where
 params:I64 g.params
 regs:I64 g.regs
 ins:∀ b∈g.blocks,∀ i∈b.code,i.Ok
theorem wf_i64 {x:Int} (h:(Lit.int .i64 x).wf=true):I64 x:=by
 have e1:IntKind.min .i64=-9223372036854775808:=by decide
 have e2:IntKind.max .i64=9223372036854775807:=by decide
 simp only [Lit.wf,Bool.and_eq_true,decide_eq_true_eq,e1,e2] at h
 exact h
theorem wf_u8 {x:Int} (h:(Lit.int .u8 x).wf=true):0≤x∧x<256:=by
 have e1:IntKind.min .u8=0:=by decide
 have e2:IntKind.max .u8=255:=by decide
 simp only [Lit.wf,Bool.and_eq_true,decide_eq_true_eq,e1,e2] at h
 omega
theorem RIns.ok {H:AH}{cs:List Value}{x:TIns} (h:RIns H cs x):(TIns.to x).Ok:=by
 obtain ⟨⟨_,h1⟩,⟨_,h2⟩,⟨_,h3⟩,⟨_,h4⟩,⟨_,h5⟩,_,_⟩:=h
 exact ⟨wf_u8 h1,wf_i64 h2,wf_i64 h3,wf_i64 h4,wf_i64 h5⟩
theorem RGraph.ok {H:AH}{cs:List Value}{x:TGraph} (h:RGraph H cs x):(TGraph.to x).Ok:=by
 obtain ⟨_,_,⟨_,h3⟩,⟨_,h4⟩,h5,_⟩:=h
 refine ⟨wf_i64 h3,wf_i64 h4,fun b hb i hi=>?_⟩
 obtain ⟨y,hy,rfl⟩:=List.mem_map.1 hb
 obtain ⟨z,hz,rfl⟩:=List.mem_map.1 hi
 exact all_of (P:=fun y:TBlock=>∀ z∈y.2.1,(TIns.to z).Ok) (fun _ _ _ h z hz=>by
  obtain ⟨_,h2,_⟩:=h
  exact all_of (P:=fun z:TIns=>(TIns.to z).Ok) (fun _ _ _ h=>RIns.ok h) h2 z hz) h5 y hy z hz
end Go.Ev
namespace Go.Ev
open Go.RowKit
section
variable {V:Env}{H H':AH}{b:Nat}{et:TypeId}{cs:List Value}
theorem Bx.ld (h:Bx H b et cs) {off:Nat}{c:Value} (hc:cs[off]?=some c) {t:TypeId}{te:TI} (he:V.E t=some te) (ha:Desc.agg te.desc=false):aLoad V.E H t (.pointer (some ⟨b,off,none⟩))=some c:=by
 have:=((h.rd rfl).at1 hc).load1 he ha
 rwa [Nat.zero_add] at this
theorem Bx.ldN (h:Bx H b et cs) {t:TypeId}{te:TI} (he:V.E t=some te) (ha:Desc.agg te.desc=true) (hn:te.size=cs.length):aLoad V.E H t (.pointer (some ⟨b,0,none⟩))=some (.agg cs.toArray):=(h.rd rfl).loadN he ha hn
end
section
variable {V:Env}{O:Orc}{is:List LI}{E:List Value}{l:SL}{H:AH}{K:List Value→AH→Prop}{x a:Operand}{u:Value}
theorem zBox {et:TypeId} (hx:gS V.nG E l x=some u) (h0:∀ H,aopG V (gS V.nG E l) H (.box et x)=some (.pointer (some ⟨H.next,0,none⟩),H.alloc (.row et u.cells.toList .exact 0 0)))
  (h:∀ H1,Fr H H1→Bx H1 H.next et u.cells.toList→H1.next=H.next+1→WL V O is (.pointer (some ⟨H.next,0,none⟩)::E) l H1 K):WL V O (.run (.box et x) none::is) E l H K:=
 .op (h0 H) (h _ (.alloc _ _) .new (by simp))
theorem zAlc {t:TypeId}{te:TI}{cs:List Value} (he:V.E t=some te) (hc:te.zv.cells.toList=cs) (h:∀ H1,Fr H H1→Bx H1 H.next t cs→H1.next=H.next+1→WL V O is (.pointer (some ⟨H.next,0,none⟩)::E) l H1 K):WL V O (.run (.alloc t) none::is) E l H K:=
 .op (op_alloc he hc) (h _ (.alloc _ _) .new (by simp))
theorem zStB {t et:TypeId}{te:TI}{b off:Nat}{cs:List Value} (hb:Bx H b et cs) (ha:gS V.nG E l a=some (.pointer (some ⟨b,off,none⟩))) (hx:gS V.nG E l x=some u) (he:V.E t=some te) (hs:u.cells.size=te.size) (h1:u.cells.toList.all Value.oneCell'=true) (hne:u.cells.toList≠[]) (hf:off+u.cells.toList.length≤cs.length)
  (h:∀ H1,FrX [b] [] H H1→Bx H1 b et (splice cs off u.cells.toList)→H1.next=H.next→WL V O is (undef::E) l H1 K):WL V O (.run (.store t a x) none::is) E l H K:=by
 obtain ⟨H1,k1,k2,k3,k4⟩:=hb.wr hne hf
 exact .op (op_store ha hx he hs h1 k1) (h H1 k3 k2 k4)
theorem zMkS {t e:TypeId}{lo co:Operand}{k k':IntKind}{n m sa sb:Nat}{z:Value}{te:TI}{cs:List Value} (hl:gS V.nG E l lo=some (.int k n)) (hc:gS V.nG E l co=some (.int k' m)) (ht:V.E t=some ⟨.slice e,sa,sb,z⟩) (he:V.E e=some te) (h1:n≤m) (h2:m*te.bytes≤140737488355328) (h3:m<4611686018427387904) (hcs:azeros te.zv.cells.toList m=cs)
  (h:∀ H1,Fr H H1→Bx H1 H.next e cs→H1.next=H.next+1→WL V O is (.slice (some ⟨H.next,0,none⟩) n m::E) l H1 K):WL V O (.run (.makeSlice t lo co) none::is) E l H K:=by
 subst hcs
 exact .op (op_makeSlice hl hc ht he h1 h2 h3) (h _ (.alloc _ _) .new (by simp))
theorem zLit {t e:TypeId}{len:Nat}{ps:Array (Nat×Operand)}{vs:List (Nat×Value)}{cs:List Value}{sa sb:Nat}{z:Value}{te:TI} (hp:gparts (gS V.nG E l) ps.toList=some vs) (ht:V.E t=some ⟨.slice e,sa,sb,z⟩) (he:V.E e=some te)
  (h1:len*te.size≤16777216) (hf:afill (fun i=>some (i*te.size,te.size)) (azeros te.zv.cells.toList len) vs=some cs) (h2:len<unk)
  (h:∀ H1,Fr H H1→Bx H1 H.next e cs→H1.next=H.next+1→WL V O is (.slice (some ⟨H.next,0,none⟩) len len::E) l H1 K):WL V O (.run (.buildSlice t len ps) none::is) E l H K:=
 .op (op_buildSlice hp ht he h1 hf h2) (h _ (.alloc _ _) .new (by simp))
end
theorem resL_cell {V:Env}{l:SL}{H:AH}{a:Tmp}{t:TypeId}{rs:List ResultVar}{p v:Value}{vs:List Value} (h1:look l a=some p) (h2:aLoad V.E H t p=some v) (h3:resL V l H rs=some vs):resL V l H (.cell a t::rs)=some (v::vs):=by
 simp only [resL,h1,h2,h3]
theorem Bx.els {α:Type}{sz:Nat}{R:Rq α}{H:AH}{b:Nat}{e:TypeId}{cs:List Value}{xs:List α}{cap:Nat} (hb:Bx H b e cs) (hc:cs.length=xs.length*sz) (hx:∀ i (h:i<xs.length),R .no H ((cs.drop (i*sz)).take sz) xs[i]):Els sz R .no H (.slice (some ⟨b,0,none⟩) xs.length cap) xs:=
 ⟨cs,⟨hc,.inr ⟨b,0,cap,rfl,fun _=>(hb.rd hc).a⟩⟩,hx⟩
def OwI (e:TypeId) (H:AH) (n0:Nat) (v:Value) (l:List Int) (o:Option (Nat×Nat)):Prop:=OwE H n0 e 1 v l.length (ints l) o
section
variable {V:Env}{e:TypeId}{H H':AH}{n0:Nat}{v:Value}{l:List Int}{o:Option (Nat×Nat)}{A:Av}
theorem OwI.nil:OwI e H n0 (.slice none 0 0) [] none:=.inl .nil
theorem OwI.young (h:OwI e H n0 v l o):(∀ b∈obs o,n0≤b)∧(∀ g∈ogs o,n0≤g)∧(∀ b∈obs o,b<H.next)∧(∀ g∈ogs o,g<H.next):=OwE.young h
theorem OwI.fr (h:OwI e H n0 v l o) (k:Fr H H'):OwI e H' n0 v l o:=OwE.fr h k
theorem OwI.frX (h:OwI e H n0 v l o) {bs gs:List Nat} (k:FrX bs gs H H') (hb:∀ b∈obs o,b∉bs) (hg:∀ g∈ogs o,g∉gs):OwI e H' n0 v l o:=OwE.frX h k hb hg
theorem OwI.sl (h:OwI e H n0 v l o):Sl H v 1 l.length (ints l):=OwE.sl h
theorem OwI.r (h:OwI e H n0 v l o) (hb:∀ b∈obs o,b∉A.bs) (hg:∀ g∈ogs o,g∉A.gs):IntsR A H v l:=by
 rcases h with h|⟨h1,h2,b,rfl,h3,rfl,h4⟩
 ·obtain ⟨k1,k2,⟨k3,k4,_⟩|⟨b,g,rfl,k4,k5,k6,k7,k8,k9,_⟩⟩:=h
  ·exact ⟨k1,.inl ⟨k3,k4⟩⟩
  ·exact ⟨k1,.inr ⟨b,0,unk,k8,fun _=>⟨hb b (by simp [obs]),e,_,.loose,g,_,k6,k9,.inr (.inr ⟨k7,hg g (by simp [ogs]),rfl⟩),by omega,by rw [←k1];simp⟩⟩⟩
 ·have:l=[]:=by simpa [ints] using h2
  subst this
  exact .empty
theorem OwI.rYoung (h:OwI e H n0 v l o) (hA:A.Lt n0):IntsR A H v l:=h.r (fun b hb h2=>by have:=h.young.1 b hb;have:=hA.1 b h2;omega) (fun g hg h2=>by have:=h.young.2.1 g hg;have:=hA.2 g h2;omega)
theorem OwI.app (h:OwI e H n0 v l o) {m:List Int}{y:Value} (hs:Sl H y 1 m.length (ints m)) (hL:l.length+m.length≤1000000) (h0:n0≤H.next) {t u:TypeId}{s0 b0 a2 b2 sb:Nat}{z0 z2:Value} (ht:V.E t=some ⟨.slice e,s0,b0,z0⟩) (hu:V.E u=some ⟨.slice e,a2,b2,z2⟩) (he:V.E e=some ⟨.int .i64,1,sb,.int .i64 0⟩) (hsb:sb≤8) :
  ∃ v' H' o',(∀ {g:Ft}{x w:Operand},g x=some v→g w=some y→aopG V g H (.call ⟨.builtin .append,#[x,w],#[t,u]⟩)=some (v',H'))∧OwI e H' n0 v' (l++m) o'∧FrX (obs o) (ogs o) H H'∧(Av.of o).Gr (.of o') H.next:=by
 obtain ⟨v',H',o',k1,k2,k3,k4,k5⟩:=OwE.appSl (V:=V) (bytes:=sb) h hs (by decide) (by
  have:(l.length+m.length)*sb≤1000000*8:=Nat.mul_le_mul hL hsb
  omega) (by omega) h0 (ints_one _) ht hu he rfl rfl
 refine ⟨v',H',o',k1,?_,k3,k4,k5⟩
 unfold OwI
 rw [List.length_append,ints_app];exact k2
theorem OwI.app1 (h:OwI e H n0 v l o) (x:Int) (hL:l.length≤999999) (h0:n0≤H.next) {t u:TypeId}{s0 b0 a2 b2 sb:Nat}{z0 z2:Value} (ht:V.E t=some ⟨.slice e,s0,b0,z0⟩) (hu:V.E u=some ⟨.slice e,a2,b2,z2⟩) (he:V.E e=some ⟨.int .i64,1,sb,.int .i64 0⟩) (hsb:sb≤8) :
  ∃ v' H' o',(∀ {g:Ft}{y w:Operand},g y=some v→g w=some (.slice (some ⟨H.next,0,none⟩) 1 1)→aopG V g (H.alloc (.row e [.int .i64 x] .exact 0 0)) (.call ⟨.builtin .append,#[y,w],#[t,u]⟩)=some (v',H'))∧OwI e H' n0 v' (l++[x]) o'∧FrX (obs o) (ogs o) H H'∧(Av.of o).Gr (.of o') H.next:=by
 have hfa:=Fr.alloc H (.row e [.int .i64 x] .exact 0 0)
 obtain ⟨v',H',o',k1,k2,k3,k4⟩:=(h.fr hfa).app (V:=V) (m:=[x]) (OneAt.toSl (H:=H) (e:=e) (cs:=[.int .i64 x]) (cap:=1) (by simp)) (by simp;omega) (Nat.le_trans h0 hfa.1) ht hu he hsb
 exact ⟨v',H',o',k1,k2,(hfa.x _ _).trans k3 (fun b hb _=>hb) (fun b hb _=>hb),⟨fun b hb=>(k4.1 b hb).imp id (fun h=>Nat.le_trans hfa.1 h),fun b hb=>(k4.2 b hb).imp id (fun h=>Nat.le_trans hfa.1 h)⟩⟩
theorem fill_int {sb:Nat}{x:Int}:afill (fun i=>some (i*TI.size ⟨.int .i64,1,sb,.int .i64 0⟩,TI.size ⟨.int .i64,1,sb,.int .i64 0⟩)) (azeros (TI.zv ⟨.int .i64,1,sb,.int .i64 0⟩).cells.toList 1) [(0,.int .i64 x)]=some [.int .i64 x]:=by rfl
end
end Go.Ev
namespace Go.Ev
theorem FrX.put {H:AH}{b:Nat}{o:AObj}:FrX [b] [] H (H.put b o):=⟨by simp,fun c _ hx=>by rw [AH.obj_put,if_neg (by simpa using hx)],fun c _ _=>by simp⟩
end Go.Ev
namespace Go.Ev
section
variable {V:Env}{O:Orc}{is:List LI}{E:List Value}{l:SL}{H:AH}{Hs0:List AH}{K:List Value→AH→List AH→Prop}{x a:Operand}{u:Value}
theorem yAlc {t:TypeId}{te:TI}{cs:List Value} (he:V.E t=some te) (hc:te.zv.cells.toList=cs) (h:∀ H1,Fr H H1→Bx H1 H.next t cs→H1.next=H.next+1→WH V O is (.pointer (some ⟨H.next,0,none⟩)::E) l H1 (Hs0++[H]) K):WH V O (.run (.alloc t) none::is) E l H Hs0 K:=
 .op (op_alloc he hc) (h _ (.alloc _ _) .new (by simp))
theorem yStB {t et:TypeId}{te:TI}{b off:Nat}{cs:List Value} (hb:Bx H b et cs) (ha:gS V.nG E l a=some (.pointer (some ⟨b,off,none⟩))) (hx:gS V.nG E l x=some u) (he:V.E t=some te) (hs:u.cells.size=te.size) (h1:u.cells.toList.all Value.oneCell'=true) (hne:u.cells.toList≠[]) (hf:off+u.cells.toList.length≤cs.length)
  (h:∀ H1,FrX [b] [] H H1→Bx H1 b et (splice cs off u.cells.toList)→H1.next=H.next→WH V O is (undef::E) l H1 (Hs0++[H]) K):WH V O (.run (.store t a x) none::is) E l H Hs0 K:=by
 obtain ⟨H1,k1,k2,k3,k4⟩:=hb.wr hne hf
 exact .op (op_store ha hx he hs h1 k1) (h H1 k3 k2 k4)
theorem yFld {ty:TypeId}{f:Nat}{v:Value} (hx:gS V.nG E l x=some u) (h0:aField V.E ty f u=some v) (h:WH V O is (v::E) l H (Hs0++[H]) K):WH V O (.run (.fieldAddr ty x f) none::is) E l H Hs0 K:=.op (op_fieldAddr hx h0) h
theorem yLd {ty:TypeId}{v:Value} (hx:gS V.nG E l x=some u) (h0:aLoad V.E H ty u=some v) (h:WH V O is (v::E) l H (Hs0++[H]) K):WH V O (.run (.load ty x) none::is) E l H Hs0 K:=.op (op_load hx h0) h
end
end Go.Ev
