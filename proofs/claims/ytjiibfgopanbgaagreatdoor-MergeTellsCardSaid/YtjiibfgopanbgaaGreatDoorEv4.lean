/-
  EV, kernel, part a: a quick check of the order in which a region that draws is run; what need not be looked at twice.
-/
import Derived.Test.YtjiibfgopanbgaaGreatDoorEv3
set_option linter.all false
namespace Go.Ev
open Go.RowKit
variable {V:Env}{call:CallFn}{n:Nat}{ops:Array Oper}
def ordGo (ops:Array Oper) (ms:List Nat):List Nat→Nat→Nat→Option Nat
 | [],done,_=>some done
 |i::σ,done,bigs=>match ops[i]? with
  | none=>none
  |some o=>if done.testBit i=false∧Nat.land done (ms.getD i 0)=ms.getD i 0∧Nat.land (ms.getD i 0) bigs=bigs then
   ordGo ops ms σ (done ||| 2 ^ i) (if cls o.op=.big then bigs ||| 2 ^ i else bigs)
   else none
def wtab:List Oper→Nat→PTree Nat→Option (PTree Nat)
 | [],_,t=>some t
 |o::os,i,t=>match o.dst with
  | none=>wtab os (i+1) t
  |some d=>match t.get d with
   | none=>wtab os (i+1) (t.set d i)
   | some _=>none
def rdOk (ms:List Nat) (tab:PTree Nat) (j:Nat):List Tmp→Bool
 | []=>true
 |t::ts=>(match tab.get t with
  | none=>true
  | some i=>Nat.beq i j||anc ms i j||anc ms j i)&&rdOk ms tab j ts
def rdsOk (ops:Array Oper) (ms:List Nat) (tab:PTree Nat):List Oper→Nat→Bool
 | [],_=>true
 | o::os,j=>rdOk ms tab j (o.looksAt ops)&&rdsOk ops ms tab os (j+1)
def ordFast (ops:Array Oper) (σ:List Nat):Bool:=
 let ms:=masks ops.toList []
 (match ordGo ops ms σ 0 0 with
 | some d=>Nat.beq d (2 ^ ops.size-1)
 | none=>false) &&
 (match wtab ops.toList 0 .leaf with
 | some tab=>rdsOk ops ms tab ops.toList 0
 | none=>false)
theorem land_sub {a b:Nat} (h:Nat.land a b=b) {i:Nat} (hi:b.testBit i=true):a.testBit i=true:=by
 have h':a &&& b=b:=h
 rw [←h'] at hi
 simp only [Nat.testBit_and,Bool.and_eq_true] at hi
 exact hi.1
theorem land_sub' {a b:Nat} (h:Nat.land b a=a) {i:Nat} (hi:a.testBit i=true):b.testBit i=true:=by
 have h':b &&& a=a:=h
 rw [←h'] at hi
 simp only [Nat.testBit_and,Bool.and_eq_true] at hi
 exact hi.1
theorem bit_or (d i j:Nat):(d ||| 2 ^ i).testBit j=true↔d.testBit j=true∨j=i:=by
 simp only [Nat.testBit_or,Bool.or_eq_true,Nat.testBit_two_pow,decide_eq_true_eq]
 exact ⟨fun h=>h.imp id Eq.symm,fun h=>h.imp id Eq.symm⟩
theorem ordGo_ok {ms:List Nat}:∀ {σ:List Nat}{done bigs d:Nat},ordGo ops ms σ done bigs=some d →
 σ.Nodup∧(∀ i,i∈σ→done.testBit i=false∧i<ops.size)∧(∀ i,d.testBit i=true↔done.testBit i=true∨i∈σ) ∧
 (∀ (k j i:Nat),σ[k]?=some j→(ms.getD j 0).testBit i=true→done.testBit i=true∨i∈σ.take k) ∧
 (∀ (k j:Nat),σ[k]?=some j→(∀ i,bigs.testBit i=true→(ms.getD j 0).testBit i=true)∧(∀ k1 i o,k1<k→σ[k1]?=some i→ops[i]?=some o→cls o.op=.big→(ms.getD j 0).testBit i=true))
 |[],done,bigs,d,h=>by
  simp [ordGo] at h;subst h
  simp
 |x::σ,done,bigs,d,h=>by
  simp only [ordGo] at h
  split at h
  ·cases h
  ·rename_i o ho
   split at h
   ·rename_i hc
    obtain ⟨c1,c2,c3⟩:=hc
    obtain ⟨i1,i2,i3,i4,i5⟩:=ordGo_ok h
    have hx:x<ops.size:=(Array.getElem?_eq_some_iff.1 ho).1
    have hd:∀ i,(done ||| 2 ^ x).testBit i=false→done.testBit i=false∧i≠x:=fun i hi=>by
     constructor
     ·cases hb:done.testBit i with
      | false=>rfl
      | true=>rw [(bit_or done x i).2 (.inl hb)] at hi;cases hi
     ·intro e;rw [(bit_or done x i).2 (.inr e)] at hi;cases hi
    refine ⟨List.nodup_cons.2 ⟨fun hm=>(hd x (i2 x hm).1).2 rfl,i1⟩,fun i hi=>?_,fun i=>?_,fun k j i hk hm=>?_,fun k j hk=>?_⟩
    ·rcases List.mem_cons.1 hi with rfl|hi
     ·exact ⟨c1,hx⟩
     ·exact ⟨(hd i (i2 i hi).1).1,(i2 i hi).2⟩
    ·rw [i3 i,bit_or,List.mem_cons,or_assoc]
    ·cases k with
     |zero =>
      simp at hk;subst hk
      exact .inl (land_sub c2 hm)
     |succ k =>
      have:=i4 k j i (by simpa using hk) hm
      rw [bit_or] at this
      rcases this with (h|h)|h
      ·exact .inl h
      ·exact .inr (by simp [h])
      ·exact .inr (by simp [h])
    ·cases k with
     |zero =>
      simp at hk;subst hk
      exact ⟨fun i hi=>land_sub' c3 hi,fun k1 i o h1=>by omega⟩
     |succ k =>
      obtain ⟨j1,j2⟩:=i5 k j (by simpa using hk)
      refine ⟨fun i hi=>j1 i ?_,fun k1 i o' h1 h2 h3 h4=>?_⟩
      ·split
       ·exact (bit_or _ _ _).2 (.inl hi)
       ·exact hi
      ·cases k1 with
       |zero =>
        simp at h2;subst h2
        rw [ho] at h3;cases h3
        refine j1 _ ?_
        rw [if_pos h4]
        exact (bit_or _ _ _).2 (.inr rfl)
       | succ k1=>exact j2 k1 i o' (by omega) (by simpa using h2) h3 h4
   ·cases h
theorem wtab_ok:∀ {os:List Oper}{s:Nat}{t tab:PTree Nat},wtab os s t=some tab→(∀ d i,t.get d=some i→tab.get d=some i)∧(∀ j o d,os[j]?=some o→o.dst=some d→tab.get d=some (s+j))
 | [],s,t,tab,h=>by simp [wtab] at h;subst h;simp
 |o::os,s,t,tab,h=>by
  simp only [wtab] at h
  split at h
  ·rename_i hd
   obtain ⟨i1,i2⟩:=wtab_ok h
   refine ⟨i1,fun j p d hj hp=>?_⟩
   cases j with
   | zero=>simp at hj;subst hj;rw [hd] at hp;cases hp
   | succ j=>rw [show s+(j+1)=s+1+j by omega];exact i2 j p d (by simpa using hj) hp
  ·rename_i d0 hd
   split at h
   ·rename_i hn
    obtain ⟨i1,i2⟩:=wtab_ok h
    refine ⟨fun d i hdi=>i1 d i ?_,fun j p d hj hp=>?_⟩
    ·rw [PTree.get_set]
     split
     ·rename_i e;subst e;rw [hn] at hdi;cases hdi
     ·exact hdi
    ·cases j with
     | zero=>simp at hj;subst hj;rw [hd] at hp;cases hp;exact i1 _ _ (by simp)
     | succ j=>rw [show s+(j+1)=s+1+j by omega];exact i2 j p d (by simpa using hj) hp
   ·cases h
theorem rdOk_ok {ms:List Nat}{tab:PTree Nat}{j:Nat}:∀ {ts:List Tmp},rdOk ms tab j ts=true→∀ t i,t∈ts→tab.get t=some i→i=j∨anc ms i j=true∨anc ms j i=true
 | [],_,t,i,ht,_=>by cases ht
 |u::ts,h,t,i,ht,hi=>by
  simp only [rdOk,Bool.and_eq_true] at h
  rcases List.mem_cons.1 ht with rfl|ht
  ·have h1:=h.1
   rw [hi] at h1
   simp only [Bool.or_eq_true] at h1
   rcases h1 with (h1|h1)|h1
   ·exact .inl (Nat.eq_of_beq_eq_true h1)
   ·exact .inr (.inl h1)
   ·exact .inr (.inr h1)
  ·exact rdOk_ok h.2 t i ht hi
theorem rdsOk_ok {ms:List Nat}{tab:PTree Nat}:∀ {os:List Oper}{s:Nat},rdsOk ops ms tab os s=true→∀ j o,os[j]?=some o→rdOk ms tab (s+j) (o.looksAt ops)=true
 | [],s,_,j,o,h=>by simp at h
 | p::os,s,h,j,o,ho=>by
  simp only [rdsOk,Bool.and_eq_true] at h
  cases j with
  | zero=>simp at ho;subst ho;exact h.1
  | succ j=>rw [show s+(j+1)=s+1+j by omega];exact rdsOk_ok h.2 j o (by simpa using ho)
theorem mask_mono (acc:List Nat) (i:Nat):∀ (es:List Edge) (s:Nat),s.testBit i=true→(es.foldl (fun s e=>if Region.binds .any e then s ||| (2 ^ e.on ||| acc.getD e.on 0) else s) s).testBit i=true
 | [],s,h=>h
 | e::es,s,h=>by
  simp only [List.foldl_cons]
  refine mask_mono acc i es _ ?_
  split
  ·simp [Nat.testBit_or,h]
  ·exact h
theorem mask_edge (acc:List Nat):∀ (es:List Edge) (s:Nat) (e:Edge),e∈es→Region.binds .any e=true→(es.foldl (fun s e=>if Region.binds .any e then s ||| (2 ^ e.on ||| acc.getD e.on 0) else s) s).testBit e.on=true
 | [],s,e,h,_=>by cases h
 |x::es,s,e,h,hb=>by
  simp only [List.foldl_cons]
  rcases List.mem_cons.1 h with rfl|h
  ·refine mask_mono acc _ es _ ?_
   rw [if_pos hb]
   simp [Nat.testBit_or]
  ·exact mask_edge acc es _ e h hb
theorem anc_edge {j:Nat}{o:Oper} (ho:ops[j]?=some o) {e:Edge} (he:e∈o.after) (hb:Region.binds .any e=true):anc (masks ops.toList []) e.on j=true:=by
 obtain ⟨acc',h1,h2,h3⟩:=masks_new ops.toList [] j o (by simpa using ho)
 simp only [List.length_nil,Nat.zero_add] at h3
 unfold anc
 rw [h3]
 exact mask_edge acc' _ 0 e (by simpa using he) hb
theorem idxOf_mem:∀ {l:List Nat}{x:Nat},x∈l→l[l.idxOf x]?=some x
 | [],x,h=>by cases h
 |y::l,x,h=>by
  rw [List.idxOf_cons]
  by_cases e:y=x
  ·subst e;simp
  ·have:(y==x)=false:=by simpa using e
   rw [this]
   simp only [cond_false,List.getElem?_cons_succ]
   exact idxOf_mem ((List.mem_cons.1 h).resolve_left (Ne.symm e))
theorem ordFast_ord {σ:List Nat} (h:ordFast ops σ=true):Ord ops σ:=by
 unfold ordFast at h
 rw [Bool.and_eq_true] at h
 obtain ⟨ha,hb⟩:=h
 split at ha
 ·rename_i d hd
  have hd':=Nat.eq_of_beq_eq_true ha
  obtain ⟨h1,h2,h3,h4,h5⟩:=ordGo_ok hd
  split at hb
  ·rename_i tab htab
   obtain ⟨_,w2⟩:=wtab_ok htab
   have hlt:∀ {k1 k2 i j:Nat},σ[k1]?=some i→σ[k2]?=some j→σ.idxOf i=k1∧σ.idxOf j=k2:=fun a b=>⟨idxOf_at h1 a,idxOf_at h1 b⟩
   have hall:∀ i,i<ops.size→i∈σ:=fun i hi=>by
    have:=(h3 i).1 (by rw [hd',Nat.testBit_two_pow_sub_one];simpa using hi)
    simpa using this
   refine ⟨h1,fun i hi=>(h2 i hi).2,hall,fun j o ho e he hbd=>?_,fun i j o hi hj ho hc hlt'=>?_,fun i j o p t hi hj ho hp hne hdst=>?_⟩
   ·have hj:=hall j (Array.getElem?_eq_some_iff.1 ho).1
    have hm:=h4 (σ.idxOf j) j e.on (idxOf_mem hj) (anc_edge ho he hbd)
    rcases hm with hm|hm
    ·simp at hm
    ·obtain ⟨k,hk2⟩:=List.mem_iff_getElem?.1 hm
     rw [List.getElem?_take] at hk2
     split at hk2
     ·rename_i hlt2
      rw [idxOf_at h1 hk2];exact hlt2
     ·cases hk2
   ·exact (h5 (σ.idxOf j) j (idxOf_mem hj)).2 (σ.idxOf i) i o hlt' (idxOf_mem hi) ho hc
   ·have hwi:=w2 i o t (by simpa using ho) hdst
    simp only [Nat.zero_add] at hwi
    refine ⟨fun hpd=>?_,fun ht=>?_⟩
    ·have hwj:=w2 j p t (by simpa using hp) hpd
     rw [hwi] at hwj
     simp at hwj
     exact hne hwj
    ·have hr:=rdsOk_ok hb j p (by simpa using hp)
     simp only [Nat.zero_add] at hr
     rcases rdOk_ok hr t i ht hwi with e|e|e
     ·exact absurd e hne
     ·exact .inl e
     ·exact .inr e
  ·cases hb
 ·cases ha
def heapLook (V:Env):Op→Bool
 | .load ..|.lookup ..=>true
 |.slice t _ _ _ _=>match V.E t with
  | some ⟨.string,_,_,_⟩=>false
  | _=>true
 |.call ⟨.builtin .len,_,ts⟩=>match ts.toList with
  |[t]=>match V.E t with
   | some ⟨.slice _,_,_,_⟩=>false
   | some ⟨.string,_,_,_⟩=>false
   | _=>true
  | _=>true
 |.convert _ d _=>match V.E d with
  | some ⟨.int _,_,_,_⟩=>false
  | _=>true
 | _=>false
theorem convert_any {P:Program}{E:TypeId→Option TI}{H:AH}{s d:TypeId}{x v:Value}{H':AH}{k:IntKind}{a b:Nat}{z:Value} (hd:E d=some ⟨.int k,a,b,z⟩) (h:aConvert P E H s d x=some (v,H')) (H2:AH):aConvert P E H2 s d x=some (v,H2):=by
 have fin:∀ {x:Option Value},x.map (·,H)=some (v,H')→x.map (·,H2)=some (v,H2):=fun {x} hx=>by
  obtain ⟨u,h1,h2⟩:=map_some hx
  cases h2;rw [h1];rfl
 unfold aConvert at h ⊢
 rw [hd] at h ⊢
 split at h
 ·split at h
  ·rename_i h2;cases h2
  ·cases h
 ·split at h
  ·rename_i h2;cases h2
  ·cases h
 ·split at h
  ·rename_i h2;cases h2
  ·exact fin h
 ·exact fin h
theorem look_any {o:Op} (hc:cls o=.look) (hl:heapLook V o=false) {T:PTree Value}{H:AH}{v:Value}{H':AH} (h:aop V T H o=some (v,H')) (H2:AH):aop V T H2 o=some (v,H2):=by
 have fin:∀ {x:Option Value},x.map (·,H)=some (v,H')→x.map (·,H2)=some (v,H2):=fun {x} hx=>by
  obtain ⟨u,h1,h2⟩:=map_some hx
  cases h2;rw [h1];rfl
 unfold aop at h ⊢
 split at h
 case _=>exact fin h
 case _=>exact fin h
 case _=>split at h
         ·exact fin h
         ·cases h
 case _=>simp [cls] at hc
 case _=>simp [cls] at hc
 case _=>split at h
         ·exact fin h
         ·cases h
 case _=>simp [cls] at hc
 case _=>simp [heapLook] at hl
 case _=>simp [cls] at hc
 case _=>split at h<;>first|(cases h;rfl)|cases h
 case _=>split at h
         ·exact fin h
         ·cases h
 case _=>split at h
         ·exact fin h
         ·cases h
 case _ =>
  split at h
  ·rename_i u hu
   simp only [heapLook] at hl
   split at hl
   ·rename_i hE
    exact convert_any hE h H2
   ·cases hl
  ·cases h
 case _=>split at h
         ·split at h
          ·cases h
          ·cases h;rfl
         ·cases h
 case _=>split at h<;>first|(cases h;rfl)|cases h
 case _=>simp [cls] at hc
 case _=>simp [cls] at hc
 case _ t x lo hi mx =>
  split at h
  ·rename_i u l hh m h1 h2 h3 h4
   simp only [heapLook] at hl
   split at hl
   ·rename_i hE
    unfold aSlice at h ⊢
    rw [hE] at h ⊢
    exact fin h
   ·cases hl
  ·cases h
 case _=>split at h
         ·exact fin h
         ·cases h
 case _=>split at h
         ·exact fin h
         ·cases h
 case _=>split at h
         ·exact fin h
         ·cases h
 case _=>split at h
         ·exact fin h
         ·cases h
 case _=>simp [heapLook] at hl
 case _=>simp [cls] at hc
 case _=>simp [cls] at hc
 case _=>split at h
         ·exact fin h
         ·cases h
 case _ b args ts =>
  split at h
  ·rename_i vs hvs
   unfold aBuiltin at h ⊢
   split at h
   ·rename_i t x hts
    simp only [heapLook,hts] at hl
    split at hl
    ·rename_i hE
     unfold aLen at h ⊢
     rw [hE] at h ⊢
     obtain ⟨u,h1,h2⟩:=map_some h
     cases h2
     cases x<;>simp at h1<;>simp [h1]
    ·rename_i hE
     unfold aLen at h ⊢
     rw [hE] at h ⊢
     obtain ⟨u,h1,h2⟩:=map_some h
     cases h2
     cases x<;>simp at h1<;>simp [h1]
    ·cases hl
   ·simp [cls] at hc
   ·simp [cls] at hc
   ·simp [cls] at hc
   ·exact fin h
   ·exact fin h
   ·split at h
    ·split at h
     ·cases h;rename_i hE hlt;simp [hlt]
     ·cases h
    ·cases h
   ·cases h
  ·cases h
 case _=>cases h
theorem create_same {o:Op} (hc:cls o=.create) (T:PTree Value) (H:AH):(match aCreate V T o with
 | some (mk,ob)=>some (mk H.next,H.alloc ob)
 | none=>none)=evOp V call T H o:=by
 unfold cls at hc
 split at hc
 all_goals try cases hc
 ·simp only [aCreate,evOp,aop]
  cases V.E _<;>rfl
 ·simp only [aCreate,evOp,aop]
  cases oval V.nG T _<;>rfl
 ·rename_i t nn ps
  simp only [aCreate,evOp,aop]
  cases oparts V.nG T ps.toList with
  | none=>rfl
  |some vs =>
   simp only [aBuildSlice]
   rcases V.E t with _|⟨d,sz,by_,zv⟩
   ·rfl
   ·cases d<;>try rfl
    rename_i e
    simp only
    cases V.E e with
    | none=>rfl
    |some te =>
     simp only
     by_cases h:16777216<nn*te.size∨unk≤nn
     ·simp only [if_pos h]
     ·simp only [if_neg h]
      cases afill (fun i=>some (i*te.size,te.size)) (azeros te.zv.cells.toList nn) vs<;>rfl
 ·rename_i t l c
  simp only [aCreate,evOp,aop]
  cases oval V.nG T l with
  | none=>rfl
  |some u =>
   cases oval V.nG T c with
   | none=>cases u<;>rfl
   |some x =>
    simp only [aMakeSlice]
    cases u<;>cases x<;>try rfl
    rename_i k1 n1 k2 n2
    simp only
    rcases V.E t with _|⟨d,sz,by_,zv⟩
    ·rfl
    ·cases d<;>try rfl
     rename_i e
     simp only
     cases V.E e with
     | none=>rfl
     |some te =>
      simp only
      by_cases h:0≤n1∧n1≤n2∧n2.toNat*te.bytes≤140737488355328∧n2<4611686018427387904
      ·simp only [if_pos h]
      ·simp only [if_neg h]
 ·rfl
theorem stepOp_ev {T:PTree Value}{H:AH}{o:Oper} (hn:noAlloc V o.op=true):stepOp V call ops T H o=if aSeen ops T o then if aWanted ops T o then evOp V call T H o.op else some (undef,H) else none:=by
 unfold stepOp
 simp only [hn,if_true]
 split
 ·split
  ·split
   ·rename_i hc
    unfold evOp
    split
    ·rename_i heq;rw [heq] at hc;simp [cls] at hc
    ·rfl
   ·rename_i hc;exact create_same hc T H
   ·rfl
  ·rfl
 ·rfl
theorem runSeq_evOps:∀ {σ:List Nat}{l:List Oper}{T:PTree Value}{H:AH}{Tf:PTree Value}{Hf:AH},(∀ o∈l,noAlloc V o.op=true)→σ.map (ops[·]?)=l.map some→evOps V call n ops l T H=some (Tf,Hf)→∃ R,runSeq V call n ops σ T H=some (R,Tf,Hf)
 |[],l,T,H,Tf,Hf,_,hl,h=>by
  cases l with
  | nil=>simp [evOps] at h;obtain ⟨rfl,rfl⟩:=h;exact ⟨[],rfl⟩
  | cons o l=>simp at hl
 |i::σ,l,T,H,Tf,Hf,hna,hl,h=>by
  cases l with
  | nil=>simp at hl
  |cons o l =>
   simp only [List.map_cons,List.cons.injEq] at hl
   obtain ⟨ho,hl⟩:=hl
   have hna':=fun o' ho'=>hna o' (List.mem_cons_of_mem _ ho')
   simp only [evOps] at h
   unfold runSeq
   rw [ho]
   simp only [stepOp_ev (hna o (by simp))]
   split at h
   case isFalse=>cases h
   rename_i hseen
   rw [if_pos hseen]
   split at h
   ·rename_i hw
    rw [if_pos hw]
    split at h
    ·rename_i v H1 hev
     try rw [hev]
     try simp only
     split at h
     ·rename_i T1 hp
      try rw [hp]
      obtain ⟨R,hR⟩:=runSeq_evOps hna' hl h
      exact ⟨_,by simp only [hR];rfl⟩
     ·cases h
    ·cases h
   ·rename_i hw
    rw [if_neg hw]
    try simp only
    split at h
    ·rename_i T1 hp
     try rw [hp]
     obtain ⟨R,hR⟩:=runSeq_evOps hna' hl h
     exact ⟨_,by simp only [hR];rfl⟩
    ·cases h
structure Grows (H K:AH):Prop where
 next:H.next≤K.next
 obj:∀ b,b<H.next→K.obj b=H.obj b
 ver:∀ g,K.ver g=H.ver g
theorem Grows.refl (H:AH):Grows H H:=⟨Nat.le_refl _,fun _ _=>rfl,fun _=>rfl⟩
theorem Grows.lo {H K:AH} (h:Grows H K) {b:Nat}{o:AObj} (ho:H.lo b=o) (hd:o≠.dead):K.lo b=o:=by
 obtain ⟨h1,h2⟩:=AH.lo_of ho hd
 rw [AH.lo_lt (Nat.lt_of_lt_of_le h1 h.next),h.obj b h1,h2]
theorem Grows.alive {H K:AH} (h:Grows H K) (o:AObj):K.alive o=H.alive o:=by
 cases o<;>simp [AH.alive,h.ver]
theorem Grows.rd {H K:AH} (h:Grows H K) {b off n:Nat}{vs:List Value} (hr:H.rd b off n=some vs):K.rd b off n=some vs:=by
 unfold AH.rd at hr ⊢
 split at hr
 ·rename_i et cells st g v ho
  rw [h.lo ho (by simp)]
  simp only [h.alive]
  exact hr
 ·cases hr
theorem Grows.rowOf {H K:AH} (h:Grows H K) {b:Nat}{e:TypeId}{vs:List Value} (hr:H.rowOf b e=some vs):K.rowOf b e=some vs:=by
 unfold AH.rowOf at hr ⊢
 split at hr
 ·rename_i et cells st g v ho
  rw [h.lo ho (by simp)]
  simp only [h.alive]
  exact hr
 ·cases hr
theorem Grows.load {H K:AH} (h:Grows H K) {E:TypeId→Option TI}{t:TypeId}{p v:Value} (hl:aLoad E H t p=some v):aLoad E K t p=some v:=by
 unfold aLoad at hl ⊢
 split at hl
 ·rename_i b off
  split at hl
  ·rename_i ti _
   split at hl
   ·rename_i hagg
    rw [if_pos hagg]
    obtain ⟨u,h1,h2⟩:=map_some hl
    rw [h.rd h1];exact congrArg some h2
   ·rename_i hagg
    rw [if_neg hagg]
    split at hl
    ·rename_i u hu;rw [h.rd hu];exact hl
    ·cases hl
  ·cases hl
 ·cases hl
theorem Grows.lookup {H K:AH} (h:Grows H K) {E:TypeId→Option TI}{t:TypeId}{m k v:Value}{ok:Bool} (hl:aLookup E H t m k ok=some v):aLookup E K t m k ok=some v:=by
 unfold aLookup at hl ⊢
 cases m with
 |map r =>
  cases r with
  | none=>exact hl
  |some b =>
   simp only at hl ⊢
   cases ho:H.lo b with
   | map es=>rw [ho] at hl;rw [h.lo ho (by simp)];exact hl
   |_ =>
    exfalso
    rw [ho] at hl
    split at hl
    ·split at hl
     ·split at hl<;>cases hl
     ·cases hl
    ·cases hl
 | _=>exact hl
theorem Grows.len {H K:AH} (h:Grows H K) {E:TypeId→Option TI}{t:TypeId}{x v:Value} (hl:aLen E H t x=some v):aLen E K t x=some v:=by
 unfold aLen at hl ⊢
 split at hl
 ·rename_i ti _
  split at hl
  ·exact hl
  ·exact hl
  ·exact hl
  ·rename_i b hd
   split at hl
   ·rename_i es ho
    rw [h.lo ho (by simp)]
    exact hl
   ·cases hl
  ·exact hl
  ·cases hl
 ·cases hl
theorem Grows.slice {H K:AH} (h:Grows H K) {E:TypeId→Option TI}{t:TypeId}{x v:Value}{lo hi mx:Option Value} (hl:aSlice E H t x lo hi mx=some v):aSlice E K t x lo hi mx=some v:=by
 unfold aSlice at hl ⊢
 split at hl
 ·exact hl
 ·rename_i e _ _ _ _
  split at hl
  ·cases hl
  ·split at hl
   ·exact hl
   ·rename_i b off len cap
    split at hl
    ·cases hl
    ·rename_i hq
     rw [if_neg hq]
     split at hl
     ·rename_i hc
      rw [if_pos hc]
      split at hl
      ·cases hl
      ·rename_i hz
       rw [if_neg hz]
       cases hr:H.rowOf b e with
       | none=>rw [hr] at hl;cases hl
       | some cells=>rw [hr] at hl;rw [h.rowOf hr];exact hl
     ·rename_i hc;rw [if_neg hc];exact hl
   ·cases hl
 ·exact hl
 ·cases hl
theorem Grows.convert {H K:AH} (h:Grows H K) {s d:TypeId}{x:Operand} (hn:noAlloc V (.convert s d x)=true) {y v:Value}{H':AH} (hl:aConvert V.P V.E H s d y=some (v,H')):aConvert V.P V.E K s d y=some (v,K):=by
 have fin:∀ {x:Option Value},x.map (·,H)=some (v,H')→x.map (·,K)=some (v,K):=fun {x} hx=>by
  obtain ⟨u,h1,h2⟩:=map_some hx
  cases h2;rw [h1];rfl
 unfold aConvert at hl ⊢
 split at hl
 ·split at hl
  ·split at hl
   ·cases hl;rfl
   ·cases hl
  ·cases hl
 ·split at hl
  ·split at hl
   ·split at hl
    ·rename_i h0;rw [if_pos h0];cases hl;rfl
    ·rename_i h0
     rw [if_neg h0]
     split at hl
     ·rename_i vs hv
      rw [h.rd hv]
      simp only
      split at hl
      ·cases hl;rfl
      ·cases hl
     ·cases hl
   ·cases hl
  ·cases hl
 ·split at hl
  ·rename_i e _ _ _ h1 h2
   simp only [noAlloc,h2] at hn
   cases hn
  ·exact fin hl
 ·exact fin hl
theorem look_grows {o:Op} (hc:cls o=.look) (hn:noAlloc V o=true) {T:PTree Value}{H:AH}{v:Value}{H':AH} (h:aop V T H o=some (v,H')) {K:AH} (hg:Grows H K):aop V T K o=some (v,K):=by
 cases hl:heapLook V o with
 | false=>exact look_any hc hl h K
 |true =>
  unfold heapLook at hl
  split at hl
  ·rename_i t a
   simp only [aop] at h ⊢
   split at h
   ·obtain ⟨u,h1,h2⟩:=map_some h
    cases h2
    rw [hg.load h1];rfl
   ·cases h
  ·rename_i t m i ok
   simp only [aop] at h ⊢
   split at h
   ·obtain ⟨u,h1,h2⟩:=map_some h
    cases h2
    rw [hg.lookup h1];rfl
   ·cases h
  ·rename_i t x lo hi mx
   simp only [aop] at h ⊢
   split at h
   ·obtain ⟨u,h1,h2⟩:=map_some h
    cases h2
    rw [hg.slice h1];rfl
   ·cases h
  ·rename_i args ts
   simp only [aop] at h ⊢
   split at h
   ·rename_i vs hvs
    clear hl hvs
    generalize ts.toList=tl at h ⊢
    rcases tl with _|⟨t,_|⟨t2,tl⟩⟩<;>rcases vs with _|⟨x,_|⟨y,yl⟩⟩<;>simp only [aBuiltin] at h ⊢<;>try (cases h;done)
    obtain ⟨u,h1,h2⟩:=map_some h
    cases h2
    rw [hg.len h1];rfl
   ·cases h
  ·rename_i s d x
   simp only [aop] at h ⊢
   split at h
   ·rename_i u hu
    exact hg.convert hn h
   ·cases h
  ·cases hl
def needAt (ms:List Nat) (i:Nat):List (Nat×Oper)→Bool
 | []=>false
 |(j,p)::os=>match cls p.op with
  | .big=>!anc ms i j
  | _=>needAt ms i os
def needLook (V:Env) (ms:List Nat):List (Nat×Oper)→Bool
 | []=>false
 |(i,o)::os=>(match cls o.op with
  | .look=>heapLook V o.op&&needAt ms i os
  | _=>false)||needLook V ms os
theorem noNeedAt {ms:List Nat}{i:Nat}:∀ {l:List (Nat×Oper)},needAt ms i l=false→∀ (m j:Nat) (p:Oper),l[m]?=some (j,p)→cls p.op=.big→(∀ (m' j':Nat) (p':Oper),m'<m→l[m']?=some (j',p')→cls p'.op≠.big)→anc ms i j=true
 | [],_,m,j,p,h,_,_=>by simp at h
 |(j',p')::l,h,m,j,p,hp,hb,hno=>by
  simp only [needAt] at h
  cases m with
  |zero =>
   simp at hp
   obtain ⟨rfl,rfl⟩:=hp
   rw [hb] at h
   simpa using h
  |succ m =>
   have hn:=hno 0 j' p' (by omega) (by simp)
   have h':needAt ms i l=false:=by
    split at h
    ·rename_i e;exact absurd e hn
    ·exact h
   exact noNeedAt h' m j p (by simpa using hp) hb fun m' j2 p2 hm hp2=>hno (m'+1) j2 p2 (by omega) (by simpa using hp2)
theorem noNeed {ms:List Nat}:∀ {l:List (Nat×Oper)},needLook V ms l=false→∀ (k i:Nat) (o:Oper),l[k]?=some (i,o)→cls o.op=.look→heapLook V o.op=true→needAt ms i (l.drop (k+1))=false
 | [],_,k,i,o,h,_,_=>by simp at h
 | (i',o')::l,h,k,i,o,ho,hc,hh=>by
  simp only [needLook,Bool.or_eq_false_iff] at h
  cases k with
  | zero=>
   simp at ho
   obtain ⟨rfl,rfl⟩:=ho
   have h1:=h.1
   rw [hc,hh] at h1
   simpa using h1
  | succ k=>simpa using noNeed h.2 k i o (by simpa using ho) hc hh
def opersOf (ops:Array Oper):List Nat→Option (List Oper)
 | []=>some []
 |i::σ=>match ops[i]?,opersOf ops σ with
  | some o,some l=>some (o::l)
  | _,_=>none
theorem opersOf_ok:∀ {σ:List Nat}{l:List Oper},opersOf ops σ=some l→σ.map (ops[·]?)=l.map some
 | [],l,h=>by simp [opersOf] at h;subst h;rfl
 |i::σ,l,h=>by
  simp only [opersOf] at h
  split at h
  ·rename_i o l' h1 h2
   cases h
   simp [h1,opersOf_ok h2]
  ·cases h
def planOf (V:Env) (ops:Array Oper):Option (Bool×List Oper) :=
 match orderOf ops with
 |σ => if ordFast ops σ then match opersOf ops σ with
    | some l=>if l.all (fun o=>noAlloc V o.op) then some (needLook V (masks ops.toList []) (σ.zip l),l) else none
    | none=>none
  else none
def drawX (V:Env):CallFn→Nat→Array Oper→PTree Value→AH→Option (PTree Value×AH):=fun call n ops T H =>
 match planOf V ops with
 | some (false,l)=>evOps V call n ops l T H
 |some (true,_)=>match runSeq V call n ops (orderOf ops) T H with
  | some (rs,Tf,Hf)=>if lookAll V ops (masks ops.toList []) Hf rs then some (Tf,Hf) else none
  | none=>none
 | none=>none
theorem drawX_ran {T:PTree Value}{H:AH}{T':PTree Value}{H':AH} (h:drawX V call n ops T H=some (T',H')):∃ R,Ran V call n ops (orderOf ops) T H R T' H':=by
 unfold drawX planOf at h
 simp only at h
 split at h
 ·rename_i l hp
  split at hp
  ·rename_i hok
   obtain ⟨hl,hna,hneed⟩:opersOf ops (orderOf ops)=some l∧(∀ o∈l,noAlloc V o.op=true)∧needLook V (masks ops.toList []) ((orderOf ops).zip l)=false:=by
    split at hp
    ·rename_i l' hl
     split at hp
     ·rename_i hall
      simp only [Option.some.injEq,Prod.mk.injEq] at hp
      obtain ⟨h1,rfl⟩:=hp
      exact ⟨hl,fun o ho=>List.all_eq_true.1 hall o ho,h1⟩
     ·cases hp
    ·cases hp
   obtain ⟨R,hR⟩:=runSeq_evOps hna (opersOf_ok hl) h
   have hord:=ordFast_ord hok
   have hids:=runSeq_len hR
   have hstep:=runSeq_step hR
   have hzero:=runSeq_zero hR
   refine ⟨R,hord,hids,hzero,hstep,fun k nb r o hr ho hc hw hlt hle hbig hno=>?_⟩
   obtain ⟨o',ho',hs,_,_⟩:=hstep k r hr
   rw [ho] at ho';cases ho'
   have hev:aop V r.T r.H o.op=some (r.v,r.H'):=by
    have hsn:=stepOp_seen hs
    unfold stepOp at hs
    rw [if_pos hsn,if_pos hw,hc] at hs
    simp only at hs
    split at hs
    ·exact hs
    ·cases hs
   have hn1:noAlloc V o.op=true:=by
    have hsn:=stepOp_seen hs
    unfold stepOp at hs
    rw [if_pos hsn,if_pos hw,hc] at hs
    simp only at hs
    split at hs
    ·assumption
    ·cases hs
   have hpairs:∀ (k:Nat) (r:Rec) (o:Oper),R[k]?=some r→ops[r.i]?=some o→((orderOf ops).zip l)[k]?=some (r.i,o):=fun k r o hr ho=>by
    have h1:(orderOf ops)[k]?=some r.i:=by rw [←hids];simp [hr]
    have h2:=congrArg (·[k]?) (opersOf_ok hl)
    simp only [List.getElem?_map,h1,Option.map_some,ho] at h2
    rw [List.getElem?_zip_eq_some]
    refine ⟨h1,?_⟩
    cases hlk:l[k]? with
    | none=>rw [hlk] at h2;cases h2
    | some p=>rw [hlk] at h2;simp at h2;rw [h2]
   cases hh:heapLook V o.op with
   | false=>exact look_any hc hh hev _
   |true =>
    have hna:=noNeed hneed k r.i o (hpairs k r o hr ho) hc hh
    have hnone:∀ (m:Nat) (q:Rec),k<m→m<nb→R[m]?=some q→bigAt ops q=false:=by
     intro m
     induction m using Nat.strongRecOn with
     |_ m ih =>
      intro q hkm hmn hq
      cases hb:bigAt ops q with
      | false=>rfl
      |true =>
       obtain ⟨oq,hoq,_⟩:=hstep m q hq
       have ha:=noNeedAt hna (m-(k+1)) q.i oq (by rw [List.getElem?_drop,show k+1+(m-(k+1))=m by omega];exact hpairs m q oq hq hoq) ((bigAt_iff hoq).1 hb) fun m' j' p' hm' hp' hbig'=>by
        rw [List.getElem?_drop] at hp'
        have hlt:k+1+m'<R.length:=by have:=(List.getElem?_eq_some_iff.1 hq).1;omega
        have hq':R[k+1+m']?=some R[k+1+m']:=by simp [hlt]
        obtain ⟨oq',hoq',_⟩:=hstep _ _ hq'
        have:=hpairs _ _ _ hq' hoq'
        rw [hp'] at this
        simp only [Option.some.injEq,Prod.mk.injEq] at this
        have hb':=ih (k+1+m') (by omega) _ (by omega) (by omega) hq'
        rw [(bigAt_iff hoq').2 (by rw [←this.2];exact hbig')] at hb'
        cases hb'
       rw [hno m q hkm hmn hq hb] at ha
       cases ha
    have hgrow:∀ d,k+1+d≤nb→Grows r.H (Hat R H' (k+1+d)):=fun d=>by
     induction d with
     |zero =>
      intro _
      obtain ⟨o2,ho2,hs2,_,hH⟩:=hstep k r hr
      rw [Nat.add_zero,hH,look_same hc hn1 hev]
      exact Grows.refl _
     |succ d ih =>
      intro hd
      have hlt2:k+1+d<R.length:=by omega
      have hr2:R[k+1+d]?=some R[k+1+d]:=by simp [hlt2]
      obtain ⟨o2,ho2,hs2,_,hH⟩:=hstep (k+1+d) R[k+1+d] hr2
      have hnb:=hnone (k+1+d) _ (by omega) (by omega) hr2
      have hc2:cls o2.op≠.big:=fun e=>by rw [(bigAt_iff ho2).2 e] at hnb;cases hnb
      have hHk:(R[k+1+d]).H=Hat R H' (k+1+d):=by simp [Hat,hlt2]
      have hg:=ih (by omega)
      rw [←hHk] at hg
      rw [show k+1+(d+1)=k+1+d+1 by omega,hH]
      rcases small_step hc2 hs2 with e|⟨mk,ob,_,_,_,_,e⟩
      ·rw [e];exact hg
      ·rw [e]
       refine ⟨by have:=hg.next;simp;omega,fun b hb=>?_,fun g=>by simpa using hg.ver g⟩
       rw [AH.obj_alloc,if_neg (by have:=hg.next;omega)]
       exact hg.obj b hb
    have:=hgrow (nb-(k+1)) (by omega)
    rw [show k+1+(nb-(k+1))=nb by omega] at this
    exact look_grows hc hn1 hev this
  ·cases hp
 ·rename_i l hp
  split at hp
  ·rename_i hok
   split at h
   ·rename_i R Tf Hf hrun
    split at h
    ·rename_i hl
     cases h
     exact ⟨R,ordFast_ord hok,runSeq_len hrun,runSeq_zero hrun,runSeq_step hrun,fun k nb r o hr ho hc hw=>looks_of_all hl k nb r o hr ho hc (by
      obtain ⟨o',ho',hs,_⟩:=runSeq_step hrun k r hr
      rw [ho] at ho';cases ho'
      have hsn:=stepOp_seen hs
      unfold stepOp at hs
      rw [if_pos hsn,if_pos hw,hc] at hs
      simp only at hs
      split at hs
      ·assumption
      ·cases hs) hw⟩
    ·cases h
   ·cases h
  ·cases hp
 ·cases h
theorem drawX_ok (hE:TOk V.E V.P) (hF:FOk V.F V.P) (hm:V.P.follows .mixedOrders=true):DrawOk V (drawX V):=by
 intro call hc ro n ds ops id B0 ι T H a w T' H' hT hn hd hG hR he Q hQ
 obtain ⟨R,h⟩:=drawX_ran he
 exact ran_wp hE hF hm hc ro id hT hn hd hG hR h Q hQ
end Go.Ev
namespace Go.Ev
open Go.RowKit
abbrev Ft:=Operand→Option Value
def gvals (g:Ft):List Operand→Option (List Value)
 | []=>some []
 |x::xs=>match g x,gvals g xs with
  | some v,some vs=>some (v::vs)
  | _,_=>none
def gparts (g:Ft):List (Nat×Operand)→Option (List (Nat×Value))
 | []=>some []
 |(i,x)::ps=>match g x,gparts g ps with
  | some v,some vs=>some ((i,v)::vs)
  | _,_=>none
def gopt (g:Ft):Option Operand→Option (Option Value)
 | none=>some none
 | some x=>(g x).map some
def aopG (V:Env) (g:Ft) (H:AH) (o:Op):Option (Value×AH) :=
 match o with
 | .move x|.assign x=>(g x).map (·,H)
 |.pick c a b=>match g c with
  | some (.bool t)=>(g (if t then a else b)).map (·,H)
  | _=>none
 |.alloc t=>match V.E t with
  | some ti=>some (.pointer (some ⟨H.next,0,none⟩),H.alloc (.row t ti.zv.cells.toList .exact 0 0))
  | none=>none
 |.box t x=>match g x with
  | some v=>some (.pointer (some ⟨H.next,0,none⟩),H.alloc (.row t v.cells.toList .exact 0 0))
  | none=>none
 |.build t ps=>match gparts g ps.toList with
  | some vs=>(aBuild V.E t vs).map (·,H)
  | none=>none
 |.buildSlice t n ps=>match gparts g ps.toList with
  | some vs=>aBuildSlice V.E H t n vs
  | none=>none
 |.load t a=>match g a with
  | some p=>(aLoad V.E H t p).map (·,H)
  | none=>none
 |.store t a x=>match g a,g x with
  | some p,some v=>(aStore V.E H t p v).map fun H'=>(undef,H')
  | _,_=>none
 |.nilCheck x=>match g x with
  | some (.pointer (some p))=>some (.pointer (some p),H)
  | some (.func (.func f) a b)=>some (.func (.func f) a b,H)
  | some (.map (some m))=>some (.map (some m),H)
  | _=>none
 |.binOp op t x y _=>match g x,g y with
  | some u,some v=>(aBin V.P V.E op t x y u v).map (·,H)
  | _,_=>none
 |.unOp op _ x=>match g x with
  | some v=>(aPure V.P [v] (Op.unary op v)).map (·,H)
  | none=>none
 |.convert s d x=>match g x with
  | some v=>aConvert V.P V.E H s d v
  | none=>none
 |.makeInterface t x=>match g x,V.E t with
  |some v,some ti=>match ti.desc with
   | .interface _=>none
   | _=>some (.iface t v,H)
  | _,_=>none
 |.makeFunc (.func f) first cap=>match gvals g first.toList,gvals g cap.toList with
  | some u,some v=>some (.func (.func f) u.toArray v.toArray,H)
  | _,_=>none
 | .makeMap _ none=>some (.map (some H.next),H.alloc (.map []))
 |.makeSlice t l c=>match g l,g c with
  | some u,some v=>aMakeSlice V.E H t u v
  | _,_=>none
 |.slice t x lo hi mx=>match g x,gopt g lo,gopt g hi,gopt g mx with
  | some v,some l,some h,some m=>(aSlice V.E H t v l h m).map (·,H)
  | _,_,_,_=>none
 |.fieldAddr s x f=>match g x with
  | some v=>(aField V.E s f v).map (·,H)
  | none=>none
 |.field t x f=>match g x with
  | some v=>(aFieldOf V.E t v f).map (·,H)
  | none=>none
 |.indexAddr t x i=>match g x,g i with
  | some u,some v=>(aIndex V.E t u v).map (·,H)
  | _,_=>none
 |.index t x i=>match g x,g i with
  | some u,some v=>(aIndexOf V.E t u v).map (·,H)
  | _,_=>none
 |.lookup t m k ok=>match g m,g k with
  | some u,some v=>(aLookup V.E H t u v ok).map (·,H)
  | _,_=>none
 |.mapUpdate t m k x|.insert t m k x=>match g m,g k,g x with
  | some u,some v,some y=>(aMapUpdate V.E H t u v y).map fun H'=>(undef,H')
  | _,_,_=>none
 |.extract x i=>match g x with
  | some v=>(aExtract v i).map (·,H)
  | none=>none
 |.call ⟨.builtin b,args,ts⟩=>match gvals g args.toList with
  | some vs=>aBuiltin V H b ts.toList vs
  | none=>none
 | _=>none
def evOpG (V:Env) (call:CallFn) (g:Ft) (H:AH) (o:Op):Option (Value×AH) :=
 match o with
 |.call ⟨.value f,args,_⟩=>match g f,gvals g args.toList with
  |some (.func (.func h) first cap),some vs=>match V.F h with
   | some _=>call (.fn h) (first.toList++vs++cap.toList) H
   | none=>none
  | some (.func (.yield b) _ _),some vs=>call (.yld b) vs H
  | _,_=>none
 | o=>aopG V g H o
theorem gvals_eq (nG:Nat) (T:PTree Value):∀ xs,ovals nG T xs=gvals (oval nG T) xs
 | []=>rfl
 | x::xs=>by simp only [ovals,gvals,gvals_eq nG T xs];rfl
theorem gparts_eq (nG:Nat) (T:PTree Value):∀ xs,oparts nG T xs=gparts (oval nG T) xs
 | []=>rfl
 | (i,x)::xs=>by simp only [oparts,gparts,gparts_eq nG T xs];rfl
theorem gopt_eq (nG:Nat) (T:PTree Value) (x:Option Operand):oopt nG T x=gopt (oval nG T) x:=by cases x<;>rfl
theorem aop_G (V:Env) (T:PTree Value) (H:AH) (o:Op):aop V T H o=aopG V (oval V.nG T) H o:=by
 cases o with
 | call c=>
  obtain ⟨cal,args,ts⟩:=c
  cases cal with
  | builtin b=>simp only [aop,aopG,gvals_eq];rfl
  | _=>rfl
 | build t ps=>simp only [aop,aopG,gparts_eq];rfl
 | buildSlice t n ps=>simp only [aop,aopG,gparts_eq];rfl
 | makeFunc fn first cap=>cases fn with
  | func f=>simp only [aop,aopG,gvals_eq];rfl
  | _=>rfl
 | makeMap t r=>cases r<;>rfl
 | slice t x lo hi mx=>simp only [aop,aopG,gopt_eq];rfl
 | _=>rfl
theorem evOp_G (V:Env) (call:CallFn) (T:PTree Value) (H:AH) (o:Op):evOp V call T H o=evOpG V call (oval V.nG T) H o:=by
 cases o with
 | call c=>
  obtain ⟨cal,args,ts⟩:=c
  cases cal with
  | value f=>simp only [evOp,evOpG,gvals_eq];rfl
  | _=>simp only [evOp,evOpG,aop_G]
 | _=>simp only [evOp,evOpG,aop_G]
def Ft.le (g g':Ft):Prop:=∀ x v,g x=some v→g' x=some v
theorem gvals_mono {g g':Ft} (hg:g.le g'):∀ {xs:List Operand}{vs:List Value},gvals g xs=some vs→gvals g' xs=some vs
 | [],vs,h=>h
 |x::xs,vs,h=>by
  simp only [gvals] at h ⊢
  split at h
  ·rename_i v vs' h1 h2
   rw [hg _ _ h1,gvals_mono hg h2];exact h
  ·cases h
theorem gparts_mono {g g':Ft} (hg:g.le g'):∀ {xs:List (Nat×Operand)}{vs:List (Nat×Value)},gparts g xs=some vs→gparts g' xs=some vs
 | [],vs,h=>h
 | (i,x)::xs,vs,h=>by
  simp only [gparts] at h ⊢
  split at h
  ·rename_i v vs' h1 h2
   rw [hg _ _ h1,gparts_mono hg h2];exact h
  ·cases h
theorem gopt_mono {g g':Ft} (hg:g.le g') {x:Option Operand}{v:Option Value} (h:gopt g x=some v):gopt g' x=some v:=by
 cases x with
 | none=>exact h
 | some x=>
  simp only [gopt] at h ⊢
  obtain ⟨u,h1,h2⟩:=map_some h
  rw [hg _ _ h1];exact congrArg some h2
theorem aopG_mono {V:Env}{g g':Ft} (hg:g.le g') {H:AH}{o:Op}{r:Value×AH} (h:aopG V g H o=some r):aopG V g' H o=some r:=by
 have one:∀ {x:Operand}{β:Type}{f:Value→Option β}{r:β},(match g x with|some v=>f v|none=>none)=some r→(match g' x with|some v=>f v|none=>none)=some r:=fun {x β f r} h=>by
  cases hx:g x with
  | none=>rw [hx] at h;cases h
  | some v=>rw [hx] at h;rw [hg _ _ hx];exact h
 have two:∀ {x y:Operand}{β:Type}{f:Value→Value→Option β}{r:β},(match g x,g y with|some u,some v=>f u v|_,_=>none)=some r→(match g' x,g' y with|some u,some v=>f u v|_,_=>none)=some r:=fun {x y β f r} h=>by
  cases hx:g x with
  | none=>rw [hx] at h;cases h
  | some u=>
   cases hy:g y with
   | none=>rw [hx,hy] at h;cases h
   | some v=>rw [hx,hy] at h;rw [hg _ _ hx,hg _ _ hy];exact h
 cases o with
 | move x=>
  obtain ⟨v,h1,h2⟩:=map_some h
  simp only [aopG];rw [hg _ _ h1];exact congrArg some h2
 | assign x=>
  obtain ⟨v,h1,h2⟩:=map_some h
  simp only [aopG];rw [hg _ _ h1];exact congrArg some h2
 | pick c a b=>
  simp only [aopG] at h ⊢
  split at h
  ·rename_i t hc
   rw [hg _ _ hc]
   obtain ⟨v,h1,h2⟩:=map_some h
   simp only
   rw [hg _ _ h1];exact congrArg some h2
  ·cases h
 | alloc t=>exact h
 | box t x=>
  simp only [aopG] at h ⊢
  split at h
  ·rename_i v hv;rw [hg _ _ hv];exact h
  ·cases h
 | build t ps=>
  simp only [aopG] at h ⊢
  split at h
  ·rename_i v hv;rw [gparts_mono hg hv];exact h
  ·cases h
 | buildSlice t n ps=>
  simp only [aopG] at h ⊢
  split at h
  ·rename_i v hv;rw [gparts_mono hg hv];exact h
  ·cases h
 | load t a=>
  simp only [aopG] at h ⊢
  split at h
  ·rename_i v hv;rw [hg _ _ hv];exact h
  ·cases h
 | store t a x=>
  simp only [aopG] at h ⊢
  split at h
  ·rename_i u v hu hv;rw [hg _ _ hu,hg _ _ hv];exact h
  ·cases h
 | nilCheck x=>
  simp only [aopG] at h ⊢
  split at h
  ·rename_i p hv;rw [hg _ _ hv];exact h
  ·rename_i f a b hv;rw [hg _ _ hv];exact h
  ·rename_i m hv;rw [hg _ _ hv];exact h
  ·cases h
 | binOp op t x y yt=>
  simp only [aopG] at h ⊢
  split at h
  ·rename_i u v hu hv;rw [hg _ _ hu,hg _ _ hv];exact h
  ·cases h
 | unOp op t x=>
  simp only [aopG] at h ⊢
  split at h
  ·rename_i v hv;rw [hg _ _ hv];exact h
  ·cases h
 | convert s d x=>
  simp only [aopG] at h ⊢
  split at h
  ·rename_i v hv;rw [hg _ _ hv];exact h
  ·cases h
 | makeInterface t x=>
  simp only [aopG] at h ⊢
  cases hx:g x with
  | none=>rw [hx] at h;cases h
  | some v=>rw [hx] at h;rw [hg _ _ hx];exact h
 | makeFunc fn first cap=>
  cases fn with
  | func f=>
   simp only [aopG] at h ⊢
   split at h
   ·rename_i u v hu hv;rw [gvals_mono hg hu,gvals_mono hg hv];exact h
   ·cases h
  | _=>cases h
 | makeMap t r=>cases r<;>exact h
 | makeSlice t x y=>
  simp only [aopG] at h ⊢
  split at h
  ·rename_i u v hu hv;rw [hg _ _ hu,hg _ _ hv];exact h
  ·cases h
 | slice t x lo hi mx=>
  simp only [aopG] at h ⊢
  split at h
  ·rename_i v l k m h1 h2 h3 h4;rw [hg _ _ h1,gopt_mono hg h2,gopt_mono hg h3,gopt_mono hg h4];exact h
  ·cases h
 | fieldAddr s x f=>
  simp only [aopG] at h ⊢
  split at h
  ·rename_i v hv;rw [hg _ _ hv];exact h
  ·cases h
 | field t x f=>
  simp only [aopG] at h ⊢
  split at h
  ·rename_i v hv;rw [hg _ _ hv];exact h
  ·cases h
 | indexAddr t x i=>
  simp only [aopG] at h ⊢
  split at h
  ·rename_i u v hu hv;rw [hg _ _ hu,hg _ _ hv];exact h
  ·cases h
 | index t x i=>
  simp only [aopG] at h ⊢
  split at h
  ·rename_i u v hu hv;rw [hg _ _ hu,hg _ _ hv];exact h
  ·cases h
 | lookup t m i ok=>
  simp only [aopG] at h ⊢
  split at h
  ·rename_i u v hu hv;rw [hg _ _ hu,hg _ _ hv];exact h
  ·cases h
 | mapUpdate t m i x=>
  simp only [aopG] at h ⊢
  split at h
  ·rename_i u v y hu hv hy;rw [hg _ _ hu,hg _ _ hv,hg _ _ hy];exact h
  ·cases h
 | insert t m i x=>
  simp only [aopG] at h ⊢
  split at h
  ·rename_i u v y hu hv hy;rw [hg _ _ hu,hg _ _ hv,hg _ _ hy];exact h
  ·cases h
 | extract x i=>
  simp only [aopG] at h ⊢
  split at h
  ·rename_i v hv;rw [hg _ _ hv];exact h
  ·cases h
 | call c=>
  obtain ⟨cal,args,ts⟩:=c
  cases cal with
  | builtin b=>
   simp only [aopG] at h ⊢
   split at h
   ·rename_i v hv;rw [gvals_mono hg hv];exact h
   ·cases h
  | _=>cases h
 | _=>cases h
theorem evOpG_mono {V:Env}{call:CallFn}{g g':Ft} (hg:g.le g') {H:AH}{o:Op}{r:Value×AH} (h:evOpG V call g H o=some r):evOpG V call g' H o=some r:=by
 unfold evOpG at h ⊢
 split at h
 ·rename_i f args ts
  split at h
  ·rename_i k first cap vs hf hvs;rw [hg _ _ hf,gvals_mono hg hvs];exact h
  ·rename_i b x y vs hf hvs;rw [hg _ _ hf,gvals_mono hg hvs];exact h
  ·cases h
 ·exact aopG_mono hg h
def renC (ρ:Operand→Operand) (c:Call):Call :=
 ⟨match c.callee with
    | .value f=>.value (ρ f)
    | x=>x,(c.args.toList.map ρ).toArray,c.argTypes⟩
def renPs (ρ:Operand→Operand) (ps:Array (Nat×Operand)):Array (Nat×Operand):=(ps.toList.map fun p=>(p.1,ρ p.2)).toArray
def ren (ρ:Operand→Operand) (o:Op):Op:=
 match o with
 | .move x=>.move (ρ x)
 | .assign x=>.assign (ρ x)
 | .pick c a b=>.pick (ρ c) (ρ a) (ρ b)
 | .alloc t=>.alloc t
 | .box t x=>.box t (ρ x)
 | .build t ps=>.build t (renPs ρ ps)
 | .buildSlice t n ps=>.buildSlice t n (renPs ρ ps)
 | .insert t m i x=>.insert t (ρ m) (ρ i) (ρ x)
 | .load t a=>.load t (ρ a)
 | .store t a x=>.store t (ρ a) (ρ x)
 | .nilCheck x=>.nilCheck (ρ x)
 | .binOp op t x y yt=>.binOp op t (ρ x) (ρ y) yt
 | .unOp op t x=>.unOp op t (ρ x)
 | .convert s d x=>.convert s d (ρ x)
 | .makeInterface t x=>.makeInterface t (ρ x)
 | .makeFunc fn first cap=>.makeFunc fn (first.toList.map ρ).toArray (cap.toList.map ρ).toArray
 | .makeMap t none=>.makeMap t none
 | .makeSlice t x y=>.makeSlice t (ρ x) (ρ y)
 | .slice t x lo hi mx=>.slice t (ρ x) (lo.map ρ) (hi.map ρ) (mx.map ρ)
 | .fieldAddr s x f=>.fieldAddr s (ρ x) f
 | .field t x f=>.field t (ρ x) f
 | .indexAddr t x i=>.indexAddr t (ρ x) (ρ i)
 | .index t x i=>.index t (ρ x) (ρ i)
 | .lookup t m i ok=>.lookup t (ρ m) (ρ i) ok
 | .mapUpdate t m i x=>.mapUpdate t (ρ m) (ρ i) (ρ x)
 | .extract x i=>.extract (ρ x) i
 | .call c=>.call (renC ρ c)
 | _=>.ready 0
theorem gvals_map (ρ:Operand→Operand) (g:Ft):∀ xs,gvals g (xs.map ρ)=gvals (fun x=>g (ρ x)) xs
 | []=>rfl
 | x::xs=>by simp only [List.map_cons,gvals,gvals_map ρ g xs]
theorem gparts_map (ρ:Operand→Operand) (g:Ft):∀ xs:List (Nat×Operand),gparts g (xs.map fun p=>(p.1,ρ p.2))=gparts (fun x=>g (ρ x)) xs
 | []=>rfl
 | (i,x)::xs=>by simp only [List.map_cons,gparts,gparts_map ρ g xs]
theorem gopt_map (ρ:Operand→Operand) (g:Ft) (x:Option Operand):gopt g (x.map ρ)=gopt (fun x=>g (ρ x)) x:=by cases x<;>rfl
theorem pick_ren {V:Env}{ρ:Operand→Operand}{g:Ft}{H:AH}{c a b:Operand}:aopG V g H (.pick (ρ c) (ρ a) (ρ b))=aopG V (fun x=>g (ρ x)) H (.pick c a b):=by
 simp only [aopG]
 split
 ·rename_i t _;cases t<;>rfl
 ·rfl
def isC:Operand→Bool
 | .const _=>true
 | _=>false
def Tame (ρ:Operand→Operand):Prop:=∀ x,isC (ρ x)=isC x
theorem aBin_tame {P:Program}{E:TypeId→Option TI}{op:BinOp}{t:TypeId}{ox oy ox' oy':Operand} (hx:isC ox'=isC ox) (hy:isC oy'=isC oy) (u v:Value) :
  aBin P E op t ox' oy' u v=aBin P E op t ox oy u v:=by
 have hg:∀ a b,eqGuard op t ox' oy' a b=eqGuard op t ox oy a b:=fun a b=>by
  cases ox<;>cases ox'<;>simp [isC] at hx<;>cases oy<;>cases oy'<;>simp [isC] at hy<;>rfl
 unfold aBin
 simp only [hg]
theorem evOpG_ren {V:Env}{call:CallFn}{ρ:Operand→Operand} (hρ:Tame ρ) {g:Ft}{H:AH}{o:Op}{r:Value×AH} (h:evOpG V call g H (ren ρ o)=some r):evOpG V call (fun x=>g (ρ x)) H o=some r:=by
 cases o with
 | pick c a b=>
  have e:=pick_ren (V:=V) (ρ:=ρ) (g:=g) (H:=H) (c:=c) (a:=a) (b:=b)
  simp only [ren,evOpG] at h ⊢
  rw [←e];exact h
 | build t ps=>
  simp only [ren,evOpG,aopG,renPs,gparts_map] at h ⊢
  exact h
 | buildSlice t n ps=>
  simp only [ren,evOpG,aopG,renPs,gparts_map] at h ⊢
  exact h
 | makeFunc fn first cap=>
  cases fn with
  | func f=>
   simp only [ren,evOpG,aopG,gvals_map] at h ⊢
   exact h
  | _=>cases h
 | makeMap t x=>
  cases x with
  | none=>exact h
  | some x=>cases h
 | slice t x lo hi mx=>
  simp only [ren,evOpG,aopG,gopt_map] at h ⊢
  exact h
 | call c=>
  obtain ⟨cal,args,ts⟩:=c
  cases cal with
  | value f=>
   simp only [ren,renC,evOpG,gvals_map] at h ⊢
   exact h
  | builtin b=>
   simp only [ren,renC,evOpG,aopG,gvals_map] at h ⊢
   exact h
  | invoke x m=>cases h
 | binOp op t x y yt=>
  simp only [ren,evOpG,aopG] at h ⊢
  split at h
  ·rename_i u v hu hv
   rw [aBin_tame (hρ x) (hρ y)] at h
   exact h
  ·cases h
 | _=>first
  | (simp only [ren,evOpG,aopG] at h ⊢;exact h)
  | (simp [ren,evOpG,aopG] at h)
end Go.Ev
namespace Go.Ev
open Go.RowKit
variable {V:Env}{n:Nat}{ro:Option Nat}
def Runs (V:Env) (n:Nat) (ro:Option Nat) (c:Code) (T:PTree Value) (H:AH) (e:Ex) (T':PTree Value) (H':AH):Prop :=
 ∀ (B0 s0:Nat) (rr:Option Nat) (ι:Emb) (a:Act) (w:World),FrOk V B0 s0 n ro rr ι T H a w→∀ Q:Exit→Act→World→Prop,
   (∀ ι' a' w',FrOk V B0 s0 n ro rr ι' T' H' a' w'→Step V.P B0 ι H w ι' H' w'→Q e.to a' w')→c.wpIn (Wd rr) 0 V.P Q a w
def Sound (V:Env) (t:Tgt) (vs:List Value) (H:AH) (v:Value) (H':AH):Prop :=
 match t with
 | .fn f=>∀ B0 ι w vs',GOk ι V.nG→HRel V.P B0 ι H w→LRel ι vs vs' →
  Calls V.P f vs'.toArray w fun e w'=>∃ v' ι',e=.returned v'∧VRel ι' v v'∧Step V.P B0 ι H w ι' H' w'
 | .yld b=>∀ B0 ι w vs' l,GOk ι V.nG→HRel V.P B0 ι H w→LRel ι vs vs'→ι b=some l →
  ∃ f tmps x y,(Instr.yield l.blk vs'.toArray).run V.P w=.ok (.round l.blk f tmps x y) w ∧
    RoundIn Fence.wide 0 V.P l.blk f tmps x y w fun e w'=>∃ v' ι',e=.returned v'∧VRel ι' v v'∧Step V.P B0 ι H w ι' H' w'
theorem CallOk.iff {call:CallFn}:CallOk V call↔∀ t vs H v H',call t vs H=some (v,H')→Sound V t vs H v H':=
 ⟨fun h t vs H v H' hc=>match t with
  | .fn f=>h.fn f vs H v H' hc
  | .yld b=>h.yld b vs H v H' hc,
  fun h=>⟨fun f vs H v H' hc=>h (.fn f) vs H v H' hc,fun b vs H v H' hc=>h (.yld b) vs H v H' hc⟩⟩
def noCall:CallFn:=fun _ _ _=>none
open Classical in
noncomputable def one (t0:Tgt) (vs0:List Value) (H0:AH) (v0:Value) (H0':AH) (rest:CallFn:=noCall):CallFn:=fun t vs H=>if t=t0∧vs=vs0∧H=H0 then some (v0,H0') else rest t vs H
theorem Runs.seq {a b:Code}{T T1 T':PTree Value}{H H1 H':AH}{e:Ex} (h1:Runs V n ro a T H .normal T1 H1) (h2:Runs V n ro b T1 H1 e T' H'):Runs V n ro (.seq a b) T H e T' H':=
 fun B0 s0 rr ι x w hf Q hQ=>wpIn_seq (h1 B0 s0 rr ι x w hf _ fun ι1 a1 w1 g1 g2=>h2 B0 s0 rr ι1 a1 w1 g1 _ fun ι2 a2 w2 k1 k2=>hQ ι2 a2 w2 k1 (g2.trans k2))
theorem Runs.seqOut {a b:Code}{T T':PTree Value}{H H':AH}{e:Ex} (he:e≠.normal) (h:Runs V n ro a T H e T' H'):Runs V n ro (.seq a b) T H e T' H':=
 fun B0 s0 rr ι x w hf Q hQ=>wpIn_seq (h B0 s0 rr ι x w hf _ fun ι1 a1 w1 g1 g2=>by
  have hq:=hQ ι1 a1 w1 g1 g2
  cases e with
  | normal=>exact absurd rfl he
  | exit id=>exact hq
  | ret=>exact hq)
theorem Runs.condT {x:Operand}{a b:Code}{T T':PTree Value}{H H':AH}{e:Ex} (hx:oval V.nG T x=some (.bool true)) (h:Runs V n ro a T H e T' H'):Runs V n ro (.cond x a b) T H e T' H':=
 fun B0 s0 rr ι y w hf Q hQ=>wpIn_cond_true ((oval_ok hf.tr hf.g hx).plain_eq rfl) (h B0 s0 rr ι y w hf Q hQ)
theorem Runs.condF {x:Operand}{a b:Code}{T T':PTree Value}{H H':AH}{e:Ex} (hx:oval V.nG T x=some (.bool false)) (h:Runs V n ro b T H e T' H'):Runs V n ro (.cond x a b) T H e T' H':=
 fun B0 s0 rr ι y w hf Q hQ=>wpIn_cond_false ((oval_ok hf.tr hf.g hx).plain_eq rfl) (h B0 s0 rr ι y w hf Q hQ)
def Ex.out (id:Nat):Ex→Ex
 | .exit id'=>if id'=id then .normal else .exit id'
 | e=>e
theorem Runs.block {id:Nat}{c:Code}{T T':PTree Value}{H H':AH}{e:Ex} (h:Runs V n ro c T H e T' H'):Runs V n ro (.block id c) T H (e.out id) T' H' :=
 fun B0 s0 rr ι x w hf Q hQ=>wpIn_block (h B0 s0 rr ι x w hf _ fun ι1 a1 w1 g1 g2=>by
  have hq:=hQ ι1 a1 w1 g1 g2
  cases e with
  | normal=>exact hq
  | ret=>exact hq
  |exit id' =>
   simp only [Ex.to,Exit.inBlock]
   simp only [Ex.out] at hq
   split
   ·rename_i e;rw [if_pos e] at hq;exact hq
   ·rename_i e;rw [if_neg e] at hq;exact hq)
theorem Runs.skip {T:PTree Value}{H:AH}:Runs V n ro .skip T H .normal T H:=fun _ _ _ ι a w hf _ hQ=>wpIn_skip (hQ ι a w hf (Step.refl hf.rel))
theorem Runs.exit {id:Nat}{T:PTree Value}{H:AH}:Runs V n ro (.exit id) T H (.exit id) T H:=fun _ _ _ ι a w hf _ hQ=>wpIn_exit (hQ ι a w hf (Step.refl hf.rel))
theorem Runs.ret {T:PTree Value}{H:AH}:Runs V n ro .ret T H .ret T H:=fun _ _ _ ι a w hf _ hQ=>wpIn_ret (hQ ι a w hf (Step.refl hf.rel))
theorem Runs.label {id:Nat}{T:PTree Value}{H:AH}:Runs V n ro (.label id) T H .normal T H:=fun _ _ _ ι a w hf _ hQ=>wpIn_label (hQ ι a w hf (Step.refl hf.rel))
def AW (V:Env) (n:Nat) (ro:Option Nat) (c:Code) (T:PTree Value) (H:AH) (Q:Ex→PTree Value→AH→Prop):Prop:=∃ e T' H',Runs V n ro c T H e T' H'∧Q e T' H'
theorem Sound.fn (hE:TOk V.E V.P) (hF:FOk V.F V.P) {f:FuncId}{fn:Func}{c:Code}{vs:List Value}{H:AH}{R:Value→AH→Prop} (hfn:V.F f=some fn) (hb:fn.body=some c) (hlen:vs.length≤fn.ntmps)
 (h:AW V fn.ntmps none c (initT vs 0 .leaf) H fun e T H'=>(e=.normal∨e=.ret)∧∃ rs,aResults V T H' fn.results.toList=some rs∧R (resOf rs) H'):∃ v H',R v H'∧Sound V (.fn f) vs H v H':=by
 obtain ⟨e,T,H',hr,he,rs,hrs,hR⟩:=h
 refine ⟨resOf rs,H',hR,fun B0 ι w vs' hG hRel hL=>?_⟩
 obtain ⟨h1,h2,h3⟩:=hF f fn hfn
 have hn:(vs'.toArray++Array.replicate (fn.ntmps-vs'.toArray.size) undef).size=fn.ntmps:=by
  have:=hL.length
  simp;omega
 have hT:=initT_ok hL fn.ntmps
 refine (callsIn_wide (n:=0)).1 (callsIn_of_wp_marks (F:=Wd none) h1 hb trivial ?_)
 have hf0:FrOk V B0 w.heap.size fn.ntmps none none ι (initT vs 0 .leaf) H { tmps:=vs'.toArray++Array.replicate (fn.ntmps-vs'.toArray.size) undef,defers:=[] } w :=
  ⟨by simpa using hT,by simpa using hn,Marks.nil,hG,hRel,trivial,Nat.le_refl _⟩
 refine hr _ _ _ _ _ _ hf0 _ fun ι' a' w' g1 g4=>?_
 have hl:LeavesInM (Wd none) 0 V.P fn a'.tmps (fun e w'=>∃ v' ι',e=.returned v'∧VRel ι' (resOf rs) v'∧Step V.P B0 ι H w ι' H' w') a'.defers .returning w':=by
  refine leaves_marks w H ι ι' H' hRel.base a'.defers w' g1.mks g4 fun w2 hs2=>?_
  obtain ⟨rs',k1,k2⟩:=aResults_ok hE (a:=a') g1.tr hs2.rel hrs
  have hrun:(results fn a'.tmps).run V.P w2=.ok (if h:rs'.toArray.size=1 then rs'.toArray[0] else .tuple rs'.toArray) w2:=by
   rw [results_eq,Array.mapM_eq_mapM_toList]
   simp only [Sem.run_bind,Sem.run_map]
   rw [k2]
   rfl
  have hvr:VRel ι' (resOf rs) (if h:rs'.toArray.size=1 then rs'.toArray[0] else .tuple rs'.toArray):=by
   cases k1 with
   | nil=>exact VRel.tuple' .nil
   |cons hv ht=>cases ht with
    | nil=>exact hv
    | cons hv2 ht2=>simpa [resOf] using VRel.tuple' (.cons hv (.cons hv2 ht2))
  exact ⟨_,hrun,_,ι',rfl,hvr,hs2⟩
 rcases he with rfl|rfl
 ·exact hl
 ·exact hl
end Go.Ev
namespace Go.Ev
open Go.RowKit
variable {V:Env}{call:CallFn}{n:Nat}{ro:Option Nat}
def far:Nat:=1048576
def gL (nG:Nat) (E:List Value) (T:PTree Value):Ft
 | .tmp k=>if k<far then E[k]? else T.get (k-far)
 | x=>oval nG T x
inductive LI where
 | get (t:Tmp)
 | run (o:Op) (guard:Option (Operand×Bool))
def findR (ρ:List (Tmp×Nat)) (t:Tmp):Option Nat :=
 match ρ with
 | []=>none
 |(u,p)::ρ=>match Nat.beq u t with
  | true=>some p
  | false=>findR ρ t
def resv (ρ:List (Tmp×Nat)) (c:Nat):Operand→Operand
 |.tmp t=>match findR ρ t with
  | some p=>.tmp (c-1-p)
  | none=>.tmp (far+t)
 | x=>x
theorem resv_tame (ρ:List (Tmp×Nat)) (c:Nat):Tame (resv ρ c):=fun x=>by
 cases x with
 | tmp t=>simp only [resv];split<;>rfl
 | _=>rfl
def srcOf (ρ:List (Tmp×Nat)):Operand→Option Nat
 | .tmp t=>findR ρ t
 | _=>none
def guardOf (all:Array Oper) (ρ:List (Tmp×Nat)) (c:Nat):Option (Nat×Bool)→Option (Option (Operand×Bool))
 | none=>some none
 |some (j,w)=>match (all[j]?).bind (·.dst) with
  | some d=>some (some (resv ρ c (.tmp d),w))
  | none=>none
def freeMove (ρ:List (Tmp×Nat)) (o:Oper):Option (Tmp×Nat):=
 match o.op,o.guard,o.dst with
 | .move x,none,some d=>(srcOf ρ x).map (d,·)
 | .assign x,none,some d=>(srcOf ρ x).map (d,·)
 | _,_,_=>none
def addR (d:Option Tmp) (c:Nat) (ρ:List (Tmp×Nat)):List (Tmp×Nat):=
 match d with
 | some d=>(d,c)::ρ
 | none=>ρ
def dOk (n c:Nat) (o:Oper):Bool:=Nat.blt c far&&(match o.dst with|some d=>Nat.blt d n|none=>true)
def comp (n:Nat) (all:Array Oper):List Oper→List (Tmp×Nat)→Nat→Option (List LI×List (Tmp×Nat)×Nat)
 | [],ρ,c=>some ([],ρ,c)
 |o :: os,ρ,c =>
  if dOk n c o then
    match freeMove ρ o with
    | some (d,p)=>comp n all os ((d,p)::ρ) c
    |none=>match guardOf all ρ c o.guard with
     | none=>none
     |some g =>
      let i:LI:=match o.op,g with
       | .move (.tmp t),none=>if (findR ρ t).isNone then .get t else .run (ren (resv ρ c) o.op) g
       | _,_=>.run (ren (resv ρ c) o.op) g
      match comp n all os (addR o.dst c ρ) (c+1) with
      | some (is,r)=>some (i::is,r)
      | none=>none
  else none
def wantL (g:Ft):Option (Operand×Bool)→Option Bool
 | none=>some true
 |some (x,w)=>match g x with
  | some (.bool b)=>some (b==w)
  | some _=>some false
  | none=>none
def runLI (V:Env) (call:CallFn):List LI→List Value→PTree Value→AH→Option (List Value×AH)
 | [],E,_,H=>some (E,H)
 |.get t::is,E,T,H=>match T.get t with
  | some v=>runLI V call is (v::E) T H
  | none=>none
 |.run o gd::is,E,T,H=>match wantL (gL V.nG E T) gd with
  |some true=>match evOpG V call (gL V.nG E T) H o with
   | some (v,H')=>runLI V call is (v::E) T H'
   | none=>none
  | some false=>runLI V call is (undef::E) T H
  | none=>none
def atP (E:List Value) (c p:Nat):Option Value:=if p<c then E[c-1-p]? else none
theorem atP_cons {E:List Value}{c p:Nat}{v:Value} (hl:E.length=c):atP (v::E) (c+1) p=if p=c then some v else atP E c p:=by
 unfold atP
 by_cases h:p=c
 ·subst h;simp
 ·rw [if_neg h]
  by_cases h2:p<c
  ·rw [if_pos (show p<c+1 by omega),if_pos h2,show c+1-1-p=(c-1-p)+1 by omega];simp
  ·rw [if_neg (show ¬ p<c+1 by omega),if_neg h2]
structure InvL (ρ:List (Tmp×Nat)) (c:Nat) (E:List Value) (T0 T:PTree Value):Prop where
 len:E.length=c
 lim:c≤far
 pos:∀ t p,findR ρ t=some p→p<c∧T.get t=atP E c p
 old:∀ t,findR ρ t=none→T.get t=T0.get t
theorem findR_cons (d p t:Nat) (ρ:List (Tmp×Nat)):findR ((d,p)::ρ) t=if d=t then some p else findR ρ t:=by
 simp only [findR]
 cases h:Nat.beq d t with
 | true=>rw [if_pos (Nat.eq_of_beq_eq_true h)]
 | false=>rw [if_neg (Nat.ne_of_beq_eq_false h)]
theorem InvL.fetch {ρ:List (Tmp×Nat)}{c:Nat}{E:List Value}{T0 T:PTree Value} (h:InvL ρ c E T0 T) (nG:Nat):Ft.le (fun x=>gL nG E T0 (resv ρ c x)) (oval nG T):=by
 intro x v hv
 cases x with
 | tmp t=>
  simp only [resv] at hv
  cases hf:findR ρ t with
  | none=>
   rw [hf] at hv
   simp only [gL] at hv
   rw [if_neg (show ¬ far+t<far by omega),Nat.add_sub_cancel_left] at hv
   simp only [oval]
   rw [h.old t hf];exact hv
  | some p=>
   rw [hf] at hv
   obtain ⟨h1,h2⟩:=h.pos t p hf
   have:=h.lim
   simp only [gL] at hv
   rw [if_pos (show c-1-p<far by omega)] at hv
   simp only [oval,h2,atP,if_pos h1]
   exact hv
 | const c=>exact hv
 | global g=>exact hv
 | func f=>exact hv
theorem InvL.push {ρ:List (Tmp×Nat)}{c:Nat}{E:List Value}{T0 T T':PTree Value} (h:InvL ρ c E T0 T) (hc:c<far) {d:Option Tmp}{v:Value} (hp:put n T d v=some T') :
 InvL (addR d c ρ) (c+1) (v::E) T0 T':=by
 have hold:∀ t p,findR ρ t=some p→p<c+1∧T.get t=atP (v::E) (c+1) p:=fun t p hf=>by
  obtain ⟨h1,h2⟩:=h.pos t p hf
  rw [atP_cons h.len,if_neg (by omega)]
  exact ⟨by omega,h2⟩
 cases d with
 |none =>
  cases hp
  exact ⟨by simp [h.len],by omega,hold,h.old⟩
 |some d =>
  simp only [put] at hp
  split at hp
  ·cases hp
   refine ⟨by simp [h.len],by omega,fun t p hf=>?_,fun t hf=>?_⟩
   ·simp only [addR] at hf
    rw [findR_cons] at hf
    split at hf
    ·rename_i e;subst e
     cases hf
     rw [atP_cons h.len,if_pos rfl,PTree.get_set_same]
     exact ⟨by omega,rfl⟩
    ·rename_i e
     rw [PTree.get_set_ne _ _ (Ne.symm e)]
     exact hold t p hf
   ·simp only [addR] at hf
    rw [findR_cons] at hf
    split at hf
    ·cases hf
    ·rename_i e
     rw [PTree.get_set_ne _ _ (Ne.symm e)]
     exact h.old t hf
  ·cases hp
theorem put_lt {T:PTree Value}{d:Option Tmp} (h:(match d with|some d=>Nat.blt d n|none=>true)=true) (v:Value):∃ T',put n T d v=some T':=by
 cases d with
 | none=>exact ⟨T,rfl⟩
 | some d=>exact ⟨T.set d v,by simp only [put];rw [if_pos (Nat.blt_eq.mp h)]⟩
theorem freeMove_ok {ρ:List (Tmp×Nat)}{o:Oper}{d p:Nat} (h:freeMove ρ o=some (d,p)):∃ t,(o.op=.move (.tmp t)∨o.op=.assign (.tmp t))∧o.guard=none∧o.dst=some d∧findR ρ t=some p:=by
 have key:∀ x,(srcOf ρ x).map (d,·)=some (d,p)→∃ t,x=.tmp t∧findR ρ t=some p:=fun x hx=>by
  cases x with
  | tmp t=>
   simp only [srcOf] at hx
   obtain ⟨q,h1,h2⟩:=map_some hx
   cases h2
   exact ⟨t,rfl,h1⟩
  | _=>cases hx
 unfold freeMove at h
 split at h
 ·rename_i x d' ho hg hd
  obtain ⟨q,h1,h2⟩:=map_some h
  cases h2
  obtain ⟨t,rfl,ht⟩:=key x (by rw [h1];rfl)
  exact ⟨t,.inl ho,hg,hd,ht⟩
 ·rename_i x d' ho hg hd
  obtain ⟨q,h1,h2⟩:=map_some h
  cases h2
  obtain ⟨t,rfl,ht⟩:=key x (by rw [h1];rfl)
  exact ⟨t,.inr ho,hg,hd,ht⟩
 ·cases h
theorem atP_some {E:List Value}{c p:Nat} (hl:E.length=c) (hp:p<c):∃ v,atP E c p=some v:=by
 unfold atP
 rw [if_pos hp]
 exact ⟨_,List.getElem?_eq_getElem (by omega)⟩
theorem want_le {all:Array Oper}{ρ:List (Tmp×Nat)}{c:Nat}{E:List Value}{T0 T:PTree Value}{nG:Nat} (h:Ft.le (fun x=>gL nG E T0 (resv ρ c x)) (oval nG T)) {o:Oper}{g:Option (Operand×Bool)} (hg:guardOf all ρ c o.guard=some g) {b:Bool} (hw:wantL (gL nG E T0) g=some b) :
 aSeen all T o=true∧aWanted all T o=b:=by
 unfold guardOf at hg
 unfold aSeen aWanted
 split at hg
 ·rename_i h0
  cases hg
  rw [h0]
  simp only [wantL,Option.some.injEq] at hw
  exact ⟨rfl,hw⟩
 ·rename_i j w h0
  rw [h0]
  split at hg
  ·rename_i d hd
   cases hg
   simp only [hd,aYielded]
   simp only [wantL] at hw
   split at hw
   ·rename_i b' hb
    have:=h _ _ hb
    simp only [oval] at this
    rw [this]
    cases hw
    refine ⟨rfl,?_⟩
    simp only
    cases b'<;>cases w<;>rfl
   ·rename_i v hne hb
    have:=h _ _ hb
    simp only [oval] at this
    rw [this]
    cases hw
    refine ⟨rfl,?_⟩
    cases v<;>first|rfl|exact absurd rfl (hne _)
   ·cases hw
  ·cases hg
theorem want_ok {all:Array Oper}{ρ:List (Tmp×Nat)}{c:Nat}{E:List Value}{T0 T:PTree Value} (h:InvL ρ c E T0 T) {o:Oper}{g:Option (Operand×Bool)} (hg:guardOf all ρ c o.guard=some g) {b:Bool}{nG:Nat} (hw:wantL (gL nG E T0) g=some b) :
  aSeen all T o=true∧aWanted all T o=b:=want_le (h.fetch nG) hg hw
theorem comp_ok {all:Array Oper}:∀ {l:List Oper}{ρ:List (Tmp×Nat)}{c:Nat}{is:List LI}{ρ':List (Tmp×Nat)}{c':Nat},comp n all l ρ c=some (is,ρ',c') →
 ∀ {E E':List Value}{T0 T:PTree Value}{H H':AH},InvL ρ c E T0 T→runLI V call is E T0 H=some (E',H')→∃ T',evOps V call n all l T H=some (T',H')∧InvL ρ' c' E' T0 T'
 |[],ρ,c,is,ρ',c',hc,E,E',T0,T,H,H',hI,hr=>by
  simp only [comp,Option.some.injEq,Prod.mk.injEq] at hc
  obtain ⟨rfl,rfl,rfl⟩:=hc
  simp only [runLI,Option.some.injEq,Prod.mk.injEq] at hr
  obtain ⟨rfl,rfl⟩:=hr
  exact ⟨T,rfl,hI⟩
 |o::os,ρ,c,is,ρ',c',hc,E,E',T0,T,H,H',hI,hr=>by
  simp only [comp] at hc
  split at hc
  case isFalse=>cases hc
  rename_i hd
  unfold dOk at hd
  rw [Bool.and_eq_true] at hd
  have hcf:c<far:=Nat.blt_eq.mp hd.1
  simp only [evOps]
  split at hc
  ·rename_i d p hf
   obtain ⟨t,ho,hg,hdst,ht⟩:=freeMove_ok hf
   obtain ⟨hp,hT⟩:=hI.pos t p ht
   obtain ⟨v,hv⟩:=atP_some hI.len hp
   have hs:aSeen all T o=true:=by unfold aSeen;rw [hg]
   have hw:aWanted all T o=true:=by unfold aWanted;rw [hg]
   have hev:evOp V call T H o.op=some (v,H):=by
    rcases ho with ho|ho<;>rw [ho]<;>simp only [evOp,aop,oval,hT,hv,Option.map_some]
   rw [if_pos hs,if_pos hw,hev]
   simp only
   have hdn:d<n:=by have:=hd.2;rw [hdst] at this;exact Nat.blt_eq.mp this
   rw [hdst]
   simp only [put,if_pos hdn]
   refine comp_ok hc ⟨hI.len,hI.lim,fun u q hu=>?_,fun u hu=>?_⟩ hr
   ·rw [findR_cons] at hu
    split at hu
    ·rename_i e;subst e;cases hu
     exact ⟨hp,by rw [PTree.get_set_same,hv]⟩
    ·rename_i e
     rw [PTree.get_set_ne _ _ (Ne.symm e)];exact hI.pos u q hu
   ·rw [findR_cons] at hu
    split at hu
    ·cases hu
    ·rename_i e
     rw [PTree.get_set_ne _ _ (Ne.symm e)];exact hI.old u hu
  ·split at hc
   ·cases hc
   ·rename_i g hgd
    split at hc
    ·rename_i is' r hrec
     obtain ⟨ρ2,c2⟩:=r
     simp only [Option.some.injEq,Prod.mk.injEq] at hc
     obtain ⟨rfl,rfl,rfl⟩:=hc
     have run:∀ gd,guardOf all ρ c o.guard=some gd→runLI V call (.run (ren (resv ρ c) o.op) gd::is') E T0 H=some (E',H') →
      ∃ T',(if aSeen all T o=true then (if aWanted all T o=true then (match evOp V call T H o.op with
        |some (v,H1)=>(match put n T o.dst v with
         | some T1=>evOps V call n all os T1 H1
         | none=>none)
        |none=>none) else (match put n T o.dst undef with
         | some T1=>evOps V call n all os T1 H
         | none=>none)) else none)=some (T',H')∧InvL ρ2 c2 E' T0 T':=fun gd hgd hr=>by
      simp only [runLI] at hr
      split at hr
      ·rename_i hw
       obtain ⟨w1,w2⟩:=want_ok hI hgd hw
       rw [if_pos w1,if_pos w2]
       split at hr
       ·rename_i v H1 hev
        have h1:=evOpG_mono (hI.fetch V.nG) (evOpG_ren (resv_tame ρ c) hev)
        rw [←evOp_G] at h1
        rw [h1]
        simp only
        obtain ⟨T1,hT1⟩:=put_lt (T:=T) hd.2 v
        rw [hT1]
        exact comp_ok hrec (hI.push hcf hT1) hr
       ·cases hr
      ·rename_i hw
       obtain ⟨w1,w2⟩:=want_ok hI hgd hw
       rw [if_pos w1,if_neg (by rw [w2];simp)]
       obtain ⟨T1,hT1⟩:=put_lt (T:=T) hd.2 undef
       rw [hT1]
       exact comp_ok hrec (hI.push hcf hT1) hr
      ·cases hr
     split at hr
     ·rename_i t ho
      split at hr
      ·rename_i hn
       simp only [runLI] at hr
       split at hr
       ·rename_i v hv
        have hg:o.guard=none:=by
         unfold guardOf at hgd
         split at hgd
         ·assumption
         ·split at hgd<;>cases hgd
        have hs:aSeen all T o=true:=by unfold aSeen;rw [hg]
        have hw:aWanted all T o=true:=by unfold aWanted;rw [hg]
        have hfn:findR ρ t=none:=by simpa using hn
        have hev:evOp V call T H o.op=some (v,H):=by
         rw [ho];simp only [evOp,aop,oval,hI.old t hfn,hv,Option.map_some]
        rw [if_pos hs,if_pos hw,hev]
        simp only
        obtain ⟨T1,hT1⟩:=put_lt (T:=T) hd.2 v
        rw [hT1]
        exact comp_ok hrec (hI.push hcf hT1) hr
       ·cases hr
      ·exact run _ hgd hr
     ·exact run _ hgd hr
    ·cases hc
end Go.Ev
namespace Go.Ev
open Go.RowKit
variable {V:Env}{call:CallFn}{n:Nat}
def heapsLI (V:Env) (call:CallFn):List LI→List Value→PTree Value→AH→Option (List Value×AH×List AH)
 | [],E,_,H=>some (E,H,[H])
 |.get t::is,E,T,H=>match T.get t with
  | some v=>(heapsLI V call is (v::E) T H).map fun r=>(r.1,r.2.1,H::r.2.2)
  | none=>none
 |.run o gd::is,E,T,H=>match wantL (gL V.nG E T) gd with
  |some true=>match evOpG V call (gL V.nG E T) H o with
   | some (v,H')=>(heapsLI V call is (v::E) T H').map fun r=>(r.1,r.2.1,H::r.2.2)
   | none=>none
  | some false=>(heapsLI V call is (undef::E) T H).map fun r=>(r.1,r.2.1,H::r.2.2)
  | none=>none
def tr:List Oper→List (Tmp×Nat)→Nat→List (List (Tmp×Nat)×Nat)
 | [],_,_=>[]
 |o::os,ρ,c=>(ρ,c)::(match freeMove ρ o with
  | some (d,p)=>tr os ((d,p)::ρ) c
  | none=>tr os (addR o.dst c ρ) (c+1))
structure TrOk (T0:PTree Value) (c c':Nat) (E':List Value) (Hs:List AH) (r:Rec) (o:Oper) (ρk:List (Tmp×Nat)) (ck:Nat):Prop where
 lo:c≤ck
 hi:ck≤c'
 env:∃ E3 Ek,E'=E3++Ek∧InvL ρk ck Ek T0 r.T
 heap:Hs[ck-c]?=some r.H
 val:freeMove ρk o=none→atP E' c' ck=some r.v
theorem atP_app {E E3:List Value}{c c' p:Nat} (hl:E.length=c) (hl':(E3++E).length=c') (hp:p<c):atP (E3++E) c' p=atP E c p:=by
 unfold atP
 simp only [List.length_append] at hl'
 rw [if_pos (by omega),if_pos hp,List.getElem?_append_right (by omega)]
 congr 1
 omega
theorem heapsLI_zero {T0:PTree Value}{is:List LI}{E:List Value}{H:AH}{E':List Value}{H':AH}{Hs:List AH} (h:heapsLI V call is E T0 H=some (E',H',Hs)):Hs[0]?=some H:=by
 have fin:∀ {x:Option (List Value×AH×List AH)},(x.map fun r=>(r.1,r.2.1,H::r.2.2))=some (E',H',Hs)→Hs[0]?=some H:=fun {x} hx=>by
  obtain ⟨_,_,h2⟩:=map_some hx
  simp only [Prod.mk.injEq] at h2
  rw [←h2.2.2];rfl
 cases is with
 | nil=>simp only [heapsLI,Option.some.injEq,Prod.mk.injEq] at h;rw [←h.2.2];rfl
 |cons i is =>
  cases i with
  |get t =>
   simp only [heapsLI] at h
   split at h
   ·exact fin h
   ·cases h
  |run o g =>
   simp only [heapsLI] at h
   split at h
   ·split at h
    ·exact fin h
    ·cases h
   ·exact fin h
   ·cases h
theorem tr_ok {ops:Array Oper}:∀ {l:List Oper}{σ:List Nat}{ρ:List (Tmp×Nat)}{c:Nat}{is:List LI}{ρ':List (Tmp×Nat)}{c':Nat},(∀ o∈l,noAlloc V o.op=true)→σ.map (ops[·]?)=l.map some→comp n ops l ρ c=some (is,ρ',c') →
 ∀ {E E':List Value}{T0 T:PTree Value}{H H':AH}{Hs:List AH},InvL ρ c E T0 T→heapsLI V call is E T0 H=some (E',H',Hs) →
 ∃ R Tf,runSeq V call n ops σ T H=some (R,Tf,H')∧InvL ρ' c' E' T0 Tf∧(∃ E2,E'=E2++E)∧c≤c'∧Hs[c'-c]?=some H' ∧
   ∀ (k:Nat) (r:Rec) (o:Oper),R[k]?=some r→ops[r.i]?=some o→∃ ρk ck,(tr l ρ c)[k]?=some (ρk,ck)∧TrOk T0 c c' E' Hs r o ρk ck
 |[],σ,ρ,c,is,ρ',c',_,hl,hc,E,E',T0,T,H,H',Hs,hI,hr=>by
  simp only [comp,Option.some.injEq,Prod.mk.injEq] at hc
  obtain ⟨rfl,rfl,rfl⟩:=hc
  simp only [heapsLI,Option.some.injEq,Prod.mk.injEq] at hr
  obtain ⟨rfl,rfl,rfl⟩:=hr
  cases σ with
  | nil=>exact ⟨[],T,rfl,hI,⟨[],rfl⟩,Nat.le_refl _,by simp,fun k r o h=>by simp at h⟩
  | cons i σ=>simp at hl
 | o::os,[],ρ,c,is,ρ',c',_,hl,hc,E,E',T0,T,H,H',Hs,hI,hr=>by simp at hl
 |o::os,i::σ,ρ,c,is,ρ',c',hna,hl,hc,E,E',T0,T,H,H',Hs,hI,hr=>by
  have hna':=fun o' ho'=>hna o' (List.mem_cons_of_mem _ ho')
  simp only [List.map_cons,List.cons.injEq] at hl
  obtain ⟨ho,hl⟩:=hl
  simp only [comp] at hc
  split at hc
  case isFalse=>cases hc
  rename_i hd
  unfold dOk at hd
  rw [Bool.and_eq_true] at hd
  have hcf:c<far:=Nat.blt_eq.mp hd.1
  simp only [runSeq,ho,stepOp_ev (hna o (by simp))]
  split at hc
  ·rename_i d p hf
   obtain ⟨t,hop,hg,hdst,ht⟩:=freeMove_ok hf
   obtain ⟨hp,hT⟩:=hI.pos t p ht
   obtain ⟨v,hv⟩:=atP_some hI.len hp
   have hs:aSeen ops T o=true:=by unfold aSeen;rw [hg]
   have hw:aWanted ops T o=true:=by unfold aWanted;rw [hg]
   have hev:evOp V call T H o.op=some (v,H):=by
    rcases hop with hop|hop<;>rw [hop]<;>simp only [evOp,aop,oval,hT,hv,Option.map_some]
   rw [if_pos hs,if_pos hw,hev]
   simp only
   have hdn:d<n:=by have:=hd.2;rw [hdst] at this;exact Nat.blt_eq.mp this
   rw [hdst]
   simp only [put,if_pos hdn]
   have hI':InvL ((d,p)::ρ) c E T0 (T.set d v):=⟨hI.len,hI.lim,fun u q hu=>by
    rw [findR_cons] at hu
    split at hu
    ·rename_i e;subst e;cases hu
     exact ⟨hp,by rw [PTree.get_set_same,hv]⟩
    ·rename_i e
     rw [PTree.get_set_ne _ _ (Ne.symm e)];exact hI.pos u q hu,fun u hu=>by
    rw [findR_cons] at hu
    split at hu
    ·cases hu
    ·rename_i e
     rw [PTree.get_set_ne _ _ (Ne.symm e)];exact hI.old u hu⟩
   obtain ⟨R,Tf,k1,k2,k3,k4,k5,k6⟩:=tr_ok hna' hl hc hI' hr
   rw [k1]
   refine ⟨_,Tf,rfl,k2,k3,k4,k5,fun k r o' hk ho'=>?_⟩
   simp only [tr,hf]
   cases k with
   |zero =>
    simp at hk
    subst hk
    simp only at ho'
    rw [ho] at ho';cases ho'
    obtain ⟨E2,e2⟩:=k3
    refine ⟨ρ,c,by simp,Nat.le_refl _,k4,⟨E2,E,e2,hI⟩,?_,fun hn=>by rw [hf] at hn;cases hn⟩
    rw [Nat.sub_self]
    exact heapsLI_zero hr
   | succ k=>simpa using k6 k r o' (by simpa using hk) ho'
  ·split at hc
   ·cases hc
   ·rename_i hfm _ g hgd
    split at hc
    ·rename_i is' r hrec
     obtain ⟨ρ2,c2⟩:=r
     simp only [Option.some.injEq,Prod.mk.injEq] at hc
     obtain ⟨rfl,rfl,rfl⟩:=hc
     have done:∀ {v:Value}{H1:AH}{Hs':List AH},heapsLI V call is' (v::E) T0 H1=some (E',H',Hs')→Hs=H::Hs'→∀ {T1:PTree Value},put n T o.dst v=some T1 →
      ∃ R Tf,(match (match runSeq V call n ops σ T1 H1 with
        | some (rs,Tf,Hf)=>some (⟨i,T,H,v,H1⟩::rs,Tf,Hf)
        | none=>none:Option (List Rec×PTree Value×AH)) with
        | r=>r)=some (R,Tf,H')∧InvL ρ2 c2 E' T0 Tf∧(∃ E2,E'=E2++E)∧c≤c2∧Hs[c2-c]?=some H' ∧
        ∀ (k:Nat) (r:Rec) (o':Oper),R[k]?=some r→ops[r.i]?=some o'→∃ ρk ck,(tr (o::os) ρ c)[k]?=some (ρk,ck)∧TrOk T0 c c2 E' Hs r o' ρk ck:=fun {v H1 Hs'} hr' hHs {T1} hT1=>by
      obtain ⟨R,Tf,k1,k2,⟨E2,k3⟩,k4,k5,k6⟩:=tr_ok hna' hl hrec (hI.push hcf hT1) hr'
      rw [k1]
      refine ⟨_,Tf,rfl,k2,⟨E2++[v],by rw [k3];simp⟩,by omega,?_,fun k r o' hk ho'=>?_⟩
      ·rw [hHs,show c2-c=(c2-(c+1))+1 by omega];simpa using k5
      ·simp only [tr,hfm]
       cases k with
       |zero =>
        simp at hk
        subst hk
        simp only at ho'
        rw [ho] at ho';cases ho'
        refine ⟨ρ,c,by simp,Nat.le_refl _,by omega,⟨E2++[v],E,by rw [k3];simp,hI⟩,by rw [hHs,Nat.sub_self];rfl,fun _=>?_⟩
        have h1:=k2.len
        rw [k3] at h1 ⊢
        rw [atP_app (c:=c+1) (by simp [hI.len]) h1 (by omega),atP_cons hI.len,if_pos rfl]
       |succ k =>
        obtain ⟨ρk,ck,m1,m2⟩:=k6 k r o' (by simpa using hk) ho'
        refine ⟨ρk,ck,by simpa using m1,by have:=m2.lo;omega,m2.hi,m2.env,?_,m2.val⟩
        have h1:=m2.lo
        rw [hHs,show ck-c=(ck-(c+1))+1 by omega]
        simpa using m2.heap
     have run:∀ gd,guardOf ops ρ c o.guard=some gd→heapsLI V call (.run (ren (resv ρ c) o.op) gd::is') E T0 H=some (E',H',Hs) →
      ∃ R Tf,(match (if aSeen ops T o=true then (if aWanted ops T o=true then evOp V call T H o.op else some (undef,H)) else none) with
        |some (v,H1)=>match put n T o.dst v with
         |some T1=>match runSeq V call n ops σ T1 H1 with
          | some (rs,Tf,Hf)=>some (⟨i,T,H,v,H1⟩::rs,Tf,Hf)
          | none=>none
         | none=>none
        | none=>none:Option (List Rec×PTree Value×AH))=some (R,Tf,H')∧InvL ρ2 c2 E' T0 Tf∧(∃ E2,E'=E2++E)∧c≤c2∧Hs[c2-c]?=some H' ∧
        ∀ (k:Nat) (r:Rec) (o':Oper),R[k]?=some r→ops[r.i]?=some o'→∃ ρk ck,(tr (o::os) ρ c)[k]?=some (ρk,ck)∧TrOk T0 c c2 E' Hs r o' ρk ck:=fun gd hgd hr=>by
      simp only [heapsLI] at hr
      split at hr
      ·rename_i hw
       obtain ⟨w1,w2⟩:=want_ok hI hgd hw
       rw [if_pos w1,if_pos w2]
       split at hr
       ·rename_i v H1 hev
        obtain ⟨⟨E1,H2,Hs'⟩,h1,h2⟩:=map_some hr
        simp only [Prod.mk.injEq] at h2
        obtain ⟨rfl,rfl,rfl⟩:=h2
        have h3:=evOpG_mono (hI.fetch V.nG) (evOpG_ren (resv_tame ρ c) hev)
        rw [←evOp_G] at h3
        rw [h3]
        obtain ⟨T1,hT1⟩:=put_lt (T:=T) hd.2 v
        simp only [hT1]
        exact done h1 rfl hT1
       ·cases hr
      ·rename_i hw
       obtain ⟨w1,w2⟩:=want_ok hI hgd hw
       rw [if_pos w1,if_neg (by rw [w2];simp)]
       obtain ⟨⟨E1,H2,Hs'⟩,h1,h2⟩:=map_some hr
       simp only [Prod.mk.injEq] at h2
       obtain ⟨rfl,rfl,rfl⟩:=h2
       obtain ⟨T1,hT1⟩:=put_lt (T:=T) hd.2 undef
       simp only [hT1]
       exact done h1 rfl hT1
      ·cases hr
     split at hr
     ·rename_i t hop
      split at hr
      ·rename_i hn
       simp only [heapsLI] at hr
       split at hr
       ·rename_i v hv
        have hg:o.guard=none:=by
         unfold guardOf at hgd
         split at hgd
         ·assumption
         ·split at hgd<;>cases hgd
        have hs:aSeen ops T o=true:=by unfold aSeen;rw [hg]
        have hw:aWanted ops T o=true:=by unfold aWanted;rw [hg]
        have hfn:findR ρ t=none:=by simpa using hn
        have hev:evOp V call T H o.op=some (v,H):=by
         rw [hop];simp only [evOp,aop,oval,hI.old t hfn,hv,Option.map_some]
        rw [if_pos hs,if_pos hw,hev]
        obtain ⟨⟨E1,H2,Hs'⟩,h1,h2⟩:=map_some hr
        simp only [Prod.mk.injEq] at h2
        obtain ⟨rfl,rfl,rfl⟩:=h2
        obtain ⟨T1,hT1⟩:=put_lt (T:=T) hd.2 v
        simp only [hT1]
        exact done h1 rfl hT1
       ·cases hr
      ·exact run _ hgd hr
     ·exact run _ hgd hr
    ·cases hc
end Go.Ev
namespace Go.Ev
open Go.RowKit
variable {V:Env}{call:CallFn}{n:Nat}
theorem aopG_call {g:Ft}{H:AH}{o:Op}{r:Value×AH} (h:aopG V g H o=some r) (call:CallFn):evOpG V call g H o=some r:=by
 cases o with
 | call c=>
  obtain ⟨cal,args,ts⟩:=c
  cases cal with
  | builtin b=>exact h
  | _=>cases h
 | _=>exact h
structure Chk where
 op:Op
 guard:Option (Operand×Bool)
 p:Nat
 q:Nat
def win (ms:List Nat) (i:Nat) (cf:Nat):Bool→List (Nat×Oper×Nat)→List Nat
 |seen,[]=>match seen with
  | true=>[cf]
  | false=>[]
 |seen,(j,o,c)::os=>match cls o.op with
  |.big=>(match seen with
   | true=>[c]
   | false=>[])++(match anc ms i j with
   | true=>[]
   | false=>win ms i cf true os)
  | _=>win ms i cf seen os
def chksOf (V:Env) (ms:List Nat) (all:Array Oper) (cf:Nat):List (Nat×Oper×List (Tmp×Nat)×Nat)→List Chk
 | []=>[]
 |(i,o,ρ,c)::os=>(match cls o.op,heapLook V o.op with
  |.look,true=>(win ms i cf false (os.map fun x=>(x.1,x.2.1,x.2.2.2))).map fun q=>⟨ren (resv ρ cf) o.op,match guardOf all ρ cf o.guard with
   | some g=>g
   | none=>none,c,q⟩
  | _,_=>[])++chksOf V ms all cf os
def chkOk (V:Env) (T:PTree Value) (E:List Value) (c:Nat) (Hs:List AH) (x:Chk):Bool :=
 match wantL (gL V.nG E T) x.guard with
 | some false=>true
 |some true=>match Hs[x.q]?,atP E c x.p with
  |some H,some v=>match aopG V (gL V.nG E T) H x.op with
   | some (u,_)=>sameV u v
   | none=>false
  | _,_=>false
 | none=>false
theorem win_mem {ms:List Nat}{i cf:Nat}:∀ {os:List (Nat×Oper×Nat)}{seen:Bool}{m:Nat},(seen=true∨∃ m0 x,m0<m∧os[m0]?=some x∧cls x.2.1.op=.big)→(∀ (m':Nat) (x:Nat×Oper×Nat),m'<m→os[m']?=some x→cls x.2.1.op=.big→anc ms i x.1=false) →
 (∀ x:Nat×Oper×Nat,os[m]?=some x→cls x.2.1.op=.big→x.2.2∈win ms i cf seen os)∧(m=os.length→cf∈win ms i cf seen os)
 |[],seen,m,hs,hno=>by
  refine ⟨fun x h=>by simp at h,fun _=>?_⟩
  rcases hs with rfl|⟨m0,x,_,h,_⟩
  ·simp [win]
  ·simp at h
 |(j,o,c)::os,seen,m,hs,hno=>by
  cases m with
  |zero =>
   have hseen:seen=true:=by
    rcases hs with h|⟨m0,_,h,_⟩
    ·exact h
    ·omega
   subst hseen
   refine ⟨fun x hx hb=>?_,fun h=>by simp at h⟩
   simp at hx;subst hx
   simp only at hb
   simp only [win,hb]
   simp
  |succ m =>
   have hno':∀ (m':Nat) (x:Nat×Oper×Nat),m'<m→os[m']?=some x→cls x.2.1.op=.big→anc ms i x.1=false:=fun m' x hm hx=>hno (m'+1) x (by omega) (by simpa using hx)
   by_cases hb:cls o.op=.big
   ·have ha:anc ms i j=false:=hno 0 (j,o,c) (by omega) (by simp) hb
    obtain ⟨h1,h2⟩:=win_mem (cf:=cf) (os:=os) (seen:=true) (m:=m) (.inl rfl) hno'
    simp only [win,hb,ha]
    exact ⟨fun x hx hbx=>List.mem_append_right _ (h1 x (by simpa using hx) hbx),fun e=>List.mem_append_right _ (h2 (by simpa using e))⟩
   ·have hs':seen=true∨∃ m0 x,m0<m∧os[m0]?=some x∧cls x.2.1.op=.big:=by
     rcases hs with h|⟨m0,x,h1,h2,h3⟩
     ·exact .inl h
     ·cases m0 with
      | zero=>simp at h2;subst h2;exact absurd h3 hb
      | succ m0=>exact .inr ⟨m0,x,by omega,by simpa using h2,h3⟩
    obtain ⟨h1,h2⟩:=win_mem (cf:=cf) (os:=os) (seen:=seen) (m:=m) hs' hno'
    have hw:win ms i cf seen ((j,o,c)::os)=win ms i cf seen os:=by
     simp only [win]
     first|done|(split;(rename_i e;exact absurd e hb);rfl)
    rw [hw]
    exact ⟨fun x hx hbx=>h1 x (by simpa using hx) hbx,fun e=>h2 (by simpa using e)⟩
theorem chksOf_mem {ms:List Nat}{all:Array Oper}{cf:Nat}:∀ {os:List (Nat×Oper×List (Tmp×Nat)×Nat)}{k i:Nat}{o:Oper}{ρ:List (Tmp×Nat)}{c q:Nat},os[k]?=some (i,o,ρ,c)→cls o.op=.look→heapLook V o.op=true →
 q ∈ win ms i cf false ((os.drop (k+1)).map fun x=>(x.1,x.2.1,x.2.2.2))→(⟨ren (resv ρ cf) o.op,match guardOf all ρ cf o.guard with
   | some g=>g
   | none=>none,c,q⟩:Chk)∈chksOf V ms all cf os
 | [],k,i,o,ρ,c,q,h,_,_,_=>by simp at h
 |(i',o',ρ',c')::os,0,i,o,ρ,c,q,h,hc,hh,hq=>by
  simp at h
  obtain ⟨rfl,rfl,rfl,rfl⟩:=h
  simp only [chksOf,hc,hh]
  refine List.mem_append_left _ ?_
  rw [List.mem_map]
  exact ⟨q,by simpa using hq,rfl⟩
 |x::os,k+1,i,o,ρ,c,q,h,hc,hh,hq=>by
  obtain ⟨i',o',ρ',c'⟩:=x
  simp only [chksOf]
  exact List.mem_append_right _ (chksOf_mem (by simpa using h) hc hh (by simpa using hq))
theorem looks_small {ops:Array Oper}{R:List Rec}{Tf:PTree Value}{Hf:AH} (hstep:∀ (k:Nat) (r:Rec),R[k]?=some r→∃ o,ops[r.i]?=some o∧stepOp V call ops r.T r.H o=some (r.v,r.H')∧put n r.T o.dst r.v=some (Tat R Tf (k+1))∧Hat R Hf (k+1)=r.H')
 {k nb:Nat}{r:Rec}{o:Oper} (hr:R[k]?=some r) (hc:cls o.op=.look) (hn1:noAlloc V o.op=true) (hev:aop V r.T r.H o.op=some (r.v,r.H')) (hlt:k<nb) (hle:nb≤R.length) (hnone:∀ (m:Nat) (q:Rec),k<m→m<nb→R[m]?=some q→bigAt ops q=false) :
 aop V r.T (Hat R Hf nb) o.op=some (r.v,Hat R Hf nb):=by
 have hgrow:∀ d,k+1+d≤nb→Grows r.H (Hat R Hf (k+1+d)):=fun d=>by
  induction d with
  |zero =>
   intro _
   obtain ⟨o2,ho2,hs2,_,hH⟩:=hstep k r hr
   rw [Nat.add_zero,hH,look_same hc hn1 hev]
   exact Grows.refl _
  |succ d ih =>
   intro hd
   have hlt2:k+1+d<R.length:=by omega
   have hr2:R[k+1+d]?=some R[k+1+d]:=by simp [hlt2]
   obtain ⟨o2,ho2,hs2,_,hH⟩:=hstep (k+1+d) R[k+1+d] hr2
   have hnb:=hnone (k+1+d) _ (by omega) (by omega) hr2
   have hc2:cls o2.op≠.big:=fun e=>by rw [(bigAt_iff ho2).2 e] at hnb;cases hnb
   have hHk:(R[k+1+d]).H=Hat R Hf (k+1+d):=by simp [Hat,hlt2]
   have hg:=ih (by omega)
   rw [←hHk] at hg
   rw [show k+1+(d+1)=k+1+d+1 by omega,hH]
   rcases small_step hc2 hs2 with e|⟨mk,ob,_,_,_,_,e⟩
   ·rw [e];exact hg
   ·rw [e]
    refine ⟨by have:=hg.next;simp;omega,fun b hb=>?_,fun g=>by simpa using hg.ver g⟩
    rw [AH.obj_alloc,if_neg (by have:=hg.next;omega)]
    exact hg.obj b hb
 have:=hgrow (nb-(k+1)) (by omega)
 rw [show k+1+(nb-(k+1))=nb by omega] at this
 exact look_grows hc hn1 hev this
theorem heapLook_free {o:Oper}{ρ:List (Tmp×Nat)} (hc:cls o.op=.look) (hh:heapLook V o.op=true):freeMove ρ o=none:=by
 unfold freeMove
 split
 ·rename_i ho _ _;rw [ho] at hh;simp [heapLook] at hh
 ·rename_i ho _ _;rw [ho] at hh;simp [heapLook] at hh
 ·rfl
theorem again_ran {ops:Array Oper}{σ:List Nat}{l:List Oper}{is:List LI}{ρ:List (Tmp×Nat)}{c:Nat} (hord:Ord ops σ) (hna:∀ o∈l,noAlloc V o.op=true) (hl:σ.map (ops[·]?)=l.map some) (hc:comp n ops l [] 0=some (is,ρ,c)) {E:List Value}{T:PTree Value}{H H':AH}{Hs:List AH}
 (hr:heapsLI V call is [] T H=some (E,H',Hs)) (hk:(chksOf V (masks ops.toList []) ops c ((σ.zip l).zip (tr l [] 0) |>.map fun x=>(x.1.1,x.1.2,x.2.1,x.2.2))).all (chkOk V T E c Hs)=true) :
 ∃ R Tf,Ran V call n ops σ T H R Tf H'∧InvL ρ c E T Tf:=by
 obtain ⟨R,Tf,hrun,hI,_,_,hlast,htr⟩:=tr_ok hna hl hc ⟨rfl,Nat.zero_le _,fun t p h=>(nomatch h),fun _ _=>rfl⟩ hr
 have hids:=runSeq_len hrun
 have hstep:=runSeq_step hrun
 have hzero:=runSeq_zero hrun
 refine ⟨R,Tf,⟨hord,hids,hzero,hstep,fun k nb r o hrk ho hcl hw hlt hle hbig hno=>?_⟩,hI⟩
 obtain ⟨o',ho',hs,_,_⟩:=hstep k r hrk
 rw [ho] at ho';cases ho'
 have hev:aop V r.T r.H o.op=some (r.v,r.H'):=by
  have hsn:=stepOp_seen hs
  unfold stepOp at hs
  rw [if_pos hsn,if_pos hw,hcl] at hs
  simp only at hs
  split at hs
  ·exact hs
  ·cases hs
 have hn1:noAlloc V o.op=true:=by
  have hsn:=stepOp_seen hs
  unfold stepOp at hs
  rw [if_pos hsn,if_pos hw,hcl] at hs
  simp only at hs
  split at hs
  ·assumption
  ·cases hs
 cases hh:heapLook V o.op with
 | false=>exact look_any hcl hh hev _
 |true =>
  by_cases hx:∃ m q,k<m∧m<nb∧R[m]?=some q∧bigAt ops q=true
  ·obtain ⟨m,q,hkm,hmn,hq,hbq⟩:=hx
   have hpos:∀ (k:Nat) (r:Rec) (o:Oper),R[k]?=some r→ops[r.i]?=some o→∃ ρk ck,(((σ.zip l).zip (tr l [] 0)).map fun x=>(x.1.1,x.1.2,x.2.1,x.2.2))[k]?=some (r.i,o,ρk,ck)∧TrOk T 0 c E Hs r o ρk ck:=fun k r o hr ho=>by
    obtain ⟨ρk,ck,h1,h2⟩:=htr k r o hr ho
    refine ⟨ρk,ck,?_,h2⟩
    have e1:σ[k]?=some r.i:=by rw [←hids];simp [hr]
    have e2:=congrArg (·[k]?) hl
    simp only [List.getElem?_map,e1,Option.map_some,ho] at e2
    have e3:l[k]?=some o:=by
     cases hlk:l[k]? with
     | none=>rw [hlk] at e2;cases e2
     | some p=>rw [hlk] at e2;simp at e2;rw [e2]
    have e4:(σ.zip l)[k]?=some (r.i,o):=List.getElem?_zip_eq_some.2 ⟨e1,e3⟩
    have e5:((σ.zip l).zip (tr l [] 0))[k]?=some ((r.i,o),ρk,ck):=List.getElem?_zip_eq_some.2 ⟨e4,h1⟩
    rw [List.getElem?_map,e5];rfl
   obtain ⟨ρk,ck,p1,p2⟩:=hpos k r o hrk ho
   generalize hrows:(((σ.zip l).zip (tr l [] 0)).map fun x=>(x.1.1,x.1.2,x.2.1,x.2.2))=rows at hpos p1 hk
   have hlen:rows.length=R.length:=by
    rw [←hrows]
    have a1:σ.length=R.length:=by rw [←hids];simp
    have a2:l.length=σ.length:=by have:=congrArg List.length hl;simpa using this.symm
    have a3:∀ (l:List Oper) (ρ:List (Tmp×Nat)) (c:Nat),(tr l ρ c).length=l.length:=fun l=>by
     induction l with
     | nil=>intro ρ c;rfl
     | cons o l ih=>intro ρ c;simp only [tr];split<;>simp [ih]
    simp [a3];omega
   have hbl:∀ (m:Nat) (q:Rec) (oq:Oper),R[m]?=some q→ops[q.i]?=some oq→bigAt ops q=true→cls oq.op=.big:=fun m q oq _ hoq hb=>(bigAt_iff hoq).1 hb
   have hwin:=win_mem (ms:=masks ops.toList []) (i:=r.i) (cf:=c) (os:=(rows.drop (k+1)).map fun x=>(x.1,x.2.1,x.2.2.2)) (seen:=false) (m:=nb-(k+1))
    (.inr (by
     obtain ⟨oq,hoq,_⟩:=hstep m q hq
     obtain ⟨ρm,cm,m1,_⟩:=hpos m q oq hq hoq
     refine ⟨m-(k+1),(q.i,oq,cm),by omega,?_,hbl m q oq hq hoq hbq⟩
     rw [List.getElem?_map,List.getElem?_drop,show k+1+(m-(k+1))=m by omega,m1];rfl))
    (fun m' x hm' hx' hbx=>by
     rw [List.getElem?_map,List.getElem?_drop] at hx'
     have hlt2:k+1+m'<R.length:=by omega
     have hq':R[k+1+m']?=some R[k+1+m']:=by simp [hlt2]
     obtain ⟨oq',hoq',_⟩:=hstep _ _ hq'
     obtain ⟨ρm,cm,m1,_⟩:=hpos _ _ _ hq' hoq'
     rw [m1] at hx'
     simp only [Option.map_some,Option.some.injEq] at hx'
     subst hx'
     exact hno (k+1+m') _ (by omega) (by omega) hq' ((bigAt_iff hoq').2 hbx))
   have hq2:∃ q2,q2∈win (masks ops.toList []) r.i c false ((rows.drop (k+1)).map fun x=>(x.1,x.2.1,x.2.2.2))∧Hs[q2]?=some (Hat R H' nb):=by
    rcases Nat.eq_or_lt_of_le hle with e|hlt3
    ·refine ⟨c,hwin.2 (by rw [List.length_map,List.length_drop,hlen,e]),?_⟩
     have:Hat R H' nb=H':=by rw [e];simp [Hat]
     rw [this];simpa using hlast
    ·have hqn:R[nb]?=some R[nb]:=by simp [hlt3]
     obtain ⟨on,hon,_⟩:=hstep _ _ hqn
     obtain ⟨ρn,cn,m1,m2⟩:=hpos _ _ _ hqn hon
     refine ⟨cn,hwin.1 (R[nb].i,on,cn) ?_ ((bigAt_iff hon).1 (hbig _ hqn)),?_⟩
     ·rw [List.getElem?_map,List.getElem?_drop,show k+1+(nb-(k+1))=nb by omega,m1];rfl
     ·have:=m2.heap
      rw [Nat.sub_zero] at this
      rw [this];simp [Hat,hlt3]
   obtain ⟨q2,hq2,hHq⟩:=hq2
   have hchk:=List.all_eq_true.1 hk _ (chksOf_mem (V:=V) (all:=ops) p1 hcl hh hq2)
   obtain ⟨E3,Ek,hE,hIk⟩:=p2.env
   have hfet:Ft.le (fun x=>gL V.nG E T (resv ρk c x)) (oval V.nG r.T):=fun x v hv=>hIk.fetch V.nG x v (by
    cases x with
    |tmp t =>
     simp only [resv] at hv ⊢
     cases hf:findR ρk t with
     | none=>rw [hf] at hv;simp only [gL] at hv ⊢;rw [if_neg (show ¬ far+t<far by omega)] at hv ⊢;exact hv
     |some p =>
      rw [hf] at hv
      obtain ⟨hp,_⟩:=hIk.pos t p hf
      have h1:=p2.hi
      have h2:=hI.lim
      simp only [gL] at hv ⊢
      rw [if_pos (show c-1-p<far by omega)] at hv
      rw [if_pos (show ck-1-p<far by omega)]
      have h3:=atP_app (E:=Ek) (E3:=E3) (c:=ck) (c':=c) (p:=p) hIk.len (by rw [←hE];exact hI.len) hp
      unfold atP at h3
      rw [if_pos (show p<c by omega),if_pos hp,←hE] at h3
      rw [←h3];exact hv
    | _=>exact hv)
   unfold chkOk at hchk
   have hwant:wantL (gL V.nG E T) (match guardOf ops ρk c o.guard with
    | some g=>g
    | none=>none)≠some false:=by
    intro hwf
    cases hg:guardOf ops ρk c o.guard with
    | none=>rw [hg] at hwf;simp [wantL] at hwf
    |some g =>
     rw [hg] at hwf
     have:=(want_le hfet hg hwf).2
     rw [hw] at this;cases this
   split at hchk
   ·rename_i e;exact absurd e hwant
   ·simp only [hHq] at hchk
    have hval:=p2.val (heapLook_free hcl hh)
    rw [hval] at hchk
    simp only at hchk
    split at hchk
    ·rename_i u Hx hop
     have e1:=aopG_call hop call
     have e2:=evOpG_mono hfet (evOpG_ren (resv_tame ρk c) e1)
     rw [←evOp_G] at e2
     have e3:aop V r.T (Hat R H' nb) o.op=some (u,Hx):=by
      unfold evOp at e2
      split at e2
      ·rename_i heq;rw [heq] at hcl;simp [cls] at hcl
      ·exact e2
     rw [e3,sameV_eq hchk,look_same hcl hn1 e3]
    ·cases hchk
   ·cases hchk
  ·exact looks_small hstep hrk hcl hn1 hev hlt hle fun m q h1 h2 h3=>by
    cases hb:bigAt ops q with
    | false=>rfl
    | true=>exact absurd ⟨m,q,h1,h2,h3,hb⟩ hx
end Go.Ev
namespace Go.Ev
open Go.RowKit
variable {V:Env}{call:CallFn}{n:Nat}{ro:Option Nat}
def isLive (live:Option Nat) (t:Nat):Bool:=
 match live with
 | none=>true
 | some m=>m.testBit t
def Dom (live:Option Nat) (T:PTree Value):Prop:=∀ t v,T.get t=some v→isLive live t=true
def SubT (T' T:PTree Value):Prop:=∀ t v,T'.get t=some v→T.get t=some v
theorem TRel.sub {ι:Emb}{T T':PTree Value}{tmps:Array Value} (h:TRel ι T tmps) (hs:SubT T' T):TRel ι T' tmps:=fun t v e=>h t v (hs t v e)
theorem FrOk.sub {B0 s0:Nat}{rr:Option Nat}{ι:Emb}{T T':PTree Value}{H:AH}{a:Act}{w:World} (h:FrOk V B0 s0 n ro rr ι T H a w) (hs:SubT T' T):FrOk V B0 s0 n ro rr ι T' H a w:=
 {h with tr:=h.tr.sub hs }
theorem Runs.weaken {c:Code}{T T1 T2:PTree Value}{H H':AH}{e:Ex} (h:Runs V n ro c T H e T1 H') (hs:SubT T2 T1):Runs V n ro c T H e T2 H':=
 fun B0 s0 rr ι a w hf Q hQ=>h B0 s0 rr ι a w hf Q fun ι' a' w' g1 g2=>hQ ι' a' w' (g1.sub hs) g2
theorem Runs.region (hE:TOk V.E V.P) (hF:FOk V.F V.P) (hc:CallOk V call) {id:Nat}{ops:Array Oper}{T T':PTree Value}{H H':AH} (h:evOps V call n ops ops.toList T H=some (T',H')):Runs V n ro (.region id ops false) T H .normal T' H':=by
 intro B0 s0 rr ι a w hf Qm hQm
 refine wpIn_region ?_
 have hl:=evOps_wp (Q:=Qm) (ro:=rr) hE hF hc (all:=ops) ops.toList 0 (fun j hj=>by simp) hf.tr hf.sz rfl hf.g hf.rel h fun ι' a' w' g1 g2 g3 g4=>hQm ι' a' w' (hf.next g1 g2 g3 g4) g4
 simpa [List.range_eq_range'] using hl
theorem Runs.draw (hE:TOk V.E V.P) (hF:FOk V.F V.P) (hm:V.P.follows .mixedOrders=true) (hc:CallOk V call) {id:Nat}{ops:Array Oper}{σ:List Nat}{R:List Rec}{T T':PTree Value}{H H':AH} (h:Ran V call n ops σ T H R T' H'):Runs V n ro (.region id ops true) T H .normal T' H':=
 fun B0 s0 rr ι a w hf Qm hQm=>ran_wp hE hF hm hc rr id hf.tr hf.sz rfl hf.g hf.rel h Qm fun ι' a' w' g1 g2 g3 g4=>hQm ι' a' w' (hf.next g1 g2 g3 g4) g4
def isTop (all:List (Tmp×Nat)) (u q:Nat):Bool:=
 match findR all u with
 | some p=>Nat.beq p q
 | none=>false
theorem isTop_iff {all:List (Tmp×Nat)}{u q:Nat}:isTop all u q=true↔findR all u=some q:=by
 unfold isTop
 cases findR all u with
 | none=>simp
 | some p=>simp [Nat.beq_eq]
def outsOf (live:Option Nat) (all:List (Tmp×Nat)) (c:Nat):List (Tmp×Nat)→List (Tmp×Nat)
 | []=>[]
 | (d,p)::ρ=>if isLive live d&&isTop all d p then (d,c-1-p)::outsOf live all c ρ else outsOf live all c ρ
def setOuts (E:List Value):List (Tmp×Nat)→PTree Value→Option (PTree Value)
 | [],T=>some T
 |(d,i)::os,T=>match E[i]? with
  | some v=>setOuts E os (T.set d v)
  | none=>none
theorem findR_mem:∀ {ρ:List (Tmp×Nat)}{t p:Nat},findR ρ t=some p→(t,p)∈ρ
 | [],t,p,h=>by cases h
 | (d,q)::ρ,t,p,h=>by
  rw [findR_cons] at h
  split at h
  ·rename_i e;subst e;cases h;exact List.mem_cons_self
  ·exact List.mem_cons_of_mem _ (findR_mem h)
theorem outsOf_mem {live:Option Nat}{all:List (Tmp×Nat)}{c:Nat}:∀ {ρ:List (Tmp×Nat)}{d i:Nat},(d,i)∈outsOf live all c ρ↔∃ p,(d,p)∈ρ∧isLive live d=true∧findR all d=some p∧i=c-1-p
 | [],d,i=>by simp [outsOf]
 |(u,q)::ρ,d,i=>by
  simp only [outsOf]
  have ih:=outsOf_mem (live:=live) (all:=all) (c:=c) (ρ:=ρ) (d:=d) (i:=i)
  split
  ·rename_i h
   rw [Bool.and_eq_true] at h
   obtain ⟨h1,h2⟩:=h
   have hq:=isTop_iff.1 h2
   constructor
   ·intro hm
    rcases List.mem_cons.1 hm with e|hm
    ·cases e;exact ⟨q,List.mem_cons_self,h1,hq,rfl⟩
    ·obtain ⟨p,a,b⟩:=ih.1 hm;exact ⟨p,List.mem_cons_of_mem _ a,b⟩
   ·rintro ⟨p,a,b,cc,e⟩
    rcases List.mem_cons.1 a with e2|a
    ·cases e2;rw [e];exact List.mem_cons_self
    ·exact List.mem_cons_of_mem _ (ih.2 ⟨p,a,b,cc,e⟩)
  ·rename_i h
   rw [ih]
   constructor
   ·rintro ⟨p,a,b⟩;exact ⟨p,List.mem_cons_of_mem _ a,b⟩
   ·rintro ⟨p,a,b,cc,e⟩
    rcases List.mem_cons.1 a with e2|a
    ·cases e2
     exfalso;apply h
     rw [b,isTop_iff.2 cc];rfl
    ·exact ⟨p,a,b,cc,e⟩
theorem setOuts_ok {E:List Value}:∀ {os:List (Tmp×Nat)}{T T':PTree Value},setOuts E os T=some T'→∀ t,(∃ i,(t,i)∈os∧T'.get t=E[i]?)∨((∀ i,(t,i)∉os)∧T'.get t=T.get t)
 | [],T,T',h,t=>by simp [setOuts] at h;subst h;exact .inr ⟨fun i=>by simp,rfl⟩
 |(d,j)::os,T,T',h,t=>by
  simp only [setOuts] at h
  split at h
  ·rename_i v hv
   rcases setOuts_ok h t with ⟨i,h1,h2⟩|⟨h1,h2⟩
   ·exact .inl ⟨i,List.mem_cons_of_mem _ h1,h2⟩
   ·by_cases e:t=d
    ·subst e
     exact .inl ⟨j,List.mem_cons_self,by rw [h2,PTree.get_set_same,hv]⟩
    ·refine .inr ⟨fun i hm=>?_,by rw [h2,PTree.get_set_ne _ _ e]⟩
     rcases List.mem_cons.1 hm with e2|hm
     ·cases e2;exact e rfl
     ·exact h1 i hm
  ·cases h
theorem outs_sub {live:Option Nat}{ρ:List (Tmp×Nat)}{c:Nat}{E:List Value}{T Tf T':PTree Value} (hI:InvL ρ c E T Tf) (hd:Dom live T) (h:setOuts E (outsOf live ρ c ρ) T=some T'):SubT T' Tf∧Dom live T':=by
 refine ⟨fun t v hv=>?_,fun t v hv=>?_⟩
 ·rcases setOuts_ok h t with ⟨i,h1,h2⟩|⟨h1,h2⟩
  ·obtain ⟨p,_,_,hf,e⟩:=outsOf_mem.1 h1
   obtain ⟨hp,hT⟩:=hI.pos t p hf
   rw [hT,atP,if_pos hp,←e,←h2];exact hv
  ·rw [h2] at hv
   cases hf:findR ρ t with
   | none=>rw [hI.old t hf];exact hv
   | some p=>exact absurd (outsOf_mem.2 ⟨p,findR_mem hf,hd t v hv,hf,rfl⟩) (h1 _)
 ·rcases setOuts_ok h t with ⟨i,h1,h2⟩|⟨h1,h2⟩
  ·obtain ⟨p,_,hl,_⟩:=outsOf_mem.1 h1
   exact hl
  ·rw [h2] at hv;exact hd t v hv
inductive Plan where
 | fast (is:List LI) (outs:List (Tmp×Nat))
 | again (is:List LI) (outs:List (Tmp×Nat)) (c:Nat) (chks:List Chk)
def fastOf (n:Nat) (live:Option Nat) (all:Array Oper) (l:List Oper):Option Plan:=
 match comp n all l [] 0 with
 | some (is,ρ,c)=>some (.fast is (outsOf live ρ c ρ))
 | none=>none
def chksAt (V:Env) (ops:Array Oper) (l:List Oper) (c:Nat):List Chk:=
 chksOf V (masks ops.toList []) ops c (((orderOf ops).zip l).zip (tr l [] 0) |>.map fun x=>(x.1.1,x.1.2,x.2.1,x.2.2))
def againOf (V:Env) (n:Nat) (live:Option Nat) (ops:Array Oper) (l:List Oper):Option Plan:=
 match comp n ops l [] 0 with
 | some (is,ρ,c)=>some (.again is (outsOf live ρ c ρ) c (chksAt V ops l c))
 | none=>none
def planL (V:Env) (n:Nat) (live:Option Nat) (ops:Array Oper) (draw:Bool):Option Plan :=
 match draw with
 | false=>fastOf n live ops ops.toList
 |true=>match planOf V ops with
  | some (false,l)=>fastOf n live ops l
  | some (true,l)=>againOf V n live ops l
  | none=>none
def regionL (V:Env) (call:CallFn) (n:Nat) (live:Option Nat) (ops:Array Oper) (draw:Bool) (T:PTree Value) (H:AH):Option (PTree Value×AH) :=
 match planL V n live ops draw with
 |some (.fast is outs)=>match runLI V call is [] T H with
  | some (E,H')=>(setOuts E outs T).map (·,H')
  | none=>none
 |some (.again is outs c chks)=>match heapsLI V call is [] T H with
  | some (E,H',Hs)=>if chks.all (chkOk V T E c Hs) then (setOuts E outs T).map (·,H') else none
  | none=>none
 | none=>none
theorem InvL.start (T:PTree Value):InvL [] 0 [] T T:=⟨rfl,Nat.zero_le _,fun t p h=>(nomatch h),fun _ _=>rfl⟩
theorem fast_ok {live:Option Nat}{all:Array Oper}{l:List Oper}{is:List LI}{outs:List (Tmp×Nat)} (hp:fastOf n live all l=some (.fast is outs)) {E:List Value}{T T':PTree Value}{H H':AH} (hd:Dom live T) (hr:runLI V call is [] T H=some (E,H')) (ho:setOuts E outs T=some T') :
  ∃ Tf,evOps V call n all l T H=some (Tf,H')∧SubT T' Tf∧Dom live T':=by
 unfold fastOf at hp
 split at hp
 ·rename_i is' ρ c hc
  simp only [Option.some.injEq,Plan.fast.injEq] at hp
  obtain ⟨rfl,rfl⟩:=hp
  obtain ⟨Tf,h1,h2⟩:=comp_ok hc (InvL.start T) hr
  obtain ⟨h3,h4⟩:=outs_sub h2 hd ho
  exact ⟨Tf,h1,h3,h4⟩
 ·cases hp
theorem planOf_ord {ops:Array Oper}{b:Bool}{l:List Oper} (hp:planOf V ops=some (b,l)):Ord ops (orderOf ops)∧(∀ o∈l,noAlloc V o.op=true)∧(orderOf ops).map (ops[·]?)=l.map some:=by
 unfold planOf at hp
 simp only at hp
 split at hp
 ·rename_i hok
  split at hp
  ·rename_i l' hl
   split at hp
   ·rename_i hall
    simp only [Option.some.injEq,Prod.mk.injEq] at hp
    obtain ⟨_,rfl⟩:=hp
    exact ⟨ordFast_ord hok,fun o ho=>List.all_eq_true.1 hall o ho,opersOf_ok hl⟩
   ·cases hp
  ·cases hp
 ·cases hp
theorem planOf_fast {ops:Array Oper}{l:List Oper} (hp:planOf V ops=some (false,l)) {T T':PTree Value}{H H':AH} (h:evOps V call n ops l T H=some (T',H')):∃ R,Ran V call n ops (orderOf ops) T H R T' H':=
 drawX_ran (by unfold drawX;rw [hp];exact h)
theorem regionL_runs (hE:TOk V.E V.P) (hF:FOk V.F V.P) (hm:V.P.follows .mixedOrders=true) (hc_:CallOk V call) {live:Option Nat}{id:Nat}{ops:Array Oper}{draw:Bool}{T T':PTree Value}{H H':AH} (hd:Dom live T) (h:regionL V call n live ops draw T H=some (T',H')) :
 Runs V n ro (.region id ops draw) T H .normal T' H'∧Dom live T':=by
 unfold regionL at h
 split at h
 ·rename_i is outs hp
  split at h
  ·rename_i E H1 hr
   obtain ⟨T1,ho,he⟩:=map_some h
   simp only [Prod.mk.injEq] at he
   obtain ⟨rfl,rfl⟩:=he
   cases draw with
   |false =>
    obtain ⟨Tf,h1,h2,h3⟩:=fast_ok (all:=ops) hp hd hr ho
    exact ⟨(Runs.region hE hF hc_ h1).weaken h2,h3⟩
   |true =>
    simp only [planL] at hp
    split at hp
    ·rename_i l hpl
     obtain ⟨Tf,h1,h2,h3⟩:=fast_ok (all:=ops) hp hd hr ho
     obtain ⟨R,hR⟩:=planOf_fast hpl h1
     exact ⟨(Runs.draw hE hF hm hc_ hR).weaken h2,h3⟩
    ·simp only [againOf] at hp
     split at hp<;>cases hp
    ·cases hp
  ·cases h
 ·rename_i is outs c chks hp
  split at h
  ·rename_i E H1 Hs hr
   split at h
   ·rename_i hk
    obtain ⟨T1,ho,he⟩:=map_some h
    simp only [Prod.mk.injEq] at he
    obtain ⟨rfl,rfl⟩:=he
    cases draw with
    |false =>
     simp only [planL,fastOf] at hp
     split at hp<;>cases hp
    |true =>
     simp only [planL] at hp
     split at hp
     ·simp only [fastOf] at hp
      split at hp<;>cases hp
     ·rename_i l hpl
      unfold againOf at hp
      split at hp
      ·rename_i is' ρ c' hc
       simp only [Option.some.injEq,Plan.again.injEq] at hp
       obtain ⟨rfl,rfl,rfl,rfl⟩:=hp
       obtain ⟨hord,hna,hl⟩:=planOf_ord hpl
       obtain ⟨R,Tf,hran,hI⟩:=again_ran hord hna hl hc hr hk
       obtain ⟨h3,h4⟩:=outs_sub hI hd ho
       exact ⟨(Runs.draw hE hF hm hc_ hran).weaken h3,h4⟩
      ·cases hp
     ·cases hp
   ·cases h
  ·cases h
 ·cases h
end Go.Ev
namespace Go.Ev
open Go.RowKit
variable {V:Env}{call:CallFn}{n:Nat}{ro:Option Nat}
def codeL (V:Env) (call:CallFn) (live:Option Nat) (ro:Option Nat) (n lf:Nat):Code→PTree Value→AH→Option (Ex×PTree Value×AH)
 | .skip,T,H=>some (.normal,T,H)
 | .region _ ops d,T,H=>(regionL V call n live ops d T H).map fun (T',H')=>(.normal,T',H')
 |.seq a b,T,H=>match codeL V call live ro n lf a T H with
  | some (.normal,T',H')=>codeL V call live ro n lf b T' H'
  | r=>r
 |.cond c a b,T,H=>match oval V.nG T c with
  | some (.bool true)=>codeL V call live ro n lf a T H
  | some (.bool false)=>codeL V call live ro n lf b T H
  | _=>none
 |.block id c,T,H=>match codeL V call live ro n lf c T H with
  | some (.exit id',T',H')=>if id'=id then some (.normal,T',H') else some (.exit id',T',H')
  | r=>r
 | .loop c,T,H=>loopN (fun T H=>codeL V call live ro n lf c T H) lf T H
 | .exit id,T,H=>some (.exit id,T,H)
 | .label _,T,H=>some (.normal,T,H)
 | .ret,T,H=>some (.ret,T,H)
 | .rangeFunc f ps x y,T,H=>evC V (drawX V) call ro n lf (.rangeFunc f ps x y) T H
 | _,_,_=>none
theorem loopEnd_T {b:Nat}{T T':PTree Value}{H H':AH}{e:Ex} (h:loopEnd b T H=some (e,T',H')):T'=T:=by
 unfold loopEnd at h
 split at h
 ·split at h
  ·cases h
  ·obtain ⟨_,_,h2⟩:=map_some h
   simp only [Prod.mk.injEq] at h2
   exact h2.2.1.symm
 ·cases h
theorem rangeFunc_T {lf:Nat}{f:Operand}{ps:Array Tmp}{x y:Code}{T T':PTree Value}{H H':AH}{e:Ex} (h:evC V (drawX V) call ro n lf (.rangeFunc f ps x y) T H=some (e,T',H')):T'=T:=by
 simp only [evC] at h
 split at h
 ·split at h
  ·split at h
   ·exact loopEnd_T h
   ·cases h
  ·cases h
 ·cases h
theorem codeL_runs (hE:TOk V.E V.P) (hF:FOk V.F V.P) (hm:V.P.follows .mixedOrders=true) (hc:CallOk V call) (live:Option Nat) (lf:Nat):∀ (c:Code) {T T':PTree Value}{H H':AH}{e:Ex},Dom live T→codeL V call live ro n lf c T H=some (e,T',H') →
 Runs V n ro c T H e T' H'∧Dom live T':=by
 intro c
 induction c with
 |skip =>
  intro T T' H H' e hd h
  simp only [codeL,Option.some.injEq,Prod.mk.injEq] at h
  obtain ⟨rfl,rfl,rfl⟩:=h
  exact ⟨.skip,hd⟩
 |region id ops d =>
  intro T T' H H' e hd h
  simp only [codeL] at h
  obtain ⟨⟨T1,H1⟩,h1,h2⟩:=map_some h
  simp only [Prod.mk.injEq] at h2
  obtain ⟨rfl,rfl,rfl⟩:=h2
  exact regionL_runs hE hF hm hc hd h1
 |seq a b iha ihb =>
  intro T T' H H' e hd h
  simp only [codeL] at h
  split at h
  ·rename_i T1 H1 h1
   obtain ⟨r1,d1⟩:=iha hd h1
   obtain ⟨r2,d2⟩:=ihb d1 h
   exact ⟨r1.seq r2,d2⟩
  ·rename_i hne
   obtain ⟨r1,d1⟩:=iha hd h
   refine ⟨r1.seqOut (fun e'=>?_),d1⟩
   subst e'
   exact hne _ _ h
 |cond x a b iha ihb =>
  intro T T' H H' e hd h
  simp only [codeL] at h
  split at h
  ·rename_i hx
   obtain ⟨r,d⟩:=iha hd h
   exact ⟨.condT hx r,d⟩
  ·rename_i hx
   obtain ⟨r,d⟩:=ihb hd h
   exact ⟨.condF hx r,d⟩
  ·cases h
 |block id c ih =>
  intro T T' H H' e hd h
  simp only [codeL] at h
  split at h
  ·rename_i id' T1 H1 h1
   obtain ⟨r,d⟩:=ih hd h1
   have rb:=r.block (id:=id)
   simp only [Ex.out] at rb
   split at h
   ·rename_i e'
    rw [if_pos e'] at rb
    simp only [Option.some.injEq,Prod.mk.injEq] at h
    obtain ⟨rfl,rfl,rfl⟩:=h
    exact ⟨rb,d⟩
   ·rename_i e'
    rw [if_neg e'] at rb
    simp only [Option.some.injEq,Prod.mk.injEq] at h
    obtain ⟨rfl,rfl,rfl⟩:=h
    exact ⟨rb,d⟩
  ·rename_i hne
   obtain ⟨r,d⟩:=ih hd h
   have rb:=r.block (id:=id)
   cases e with
   | exit id'=>exact absurd h (hne _ _ _)
   | normal=>exact ⟨rb,d⟩
   | ret=>exact ⟨rb,d⟩
 |loop c ih =>
  intro T T' H H' e hd h
  simp only [codeL] at h
  have key:∀ k T H,Dom live T→loopN (fun T H=>codeL V call live ro n lf c T H) k T H=some (e,T',H')→Dom live T'∧∀ (B0 s0:Nat) (rr:Option Nat) (ι:Emb) (a:Act) (w:World),FrOk V B0 s0 n ro rr ι T H a w→∀ Qm:Exit→Act→World→Prop,
   (∀ ι' a' w',FrOk V B0 s0 n ro rr ι' T' H' a' w'→Step V.P B0 ι H w ι' H' w'→Qm e.to a' w')→Code.roundsIn (Wd rr) 0 V.P c Qm k a w:=by
   intro k
   induction k with
   | zero=>intro T H _ h;simp [loopN] at h
   |succ k ihk =>
    intro T H hd h
    simp only [loopN] at h
    split at h
    ·rename_i T1 H1 h1
     obtain ⟨r1,d1⟩:=ih hd h1
     obtain ⟨d2,r2⟩:=ihk T1 H1 d1 h
     refine ⟨d2,fun B0 s0 rr ι a w hf Qm hQm=>?_⟩
     rw [roundsIn_succ]
     refine r1 B0 s0 rr ι a w hf _ fun ι1 a1 w1 g1 g2=>?_
     exact r2 B0 s0 rr ι1 a1 w1 g1 Qm fun ι2 a2 w2 k1 k2=>hQm ι2 a2 w2 k1 (g2.trans k2)
    ·rename_i hne
     obtain ⟨r1,d1⟩:=ih hd h
     refine ⟨d1,fun B0 s0 rr ι a w hf Qm hQm=>?_⟩
     rw [roundsIn_succ]
     refine r1 B0 s0 rr ι a w hf _ fun ι1 a1 w1 g1 g2=>?_
     cases e with
     | normal=>exact absurd h (hne _ _)
     | exit id=>exact hQm ι1 a1 w1 g1 g2
     | ret=>exact hQm ι1 a1 w1 g1 g2
  obtain ⟨d,r⟩:=key lf T H hd h
  exact ⟨fun B0 s0 rr ι a w hf Q hQ=>wpIn_loop_rounds _ (r B0 s0 rr ι a w hf Q hQ),d⟩
 |rangeFunc f ps x y ihx ihy =>
  intro T T' H H' e hd h
  simp only [codeL] at h
  have hT:=rangeFunc_T h
  subst hT
  exact ⟨fun B0 s0 rr ι a w hf Q hQ=>evC_wp (drawX V) hE hF hc (drawX_ok hE hF hm) _ hf h hQ,hd⟩
 |exit id =>
  intro T T' H H' e hd h
  simp only [codeL,Option.some.injEq,Prod.mk.injEq] at h
  obtain ⟨rfl,rfl,rfl⟩:=h
  exact ⟨.exit,hd⟩
 |label l =>
  intro T T' H H' e hd h
  simp only [codeL,Option.some.injEq,Prod.mk.injEq] at h
  obtain ⟨rfl,rfl,rfl⟩:=h
  exact ⟨.label,hd⟩
 |ret =>
  intro T T' H H' e hd h
  simp only [codeL,Option.some.injEq,Prod.mk.injEq] at h
  obtain ⟨rfl,rfl,rfl⟩:=h
  exact ⟨.ret,hd⟩
 | scope c ih=>intro T T' H H' e hd h;simp only [codeL] at h;cases h
 | goto l=>intro T T' H H' e hd h;simp only [codeL] at h;cases h
 | refuse w=>intro T T' H H' e hd h;simp only [codeL] at h;cases h
def roundL (V:Env) (call:CallFn) (lf:Nat) (b:Nat) (vs:List Value) (H:AH):Option (Value×AH) :=
 match H.obj b with
 |.loop _ _ n T ps x y=>match setPs n ps.toList vs T with
  |some T1=>match codeL V call none (some b) n lf x T1 H with
   |some (.normal,T2,H2)=>match H2.obj b with
    |.loop .ready pe n' T' ps' x' y'=>match codeL V call none (some b) n lf y T2 (H2.put b (.loop .busy pe n' T' ps' x' y')) with
     |some (e,_,H4)=>match H4.obj b with
      | .loop _ _ n'' T'' ps'' x'' y''=>some (.bool e.jump.isNone,H4.put b (.loop (if e.jump.isNone then .ready else .done) e.jump n'' T'' ps'' x'' y''))
      | _=>none
     | none=>none
    | _=>none
   | _=>none
  | none=>none
 | _=>none
theorem dom_none (T:PTree Value):Dom none T:=fun _ _ _=>rfl
variable {B0:Nat}{ι:Emb}{H H':AH}{w:World}
theorem roundL_ok (hE:TOk V.E V.P) (hF:FOk V.F V.P) (hm:V.P.follows .mixedOrders=true) (hc:CallOk V call) (lf:Nat) {b:Nat}{vs:List Value}{v:Value} (h:roundL V call lf b vs H=some (v,H')) {vs':List Value}{l:ILoc} (hG:GOk ι V.nG) (hR:HRel V.P B0 ι H w) (hL:LRel ι vs vs') (hb:ι b=some l) :
 ∃ f tmps x y,(Instr.yield l.blk vs'.toArray).run V.P w=.ok (.round l.blk f tmps x y) w ∧
   RoundIn Fence.wide 0 V.P l.blk f tmps x y w fun e w'=>∃ v' ι',e=.returned v'∧VRel ι' v v'∧Step V.P B0 ι H w ι' H' w':=by
 unfold roundL at h
 split at h
 ·rename_i st0 pe0 n T ps x y hob
  split at h
  ·rename_i T1 hps
   split at h
   ·rename_i T2 H2 hx
    split at h
    ·rename_i pe n' T' ps' x' y' hob2
     split at h
     ·rename_i e T3 H4 hy
      split at h
      ·rename_i st4 pe4 n'' T'' ps'' x'' y'' hob4
       cases h
       obtain ⟨rec,r1,r2,r3,r4,r5,r6,r7,r8,_⟩:=hR.loopPut hb (st':=.ready) (pe':=none) hob
       obtain ⟨k1,k2,k3⟩:=setPs_ok hL r8 r7 hps
       have hz:(rec.params.zip vs'.toArray).foldl (fun tmps (t,a)=>tmps.setIfInBounds t a) rec.tmps=(ps.toList.zip vs').foldl (fun tmps (t,a)=>tmps.setIfInBounds t a) rec.tmps:=by
        rw [r4,←Array.foldl_toList]
        simp
       refine ⟨rec.fn,_,rec.assign,rec.body,run_yield r1 (by rw [r4];simpa using k1),?_⟩
       refine roundIn_of_wpIn trivial ?_
       rw [Wd.some,hz,r5,r6]
       have hf0:FrOk V B0 w.heap.size n (some b) (some l.blk) ι T1 H { tmps:=(ps.toList.zip vs').foldl (fun tmps (t,a)=>tmps.setIfInBounds t a) rec.tmps,defers:=[] } w :=
        ⟨k2,k3,Marks.nil,hG,hR,⟨l,hb,rfl⟩,Nat.le_refl _⟩
       refine (codeL_runs hE hF hm hc none lf x (dom_none T1) hx).1 B0 w.heap.size (some l.blk) ι _ w hf0 _ fun ι2 a2 w2 g1 g2=>?_
       simp only [Ex.to,Exit.then]
       obtain ⟨rec2,q1,q2,q3,q4,q5,q6,q7,q8,q9,_⟩:=g1.rel.loopPut (g2.le _ _ hb) (st':=.busy) (pe':=pe) hob2
       have hbr:=run_beginRound (P:=V.P) q1 q2
       have hrec2:({ rec2 with state:=LoopState.busy,pending:=pe }:Loop)={ rec2 with state:=.busy }:=by rw [←q3]
       rw [hrec2] at q9
       refine ⟨_,hbr,?_⟩
       have g3:FrOk V B0 w.heap.size n (some b) (some l.blk) ι2 T2 (H2.put b (.loop .busy pe n' T' ps' x' y')) a2 (w2.putObj l.blk (.loop { rec2 with state:=.busy })):=g1.next g1.tr g1.sz rfl q9
       refine (codeL_runs hE hF hm hc none lf y (dom_none T2) hy).1 B0 w.heap.size (some l.blk) ι2 a2 _ g3 _ fun ι4 a4 w4 m1 m2=>?_
       have hst4:=(g2.trans q9).trans m2
       obtain ⟨rec4,p1,p2,p3,p4,p5,p6,p7,p8,p9,_⟩:=m1.rel.loopPut (hst4.le _ _ hb) (st':=if e.jump.isNone then .ready else .done) (pe':=e.jump) hob4
       have hend:=run_endRound (P:=V.P) e.jump p1
       have hfin:=hst4.trans p9
       cases e with
       | normal=>exact ⟨_,_,hend,_,ι4,rfl,.bool _,hfin⟩
       | exit id=>exact ⟨_,_,hend,_,ι4,rfl,.bool _,hfin⟩
       | ret=>exact ⟨_,_,hend,_,ι4,rfl,.bool _,hfin⟩
      ·cases h
     ·cases h
    ·cases h
   ·cases h
  ·cases h
 ·cases h
def addT (def_ l:Nat):Operand→Nat
 | .tmp t=>if def_.testBit t then l else l ||| 2 ^ t
 | _=>l
def expoOps:List Oper→Nat→Nat→Nat
 | [],_,l=>l
 | o::os,def_,l=>expoOps os (match o.dst with|some d=>def_ ||| 2 ^ d|none=>def_) (o.op.operands.toList.foldl (addT def_) l)
def expo:Code→Nat→Nat
 | .region _ ops _,l=>expoOps ops.toList 0 l
 | .seq a b,l=>expo b (expo a l)
 | .cond x a b,l=>expo b (expo a (addT 0 l x))
 | .block _ c,l=>expo c l
 | .loop c,l=>expo c l
 | .scope c,l=>expo c l
 | .rangeFunc f ps x y,l=>expo y (expo x (ps.toList.foldl (fun l t=>l ||| 2 ^ t) (addT 0 l f)))
 | _,l=>l
def resT:ResultVar→Nat
 | .tmp t=>t
 | .cell a _=>a
def liveOf (fn:Func) (c:Code):Nat:=fn.results.toList.foldl (fun l r=>l ||| 2 ^ resT r) (expo c (2 ^ fn.params.size-1))
end Go.Ev
namespace Go.Ev
open Go.RowKit
abbrev Orc:=FuncId→List Value→AH→Option (Value×AH)
def OrcOk (V:Env) (O:Orc):Prop:=∀ f vs H v H',O f vs H=some (v,H')→Sound V (.fn f) vs H v H'
variable {V:Env}
def fO (V:Env) (O:Orc) (lf:Nat):Nat→CallFn
 | 0,_,_,_=>none
 |d+1,.fn f,vs,H=>match O f vs H with
  | some x=>some x
  |none=>match V.F f with
   |some fn=>match fn.body with
    |some c=>if vs.length≤fn.ntmps∧(List.range vs.length).all (isLive (some (liveOf fn c)))=true then
     match codeL V (fO V O lf d) (some (liveOf fn c)) none fn.ntmps lf c (initT vs 0 .leaf) H with
     | some (.normal,T,H')|some (.ret,T,H')=>(aResults V T H' fn.results.toList).map fun vs=>(resOf vs,H')
     | _=>none
     else none
    | none=>none
   | none=>none
 | d+1,.yld b,vs,H=>roundL V (fO V O lf d) lf b vs H
theorem fO_ok {O:Orc} (hO:OrcOk V O) (hE:TOk V.E V.P) (hF:FOk V.F V.P) (hm:V.P.follows .mixedOrders=true) (lf:Nat):∀ d,CallOk V (fO V O lf d)
 | 0=>⟨fun f vs H v H' h=>by simp [fO] at h,fun b vs H v H' h=>by simp [fO] at h⟩
 |d+1=>by
  have ih:=fO_ok hO hE hF hm lf d
  refine CallOk.iff.2 fun t vs H v H' h=>?_
  cases t with
  |fn f =>
   simp only [fO] at h
   split at h
   ·rename_i x hx
    cases h
    exact hO _ _ _ _ _ hx
   split at h
   ·rename_i fn hfn
    split at h
    ·rename_i c hb
     split at h
     ·rename_i hlen
      have hdom:Dom (some (liveOf fn c)) (initT vs 0 .leaf):=fun t v hv=>by
       rw [initT_get] at hv
       split at hv
       ·rename_i ht
        have:=hlen.2
        rw [List.all_eq_true] at this
        exact this t (List.mem_range.2 (by omega))
       ·simp at hv
      have fin:∀ (e:Ex) (T:PTree Value) (H1:AH),(e=.normal∨e=.ret)→codeL V (fO V O lf d) (some (liveOf fn c)) none fn.ntmps lf c (initT vs 0 .leaf) H=some (e,T,H1)→(aResults V T H1 fn.results.toList).map (fun vs=>(resOf vs,H1))=some (v,H')→Sound V (.fn f) vs H v H':=fun e T H1 he hev hres=>by
       obtain ⟨rs,hrs,hv⟩:=map_some hres
       simp only [Prod.mk.injEq] at hv
       obtain ⟨rfl,rfl⟩:=hv
       obtain ⟨hr,_⟩:=codeL_runs hE hF hm ih (some (liveOf fn c)) lf c hdom hev
       obtain ⟨v0,H0,hR,hS⟩:=Sound.fn (R:=fun v0 H0=>v0=resOf rs∧H0=H1) hE hF hfn hb hlen.1 ⟨e,T,H1,hr,he,rs,hrs,rfl,rfl⟩
       obtain ⟨rfl,rfl⟩:=hR
       exact hS
      split at h
      ·rename_i T H1 hev;exact fin .normal T H1 (.inl rfl) hev h
      ·rename_i T H1 hev;exact fin .ret T H1 (.inr rfl) hev h
      ·cases h
     ·cases h
    ·cases h
   ·cases h
  |yld b =>
   simp only [fO] at h
   exact fun B0 ι w vs' l hG hR hL hb=>roundL_ok hE hF hm ih lf h hG hR hL hb
end Go.Ev
namespace Go.Ev
open Go.RowKit
variable {V:Env}{O:Orc}{live:Option Nat}{n:Nat}
abbrev SL:=List (Nat×Value)
def look (l:SL) (t:Nat):Option Value:=
 match l with
 | []=>none
 | (u,v)::l=>if u=t then some v else look l t
def Has (T:PTree Value) (l:SL):Prop:=∀ t v,look l t=some v→T.get t=some v
def Lc (V:Env) (O:Orc) (f:FuncId) (vs:List Value) (H:AH) (v:Value) (H':AH):Prop:=∃ N,∀ lf,N≤lf→∀ d,N≤d→fO V O lf d (.fn f) vs H=some (v,H')
def W (V:Env) (O:Orc) (live:Option Nat) (n:Nat) (c:Code) (l:SL) (H:AH) (Q:Ex→SL→AH→Prop):Prop:=
 ∀ T,Has T l→Dom live T→∃ N e T' H',(∀ lf,N≤lf→∀ d,N≤d→codeL V (fO V O lf d) live none n lf c T H=some (e,T',H'))∧Dom live T'∧∃ l',Has T' l'∧Q e l' H'
def ThenL (K:SL→AH→Prop) (Q:Ex→SL→AH→Prop):Ex→SL→AH→Prop
 | .normal,l,H=>K l H
 | e,l,H=>Q e l H
theorem W.mono {c:Code}{l:SL}{H:AH}{Q Q':Ex→SL→AH→Prop} (h:W V O live n c l H Q) (hq:∀ e l H,Q e l H→Q' e l H):W V O live n c l H Q':=fun T hT hd=>
 let ⟨N,e,T',H',h1,h2,l',h3,h4⟩:=h T hT hd
 ⟨N,e,T',H',h1,h2,l',h3,hq _ _ _ h4⟩
theorem W.sub {c:Code}{l l':SL}{H:AH}{Q:Ex→SL→AH→Prop} (h:W V O live n c l' H Q) (hl:∀ t v,look l' t=some v→look l t=some v):W V O live n c l H Q:=fun T hT hd=>h T (fun t v e=>hT t v (hl t v e)) hd
theorem W.skip {l:SL}{H:AH}{Q:Ex→SL→AH→Prop} (h:Q .normal l H):W V O live n .skip l H Q:=fun T hT hd=>⟨0,.normal,T,H,fun _ _ _ _=>rfl,hd,l,hT,h⟩
theorem W.exit {id:Nat}{l:SL}{H:AH}{Q:Ex→SL→AH→Prop} (h:Q (.exit id) l H):W V O live n (.exit id) l H Q:=fun T hT hd=>⟨0,_,T,H,fun _ _ _ _=>rfl,hd,l,hT,h⟩
theorem W.ret {l:SL}{H:AH}{Q:Ex→SL→AH→Prop} (h:Q .ret l H):W V O live n .ret l H Q:=fun T hT hd=>⟨0,_,T,H,fun _ _ _ _=>rfl,hd,l,hT,h⟩
theorem W.seq {a b:Code}{l:SL}{H:AH}{Q:Ex→SL→AH→Prop} (h:W V O live n a l H (ThenL (fun l1 H1=>W V O live n b l1 H1 Q) Q)):W V O live n (.seq a b) l H Q:=fun T hT hd=>by
 obtain ⟨N,e,T1,H1,h1,d1,l1,h2,h3⟩:=h T hT hd
 cases e with
 | normal=>
  obtain ⟨M,e,T2,H2,k1,d2,l2,k2,k3⟩:=h3 T1 h2 d1
  exact ⟨N+M,e,T2,H2,fun lf hlf d hdd=>by simp only [codeL];rw [h1 lf (by omega) d (by omega)];exact k1 lf (by omega) d (by omega),d2,l2,k2,k3⟩
 | exit id=>exact ⟨N,_,T1,H1,fun lf hlf d hdd=>by simp only [codeL];rw [h1 lf hlf d hdd],d1,l1,h2,h3⟩
 | ret=>exact ⟨N,_,T1,H1,fun lf hlf d hdd=>by simp only [codeL];rw [h1 lf hlf d hdd],d1,l1,h2,h3⟩
def lookO (nG:Nat) (l:SL):Operand→Option Value
 | .tmp t=>look l t
 | x=>oval nG .leaf x
theorem Has.oval {T:PTree Value}{l:SL} (h:Has T l) {nG:Nat}{x:Operand}{v:Value} (hx:lookO nG l x=some v):oval nG T x=some v:=by
 cases x with
 | tmp t=>exact h t v hx
 | _=>exact hx
theorem W.cond {x:Operand}{a b:Code}{l:SL}{H:AH}{Q:Ex→SL→AH→Prop}{t:Bool} (hx:lookO V.nG l x=some (.bool t)) (h1:t=true→W V O live n a l H Q) (h2:t=false→W V O live n b l H Q):W V O live n (.cond x a b) l H Q:=fun T hT hd=>by
 have hv:=hT.oval hx
 cases t with
 | true=>
  obtain ⟨N,e,T',H',k1,k2⟩:=h1 rfl T hT hd
  exact ⟨N,e,T',H',fun lf hlf d hdd=>by simp only [codeL,hv];exact k1 lf hlf d hdd,k2⟩
 | false=>
  obtain ⟨N,e,T',H',k1,k2⟩:=h2 rfl T hT hd
  exact ⟨N,e,T',H',fun lf hlf d hdd=>by simp only [codeL,hv];exact k1 lf hlf d hdd,k2⟩
theorem W.block {id:Nat}{c:Code}{l:SL}{H:AH}{Q:Ex→SL→AH→Prop} (h:W V O live n c l H fun e l' H'=>Q (e.out id) l' H'):W V O live n (.block id c) l H Q:=fun T hT hd=>by
 obtain ⟨N,e,T1,H1,h1,d1,l1,h2,h3⟩:=h T hT hd
 refine ⟨N,e.out id,T1,H1,fun lf hlf d hdd=>?_,d1,l1,h2,h3⟩
 simp only [codeL];rw [h1 lf hlf d hdd]
 cases e with
 | exit id'=>simp only [Ex.out];split<;>rfl
 | _=>rfl
def gS (nG:Nat) (E:List Value) (l:SL):Ft
 | .tmp k=>if k<far then E[k]? else look l (k-far)
 | x=>oval nG .leaf x
theorem gS_le {T:PTree Value}{l:SL} (h:Has T l) (nG:Nat) (E:List Value):Ft.le (gS nG E l) (gL nG E T):=fun x v hx=>by
 cases x with
 | tmp k=>
  simp only [gS,gL] at hx ⊢
  split
  ·rename_i hk;rw [if_pos hk] at hx;exact hx
  ·rename_i hk;rw [if_neg hk] at hx;exact h _ _ hx
 | _=>exact hx
def WL (V:Env) (O:Orc) (is:List LI) (E:List Value) (l:SL) (H:AH) (K:List Value→AH→Prop):Prop:=
 ∀ T,Has T l→∃ N E' H',(∀ lf,N≤lf→∀ d,N≤d→runLI V (fO V O lf d) is E T H=some (E',H'))∧K E' H'
theorem WL.nil {E:List Value}{l:SL}{H:AH}{K:List Value→AH→Prop} (h:K E H):WL V O [] E l H K:=fun _ _=>⟨0,E,H,fun _ _ _ _=>rfl,h⟩
theorem WL.get {t:Tmp}{is:List LI}{E:List Value}{l:SL}{H:AH}{K:List Value→AH→Prop}{v:Value} (hv:look l t=some v) (h:WL V O is (v::E) l H K):WL V O (.get t::is) E l H K:=fun T hT=>by
 obtain ⟨N,E',H',h1,h2⟩:=h T hT
 exact ⟨N,E',H',fun lf hlf d hd=>by simp only [runLI,hT t v hv];exact h1 lf hlf d hd,h2⟩
theorem WL.op {o:Op}{is:List LI}{E:List Value}{l:SL}{H H1:AH}{K:List Value→AH→Prop}{v:Value} (ho:aopG V (gS V.nG E l) H o=some (v,H1)) (h:WL V O is (v::E) l H1 K):WL V O (.run o none::is) E l H K:=fun T hT=>by
 obtain ⟨N,E',H',h1,h2⟩:=h T hT
 have:=aopG_mono (gS_le hT V.nG E) ho
 exact ⟨N,E',H',fun lf hlf d hd=>by simp only [runLI,wantL,aopG_call this];exact h1 lf hlf d hd,h2⟩
theorem WL.guard {o:Op}{x:Operand}{w b:Bool}{is:List LI}{E:List Value}{l:SL}{H:AH}{K:List Value→AH→Prop} (hx:gS V.nG E l x=some (.bool b)) (h1:b=w→WL V O (.run o none::is) E l H K) (h2:b=!w→WL V O is (undef::E) l H K):WL V O (.run o (some (x,w))::is) E l H K:=fun T hT=>by
 have hv:=gS_le hT V.nG E x _ hx
 by_cases e:b=w
 ·obtain ⟨N,E',H',k1,k2⟩:=h1 e T hT
  refine ⟨N,E',H',fun lf hlf d hd=>?_,k2⟩
  have:=k1 lf hlf d hd
  simp only [runLI,wantL] at this ⊢
  rw [hv]
  simp only [e,beq_self_eq_true]
  exact this
 ·obtain ⟨N,E',H',k1,k2⟩:=h2 (by cases b<;>cases w<;>simp_all) T hT
  refine ⟨N,E',H',fun lf hlf d hd=>?_,k2⟩
  simp only [runLI,wantL]
  rw [hv]
  have:(b==w)=false:=by simpa using e
  simp only [this]
  exact k1 lf hlf d hd
theorem WL.call {f:Operand}{args:Array Operand}{ts:Array TypeId}{k:FuncId}{first cap:Array Value}{vs:List Value}{is:List LI}{E:List Value}{l:SL}{H H1:AH}{K:List Value→AH→Prop}{v:Value}
  (hf:gS V.nG E l f=some (.func (.func k) first cap)) (ha:gvals (gS V.nG E l) args.toList=some vs) (hk:(V.F k).isSome=true) (hc:Lc V O k (first.toList++vs++cap.toList) H v H1) (h:WL V O is (v::E) l H1 K) :
  WL V O (.run (.call ⟨.value f,args,ts⟩) none::is) E l H K:=fun T hT=>by
 obtain ⟨N,E',H',h1,h2⟩:=h T hT
 obtain ⟨M,hc⟩:=hc
 have e1:=gS_le hT V.nG E f _ hf
 have e2:=gvals_mono (gS_le hT V.nG E) ha
 obtain ⟨fn,hfn⟩:=Option.isSome_iff_exists.1 hk
 refine ⟨N+M,E',H',fun lf hlf d hd=>?_,h2⟩
 simp only [runLI,wantL,evOpG,e1,e2,hfn,hc lf (by omega) d (by omega)]
 exact h1 lf (by omega) d (by omega)
def outsL (E:List Value):List (Tmp×Nat)→SL→Option SL
 | [],l=>some l
 |(d,i)::os,l=>match E[i]? with
  | some v=>outsL E os ((d,v)::l)
  | none=>none
theorem outsL_ok {E:List Value}:∀ {os:List (Tmp×Nat)}{l l':SL}{T:PTree Value},outsL E os l=some l'→Has T l→∃ T',setOuts E os T=some T'∧Has T' l'
 | [],l,l',T,h,hT=>by simp [outsL] at h;subst h;exact ⟨T,rfl,hT⟩
 | (d,i)::os,l,l',T,h,hT=>by
  simp only [outsL] at h
  split at h
  ·rename_i v hv
   simp only [setOuts,hv]
   refine outsL_ok h fun t u hu=>?_
   simp only [look] at hu
   split at hu
   ·rename_i e;subst e;cases hu;exact PTree.get_set_same _ _ _
   ·rename_i e;rw [PTree.get_set_ne _ _ (Ne.symm e)];exact hT t u hu
  ·cases h
theorem W.region {id:Nat}{ops:Array Oper}{d:Bool}{is:List LI}{outs:List (Tmp×Nat)}{l:SL}{H:AH}{Q:Ex→SL→AH→Prop} (hp:planL V n live ops d=some (.fast is outs))
  (hl:∀ os∈outs,isLive live os.1=true) (h:WL V O is [] l H fun E H'=>∃ l',outsL E outs l=some l'∧Q .normal l' H'):W V O live n (.region id ops d) l H Q:=fun T hT hd=>by
 obtain ⟨N,E,H',h1,l',h2,h3⟩:=h T hT
 obtain ⟨T',k1,k2⟩:=outsL_ok h2 hT
 refine ⟨N,.normal,T',H',fun lf hlf d' hdd=>?_,fun t v hv=>?_,l',k2,h3⟩
 ·simp only [codeL,regionL,hp]
  rw [h1 lf hlf d' hdd]
  simp only [k1,Option.map_some]
 ·rcases setOuts_ok k1 t with ⟨i,m1,_⟩|⟨_,m2⟩
  ·exact hl _ m1
  ·rw [m2] at hv;exact hd t v hv
def initL:List Value→Nat→SL
 | [],_=>[]
 | v::vs,i=>(i,v)::initL vs (i+1)
theorem initL_look:∀ {vs:List Value}{i t:Nat}{v:Value},look (initL vs i) t=some v→i≤t∧vs[t-i]?=some v
 | [],i,t,v,h=>by cases h
 |u::vs,i,t,v,h=>by
  simp only [initL,look] at h
  split at h
  ·rename_i e;subst e;cases h;simp
  ·rename_i e
   obtain ⟨h1,h2⟩:=initL_look h
   refine ⟨by omega,?_⟩
   rw [show t-i=(t-(i+1))+1 by omega];simpa using h2
def resL (V:Env) (l:SL) (H:AH):List ResultVar→Option (List Value)
 | []=>some []
 |.tmp t::rs=>match look l t,resL V l H rs with
  | some v,some vs=>some (v::vs)
  | _,_=>none
 |.cell a t::rs=>match look l a with
  |some p=>match aLoad V.E H t p,resL V l H rs with
   | some v,some vs=>some (v::vs)
   | _,_=>none
  | none=>none
theorem resL_ok {T:PTree Value}{l:SL} (hT:Has T l) {H:AH}:∀ {rs:List ResultVar}{vs:List Value},resL V l H rs=some vs→aResults V T H rs=some vs
 | [],vs,h=>h
 |.tmp t::rs,vs,h=>by
  simp only [resL] at h
  split at h
  ·rename_i v us h1 h2
   simp only [aResults,hT t v h1,resL_ok hT h2];exact h
  ·cases h
 |.cell a t::rs,vs,h=>by
  simp only [resL] at h
  split at h
  ·rename_i p hp
   split at h
   ·rename_i v us h1 h2
    simp only [aResults,hT a p hp,h1,resL_ok hT h2];exact h
   ·cases h
  ·cases h
theorem Lc.fn {f:FuncId}{fn:Func}{c:Code}{vs:List Value}{H:AH}{R:Value→AH→Prop} (ho:O f vs H=none) (hfn:V.F f=some fn) (hb:fn.body=some c) (hlen:vs.length≤fn.ntmps) (hlive:(List.range vs.length).all (isLive (some (liveOf fn c)))=true)
  (h:W V O (some (liveOf fn c)) fn.ntmps c (initL vs 0) H fun e l H'=>(e=.normal∨e=.ret)∧∃ rs,resL V l H' fn.results.toList=some rs∧R (resOf rs) H'):∃ v H',Lc V O f vs H v H'∧R v H':=by
 have hT:Has (initT vs 0 .leaf) (initL vs 0):=fun t v hv=>by
  obtain ⟨_,h2⟩:=initL_look hv
  rw [initT_get]
  have hlt:=(List.getElem?_eq_some_iff.1 h2).1
  rw [if_pos (by omega)];exact h2
 have hd:Dom (some (liveOf fn c)) (initT vs 0 .leaf):=fun t v hv=>by
  rw [initT_get] at hv
  split at hv
  ·rename_i ht
   rw [List.all_eq_true] at hlive
   exact hlive t (List.mem_range.2 (by omega))
  ·simp at hv
 obtain ⟨N,e,T',H',h1,_,l',h2,he,rs,h3,h4⟩:=h _ hT hd
 refine ⟨resOf rs,H',⟨N+1,fun lf hlf d hdd=>?_⟩,h4⟩
 obtain ⟨d,rfl⟩:∃ d',d=d'+1:=⟨d-1,by omega⟩
 simp only [fO,ho,hfn,hb]
 rw [if_pos ⟨hlen,hlive⟩,h1 lf (by omega) d (by omega)]
 have hres:=resL_ok h2 h3
 rcases he with rfl|rfl<;>simp only [hres,Option.map_some]
theorem Lc.orc {f:FuncId}{vs:List Value}{H H':AH}{v:Value} (h:O f vs H=some (v,H')):Lc V O f vs H v H':=⟨1,fun lf _ d hd=>by
 obtain ⟨d,rfl⟩:∃ d',d=d'+1:=⟨d-1,by omega⟩
 simp only [fO,h]⟩
theorem Lc.sound (hO:OrcOk V O) (hE:TOk V.E V.P) (hF:FOk V.F V.P) (hm:V.P.follows .mixedOrders=true) {f:FuncId}{vs:List Value}{H:AH}{v:Value}{H':AH} (h:Lc V O f vs H v H'):Sound V (.fn f) vs H v H':=by
 obtain ⟨N,h⟩:=h
 exact CallOk.iff.1 (fO_ok hO hE hF hm N N) _ _ _ _ _ (h N (Nat.le_refl _) N (Nat.le_refl _))
end Go.Ev
namespace Go.Ev
open Go.RowKit
variable {V:Env}{O:Orc}{live:Option Nat}{n:Nat}
inductive PC where
 | skip
 | reg (is:List LI) (outs:List (Tmp×Nat))
 | rega (is:List LI) (outs:List (Tmp×Nat)) (c:Nat) (chks:List Chk)
 | seq (a b:PC)
 | cond (x:Operand) (a b:PC)
 | block (id:Nat) (c:PC)
 | loop (c:PC)
 | exit (id:Nat)
 | label (id:Nat)
 | ret
 | rfunc (f:Operand) (ps:Array Tmp) (x y:PC)
def noRF:Code→Bool
 | .seq a b=>noRF a&&noRF b
 | .cond _ a b=>noRF a&&noRF b
 | .block _ c=>noRF c
 | .loop c=>noRF c
 | .rangeFunc ..=>false
 | _=>true
def pcOf (V:Env) (n:Nat) (live:Option Nat):Code→Option PC
 | .skip=>some .skip
 |.region _ ops d=>match planL V n live ops d with
  | some (.fast is outs)=>if outs.all (fun o=>isLive live o.1) then some (.reg is outs) else none
  | some (.again is outs c chks)=>if outs.all (fun o=>isLive live o.1) then some (.rega is outs c chks) else none
  | none=>none
 |.seq a b=>match pcOf V n live a,pcOf V n live b with
  | some a,some b=>some (.seq a b)
  | _,_=>none
 |.cond x a b=>match pcOf V n live a,pcOf V n live b with
  | some a,some b=>some (.cond x a b)
  | _,_=>none
 | .block id c=>(pcOf V n live c).map (.block id)
 | .loop c=>(pcOf V n live c).map .loop
 | .exit id=>some (.exit id)
 | .label id=>some (.label id)
 | .ret=>some .ret
 |.rangeFunc f ps x y=>match pcOf V n none x,pcOf V n none y with
  | some a,some b=>if noRF x&&noRF y then some (.rfunc f ps a b) else none
  | _,_=>none
 | _=>none
def WP (V:Env) (O:Orc) (live:Option Nat) (n:Nat) (p:PC) (l:SL) (H:AH) (Q:Ex→SL→AH→Prop):Prop:=∀ c,pcOf V n live c=some p→W V O live n c l H Q
theorem pcOf_cases {c:Code}{p:PC} (h:pcOf V n live c=some p):match p with
 | .skip=>c=.skip
 | .reg is outs=>∃ id ops d,c=.region id ops d∧planL V n live ops d=some (.fast is outs)∧∀ o∈outs,isLive live o.1=true
 | .rega is outs k chks=>∃ id ops d,c=.region id ops d∧planL V n live ops d=some (.again is outs k chks)∧∀ o∈outs,isLive live o.1=true
 | .seq a b=>∃ a' b',c=.seq a' b'∧pcOf V n live a'=some a∧pcOf V n live b'=some b
 | .cond x a b=>∃ a' b',c=.cond x a' b'∧pcOf V n live a'=some a∧pcOf V n live b'=some b
 | .block id a=>∃ a',c=.block id a'∧pcOf V n live a'=some a
 | .loop a=>∃ a',c=.loop a'∧pcOf V n live a'=some a
 | .exit id=>c=.exit id
 | .label id=>c=.label id
 | .ret=>c=.ret
 | .rfunc f ps x y=>∃ x' y',c=.rangeFunc f ps x' y'∧pcOf V n none x'=some x∧pcOf V n none y'=some y∧noRF x'=true∧noRF y'=true:=by
 cases c with
 | skip=>cases h;rfl
 |region id ops d =>
  simp only [pcOf] at h
  split at h
  ·rename_i is outs hp
   split at h
   ·rename_i ha
    cases h
    exact ⟨id,ops,d,rfl,hp,fun o ho=>List.all_eq_true.1 ha o ho⟩
   ·cases h
  ·rename_i is outs k chks hp
   split at h
   ·rename_i ha
    cases h
    exact ⟨id,ops,d,rfl,hp,fun o ho=>List.all_eq_true.1 ha o ho⟩
   ·cases h
  ·cases h
 |seq a b =>
  simp only [pcOf] at h
  split at h
  ·rename_i a' b' h1 h2;cases h;exact ⟨a,b,rfl,h1,h2⟩
  ·cases h
 |cond x a b =>
  simp only [pcOf] at h
  split at h
  ·rename_i a' b' h1 h2;cases h;exact ⟨a,b,rfl,h1,h2⟩
  ·cases h
 |block id a =>
  obtain ⟨a',h1,h2⟩:=map_some h
  subst h2;exact ⟨a,rfl,h1⟩
 |loop a =>
  obtain ⟨a',h1,h2⟩:=map_some h
  subst h2;exact ⟨a,rfl,h1⟩
 | exit id=>cases h;rfl
 | label id=>cases h;rfl
 | ret=>cases h;rfl
 |rangeFunc f ps x y =>
  simp only [pcOf] at h
  split at h
  ·rename_i a b h1 h2
   split at h
   ·rename_i h3
    rw [Bool.and_eq_true] at h3
    cases h;exact ⟨x,y,rfl,h1,h2,h3.1,h3.2⟩
   ·cases h
  ·cases h
 | _=>cases h
variable {l:SL}{H:AH}{Q Q':Ex→SL→AH→Prop}
theorem WP.mono {p:PC} (h:WP V O live n p l H Q) (hq:∀ e l H,Q e l H→Q' e l H):WP V O live n p l H Q':=fun c hc=>(h c hc).mono hq
theorem WP.sub {p:PC}{l':SL} (h:WP V O live n p l' H Q) (hl:∀ t v,look l' t=some v→look l t=some v):WP V O live n p l H Q:=fun c hc=>(h c hc).sub hl
theorem WP.skip (h:Q .normal l H):WP V O live n .skip l H Q:=fun c hc=>by
 obtain rfl:c=.skip:=pcOf_cases hc
 exact .skip h
theorem WP.exit {id:Nat} (h:Q (.exit id) l H):WP V O live n (.exit id) l H Q:=fun c hc=>by
 obtain rfl:c=.exit id:=pcOf_cases hc
 exact .exit h
theorem WP.ret (h:Q .ret l H):WP V O live n .ret l H Q:=fun c hc=>by
 obtain rfl:c=.ret:=pcOf_cases hc
 exact .ret h
theorem WP.seq {a b:PC} (h:WP V O live n a l H (ThenL (fun l1 H1=>WP V O live n b l1 H1 Q) Q)):WP V O live n (.seq a b) l H Q:=fun c hc=>by
 obtain ⟨a',b',rfl,h1,h2⟩:=pcOf_cases hc
 refine .seq ((h a' h1).mono fun e l1 H1 hq=>?_)
 cases e with
 | normal=>exact hq b' h2
 | exit id=>exact hq
 | ret=>exact hq
theorem WP.cond {x:Operand}{a b:PC}{t:Bool} (hx:lookO V.nG l x=some (.bool t)) (h1:t=true→WP V O live n a l H Q) (h2:t=false→WP V O live n b l H Q):WP V O live n (.cond x a b) l H Q:=fun c hc=>by
 obtain ⟨a',b',rfl,k1,k2⟩:=pcOf_cases hc
 exact .cond hx (fun e=>h1 e a' k1) (fun e=>h2 e b' k2)
theorem WP.block {id:Nat}{a:PC} (h:WP V O live n a l H fun e l' H'=>Q (e.out id) l' H'):WP V O live n (.block id a) l H Q:=fun c hc=>by
 obtain ⟨a',rfl,k1⟩:=pcOf_cases hc
 exact .block (h a' k1)
theorem WP.reg {is:List LI}{outs:List (Tmp×Nat)} (h:WL V O is [] l H fun E H'=>∃ l',outsL E outs l=some l'∧Q .normal l' H'):WP V O live n (.reg is outs) l H Q:=fun c hc=>by
 obtain ⟨id,ops,d,rfl,hp,hl⟩:=pcOf_cases hc
 exact .region hp hl h
def WH (V:Env) (O:Orc) (is:List LI) (E:List Value) (l:SL) (H:AH) (Hs0:List AH) (K:List Value→AH→List AH→Prop):Prop:=
 ∀ T,Has T l→∃ N E' H' Hs,(∀ lf,N≤lf→∀ d,N≤d→heapsLI V (fO V O lf d) is E T H=some (E',H',Hs))∧K E' H' (Hs0++Hs)
section
variable {E:List Value}{Hs0:List AH}{K:List Value→AH→List AH→Prop}{is:List LI}
theorem WH.nil (h:K E H (Hs0++[H])):WH V O [] E l H Hs0 K:=fun _ _=>⟨0,E,H,[H],fun _ _ _ _=>rfl,h⟩
theorem WH.get {t:Tmp}{v:Value} (hv:look l t=some v) (h:WH V O is (v::E) l H (Hs0++[H]) K):WH V O (.get t::is) E l H Hs0 K:=fun T hT=>by
 obtain ⟨N,E',H',Hs,h1,h2⟩:=h T hT
 exact ⟨N,E',H',H::Hs,fun lf hlf d hd=>by simp only [heapsLI,hT t v hv];rw [h1 lf hlf d hd];rfl,by simpa using h2⟩
theorem WH.op {o:Op}{H1:AH}{v:Value} (ho:aopG V (gS V.nG E l) H o=some (v,H1)) (h:WH V O is (v::E) l H1 (Hs0++[H]) K):WH V O (.run o none::is) E l H Hs0 K:=fun T hT=>by
 obtain ⟨N,E',H',Hs,h1,h2⟩:=h T hT
 have:=aopG_mono (gS_le hT V.nG E) ho
 exact ⟨N,E',H',H::Hs,fun lf hlf d hd=>by simp only [heapsLI,wantL,aopG_call this];rw [h1 lf hlf d hd];rfl,by simpa using h2⟩
theorem WH.guard {o:Op}{x:Operand}{w b:Bool} (hx:gS V.nG E l x=some (.bool b)) (h1:b=w→WH V O (.run o none::is) E l H Hs0 K) (h2:b=!w→WH V O is (undef::E) l H (Hs0++[H]) K):WH V O (.run o (some (x,w))::is) E l H Hs0 K:=fun T hT=>by
 have hv:=gS_le hT V.nG E x _ hx
 by_cases e:b=w
 ·obtain ⟨N,E',H',Hs,k1,k2⟩:=h1 e T hT
  refine ⟨N,E',H',Hs,fun lf hlf d hd=>?_,k2⟩
  have:=k1 lf hlf d hd
  simp only [heapsLI,wantL] at this ⊢
  rw [hv]
  simp only [e,beq_self_eq_true]
  exact this
 ·obtain ⟨N,E',H',Hs,k1,k2⟩:=h2 (by cases b<;>cases w<;>simp_all) T hT
  refine ⟨N,E',H',H::Hs,fun lf hlf d hd=>?_,by simpa using k2⟩
  simp only [heapsLI,wantL]
  rw [hv]
  have:(b==w)=false:=by simpa using e
  simp only [this]
  rw [k1 lf hlf d hd];rfl
theorem WH.call {f:Operand}{args:Array Operand}{ts:Array TypeId}{k:FuncId}{first cap:Array Value}{vs:List Value}{H1:AH}{v:Value}
  (hf:gS V.nG E l f=some (.func (.func k) first cap)) (ha:gvals (gS V.nG E l) args.toList=some vs) (hk:(V.F k).isSome=true) (hc:Lc V O k (first.toList++vs++cap.toList) H v H1) (h:WH V O is (v::E) l H1 (Hs0++[H]) K) :
  WH V O (.run (.call ⟨.value f,args,ts⟩) none::is) E l H Hs0 K:=fun T hT=>by
 obtain ⟨N,E',H',Hs,h1,h2⟩:=h T hT
 obtain ⟨M,hc⟩:=hc
 have e1:=gS_le hT V.nG E f _ hf
 have e2:=gvals_mono (gS_le hT V.nG E) ha
 obtain ⟨fn,hfn⟩:=Option.isSome_iff_exists.1 hk
 refine ⟨N+M,E',H',H::Hs,fun lf hlf d hd=>?_,by simpa using h2⟩
 simp only [heapsLI,wantL,evOpG,e1,e2,hfn,hc lf (by omega) d (by omega)]
 rw [h1 lf (by omega) d (by omega)];rfl
end
def chkS (V:Env) (E:List Value) (l:SL) (c:Nat) (Hs:List AH) (x:Chk):Prop:=
 wantL (gS V.nG E l) x.guard=some false∨(wantL (gS V.nG E l) x.guard=some true∧∃ H v H',Hs[x.q]?=some H∧atP E c x.p=some v∧aopG V (gS V.nG E l) H x.op=some (v,H')∧sameV v v=true)
theorem wantL_mono {g g':Ft} (hg:g.le g') {x:Option (Operand×Bool)}{b:Bool} (h:wantL g x=some b):wantL g' x=some b:=by
 cases x with
 | none=>exact h
 | some p=>
  obtain ⟨x,w⟩:=p
  simp only [wantL] at h ⊢
  split at h
  ·rename_i c hc;rw [hg _ _ hc];exact h
  ·rename_i v hne hc
   rw [hg _ _ hc]
   cases v<;>first|exact h|exact absurd rfl (hne _)
  ·cases h
theorem chkS_ok {T:PTree Value} (hT:Has T l) {E:List Value}{c:Nat}{Hs:List AH}{x:Chk} (h:chkS V E l c Hs x):chkOk V T E c Hs x=true:=by
 unfold chkOk
 rcases h with h|⟨h,H,v,H',h1,h2,h3,h4⟩
 ·rw [wantL_mono (gS_le hT V.nG E) h]
 ·rw [wantL_mono (gS_le hT V.nG E) h]
  simp only [h1,h2,aopG_mono (gS_le hT V.nG E) h3,h4]
theorem WP.rega {is:List LI}{outs:List (Tmp×Nat)}{k:Nat}{chks:List Chk} (h:WH V O is [] l H [] fun E H' Hs=>(∀ x∈chks,chkS V E l k Hs x)∧∃ l',outsL E outs l=some l'∧Q .normal l' H'):WP V O live n (.rega is outs k chks) l H Q:=fun c hc=>by
 obtain ⟨id,ops,d,rfl,hp,hl⟩:=pcOf_cases hc
 intro T hT hd
 obtain ⟨N,E,H',Hs,h1,h0,l',h2,h3⟩:=h T hT
 obtain ⟨T',k1,k2⟩:=outsL_ok h2 hT
 refine ⟨N,.normal,T',H',fun lf hlf d' hdd=>?_,fun t v hv=>?_,l',k2,h3⟩
 ·simp only [codeL,regionL,hp]
  rw [h1 lf hlf d' hdd]
  have:chks.all (chkOk V T E k Hs)=true:=List.all_eq_true.2 fun x hx=>chkS_ok hT (by simpa using h0 x hx)
  simp only [this,if_true,k1,Option.map_some]
 ·rcases setOuts_ok k1 t with ⟨i,m1,_⟩|⟨_,m2⟩
  ·exact hl _ m1
  ·rw [m2] at hv;exact hd t v hv
theorem Lc.fnP {f:FuncId}{fn:Func}{c:Code}{p:PC}{vs:List Value}{R:Value→AH→Prop} (ho:O f vs H=none) (hfn:V.F f=some fn) (hb:fn.body=some c) (hp:pcOf V fn.ntmps (some (liveOf fn c)) c=some p) (hlen:vs.length≤fn.ntmps) (hlive:(List.range vs.length).all (isLive (some (liveOf fn c)))=true)
  (h:WP V O (some (liveOf fn c)) fn.ntmps p (initL vs 0) H fun e l H'=>(e=.normal∨e=.ret)∧∃ rs,resL V l H' fn.results.toList=some rs∧R (resOf rs) H'):∃ v H',Lc V O f vs H v H'∧R v H':=
 Lc.fn ho hfn hb hlen hlive (h c hp)
end Go.Ev
namespace Go.Ev
open Go.RowKit
variable {V:Env}{O:Orc}{H:AH}
def OneAt (H:AH) (v:Value) (cs:List Value):Prop:=
 cs.length<4611686018427387904∧((v=.slice none 0 0∧cs=[])∨∃ b off cap,v=.slice (some ⟨b,off,none⟩) cs.length cap∧(cs≠[]→H.rd b off cs.length=some cs))
variable {g:Ft}
theorem op_len {x:Operand}{t:TypeId}{u v:Value} (hx:g x=some u) (h:aLen V.E H t u=some v):aopG V g H (.call ⟨.builtin .len,#[x],#[t]⟩)=some (v,H):=by
 simp only [aopG,gvals,hx,aBuiltin,h,Option.map_some]
theorem op_indexAddr {t:TypeId}{x i:Operand}{u v p:Value} (hx:g x=some u) (hi:g i=some v) (h:aIndex V.E t u v=some p):aopG V g H (.indexAddr t x i)=some (p,H):=by
 simp only [aopG,hx,hi,h,Option.map_some]
theorem op_load {t:TypeId}{a:Operand}{p v:Value} (ha:g a=some p) (h:aLoad V.E H t p=some v):aopG V g H (.load t a)=some (v,H):=by
 simp only [aopG,ha,h,Option.map_some]
theorem op_fieldAddr {t:TypeId}{a:Operand}{f:Nat}{p v:Value} (ha:g a=some p) (h:aField V.E t f p=some v):aopG V g H (.fieldAddr t a f)=some (v,H):=by
 simp only [aopG,ha,h,Option.map_some]
theorem op_int {op:BinOp}{t u:TypeId}{x y:Operand}{k:IntKind}{a b:Int}{v:Value} (hx:g x=some (.int k a)) (hy:g y=some (.int k b)) (h:aInt V.P op t k a k b=some v):aopG V g H (.binOp op t x y u)=some (v,H):=by
 simp only [aopG,hx,hy,aBin,h,Option.map_some]
theorem aInt_add (P:Program) (t:TypeId) {a b:Int} (h1:-9223372036854775808≤a+b) (h2:a+b≤9223372036854775807):aInt P .add t .i64 a .i64 b=some (.int .i64 (a+b)):=by
 simp only [aInt,if_true,wr]
 rw [if_pos ⟨trivial,h1,h2⟩]
theorem aInt_sub (P:Program) (t:TypeId) {a b:Int} (h1:-9223372036854775808≤a-b) (h2:a-b≤9223372036854775807):aInt P .sub t .i64 a .i64 b=some (.int .i64 (a-b)):=by
 simp only [aInt,if_true,wr]
 rw [if_pos ⟨trivial,h1,h2⟩]
end Go.Ev
