/-
  EV, part M: operators and conversions.
-/
import Derived.Test.YtjiibfgopanbgaaGreatDoorEv1
import Derived.Laws.BytesString
import Derived.Lib.ConvBytes
import Derived.OrdersIn
import Derived.RangeFuncRecord
import Derived.LoopNIn
set_option linter.all false
namespace Go.Ev
open Go.RowKit
variable {P:Program}{B0:Nat}{ι:Emb}{H H':AH}{w:World}{E:TypeId→Option TI}
def pureRun {α:Type} (P:Program):Sem α→Option α
 | .pure a=>some a
 | .program k=>pureRun P (k P)
 | .mark _ k=>pureRun P k
 | _=>none
theorem pureRun_ok {α:Type}:∀ (s:Sem α) (a:α),pureRun P s=some a→∀ w,s.run P w=.ok a w:=by
 intro s
 induction s with
 | pure a=>intro b h w;simp [pureRun] at h;subst h;rfl
 | program k ih=>intro b h w;simp only [pureRun] at h;simpa [Sem.run] using ih P b h w
 | mark m k ih=>intro b h w;simp only [pureRun] at h;simpa [Sem.run] using ih b h w
 | _=>intro b h w;simp [pureRun] at h
theorem VRel.constOk_eq {v v':Value} (h:VRel ι v v') (hc:constOk v=true):v'=v:=by
 unfold constOk at hc
 by_cases hp:plain v=true
 ·exact h.plain_eq hp
 ·simp [hp] at hc
  have fin:∀ (xs xs':Array Value) (hx:xs.size=xs'.size) (h:∀ i (h:i<xs.size) (h':i<xs'.size),VRel ι xs[i] xs'[i]),(∀ i (hi:i<xs.size),plain xs[i]=true)→xs'=xs:=fun xs xs' hx h hp=>by
   apply Array.ext
   ·exact hx.symm
   ·intro i h1 h2;exact (h i h2 h1).plain_eq (hp i h2)
  cases h with
  | agg hx h=>rw [fin _ _ hx h (by simpa using hc)]
  | tuple hx h=>rw [fin _ _ hx h (by simpa using hc)]
  | iface h=>rw [h.plain_eq (by simpa using hc)]
  | _=>simp at hc
def wr (k:IntKind) (n:Int):Int:=if k=.i64∧-9223372036854775808≤n∧n≤9223372036854775807 then n else k.wrap n
theorem wr_eq (k:IntKind) (n:Int):wr k n=k.wrap n:=by
 unfold wr
 split
 ·rename_i h;rw [h.1,IntKind.wrap_i64];omega
 ·rfl
def aInt (P:Program) (op:BinOp) (t:TypeId) (k:IntKind) (a:Int) (k':IntKind) (b:Int):Option Value:=
 match op with
 | .add=>if k=k' then some (.int k (wr k (a+b))) else none
 | .sub=>if k=k' then some (.int k (wr k (a-b))) else none
 | .mul=>if k=k' then some (.int k (wr k (a*b))) else none
 | .eql=>if k=k' then some (.bool (a==b)) else none
 | .neq=>if k=k' then some (.bool (a != b)) else none
 | .lss=>if k=k' then some (.bool (decide (a<b))) else none
 | .leq=>if k=k' then some (.bool (decide (a≤b))) else none
 | .gtr=>if k=k' then some (.bool (decide (a>b))) else none
 | .geq=>if k=k' then some (.bool (decide (a≥b))) else none
 | op=>pureRun P (binOp op t (.int k a) (.int k' b))
def nilRes:BinOp→Option Value
 | .eql=>some (.bool false)
 | .neq=>some (.bool true)
 | _=>none
def aBin (P:Program) (E:TypeId→Option TI) (op:BinOp) (t:TypeId) (ox oy:Operand) (x y:Value):Option Value :=
 match x,y with
 | .int k a,.int k' b=>aInt P op t k a k' b
 |.slice (some _) _ _,.slice none _ _|.slice none _ _,.slice (some _) _ _=>match E t with
  | some ⟨.slice _,_,_,_⟩=>nilRes op
  | _=>none
 |.pointer (some _),.pointer none|.pointer none,.pointer (some _)=>match E t with
  | some ⟨.pointer _,_,_,_⟩=>nilRes op
  | _=>none
 |.map (some _),.map none|.map none,.map (some _)=>match E t with
  | some ⟨.map _ _,_,_,_⟩=>nilRes op
  | _=>none
 |.func _ _ _,.nilFunc|.nilFunc,.func _ _ _=>match E t with
  | some ⟨.func _ _ _,_,_,_⟩=>nilRes op
  | _=>none
 |x,y=>if constOk x&&constOk y then match pureRun P (do eqGuard op t ox oy x y;binOp op t x y) with
  | some v=>if constOk v then some v else none
  | none=>none
  else none
def binSem (op:BinOp) (t:TypeId) (ox oy:Operand) (x y:Value):Sem Value:=do eqGuard op t ox oy x y;binOp op t x y
theorem binSem_skip {op:BinOp}{t:TypeId}{ox oy:Operand}{x y:Value} (hx:∀ cs,x≠.agg cs) (hy:x≠.nilIface):binSem op t ox oy x y=binOp op t x y:=by
 unfold binSem eqGuard
 cases op<;>cases x<;>first|exact absurd rfl hy|exact absurd rfl (hx _)|(cases y<;>rfl)
theorem pureRun_int {op:BinOp}{t:TypeId}{k k':IntKind}{a b:Int}{v:Value} (h:pureRun P (binOp op t (.int k a) (.int k' b))=some v):plain v=true:=by
 cases op<;>simp only [binOp,Op.shift,Op.intArith,Op.intDiv,Op.intBits,Op.intCmp] at h
 all_goals (repeat' (split at h))
 all_goals first
  | (simp [pureRun,Pure.pure] at h;subst h;rfl)
  | (simp [pureRun,stuck,runtimePanic,program,bind,Sem.bind,goPanic] at h)
theorem nilCmp_ok {op:BinOp}{t:TypeId}{ox oy:Operand}{x y v:Value} (hx:∀ cs,x≠.agg cs) (hy:x≠.nilIface) (hq:(Op.equal t x y).run P w=.ok false w)
  (he:binOp .eql t x y=(do pure (.bool (←Op.equal t x y)))) (hn:binOp .neq t x y=(do pure (.bool (!(←Op.equal t x y)))))
  (ha:nilRes op=some v):(binSem op t ox oy x y).run P w=.ok v w∧plain v=true:=by
 rw [binSem_skip hx hy]
 cases op<;>simp only [nilRes,reduceCtorEq,Option.some.injEq] at ha
 ·subst ha;rw [he];simp [hq,plain]
 ·subst ha;rw [hn];simp [hq,plain]
theorem eqd {t:TypeId}{x y:Value}{b:Bool} (h:∀ d,(Op.equalIn (d+1) t x y).run P w=.ok b w):(Op.equal t x y).run P w=.ok b w:=h 9999
theorem aBin_ok (hE:TOk E P) {op:BinOp}{t:TypeId}{ox oy:Operand}{x x' y y' v:Value} (hx:VRel ι x x') (hy:VRel ι y y') (ha:aBin P E op t ox oy x y=some v) :
 ∃ v',(binSem op t ox oy x' y').run P w=.ok v' w∧VRel ι v v':=by
 have nil:∀ {d:TypeDesc} (_:P.underlying t=some d),(Op.equal t x' y').run P w=.ok false w→(∀ cs,x'≠.agg cs)→x'≠.nilIface→binOp .eql t x' y'=(do pure (.bool (←Op.equal t x' y'))) →
  binOp .neq t x' y'=(do pure (.bool (!(←Op.equal t x' y'))))→nilRes op=some v→∃ v',(binSem op t ox oy x' y').run P w=.ok v' w∧VRel ι v v':=fun _ h1 h2 h3 h4 h5 h6 =>
  let ⟨a,b⟩:=nilCmp_ok (ox:=ox) (oy:=oy) h2 h3 h1 h4 h5 h6
  ⟨v,a,VRel.of_plain b⟩
 unfold aBin at ha
 split at ha
 ·
  rename_i k a k' b
  cases hx;cases hy
  rw [binSem_skip (by simp) (by simp)]
  cases op<;>simp only [aInt,wr_eq] at ha
  all_goals first
   | (have hp:=pureRun_int ha
      exact ⟨v,pureRun_ok _ _ ha w,VRel.of_plain hp⟩)
   | (split at ha
      ·rename_i hk;cases ha;subst hk
       exact ⟨_,by simp [binOp,Op.intArith,Op.intCmp];rfl,by first|exact .int _ _|exact .bool _⟩
      ·cases ha)
 ·split at ha
  ·rename_i e sz by_ zv hti
   obtain ⟨i,hT⟩:=hE.get hti
   have hu:P.underlying t=some (.slice e):=hT.u
   cases hy
   cases hx<;>exact nil hu (eqd fun d=>by simp [Op.equalIn,run_underlying' hu]) (by simp) (by simp) rfl rfl ha
  ·cases ha
 ·split at ha
  ·rename_i e sz by_ zv hti
   obtain ⟨i,hT⟩:=hE.get hti
   have hu:P.underlying t=some (.slice e):=hT.u
   cases hx
   cases hy<;>exact nil hu (eqd fun d=>by simp [Op.equalIn,run_underlying' hu]) (by simp) (by simp) rfl rfl ha
  ·cases ha
 ·split at ha
  ·rename_i e sz by_ zv hti
   obtain ⟨i,hT⟩:=hE.get hti
   have hu:P.underlying t=some (.pointer e):=hT.u
   cases hy
   cases hx;exact nil hu (eqd fun d=>by simp [Op.equalIn,run_underlying' hu]) (by simp) (by simp) rfl rfl ha
  ·cases ha
 ·split at ha
  ·rename_i e sz by_ zv hti
   obtain ⟨i,hT⟩:=hE.get hti
   have hu:P.underlying t=some (.pointer e):=hT.u
   cases hx
   cases hy;exact nil hu (eqd fun d=>by simp [Op.equalIn,run_underlying' hu]) (by simp) (by simp) rfl rfl ha
  ·cases ha
 ·split at ha
  ·rename_i k e sz by_ zv hti
   obtain ⟨i,hT⟩:=hE.get hti
   have hu:P.underlying t=some (.map k e):=hT.u
   cases hy
   cases hx;exact nil hu (eqd fun d=>by simp [Op.equalIn,run_underlying' hu]) (by simp) (by simp) rfl rfl ha
  ·cases ha
 ·split at ha
  ·rename_i k e sz by_ zv hti
   obtain ⟨i,hT⟩:=hE.get hti
   have hu:P.underlying t=some (.map k e):=hT.u
   cases hx
   cases hy;exact nil hu (eqd fun d=>by simp [Op.equalIn,run_underlying' hu]) (by simp) (by simp) rfl rfl ha
  ·cases ha
 ·split at ha
  ·rename_i a b c sz by_ zv hti
   obtain ⟨i,hT⟩:=hE.get hti
   have hu:P.underlying t=some (.func a b c):=hT.u
   cases hy
   cases hx<;>exact nil hu (eqd fun d=>by simp [Op.equalIn,run_underlying' hu]) (by simp) (by simp) rfl rfl ha
  ·cases ha
 ·split at ha
  ·rename_i a b c sz by_ zv hti
   obtain ⟨i,hT⟩:=hE.get hti
   have hu:P.underlying t=some (.func a b c):=hT.u
   cases hx
   cases hy<;>exact nil hu (eqd fun d=>by simp [Op.equalIn,run_underlying' hu]) (by simp) (by simp) rfl rfl ha
  ·cases ha
 ·split at ha
  ·rename_i hc
   rw [Bool.and_eq_true] at hc
   rw [hx.constOk_eq hc.1,hy.constOk_eq hc.2]
   split at ha
   ·rename_i v0 hp
    split at ha
    ·rename_i hv
     cases ha
     exact ⟨v,pureRun_ok _ _ hp w,VRel.of_constOk hv⟩
    ·cases ha
   ·cases ha
  ·cases ha
def aPure (P:Program) (xs:List Value) (s:Sem Value):Option Value :=
 if xs.all constOk then match pureRun P s with
    | some v=>if constOk v then some v else none
    | none=>none
 else none
theorem LRel.constOk_eq {xs xs':List Value} (h:LRel ι xs xs') (hc:xs.all constOk=true):xs'=xs:=by
 induction h with
 | nil=>rfl
 | cons h _ ih=>
  simp only [List.all_cons,Bool.and_eq_true] at hc
  rw [h.constOk_eq hc.1,ih hc.2]
theorem aPure_ok {xs xs':List Value}{f:List Value→Sem Value}{v:Value} (hx:LRel ι xs xs') (ha:aPure P xs (f xs)=some v):∃ v',(f xs').run P w=.ok v' w∧VRel ι v v':=by
 unfold aPure at ha
 split at ha
 ·rename_i hc
  rw [hx.constOk_eq hc]
  split at ha
  ·rename_i v0 hp
   split at ha
   ·rename_i hv;cases ha;exact ⟨v,pureRun_ok _ _ hp w,VRel.of_constOk hv⟩
   ·cases ha
  ·cases ha
 ·cases ha
end Go.Ev
namespace Go.Ev
open Go.RowKit
variable {P:Program}{B0:Nat}{ι:Emb}{H H':AH}{w:World}{E:TypeId→Option TI}
def intsOf:List Value→Option (List Int)
 | []=>some []
 | .int .u8 n::vs=>(intsOf vs).map (n::·)
 | _=>none
theorem intsOf_eq:∀ {vs:List Value}{ns:List Int},intsOf vs=some ns→vs=ns.map (Value.int .u8)
 | [],ns,h=>by simp [intsOf] at h;subst h;rfl
 |v::vs,ns,h=>by
  cases v with
  |int k n =>
   cases k with
   |u8 =>
    simp only [intsOf] at h
    cases hi:intsOf vs with
    | none=>rw [hi] at h;cases h
    | some ms=>rw [hi] at h;cases h;simp [intsOf_eq hi]
   | _=>simp [intsOf] at h
  | _=>simp [intsOf] at h
def bytesOfInts (ns:List Int):ByteArray:=ns.foldl (fun r n=>r.push (UInt8.ofNat n.toNat)) ByteArray.empty
def aConvert (P:Program) (E:TypeId→Option TI) (H:AH) (src dst:TypeId) (x:Value):Option (Value×AH) :=
 match x with
 |.slice none 0 0=>match E src,E dst with
  |some ⟨.slice e,_,_,_⟩,some ⟨.string,_,_,_⟩=>match E e with
   | some ⟨.int .u8,_,_,_⟩=>some (.string .empty,H)
   | _=>none
  | _,_=>none
 |.slice (some ⟨b,off,none⟩) len _=>match E src,E dst with
  |some ⟨.slice e,_,_,_⟩,some ⟨.string,_,_,_⟩=>match E e with
   |some ⟨.int .u8,_,_,_⟩=>if len=0 then some (.string .empty,H) else match H.rd b off len with
    |some vs=>match intsOf vs with
     | some ns=>some (.string (bytesOfInts ns),H)
     | none=>none
    | none=>none
   | _=>none
  | _,_=>none
 |.string s=>match E src,E dst with
  |some _,some ⟨.slice e,_,_,_⟩=>match E e with
   | some ⟨.int .u8,1,_,_⟩=>some (.slice (some ⟨H.next,0,none⟩) s.size unk,H.alloc (.row e (s.data.toList.map fun b=>.int .u8 b.toNat) .loose H.next (H.ver H.next)))
   | _=>none
  | _,_=>(aPure P [x] (convert src dst x)).map (·,H)
 | x=>(aPure P [x] (convert src dst x)).map (·,H)
theorem aConvert_ok (hE:TOk E P) (h:HRel P B0 ι H w) {src dst:TypeId}{x x' v:Value} (hx:VRel ι x x') (ha:aConvert P E H src dst x=some (v,H')) :
 ∃ v' w' ι',(convert src dst x').run P w=.ok v' w'∧VRel ι' v v'∧Step P B0 ι H w ι' H' w':=by
 have pureCase:∀ {o:Option Value},o=aPure P [x] (convert src dst x)→o.map (·,H)=some (v,H')→∃ v' w' ι',(convert src dst x').run P w=.ok v' w'∧VRel ι' v v'∧Step P B0 ι H w ι' H' w':=fun {o} ho hm=>by
  cases o with
  | none=>cases hm
  |some u =>
   cases hm
   obtain ⟨v',h1,h2⟩:=aPure_ok (P:=P) (w:=w) (f:=fun xs=>convert src dst (xs.getD 0 undef)) (.cons hx .nil) ho.symm
   exact ⟨v',w,ι,h1,h2,Step.refl h⟩
 unfold aConvert at ha
 split at ha
 ·split at ha
  ·rename_i e sz by_ zv sz2 by2 zv2 hts htd
   obtain ⟨i,hTs⟩:=hE.get hts
   obtain ⟨j,hTd⟩:=hE.get htd
   have hs:P.underlying src=some (.slice e):=hTs.u
   have hd:P.underlying dst=some .string:=hTd.u
   split at ha
   ·rename_i hte
    obtain ⟨k,hTe⟩:=hE.get hte
    have he:P.underlying e=some (.int .u8):=hTe.u
    cases ha;cases hx
    exact ⟨_,w,ι,by rw [run_convert_bytes_string w src dst e none 0 0 hs he hd];simp [Conv.bytesToString],.string _,Step.refl h⟩
   ·cases ha
  ·cases ha
 ·rename_i b off len cap
  split at ha
  ·rename_i e sz by_ zv sz2 by2 zv2 hts htd
   obtain ⟨i,hTs⟩:=hE.get hts
   obtain ⟨j,hTd⟩:=hE.get htd
   have hs:P.underlying src=some (.slice e):=hTs.u
   have hd:P.underlying dst=some .string:=hTd.u
   split at ha
   ·rename_i hte
    obtain ⟨k,hTe⟩:=hE.get hte
    have he:P.underlying e=some (.int .u8):=hTe.u
    split at ha
    ·rename_i h0
     cases ha;subst h0
     have fin:∀ (a:Addr) (c:Nat),(convert src dst (.slice (some a) 0 c)).run P w=.ok (.string .empty) w:=fun a c=>by
      rw [run_convert_bytes_string w src dst e _ _ _ hs he hd,run_bytesToString w a 0 c [] (by simp [Go.loadCells,loadCellsFrom])]
      rfl
     cases hx<;>exact ⟨_,w,ι,fin _ _,.string _,Step.refl h⟩
    ·rename_i h0
     split at ha
     ·rename_i vs hr
      split at ha
      ·rename_i ns hi
       cases ha
       have hvs:=intsOf_eq hi
       have fin:∀ (l:ILoc) (c:Nat),ι b=some l→(convert src dst (.slice (some ⟨l.blk,l.base+off,none⟩) len c)).run P w=.ok (.string (bytesOfInts ns)) w:=fun l c hb=>by
        obtain ⟨vs',hv,hrun⟩:=h.loadCells hb hr
        have:vs'=vs:=hv.plain_eq fun u hu=>by rw [hvs] at hu;simp at hu;obtain ⟨n,_,rfl⟩:=hu;rfl
        subst this
        rw [hvs] at hrun
        rw [run_convert_bytes_string w src dst e _ _ _ hs he hd,run_bytesToString w _ len c ns hrun]
        rfl
       cases hx with
       | slice hb hc hl=>exact ⟨_,w,ι,fin _ _ hb,.string _,Step.refl h⟩
       | sliceUnk hb hl hsz hez=>exact ⟨_,w,ι,fin _ _ hb,.string _,Step.refl h⟩
       | sliceEnd=>exact absurd rfl h0
       | sliceZ=>exact absurd rfl h0
      ·cases ha
     ·cases ha
   ·cases ha
  ·cases ha
 ·rename_i s
  cases hx
  split at ha
  ·rename_i ts e sz by_ zv hts htd
   obtain ⟨i,hTs⟩:=hE.get hts
   obtain ⟨j,hTd⟩:=hE.get htd
   have hd:P.underlying dst=some (.slice e):=hTd.u
   split at ha
   ·rename_i by3 zv3 hte
    obtain ⟨k,hTe⟩:=hE.get hte
    have he:P.underlying e=some (.int .u8):=hTe.u
    have hce:P.cellsOf e=1:=hTe.cellsOf
    cases ha
    have hrun:=Lib.run_convert_string_bytes w src dst e s hTs.u hd he
    have hcsz:(Lib.bytesCells w e s).size=grownCap w s.size 0 e:=by
     have:s.size≤grownCap w s.size 0 e:=by unfold grownCap;simp [Question.cut]
     have e1:s.data.size=s.size:=rfl
     simp [Lib.bytesCells,e1];omega
    have hst:=h.allocW (.row e (s.data.toList.map fun b=>.int .u8 b.toNat) .loose H.next (H.ver H.next)) (Lib.bytesWorld w e s) ⟨w.heap.size,0,(Lib.bytesCells w e s).size,1⟩ rfl (Lib.bytesWorld_size w e s) (fun k hk=>Lib.bytesWorld_at_old w e s k hk)
     (by simp [Lib.bytesWorld,World.freeze];rfl) (by simp [Lib.bytesWorld,World.freeze]) (by simp [Lib.bytesWorld,World.freeze];rfl)
     ⟨⟨_,_,_,Lib.bytesWorld_at_new w e s,rfl,fun i x hx=>?_,fun _ j (hj:j<(Lib.bytesCells w e s).size)=>by simp;omega⟩,by simp [Lib.bytesCells],hce,fun _=>h.base,fun e=>(nomatch e),fun e=>(nomatch e)⟩
     (fun _ _ _ _ _ e=>by cases e;simp)
    ·refine ⟨_,_,_,hrun,?_,hst⟩
     have:=VRel.sliceUnk (off:=0) (len:=s.size) (cap:=grownCap w s.size 0 e) (Emb.ext_same ι H.next ⟨w.heap.size,0,(Lib.bytesCells w e s).size,1⟩) (by unfold grownCap;simp [Question.cut]) (by simp [hcsz]) (by simp)
     simpa using this
    ·refine ⟨x,?_,?_⟩
     ·simp only [List.getElem?_map] at hx
      cases hb:s.data.toList[i]? with
      | none=>rw [hb] at hx;cases hx
      |some b =>
       rw [hb] at hx;cases hx
       have hlt:i<s.data.size:=by simpa using (List.getElem?_eq_some_iff.1 hb).1
       simp only [Nat.zero_add,Lib.bytesCells]
       rw [Array.getElem?_append_left (by simpa using hlt)]
       simp only [Array.getElem?_toList] at hb
       simp [hb]
     ·simp only [List.getElem?_map] at hx
      cases hb:s.data.toList[i]? with
      | none=>rw [hb] at hx;cases hx
      | some b=>rw [hb] at hx;cases hx;exact .int _ _
   ·cases ha
  ·exact pureCase rfl ha
 ·exact pureCase rfl ha
end Go.Ev
namespace Go.Ev
open Go.RowKit
variable {P:Program}{B0:Nat}{ι:Emb}{H H':AH}{w:World}{E:TypeId→Option TI}{nG:Nat}{T:PTree Value}
structure Env where
 P:Program
 E:TypeId→Option TI
 F:FuncId→Option Func
 nG:Nat
def oparts (nG:Nat) (T:PTree Value):List (Nat×Operand)→Option (List (Nat×Value))
 | []=>some []
 |(i,x)::ps=>match oval nG T x,oparts nG T ps with
  | some v,some vs=>some ((i,v)::vs)
  | _,_=>none
theorem oparts_ok {a:Act} (hT:TRel ι T a.tmps) (hG:GOk ι nG):∀ {ps:List (Nat×Operand)}{vs:List (Nat×Value)},oparts nG T ps=some vs→PRel ι vs (ps.map fun (i,x)=>(i,a.eval x))
 | [],vs,h=>by simp [oparts] at h;subst h;exact .nil
 | (i,x)::ps,vs,h=>by
  simp only [oparts] at h
  split at h
  ·rename_i v vs' h1 h2
   cases h
   exact .cons (oval_ok hT hG h1) (oparts_ok hT hG h2)
  ·cases h
def oopt (nG:Nat) (T:PTree Value):Option Operand→Option (Option Value)
 | none=>some none
 | some x=>(oval nG T x).map some
theorem oopt_ok {a:Act} (hT:TRel ι T a.tmps) (hG:GOk ι nG) {x:Option Operand}{v:Option Value} (h:oopt nG T x=some v):ORel ι v (x.map a.eval):=by
 cases x with
 | none=>simp [oopt] at h;subst h;exact .none
 | some x=>
  simp only [oopt] at h
  cases hv:oval nG T x with
  | none=>rw [hv] at h;cases h
  | some u=>rw [hv] at h;cases h;exact .some (oval_ok hT hG hv)
def aBuiltin (V:Env) (H:AH) (b:Builtin) (ts:List TypeId) (args:List Value):Option (Value×AH) :=
 match b,ts,args with
 | .len,[t],[x]=>(aLen V.E H t x).map (·,H)
 |.append,[t,u],[s,x]=>match V.E t,V.E u with
  |some ⟨.slice e,_,_,_⟩,some tu=>match tu.desc with
   | .int _=>none
   |_=>match V.E e,srcLen x with
    |some te,some n=>match H.src te.size x n with
     | some vs=>if vs.all Value.oneCell' then H.app e te.size te.bytes s n vs else none
     | none=>none
    | _,_=>none
  | _,_=>none
 | .copy,[t,_],[d,x]=>aCopy V.E H t d x
 | .clear,[t],[x]=>(aClear V.E H t x).map fun H'=>(.tuple #[],H')
 | .max,_,args=>(aPure V.P args (Builtin.max_ #[] 0 args.toArray)).map (·,H)
 | .min,_,args=>(aPure V.P args (Builtin.min_ #[] 0 args.toArray)).map (·,H)
 |.cap,[t],[.slice _ _ c]=>match V.E t with
  | some ⟨.slice _,_,_,_⟩=>if c<unk then some (.int .i64 c,H) else none
  | _=>none
 | _,_,_=>none
def aop (V:Env) (T:PTree Value) (H:AH) (o:Op):Option (Value×AH) :=
 match o with
 | .move x|.assign x=>(oval V.nG T x).map (·,H)
 |.pick c a b=>match oval V.nG T c with
  | some (.bool t)=>(oval V.nG T (if t then a else b)).map (·,H)
  | _=>none
 |.alloc t=>match V.E t with
  | some ti=>some (.pointer (some ⟨H.next,0,none⟩),H.alloc (.row t ti.zv.cells.toList .exact 0 0))
  | none=>none
 |.box t x=>match oval V.nG T x with
  | some v=>some (.pointer (some ⟨H.next,0,none⟩),H.alloc (.row t v.cells.toList .exact 0 0))
  | none=>none
 |.build t ps=>match oparts V.nG T ps.toList with
  | some vs=>(aBuild V.E t vs).map (·,H)
  | none=>none
 |.buildSlice t n ps=>match oparts V.nG T ps.toList with
  | some vs=>aBuildSlice V.E H t n vs
  | none=>none
 |.load t a=>match oval V.nG T a with
  | some p=>(aLoad V.E H t p).map (·,H)
  | none=>none
 |.store t a x=>match oval V.nG T a,oval V.nG T x with
  | some p,some v=>(aStore V.E H t p v).map fun H'=>(undef,H')
  | _,_=>none
 |.nilCheck x=>match oval V.nG T x with
  | some (.pointer (some p))=>some (.pointer (some p),H)
  | some (.func (.func f) a b)=>some (.func (.func f) a b,H)
  | some (.map (some m))=>some (.map (some m),H)
  | _=>none
 |.binOp op t x y _=>match oval V.nG T x,oval V.nG T y with
  | some u,some v=>(aBin V.P V.E op t x y u v).map (·,H)
  | _,_=>none
 |.unOp op _ x=>match oval V.nG T x with
  | some v=>(aPure V.P [v] (Op.unary op v)).map (·,H)
  | none=>none
 |.convert s d x=>match oval V.nG T x with
  | some v=>aConvert V.P V.E H s d v
  | none=>none
 |.makeInterface t x=>match oval V.nG T x,V.E t with
  |some v,some ti=>match ti.desc with
   | .interface _=>none
   | _=>some (.iface t v,H)
  | _,_=>none
 |.makeFunc (.func f) first cap=>match ovals V.nG T first.toList,ovals V.nG T cap.toList with
  | some u,some v=>some (.func (.func f) u.toArray v.toArray,H)
  | _,_=>none
 | .makeMap _ none=>some (.map (some H.next),H.alloc (.map []))
 |.makeSlice t l c=>match oval V.nG T l,oval V.nG T c with
  | some u,some v=>aMakeSlice V.E H t u v
  | _,_=>none
 |.slice t x lo hi mx=>match oval V.nG T x,oopt V.nG T lo,oopt V.nG T hi,oopt V.nG T mx with
  | some v,some l,some h,some m=>(aSlice V.E H t v l h m).map (·,H)
  | _,_,_,_=>none
 |.fieldAddr s x f=>match oval V.nG T x with
  | some v=>(aField V.E s f v).map (·,H)
  | none=>none
 |.field t x f=>match oval V.nG T x with
  | some v=>(aFieldOf V.E t v f).map (·,H)
  | none=>none
 |.indexAddr t x i=>match oval V.nG T x,oval V.nG T i with
  | some u,some v=>(aIndex V.E t u v).map (·,H)
  | _,_=>none
 |.index t x i=>match oval V.nG T x,oval V.nG T i with
  | some u,some v=>(aIndexOf V.E t u v).map (·,H)
  | _,_=>none
 |.lookup t m k ok=>match oval V.nG T m,oval V.nG T k with
  | some u,some v=>(aLookup V.E H t u v ok).map (·,H)
  | _,_=>none
 |.mapUpdate t m k x|.insert t m k x=>match oval V.nG T m,oval V.nG T k,oval V.nG T x with
  | some u,some v,some y=>(aMapUpdate V.E H t u v y).map fun H'=>(undef,H')
  | _,_,_=>none
 |.extract x i=>match oval V.nG T x with
  | some v=>(aExtract v i).map (·,H)
  | none=>none
 |.call ⟨.builtin b,args,ts⟩=>match ovals V.nG T args.toList with
  | some vs=>aBuiltin V H b ts.toList vs
  | none=>none
 | _=>none
def NextIs (n:Next) (v:Value):Prop:=n=.value v∨(n=.skip∧v=undef)
def OpOk (P:Program) (B0:Nat) (ι:Emb) (H:AH) (w:World) (s:Sem Next) (v:Value) (H':AH):Prop:=
 ∃ n v' w' ι',s.run P w=.ok n w'∧NextIs n v'∧VRel ι' v v'∧Step P B0 ι H w ι' H' w'
theorem OpOk.same (h:HRel P B0 ι H w) {s:Sem Value}{v v':Value} (hr:s.run P w=.ok v' w) (hv:VRel ι v v'):OpOk P B0 ι H w (do pure (Next.value (←s))) v H:=
 ⟨.value v',v',w,ι,by simp [hr],.inl rfl,hv,Step.refl h⟩
theorem OpOk.val {s:Sem Value}{v v':Value}{w':World}{ι':Emb} (hr:s.run P w=.ok v' w') (hv:VRel ι' v v') (hs:Step P B0 ι H w ι' H' w'):OpOk P B0 ι H w (do pure (Next.value (←s))) v H':=
 ⟨.value v',v',w',ι',by simp [hr],.inl rfl,hv,hs⟩
theorem OpOk.unit {s:Sem Unit}{w':World} (hr:s.run P w=.ok () w') (hs:Step P B0 ι H w ι H' w'):OpOk P B0 ι H w (do s;pure Next.skip) undef H':=
 ⟨.skip,undef,w',ι,by simp [hr],.inr ⟨rfl,rfl⟩,.undef,hs⟩
theorem map_some {α β:Type}{o:Option α}{f:α→β}{y:β} (h:o.map f=some y):∃ x,o=some x∧f x=y:=by
 cases o with
 | none=>cases h
 | some x=>exact ⟨x,rfl,by simpa using h⟩
theorem ptr_new {ι:Emb}{b:Nat}{l:ILoc}:VRel (ι.ext b l) (.pointer (some ⟨b,0,none⟩)) (.pointer (some ⟨l.blk,l.base,none⟩)):=by
 have:=VRel.ptr (off:=0) (Emb.ext_same ι b l)
 simpa using this
theorem aop_ok (V:Env) (hE:TOk V.E V.P) {a:Act} (hT:TRel ι T a.tmps) (hG:GOk ι V.nG) (h:HRel V.P B0 ι H w) {o:Oper}{v:Value} (ha:aop V T H o.op=some (v,H')):OpOk V.P B0 ι H w (execOp a.eval o) v H':=by
 unfold aop at ha
 unfold execOp
 split at ha
 ·
  rename_i x ho
  obtain ⟨u,h1,h2⟩:=map_some ha
  cases h2
  rw [ho]
  exact ⟨_,_,w,ι,rfl,.inl rfl,oval_ok hT hG h1,Step.refl h⟩
 ·rename_i x ho
  obtain ⟨u,h1,h2⟩:=map_some ha
  cases h2
  rw [ho]
  exact ⟨_,_,w,ι,rfl,.inl rfl,oval_ok hT hG h1,Step.refl h⟩
 ·
  rename_i c x y ho
  split at ha
  ·rename_i t hc
   obtain ⟨u,h1,h2⟩:=map_some ha
   cases h2
   rw [ho]
   have hc':a.eval c=.bool t:=(oval_ok hT hG hc).plain_eq rfl
   refine ⟨.value (a.eval (if t then x else y)),_,w,ι,?_,.inl rfl,oval_ok hT hG h1,Step.refl h⟩
   cases t<;>simp [asBool,hc']
  ·cases ha
 ·
  rename_i t ho
  split at ha
  ·rename_i ti hti
   cases ha
   obtain ⟨i,hTi⟩:=hE.get hti
   have hst:=h.newRow t t (LRel.of_plain (ι:=ι) hTi.zplain)
   rw [ho]
   refine OpOk.val (v':=.pointer (some ⟨w.heap.size,0,none⟩)) ?_ ptr_new hst
   simp [Instr.alloc,run_zeroValue hTi,newVar,newRow]
  ·cases ha
 ·
  rename_i t x ho
  split at ha
  ·rename_i u hu
   cases ha
   have hv:=oval_ok hT hG hu
   have hst:=h.newRow t t hv.cells
   rw [ho]
   refine OpOk.val (v':=.pointer (some ⟨w.heap.size,0,none⟩)) ?_ ptr_new hst
   simp [Instr.box,newVar,newRow]
  ·cases ha
 ·
  rename_i t ps ho
  split at ha
  ·rename_i vs hvs
   obtain ⟨u,h1,h2⟩:=map_some ha
   cases h2
   have hp:=oparts_ok hT hG hvs
   rw [ho]
   obtain ⟨v',hr,hv⟩:=aBuild_ok (P:=V.P) (w:=w) (ps':=ps.map fun (i,x)=>(i,a.eval x)) hE (by simpa using hp) h1
   exact OpOk.same h hr hv
  ·cases ha
 ·
  rename_i t n ps ho
  split at ha
  ·rename_i vs hvs
   have hp:=oparts_ok hT hG hvs
   rw [ho]
   obtain ⟨v',w',ι',hr,hv,hs⟩:=aBuildSlice_ok (ps':=ps.map fun (i,x)=>(i,a.eval x)) hE h (by simpa using hp) ha
   exact OpOk.val hr hv hs
  ·cases ha
 ·
  rename_i t x ho
  split at ha
  ·rename_i p hp
   obtain ⟨u,h1,h2⟩:=map_some ha
   cases h2
   rw [ho]
   obtain ⟨v',hr,hv⟩:=aLoad_ok hE h (oval_ok hT hG hp) h1
   exact OpOk.same h hr hv
  ·cases ha
 ·
  rename_i t x y ho
  split at ha
  ·rename_i p u hp hu
   obtain ⟨H1,h1,h2⟩:=map_some ha
   cases h2
   rw [ho]
   obtain ⟨w',hr,hs⟩:=aStore_ok hE h (oval_ok hT hG hp) (oval_ok hT hG hu) h1
   exact OpOk.unit hr hs
  ·cases ha
 ·
  rename_i x ho
  rw [ho]
  split at ha
  ·rename_i p hp
   cases ha
   have hv:=oval_ok hT hG hp
   simp only
   generalize a.eval x=xv at hv ⊢
   cases hv with
   | ptr hb=>exact ⟨_,_,w,ι,rfl,.inl rfl,.ptr hb,Step.refl h⟩
  ·rename_i f b c hp
   cases ha
   have hv:=oval_ok hT hG hp
   simp only
   generalize a.eval x=xv at hv ⊢
   cases hv with
   | func h1 h2 h3 h4=>exact ⟨_,_,w,ι,rfl,.inl rfl,.func h1 h2 h3 h4,Step.refl h⟩
  ·rename_i m hp
   cases ha
   have hv:=oval_ok hT hG hp
   simp only
   generalize a.eval x=xv at hv ⊢
   cases hv with
   | map hb=>exact ⟨_,_,w,ι,rfl,.inl rfl,.map hb,Step.refl h⟩
  ·cases ha
 ·
  rename_i op t x y yt ho
  split at ha
  ·rename_i u u' hx hy
   obtain ⟨r,h1,h2⟩:=map_some ha
   cases h2
   rw [ho]
   obtain ⟨v',hr,hv⟩:=aBin_ok (P:=V.P) (w:=w) hE (oval_ok hT hG hx) (oval_ok hT hG hy) h1
   exact OpOk.same h hr hv
  ·cases ha
 ·
  rename_i op t x ho
  split at ha
  ·rename_i u hx
   obtain ⟨r,h1,h2⟩:=map_some ha
   cases h2
   rw [ho]
   obtain ⟨v',hr,hv⟩:=aPure_ok (P:=V.P) (w:=w) (f:=fun xs=>Op.unary op (xs.getD 0 undef)) (.cons (oval_ok hT hG hx) .nil) h1
   exact OpOk.same h hr hv
  ·cases ha
 ·
  rename_i s d x ho
  split at ha
  ·rename_i u hx
   rw [ho]
   obtain ⟨v',w',ι',hr,hv,hs⟩:=aConvert_ok hE h (oval_ok hT hG hx) ha
   exact OpOk.val hr hv hs
  ·cases ha
 ·
  rename_i t x ho
  split at ha
  ·rename_i u ti hx hti
   obtain ⟨i,hTi⟩:=hE.get hti
   rw [ho]
   split at ha
   ·cases ha
   ·rename_i hni
    cases ha
    refine OpOk.same h (v':=.iface t (a.eval x)) ?_ (.iface (oval_ok hT hG hx))
    cases hd:ti.desc<;>simp [Instr.makeInterface,run_underlying' hTi.u,hd]
    exact absurd hd (hni _)
  ·cases ha
 ·
  rename_i f first cap ho
  split at ha
  ·rename_i u v' hu hv
   cases ha
   rw [ho]
   have h1:=ovals_ok hT hG hu
   have h2:=ovals_ok hT hG hv
   refine OpOk.same h (v':=.func (.func f) (first.map a.eval) (cap.map a.eval)) (by simp [Instr.makeFunc]) ?_
   have e1:LRel ι u.toArray.toList (first.map a.eval).toList:=by simpa using h1
   have e2:LRel ι v'.toArray.toList (cap.map a.eval).toList:=by simpa using h2
   exact .func (LRel.to_array e1).1 (LRel.to_array e2).1 (LRel.to_array e1).2 (LRel.to_array e2).2
  ·cases ha
 ·
  rename_i t ho
  cases ha
  rw [ho]
  refine OpOk.val (v':=.map (some w.heap.size)) (by simp [makeMap_ok]) ?_ h.newMap
  exact .map (Emb.ext_same ι H.next ⟨w.heap.size,0,0,0⟩)
 ·
  rename_i t l c ho
  split at ha
  ·rename_i u u' hl hc
   rw [ho]
   obtain ⟨v',w',ι',hr,hv,hs⟩:=aMakeSlice_ok hE h (oval_ok hT hG hl) (oval_ok hT hG hc) ha
   exact OpOk.val hr hv hs
  ·cases ha
 ·
  rename_i t x lo hi mx ho
  split at ha
  ·rename_i u l hh m hx hl hhi hm
   obtain ⟨r,h1,h2⟩:=map_some ha
   cases h2
   rw [ho]
   obtain ⟨v',hr,hv⟩:=aSlice_ok hE h (oval_ok hT hG hx) (oopt_ok hT hG hl) (oopt_ok hT hG hhi) (oopt_ok hT hG hm) h1
   exact OpOk.same h hr hv
  ·cases ha
 ·
  rename_i s x f ho
  split at ha
  ·rename_i u hx
   obtain ⟨r,h1,h2⟩:=map_some ha
   cases h2
   rw [ho]
   obtain ⟨v',hr,hv⟩:=aField_ok (P:=V.P) (w:=w) hE (oval_ok hT hG hx) h1
   exact OpOk.same h hr hv
  ·cases ha
 ·
  rename_i t x f ho
  split at ha
  ·rename_i u hx
   obtain ⟨r,h1,h2⟩:=map_some ha
   cases h2
   rw [ho]
   obtain ⟨v',hr,hv⟩:=aFieldOf_ok (P:=V.P) (w:=w) hE (oval_ok hT hG hx) h1
   exact OpOk.same h hr hv
  ·cases ha
 ·
  rename_i t x i ho
  split at ha
  ·rename_i u u' hx hi
   obtain ⟨r,h1,h2⟩:=map_some ha
   cases h2
   rw [ho]
   obtain ⟨v',hr,hv⟩:=aIndex_ok (P:=V.P) (w:=w) hE (oval_ok hT hG hx) (oval_ok hT hG hi) h1
   exact OpOk.same h hr hv
  ·cases ha
 ·
  rename_i t x i ho
  split at ha
  ·rename_i u u' hx hi
   obtain ⟨r,h1,h2⟩:=map_some ha
   cases h2
   rw [ho]
   obtain ⟨v',hr,hv⟩:=aIndexOf_ok (P:=V.P) (w:=w) hE (oval_ok hT hG hx) (oval_ok hT hG hi) h1
   exact OpOk.same h hr hv
  ·cases ha
 ·
  rename_i t m k ok ho
  split at ha
  ·rename_i u u' hx hi
   obtain ⟨r,h1,h2⟩:=map_some ha
   cases h2
   rw [ho]
   obtain ⟨v',hr,hv⟩:=aLookup_ok hE h (oval_ok hT hG hx) (oval_ok hT hG hi) h1
   exact OpOk.same h hr hv
  ·cases ha
 ·
  rename_i t m k x ho
  split at ha
  ·rename_i u u' u'' h1 h2 h3
   obtain ⟨H1,h4,h5⟩:=map_some ha
   cases h5
   rw [ho]
   obtain ⟨w',hr,hs⟩:=aMapUpdate_ok hE h (oval_ok hT hG h1) (oval_ok hT hG h2) (oval_ok hT hG h3) h4
   exact OpOk.unit hr hs
  ·cases ha
 ·rename_i t m k x ho
  split at ha
  ·rename_i u u' u'' h1 h2 h3
   obtain ⟨H1,h4,h5⟩:=map_some ha
   cases h5
   rw [ho]
   obtain ⟨w',hr,hs⟩:=aMapUpdate_ok hE h (oval_ok hT hG h1) (oval_ok hT hG h2) (oval_ok hT hG h3) h4
   exact OpOk.unit hr hs
  ·cases ha
 ·
  rename_i x i ho
  split at ha
  ·rename_i u hx
   obtain ⟨r,h1,h2⟩:=map_some ha
   cases h2
   rw [ho]
   obtain ⟨v',hr,hv⟩:=aExtract_ok (P:=V.P) (w:=w) (oval_ok hT hG hx) h1
   exact OpOk.same h hr hv
  ·cases ha
 ·
  rename_i b args ts ho
  split at ha
  ·rename_i vs hvs
   have hl:=ovals_ok hT hG hvs
   rw [ho]
   simp only [resolve]
   have key:∀ consts,OpOk V.P B0 ι H w (builtin b ts o.type consts (args.map a.eval)) v H':=fun consts=>by
    have hargs:(args.map a.eval)=(args.toList.map a.eval).toArray:=by apply Array.ext';simp
    rw [hargs]
    generalize args.toList.map a.eval=vs' at hl
    unfold aBuiltin at ha
    split at ha
    ·
     rename_i t x hts
     obtain ⟨r,h1,h2⟩:=map_some ha
     cases h2
     have hts':ts=#[t]:=by apply Array.ext';simpa using hts
     subst hts'
     cases hl with
     |cons hx ht =>
      cases ht
      obtain ⟨v',hr,hv⟩:=aLen_ok (ty:=o.type) hE h hx h1
      exact OpOk.same h hr hv
    ·
     rename_i t u sl x hts
     have hts':ts=#[t,u]:=by apply Array.ext';simpa using hts
     subst hts'
     cases hl with
     |cons hs ht =>
      cases ht with
      |cons hx ht =>
       cases ht
       split at ha
       ·rename_i e sz by_ zv tu hti htu
        obtain ⟨i,hTi⟩:=hE.get hti
        obtain ⟨j,hTu⟩:=hE.get htu
        have hu:V.P.underlying t=some (.slice e):=hTi.u
        split at ha
        ·cases ha
        ·rename_i hd
         split at ha
         ·rename_i te n hte hn
          obtain ⟨k,hTe⟩:=hE.get hte
          split at ha
          ·rename_i vs1 hsrc
           split at ha
           ·rename_i hone
            obtain ⟨hvl,vs2,hv2,hf⟩:=src_ok h hx hsrc fun k hk=>by rw [hn] at hk;cases hk;exact Nat.le_refl _
            obtain ⟨v',w',ι',hr,hv,hst⟩:=h.append (ty:=o.type) hu hTe hTu.u (fun k e=>hd k e) hs hv2 (fun v hv=>List.all_eq_true.1 hone v hv) hvl (srcLen_ok hx hn w) hf ha
            exact OpOk.val hr hv hst
           ·cases ha
          ·cases ha
         ·cases ha
       ·cases ha
    ·
     rename_i t u d x hts
     have hts':ts=#[t,u]:=by apply Array.ext';simpa using hts
     subst hts'
     cases hl with
     |cons hd ht =>
      cases ht with
      |cons hx ht =>
       cases ht
       obtain ⟨v',w',hr,hv,hst⟩:=aCopy_ok (u:=u) (ty:=o.type) hE h hd hx ha
       exact OpOk.val hr hv hst
    ·
     rename_i t x hts
     obtain ⟨r,h1,h2⟩:=map_some ha
     cases h2
     have hts':ts=#[t]:=by apply Array.ext';simpa using hts
     subst hts'
     cases hl with
     |cons hx ht =>
      cases ht
      obtain ⟨w',hr,hst⟩:=aClear_ok (ty:=o.type) hE h hx h1
      exact OpOk.val hr VRel.undef hst
    ·
     obtain ⟨r,h1,h2⟩:=map_some ha
     cases h2
     obtain ⟨v',hr,hv⟩:=aPure_ok (P:=V.P) (w:=w) (f:=fun xs=>Builtin.max_ #[] 0 xs.toArray) hl h1
     exact OpOk.same h hr hv
    ·
     obtain ⟨r,h1,h2⟩:=map_some ha
     cases h2
     obtain ⟨v',hr,hv⟩:=aPure_ok (P:=V.P) (w:=w) (f:=fun xs=>Builtin.min_ #[] 0 xs.toArray) hl h1
     exact OpOk.same h hr hv
    ·
     rename_i t a0 n c hts
     have hts':ts=#[t]:=by apply Array.ext';simpa using hts
     subst hts'
     cases hl with
     |cons hx ht =>
      cases ht
      split at ha
      ·rename_i e sz by_ zv hti
       obtain ⟨i,hTi⟩:=hE.get hti
       have hu:V.P.underlying t=some (.slice e):=hTi.u
       split at ha
       ·rename_i hc
        cases ha
        cases hx with
        | sliceNil=>exact OpOk.same h (v':=.int .i64 (0:Nat)) (by simp [Builtin.cap_,run_underlying' hu,goInt]) (.int _ _)
        | slice hb hcu hl=>exact OpOk.same h (v':=.int .i64 c) (by simp [Builtin.cap_,run_underlying' hu,goInt]) (.int _ _)
        | sliceUnk=>exact absurd hc (Nat.lt_irrefl _)
        | sliceEnd=>exact absurd hc (Nat.lt_irrefl _)
        | sliceZ a=>exact OpOk.same h (v':=.int .i64 (0:Nat)) (by simp [Builtin.cap_,run_underlying' hu,goInt]) (.int _ _)
       ·cases ha
      ·cases ha
    ·cases ha
   exact key _
  ·cases ha
 ·cases ha
end Go.Ev
namespace Go.Ev
open Go.RowKit
inductive Tgt where
 | fn (f:FuncId)
 | yld (b:Nat)
abbrev CallFn:=Tgt→List Value→AH→Option (Value×AH)
def Wd (ro:Option Nat):Fence:={ Fence.wide with round:=ro }
theorem Wd.some (l:Nat):Fence.wide.inRound l=Wd (Option.some l):=rfl
theorem Wd.calls {ro:Option Nat}{n:Nat}{P:Program}{f:FuncId}{args:Array Value}{w:World}{R:Ending→World→Prop} (h:Calls P f args w R):CallsIn (Wd ro) n P f args w R:=
 (callsIn_wide (n:=n)).2 h
theorem Wd.round {ro:Option Nat}{n:Nat}{P:Program}{l:Nat}{f:FuncId}{tmps:Array Value}{x y:Code}{w:World}{R:Ending→World→Prop} (h:RoundIn Fence.wide n P l f tmps x y w R):RoundIn (Wd ro) n P l f tmps x y w R:=h
def FOk (F:FuncId→Option Func) (P:Program):Prop:=∀ f fn,F f=some fn→P.funcs[f]?=some fn∧fn.body.isSome=true∧(fn.name == "runtime.NumGoroutine")=false
structure CallOk (V:Env) (call:CallFn):Prop where
 fn:∀ f vs H v H',call (.fn f) vs H=some (v,H')→∀ B0 ι w vs',GOk ι V.nG→HRel V.P B0 ι H w→LRel ι vs vs' →
  Calls V.P f vs'.toArray w fun e w'=>∃ v' ι',e=.returned v'∧VRel ι' v v'∧Step V.P B0 ι H w ι' H' w'
 yld:∀ b vs H v H',call (.yld b) vs H=some (v,H')→∀ B0 ι w vs' l,GOk ι V.nG→HRel V.P B0 ι H w→LRel ι vs vs'→ι b=some l →
  ∃ f tmps x y,(Instr.yield l.blk vs'.toArray).run V.P w=.ok (.round l.blk f tmps x y) w ∧
    RoundIn Fence.wide 0 V.P l.blk f tmps x y w fun e w'=>∃ v' ι',e=.returned v'∧VRel ι' v v'∧Step V.P B0 ι H w ι' H' w'
def evOp (V:Env) (call:CallFn) (T:PTree Value) (H:AH) (o:Op):Option (Value×AH) :=
 match o with
 |.call ⟨.value f,args,_⟩=>match oval V.nG T f,ovals V.nG T args.toList with
  |some (.func (.func g) first cap),some vs=>match V.F g with
   | some _=>call (.fn g) (first.toList++vs++cap.toList) H
   | none=>none
  | some (.func (.yield b) _ _),some vs=>call (.yld b) vs H
  | _,_=>none
 | o=>aop V T H o
def aYielded (all:Array Oper) (T:PTree Value) (j:Nat):Option Bool :=
 match (all[j]?).bind (·.dst) with
 |some d=>match T.get d with
  | some (.bool b)=>some b
  | _=>none
 | none=>none
def aWanted (all:Array Oper) (T:PTree Value) (o:Oper):Bool:=
 match o.guard with
 | none=>true
 | some (j,want)=>aYielded all T j==some want
def aSeen (all:Array Oper) (T:PTree Value) (o:Oper):Bool :=
 match o.guard with
 | none=>true
 |some (j,_)=>match (all[j]?).bind (·.dst) with
  | some d=>(T.get d).isSome
  | none=>true
def put (n:Nat) (T:PTree Value) (d:Option Tmp) (v:Value):Option (PTree Value):=
 match d with
 | none=>some T
 | some d=>if d<n then some (T.set d v) else none
def evOps (V:Env) (call:CallFn) (n:Nat) (all:Array Oper):List Oper→PTree Value→AH→Option (PTree Value×AH)
 | [],T,H=>some (T,H)
 |o :: os,T,H =>
  if aSeen all T o then
    if aWanted all T o then
     match evOp V call T H o.op with
     |some (v,H')=>match put n T o.dst v with
      | some T'=>evOps V call n all os T' H'
      | none=>none
     | none=>none
    else match put n T o.dst undef with
     | some T'=>evOps V call n all os T' H
     | none=>none
  else none
variable {B0:Nat}{ι:Emb}{H H':AH}{w:World}{T T':PTree Value}{V:Env}{call:CallFn}
theorem aYielded_ok {all:Array Oper}{tmps:Array Value} (hT:TRel ι T tmps) (j:Nat) (hs:∀ d,(all[j]?).bind (·.dst)=some d→(T.get d).isSome=true):yielded all tmps j=aYielded all T j:=by
 unfold yielded aYielded
 cases hd:(all[j]?).bind (·.dst) with
 | none=>rfl
 |some d =>
  have hp:=hs d hd
  simp only [Option.bind_some]
  cases ht:T.get d with
  | none=>rw [ht] at hp;cases hp
  |some v =>
   have h:=hT d v ht
   cases hx:tmps[d]? with
   |none =>
    have:tmps.getD d undef=undef:=by simp [Array.getD_eq_getD_getElem?,hx]
    rw [this] at h
    unfold undef at h
    cases h;rfl
   |some x =>
    have:tmps.getD d undef=x:=by simp [Array.getD_eq_getD_getElem?,hx]
    rw [this] at h
    cases h<;>rfl
theorem aWanted_ok {all:Array Oper}{tmps:Array Value} (hT:TRel ι T tmps) (o:Oper) (hs:aSeen all T o=true):Region.wanted o (yielded all tmps)=aWanted all T o:=by
 unfold Region.wanted aWanted
 unfold aSeen at hs
 cases hg:o.guard with
 | none=>rfl
 | some g=>
  obtain ⟨j,b⟩:=g
  rw [hg] at hs
  simp only at hs ⊢
  rw [aYielded_ok hT j fun d hd=>by rw [hd] at hs;exact hs]
theorem put_ok {n:Nat}{d:Option Tmp}{v v':Value}{a:Act} (hT:TRel ι T a.tmps) (hn:a.tmps.size=n) (hv:VRel ι v v') (hp:put n T d v=some T'):TRel ι T' (a.put d v').tmps∧(a.put d v').tmps.size=n∧(a.put d v').defers=a.defers:=by
 unfold put at hp
 cases d with
 | none=>cases hp;exact ⟨hT,hn,rfl⟩
 |some d =>
  simp only at hp
  split at hp
  ·rename_i hd
   cases hp
   refine ⟨fun t u hu=>?_,by simp [Act.put,hn],rfl⟩
   simp only [PTree.get_set] at hu
   simp only [Act.put]
   by_cases e:t=d
   ·subst e
    have hlt:t<a.tmps.size:=by rw [hn];exact hd
    rw [if_pos rfl] at hu
    cases hu
    simp [hlt,hv]
   ·rw [if_neg e] at hu
    have:=hT t u hu
    simpa [Array.getD_eq_getD_getElem?,Array.getElem?_setIfInBounds,Ne.symm e] using this
  ·cases hp
theorem evOp_wp (hE:TOk V.E V.P) (hF:FOk V.F V.P) (hc:CallOk V call) {ro:Option Nat}{a:Act} (hT:TRel ι T a.tmps) (hG:GOk ι V.nG) (h:HRel V.P B0 ι H w) {o:Oper}{v:Value} (ha:evOp V call T H o.op=some (v,H'))
 {K:Act→World→Prop}{Q:Exit→Act→World→Prop} (hK:∀ v' w' ι',VRel ι' v v'→Step V.P B0 ι H w ι' H' w'→K (a.put o.dst v') w'):o.wpIn (Wd ro) 0 V.P a w K Q:=by
 have hnd:∀ c,o.op≠.defer c:=fun c e=>by rw [e] at ha;simp [evOp,aop] at ha
 unfold Oper.wpIn
 refine ⟨fun _ _=>trivial,?_⟩
 rw [Oper.semAt_eq _ _ _ hnd]
 unfold evOp at ha
 split at ha
 ·rename_i f args ts ho
  split at ha
  ·rename_i g first cap vs hf hvs
   split at ha
   ·rename_i fn hfn
    obtain ⟨h1,h2,h3⟩:=hF g fn hfn
    have hfv:=oval_ok hT hG hf
    have hl:=ovals_ok hT hG hvs
    generalize hfe:a.eval f=fv at hfv
    cases hfv with
    |func q1 q2 q3 q4 =>
     rename_i first' cap'
     have hL:=((LRel.of_array q1 q3).append hl).append (LRel.of_array q2 q4)
     have hcall:=hc.fn _ _ _ _ _ ha B0 ι w _ hG h hL
     have hrun:(execOp a.eval o).run V.P w=.ok (.enter g (first'.toList++args.toList.map a.eval++cap'.toList).toArray) w:=by
      have hb:fn.body≠none:=fun hb=>by rw [hb] at h2;cases h2
      have hnm:fn.name ≠ "runtime.NumGoroutine" := by simpa using h3
      have harr:first'++args.map a.eval++cap'=(first'.toList++args.toList.map a.eval++cap'.toList).toArray:=by apply Array.ext';simp
      rw [←harr]
      unfold execOp
      rw [ho]
      simp only [resolve,hfe,Deferred.ofValue]
      simp [invoke,callFunc,h1,hb,hnm]
     rw [hrun]
     simp only [Oper.uponIn]
     refine ⟨fun e=>(nomatch e),?_⟩
     refine (Wd.calls hcall).mono fun e w' ⟨v',ι',he,hv,hs⟩=>?_
     subst he
     exact hK v' w' ι' hv hs
   ·cases ha
  ·rename_i b first cap vs hf hvs
   have hfv:=oval_ok hT hG hf
   have hl:=ovals_ok hT hG hvs
   generalize hfe:a.eval f=fv at hfv
   cases hfv with
   |yield hb =>
    rename_i l
    obtain ⟨f',tmps,x,y,hrun,hround⟩:=hc.yld _ _ _ _ _ ha B0 ι w _ l hG h hl hb
    have hrun':(execOp a.eval o).run V.P w=.ok (.round l.blk f' tmps x y) w:=by
     unfold execOp
     rw [ho]
     simp only [resolve,hfe,Deferred.ofValue]
     have harr:args.map a.eval=(args.toList.map a.eval).toArray:=by apply Array.ext';simp
     simp [invoke,callFunc]
     rw [harr];simpa using hrun
    rw [hrun']
    simp only [Oper.uponIn]
    refine ⟨fun e=>(nomatch e),?_⟩
    refine (Wd.round hround).mono fun e w' ⟨v',ι',he,hv,hs⟩=>?_
    subst he
    exact hK v' w' ι' hv hs
  ·cases ha
 ·obtain ⟨n,v',w',ι',hr,hn,hv,hs⟩:=aop_ok V hE hT hG h ha
  rw [hr]
  rcases hn with rfl|⟨rfl,rfl⟩
  ·exact hK v' w' ι' hv hs
  ·exact hK undef w' ι' hv hs
theorem evOps_wp (hE:TOk V.E V.P) (hF:FOk V.F V.P) (hc:CallOk V call) {ro:Option Nat}{n:Nat}{ds:List Deferred}{all:Array Oper}{Q:Exit→Act→World→Prop}:∀ (l:List Oper) (k:Nat),(∀ j,j<l.length→all[k+j]?=l[j]?)→∀ {ι:Emb}{T:PTree Value}{H:AH}{a:Act}{w:World},
 TRel ι T a.tmps→a.tmps.size=n→a.defers=ds→GOk ι V.nG→HRel V.P B0 ι H w→∀ {T':PTree Value}{H':AH},evOps V call n all l T H=some (T',H') →
 (∀ ι' a' w',TRel ι' T' a'.tmps→a'.tmps.size=n→a'.defers=ds→Step V.P B0 ι H w ι' H' w'→Q .normal a' w')→wpOpsIn (Wd ro) 0 V.P all Q (List.range' k l.length) a w
 |[],k,hk,ι,T,H,a,w,hT,hn,hd,hG,h,T',H',he,hQ=>by
  simp only [evOps] at he;cases he
  exact hQ ι a w hT hn hd (Step.refl h)
 |o :: l,k,hk,ι,T,H,a,w,hT,hn,hd,hG,h,T',H',he,hQ=>by
  simp only [evOps] at he
  have ho:all[k]?=some o:=by simpa using hk 0 (by simp)
  have hk':∀ j,j<l.length→all[k+1+j]?=l[j]?:=fun j hj=>by
    have:=hk (j+1) (by simpa using hj)
    rw [show k+1+j=k+(j+1) by omega];simpa using this
  rw [List.length_cons,List.range'_succ,wpOpsIn_cons]
  unfold wpOpIn
  simp only [ho]
  split at he
  case isFalse=>cases he
  rename_i hseen
  rw [aWanted_ok hT o hseen]
  by_cases hw:aWanted all T o=true
  ·rw [if_pos hw] at he ⊢
   split at he
   ·rename_i v H1 hev
    split at he
    ·rename_i T1 hp
     refine evOp_wp hE hF hc hT hG h hev fun v' w' ι' hv hs=>?_
     obtain ⟨k1,k2,k3⟩:=put_ok (hT.mono hs.le) hn hv hp
     exact evOps_wp hE hF hc l (k+1) hk' k1 k2 (k3.trans hd) (hG.mono hs.le) hs.rel he fun ι2 a2 w2 g1 g2 g3 g4=>hQ ι2 a2 w2 g1 g2 g3 (hs.trans g4)
    ·cases he
   ·cases he
  ·rw [if_neg hw] at he ⊢
   split at he
   ·rename_i T1 hp
    obtain ⟨k1,k2,k3⟩:=put_ok hT hn VRel.undef hp
    exact ⟨fun _ _=>trivial,evOps_wp hE hF hc l (k+1) hk' k1 k2 (k3.trans hd) hG h he hQ⟩
   ·cases he
end Go.Ev
namespace Go.Ev
open Go.RowKit
variable {B0:Nat}{ι:Emb}{H H':AH}{w:World}{T T':PTree Value}{V:Env}{call:CallFn}{P:Program}{E:TypeId→Option TI}
def aCreate (V:Env) (T:PTree Value) (o:Op):Option ((Nat→Value)×AObj) :=
 match o with
 |.alloc t=>match V.E t with
  | some ti=>some (fun b=>.pointer (some ⟨b,0,none⟩),.row t ti.zv.cells.toList .exact 0 0)
  | none=>none
 |.box t x=>match oval V.nG T x with
  | some v=>some (fun b=>.pointer (some ⟨b,0,none⟩),.row t v.cells.toList .exact 0 0)
  | none=>none
 |.buildSlice t n ps=>match oparts V.nG T ps.toList with
  |some vs=>match V.E t with
   |some ⟨.slice e,_,_,_⟩=>match V.E e with
    |some te=>if 16777216<n*te.size∨unk≤n then none else
     match afill (fun i=>some (i*te.size,te.size)) (azeros te.zv.cells.toList n) vs with
     | some cs=>some (fun b=>.slice (some ⟨b,0,none⟩) n n,.row e cs .exact 0 0)
     | none=>none
    | none=>none
   | _=>none
  | none=>none
 |.makeSlice t l c=>match oval V.nG T l,oval V.nG T c with
  |some (.int _ l),some (.int _ c)=>match V.E t with
   |some ⟨.slice e,_,_,_⟩=>match V.E e with
    |some te=>if 0≤l∧l≤c∧c.toNat*te.bytes≤140737488355328∧c<4611686018427387904 then
     some (fun b=>.slice (some ⟨b,0,none⟩) l.toNat c.toNat,.row e (azeros te.zv.cells.toList c.toNat) .exact 0 0)
     else none
    | none=>none
   | _=>none
  | _,_=>none
 | .makeMap _ none=>some (fun b=>.map (some b),.map [])
 | _=>none
def AObj.lone:AObj→Bool
 | .row _ _ .exact g v=>g==0&&v==0
 | .map _=>true
 | _=>false
structure Makes (P:Program) (B0:Nat) (ι:Emb) (w:World) (s:Sem Next) (mk:Nat→Value) (ob:AObj) (v':Value) (obj:Obj) (l:ILoc):Prop where
 run:s.run P w=.ok (.value v') (w.alloc obj)
 blk:l.blk=w.heap.size
 ok:∀ b,ι b=none→B0≤w.heap.size→VRel (ι.ext b l) (mk b) v'∧OOk P B0 (ι.ext b l) (w.alloc obj) l ob
theorem row_new (et t:TypeId) {vs vs':List Value} (hv:LRel ι vs vs') {b:Nat} (hb:ι b=none) (hB:B0≤w.heap.size) :
  OOk P B0 (ι.ext b ⟨w.heap.size,0,vs.length,P.cellsOf et⟩) (w.alloc (.cells vs'.toArray t)) ⟨w.heap.size,0,vs.length,P.cellsOf et⟩ (.row et vs .exact 0 0):=
 ⟨⟨vs'.toArray,t,(0,0),heap_new w _,by simp [hv.length],fun i x hx=>by
  obtain ⟨y,hy,hr⟩:=hv.get hx
  exact ⟨y,by simpa using hy,hr.mono (Emb.le_ext hb)⟩,fun _ i _=>by simp⟩,by simp,rfl,fun _=>hB,fun e=>(nomatch e),fun _=>⟨rfl,rfl⟩⟩
theorem aCreate_ok (hE:TOk V.E V.P) {a:Act} (hT:TRel ι T a.tmps) (hG:GOk ι V.nG) {o:Oper}{mk:Nat→Value}{ob:AObj} (ha:aCreate V T o.op=some (mk,ob)) :
 ob.lone=true∧∃ v' obj l,Makes V.P B0 ι w (execOp a.eval o) mk ob v' obj l:=by
 unfold aCreate at ha
 split at ha
 ·rename_i t ho
  split at ha
  ·rename_i ti hti
   cases ha
   obtain ⟨i,hTi⟩:=hE.get hti
   refine ⟨rfl,.pointer (some ⟨w.heap.size,0,none⟩),.cells ti.zv.cells.toList.toArray t,⟨w.heap.size,0,ti.zv.cells.toList.length,V.P.cellsOf t⟩,?_,rfl,fun b hb hB=>⟨ptr_new,row_new t t (LRel.of_plain hTi.zplain) hb hB⟩⟩
   unfold execOp
   rw [ho]
   simp [Instr.alloc,run_zeroValue hTi,newVar,newRow]
  ·cases ha
 ·rename_i t x ho
  split at ha
  ·rename_i u hu
   cases ha
   have hv:=oval_ok hT hG hu
   refine ⟨rfl,.pointer (some ⟨w.heap.size,0,none⟩),.cells (a.eval x).cells.toList.toArray t,⟨w.heap.size,0,u.cells.toList.length,V.P.cellsOf t⟩,?_,rfl,fun b hb hB=>⟨ptr_new,row_new t t hv.cells hb hB⟩⟩
   unfold execOp
   rw [ho]
   simp [Instr.box,newVar,newRow]
  ·cases ha
 ·rename_i t len ps ho
  split at ha
  ·rename_i vs hvs
   have hp:=oparts_ok hT hG hvs
   split at ha
   ·rename_i e sz by_ zv hti
    obtain ⟨i,hTt⟩:=hE.get hti
    have hu:V.P.underlying t=some (.slice e):=hTt.u
    split at ha
    ·rename_i te hte
     obtain ⟨je,hTe⟩:=hE.get hte
     split at ha
     ·cases ha
     ·rename_i hn
      rw [not_or] at hn
      split at ha
      ·rename_i cs hf
       cases ha
       have hz0:LRel ι (azeros te.zv.cells.toList len) (Builtin.zeroCells te.zv.cells len).toList:=by
        rw [azeros_eq];exact LRel.of_plain (azeros_plain hTe.zplain len)
       have hp':PRel ι vs (ps.map fun (i,x)=>(i,a.eval x)).toList:=by simpa using hp
       obtain ⟨r',h1,h2⟩:=afill_ok (ι:=ι) _ hp' hz0 hf
       refine ⟨rfl,.slice (some ⟨w.heap.size,0,none⟩) len len,.cells r'.toList.toArray e,⟨w.heap.size,0,cs.length,V.P.cellsOf e⟩,?_,rfl,fun b hb hB=>⟨?_,row_new e e h2 hb hB⟩⟩
       ·have hlim:¬ (len*te.size>2 ^ 24):=by omega
        have hcells:∀ z:Array Value,(len*te.size≠0→z=te.zv.cells)→(Array.range (len*te.size)).map (z[· % z.size]!)=Builtin.zeroCells te.zv.cells len:=fun z hz=>by
         unfold Builtin.zeroCells
         rw [hTe.zsize]
         by_cases h0:len*te.size=0
         ·rw [h0];simp
         ·rw [hz h0,hTe.zsize]
        unfold execOp
        rw [ho]
        simp only []
        unfold Instr.buildSlice
        simp only [Sem.run_bind,run_underlying' hu,Result.andThen_ok,run_sizeOf hTe]
        rw [if_neg hlim]
        by_cases h0:len*te.size=0
        ·rw [if_pos h0]
         simp only [Sem.run_pure,Sem.run_bind,Result.andThen_ok]
         rw [hcells #[] (fun e=>absurd h0 e),h1]
         simp [newRow]
        ·rw [if_neg h0]
         simp only [Sem.run_pure,Sem.run_bind,Result.andThen_ok,run_zeroValue hTe]
         rw [hcells te.zv.cells (fun _=>rfl),h1]
         simp [newRow]
       ·have:=VRel.slice (len:=len) (cap:=len) (off:=0) (Emb.ext_same ι b ⟨w.heap.size,0,cs.length,V.P.cellsOf e⟩) (by omega) (Nat.le_refl _)
        simpa using this
      ·cases ha
    ·cases ha
   ·cases ha
  ·cases ha
 ·rename_i t lo co ho
  split at ha
  ·rename_i k1 l k2 c hl hc
   have el:a.eval lo=.int k1 l:=(oval_ok hT hG hl).plain_eq rfl
   have ec:a.eval co=.int k2 c:=(oval_ok hT hG hc).plain_eq rfl
   split at ha
   ·rename_i e sz by_ zv hti
    obtain ⟨i,hTt⟩:=hE.get hti
    have hu:V.P.underlying t=some (.slice e):=hTt.u
    split at ha
    ·rename_i te hte
     obtain ⟨je,hTe⟩:=hE.get hte
     split at ha
     ·rename_i hb
      obtain ⟨h0,h1,h2,h3⟩:=hb
      cases ha
      refine ⟨rfl,.slice (some ⟨w.heap.size,0,none⟩) l.toNat c.toNat,.cells (azeros te.zv.cells.toList c.toNat).toArray e,⟨w.heap.size,0,(azeros te.zv.cells.toList c.toNat).length,V.P.cellsOf e⟩,?_,rfl,fun b hb hB=>⟨?_,row_new e e (LRel.of_plain (azeros_plain hTe.zplain c.toNat)) hb hB⟩⟩
      ·have wl:IntKind.i64.wrap l=l:=wrap_i64 h0 (by omega)
       have wc:IntKind.i64.wrap c=c:=wrap_i64 (by omega) (by omega)
       have hbig:¬ ((je.bytes:Int)*c>2 ^ 48):=by
        rw [hTe.bytes]
        have:((c.toNat*te.bytes:Nat):Int)≤140737488355328:=Int.ofNat_le.2 h2
        have e1:((c.toNat*te.bytes:Nat):Int)=(te.bytes:Int)*c:=by
         rw [Int.natCast_mul,Int.toNat_of_nonneg (by omega),Int.mul_comm]
        omega
       have hz:azeros te.zv.cells.toList c.toNat=(Builtin.zeroCells te.zv.cells c.toNat).toList:=(azeros_eq _ _).symm
       have hcells:∀ z:Array Value,(c.toNat*te.size≠0→z=te.zv.cells)→(Array.range (c.toNat*te.size)).map (z[· % z.size]!)=Builtin.zeroCells te.zv.cells c.toNat:=fun z hz=>by
        unfold Builtin.zeroCells
        rw [hTe.zsize]
        by_cases h0:c.toNat*te.size=0
        ·rw [h0];simp
        ·rw [hz h0,hTe.zsize]
       unfold execOp
       rw [ho]
       simp only [el,ec]
       unfold Instr.makeSlice
       simp only [Sem.run_bind,run_underlying' hu,Result.andThen_ok,asInt,asIntOf,Sem.run_pure,typeInfo,run_program,hTe.info,wl,wc]
       have h4:¬ (c<0):=by omega
       have h5:¬ (l<0):=by omega
       have h6:¬ (l>c):=by omega
       simp only [h4,h5,h6,hbig,decide_false,Bool.or_false,Bool.false_eq_true,if_false]
       simp only [Sem.run_bind,run_askRoom,Result.andThen_ok,run_sizeOf hTe]
       by_cases h0:c.toNat*te.size=0
       ·rw [if_pos h0]
        simp only [Sem.run_pure,Sem.run_bind,Result.andThen_ok]
        rw [hcells #[] (fun e=>absurd h0 e)]
        simp [newRow,hz]
       ·rw [if_neg h0]
        simp only [Sem.run_pure,Sem.run_bind,Result.andThen_ok,run_zeroValue hTe]
        rw [hcells te.zv.cells (fun _=>rfl)]
        simp [newRow,hz]
      ·have:=VRel.slice (len:=l.toNat) (cap:=c.toNat) (off:=0) (Emb.ext_same ι b ⟨w.heap.size,0,(azeros te.zv.cells.toList c.toNat).length,V.P.cellsOf e⟩) (by unfold unk;omega) (by omega)
       simpa using this
     ·cases ha
    ·cases ha
   ·cases ha
  ·cases ha
 ·rename_i t ho
  cases ha
  refine ⟨rfl,.map (some w.heap.size),.map #[] 0,⟨w.heap.size,0,0,0⟩,?_,rfl,fun b hb hB=>⟨.map (Emb.ext_same ι b ⟨w.heap.size,0,0,0⟩),⟨⟨#[],0,heap_new w _,rfl,fun i k v hx=>by simp at hx⟩,hB⟩⟩⟩
  unfold execOp
  rw [ho]
  simp [makeMap_ok]
 ·cases ha
theorem HRel.adopt (h:HRel P B0 ι H w) {b:Nat} (hb:b<H.next) (hn:ι b=none) {ob:AObj} (ho:H.obj b=ob) (hl1:ob.lone=true) {obj:Obj}{l:ILoc} (hl:l.blk=w.heap.size) (hok:OOk P B0 (ι.ext b l) (w.alloc obj) l ob) :
  HRel P B0 (ι.ext b l) H (w.alloc obj):=by
 have hle:ι.le (ι.ext b l):=Emb.le_ext hn
 have key:∀ c l',ι.ext b l c=some l'→(c=b∧l'=l)∨(c≠b∧ι c=some l'):=fun c l' hc=>by
  unfold Emb.ext at hc
  by_cases e:c=b
  ·rw [if_pos e] at hc;cases hc;exact .inl ⟨e,rfl⟩
  ·rw [if_neg e] at hc;exact .inr ⟨e,hc⟩
 refine ⟨by have:=h.base;simp;omega,fun c l' hc=>?_,fun c l' hc ha=>?_,fun c c' lc lc' hne hc hc' ha ha' he=>?_,fun c l' et cells st g v hc hoc=>?_⟩
 ·rcases key c l' hc with ⟨rfl,rfl⟩|⟨_,h1⟩
  ·exact hb
  ·exact h.dom c l' h1
 ·rcases key c l' hc with ⟨rfl,rfl⟩|⟨_,h1⟩
  ·rw [ho];exact hok
  ·have hO:=h.obj c l' h1 ha
   exact hO.carry hle (Below.heap_alloc _ _ _ (hO.lt ha))
 ·rcases key c lc hc with ⟨rfl,rfl⟩|⟨_,h1⟩
  ·rcases key c' lc' hc' with ⟨rfl,rfl⟩|⟨_,h1'⟩
   ·exact absurd rfl hne
   ·have:=(h.obj c' lc' h1' ha').lt ha';omega
  ·rcases key c' lc' hc' with ⟨rfl,rfl⟩|⟨_,h1'⟩
   ·have:=(h.obj c lc h1 ha).lt ha;omega
   ·exact h.sep c c' lc lc' hne h1 h1' ha ha' he
 ·rcases key c l' hc with ⟨rfl,rfl⟩|⟨_,h1⟩
  ·rw [ho] at hoc
   subst hoc
   cases st<;>simp [AObj.lone] at hl1
   obtain ⟨rfl,rfl⟩:=hl1
   exact ⟨by omega,Nat.zero_le _⟩
  ·exact h.grp c l' et cells st g v h1 hoc
end Go.Ev
namespace Go.Ev
open Go.RowKit
inductive Ex where
 | normal
 | exit (id:Nat)
 | ret
def loopN (step:PTree Value→AH→Option (Ex×PTree Value×AH)):Nat→PTree Value→AH→Option (Ex×PTree Value×AH)
 | 0,_,_=>none
 |k+1,T,H=>match step T H with
  | some (.normal,T',H')=>loopN step k T' H'
  | r=>r
abbrev DrawFn:=CallFn→Nat→Array Oper→PTree Value→AH→Option (PTree Value×AH)
def Ex.jump:Ex→Option Code
 | .normal=>none
 | .exit id=>some (.exit id)
 | .ret=>some .ret
def ofJump:Option Code→Option Ex
 | none=>some .normal
 | some .ret=>some .ret
 | some (.exit id)=>some (.exit id)
 | _=>none
def setPs (n:Nat):List Tmp→List Value→PTree Value→Option (PTree Value)
 | [],[],T=>some T
 | t::ts,v::vs,T=>if t<n then setPs n ts vs (T.set t v) else none
 | _,_,_=>none
def roAlive (H:AH):Option Nat→Bool
 | none=>true
 |some b=>match H.obj b with
  | .loop ..=>true
  | _=>false
def loopEnd (b:Nat) (T:PTree Value) (H:AH):Option (Ex×PTree Value×AH):=
 match H.obj b with
 | .loop st pend _ _ _ _ _=>if st=.busy then none else (ofJump pend).map fun e=>(e,T,H.put b .dead)
 | _=>none
def evC (V:Env) (draw:DrawFn) (call:CallFn) (ro:Option Nat) (n lf:Nat):Code→PTree Value→AH→Option (Ex×PTree Value×AH)
 | .skip,T,H=>some (.normal,T,H)
 | .region _ ops false,T,H=>(evOps V call n ops ops.toList T H).map fun (T',H')=>(.normal,T',H')
 | .region _ ops true,T,H=>(draw call n ops T H).map fun (T',H')=>(.normal,T',H')
 |.seq a b,T,H=>match evC V draw call ro n lf a T H with
  | some (.normal,T',H')=>evC V draw call ro n lf b T' H'
  | r=>r
 |.cond c a b,T,H=>match oval V.nG T c with
  | some (.bool true)=>evC V draw call ro n lf a T H
  | some (.bool false)=>evC V draw call ro n lf b T H
  | _=>none
 |.block id c,T,H=>match evC V draw call ro n lf c T H with
  | some (.exit id',T',H')=>if id'=id then some (.normal,T',H') else some (.exit id',T',H')
  | r=>r
 | .loop c,T,H=>loopN (fun T H=>evC V draw call ro n lf c T H) lf T H
 | .exit id,T,H=>some (.exit id,T,H)
 | .label _,T,H=>some (.normal,T,H)
 | .ret,T,H=>some (.ret,T,H)
 |.rangeFunc f ps x y,T,H =>
  match roAlive H ro,oval V.nG T f with
  |true,some (.func (.func g) first cap)=>match V.F g with
   |some _=>match call (.fn g) (first.toList++[.func (.yield H.next) #[] #[]]++cap.toList) (H.alloc (.loop .ready none n T ps x y)) with
    | some (_,H')=>loopEnd H.next T H'
    | none=>none
   | none=>none
  | _,_=>none
 | _,_,_=>none
def initT:List Value→Nat→PTree Value→PTree Value
 | [],_,T=>T
 | v::vs,i,T=>initT vs (i+1) (T.set i v)
def aResults (V:Env) (T:PTree Value) (H:AH):List ResultVar→Option (List Value)
 | []=>some []
 |.tmp t::rs=>match T.get t,aResults V T H rs with
  | some v,some vs=>some (v::vs)
  | _,_=>none
 |.cell a t::rs=>match T.get a with
  |some p=>match aLoad V.E H t p,aResults V T H rs with
   | some v,some vs=>some (v::vs)
   | _,_=>none
  | none=>none
def resOf (vs:List Value):Value:=
 match vs with
 | [v]=>v
 | vs=>.tuple vs.toArray
variable {B0:Nat}{ι:Emb}{H H':AH}{w:World}{T T':PTree Value}{V:Env}{call:CallFn}
def DrawOk (V:Env) (draw:DrawFn):Prop:=∀ call,CallOk V call→∀ (ro:Option Nat) (n:Nat) (ds:List Deferred) (ops:Array Oper) (id:Nat) (B0:Nat) (ι:Emb) (T:PTree Value) (H:AH) (a:Act) (w:World) (T':PTree Value) (H':AH),
 TRel ι T a.tmps→a.tmps.size=n→a.defers=ds→GOk ι V.nG→HRel V.P B0 ι H w→draw call n ops T H=some (T',H')→∀ Q:Exit→Act→World→Prop,
    (∀ ι' a' w',TRel ι' T' a'.tmps→a'.tmps.size=n→a'.defers=ds→Step V.P B0 ι H w ι' H' w'→Q .normal a' w')→(Code.region id ops true).wpIn (Wd ro) 0 V.P Q a w
def Ex.to:Ex→Exit
 | .normal=>.normal
 | .exit id=>.exit id
 | .ret=>.ret
def Marks (s0:Nat) (ι:Emb) (H:AH) (w:World) (ds:List Deferred):Prop:=
 ∃ rs:List Nat,rs.Nodup∧ds=rs.map (fun r=>⟨.collected r,#[]⟩)∧∀ r,r∈rs→s0≤r∧w.heap[r]?=some (.deferred (some []))∧∀ b l,ι b=some l→H.alive (H.obj b)=true→l.blk≠r
theorem Marks.nil {s0:Nat}:Marks s0 ι H w []:=⟨[],List.nodup_nil,rfl,fun _ hr=>(nomatch hr)⟩
theorem Step.unheld {P:Program}{ι ι':Emb}{H H':AH}{w w':World} (h:Step P B0 ι H w ι' H' w') {r:Nat}{o:Obj} (hr:w.heap[r]?=some o) (hn:∀ b l,ι b=some l→H.alive (H.obj b)=true→l.blk≠r) :
  w'.heap[r]?=some o∧∀ b l,ι' b=some l→H'.alive (H'.obj b)=true→l.blk≠r:=by
 have hlt:r<w.heap.size:=(Array.getElem?_eq_some_iff.1 hr).1
 refine ⟨(h.frame r hlt hn).trans hr,fun b l hb ha e=>?_⟩
 rcases h.new b l hb with h1|⟨h1,_⟩
 ·exact hn b l h1 (h.old b l h1 ha) e
 ·rcases h.fresh b l hb h1 ha with h2|⟨b0,l0,hb0,ha0,e0⟩
  ·omega
  ·exact hn b0 l0 hb0 ha0 (e0.trans e)
theorem Marks.step {P:Program}{s0:Nat}{ι ι':Emb}{H H':AH}{w w':World}{ds:List Deferred} (hm:Marks s0 ι H w ds) (h:Step P B0 ι H w ι' H' w'):Marks s0 ι' H' w' ds:=by
 obtain ⟨rs,h1,h2,h3⟩:=hm
 refine ⟨rs,h1,h2,fun r hr=>?_⟩
 obtain ⟨k1,k2,k3⟩:=h3 r hr
 exact ⟨k1,h.unheld k2 k3⟩
theorem Step.turn {P:Program}{ι0 ι:Emb}{H0 H:AH}{w0 w:World} (h:Step P B0 ι0 H0 w0 ι H w) {r:Nat} (hr:w0.heap.size≤r) (hn:∀ b l,ι b=some l→H.alive (H.obj b)=true→l.blk≠r) (o:Obj) (hB:B0≤w0.heap.size) :
 Step P B0 ι0 H0 w0 ι H (w.putObj r o) :=
 {le:=h.le,new:=h.new,next:=h.next
  rel :=
   {base:=by simpa using h.rel.base
    dom:=h.rel.dom
    obj:=fun b l hb ha=>(h.rel.obj b l hb ha).carry (Emb.le_refl _) (World.putObj_heap_other (hn b l hb ha))
    sep:=h.rel.sep
    grp:=h.rel.grp }
  size:=by simpa using h.size
  frame:=fun c hc hx=>(World.putObj_heap_other (by omega)).trans (h.frame c hc hx)
  low:=fun c hc=>(World.putObj_heap_other (by omega)).trans (h.low c hc)
  fresh:=h.fresh,old:=h.old,loc:=h.loc,os:=h.os,tape:=h.tape,output:=h.output }
def RoOk (ι:Emb):Option Nat→Option Nat→Prop
 | none,none=>True
 | some b,some r=>∃ l,ι b=some l∧l.blk=r
 | _,_=>False
theorem RoOk.mono {ι ι':Emb} (hi:ι.le ι'):∀ {ro rr:Option Nat},RoOk ι ro rr→RoOk ι' ro rr
 | none,none,_=>trivial
 | some _,some _,⟨l,h1,h2⟩=>⟨l,hi _ _ h1,h2⟩
 | none,some _,h=>h.elim
 | some _,none,h=>h.elim
structure FrOk (V:Env) (B0 s0 n:Nat) (ro rr:Option Nat) (ι:Emb) (T:PTree Value) (H:AH) (a:Act) (w:World):Prop where
 tr:TRel ι T a.tmps
 sz:a.tmps.size=n
 mks:Marks s0 ι H w a.defers
 g:GOk ι V.nG
 rel:HRel V.P B0 ι H w
 ro:RoOk ι ro rr
 s0:s0≤w.heap.size
theorem FrOk.next {s0 n:Nat}{ro rr:Option Nat}{ι ι':Emb}{T T':PTree Value}{H H':AH}{a a':Act}{w w':World} (h:FrOk V B0 s0 n ro rr ι T H a w) (hT:TRel ι' T' a'.tmps) (hn:a'.tmps.size=n) (hd:a'.defers=a.defers) (hs:Step V.P B0 ι H w ι' H' w') :
  FrOk V B0 s0 n ro rr ι' T' H' a' w':=
 ⟨hT,hn,hd ▸ h.mks.step hs,h.g.mono hs.le,hs.rel,h.ro.mono hs.le,Nat.le_trans h.s0 hs.size⟩
theorem HRel.loopPut {P:Program} (h:HRel P B0 ι H w) {b:Nat}{l:ILoc} (hb:ι b=some l) {st st':LoopState}{pe pe':Option Code}{n:Nat}{T:PTree Value}{ps:Array Tmp}{x y:Code} (ho:H.obj b=.loop st pe n T ps x y) :
 ∃ r:Loop,w.heap[l.blk]?=some (.loop r)∧r.state=st∧r.pending=pe∧r.params=ps∧r.assign=x∧r.body=y∧r.tmps.size=n∧TRel ι T r.tmps ∧
   Step P B0 ι H w ι (H.put b (.loop st' pe' n T ps x y)) (w.putObj l.blk (.loop { r with state:=st',pending:=pe' })) ∧
   Step P B0 ι H w ι (H.put b .dead) (w.putObj l.blk (.loop { r with state:=st' })):=by
 have ha:H.alive (H.obj b)=true:=by rw [ho];rfl
 have hO:=h.obj b l hb ha
 rw [ho] at hO
 obtain ⟨hB,fn,tmps,defers,hw,hsz,hT⟩:=hO
 have hlt:l.blk<w.heap.size:=(Array.getElem?_eq_some_iff.1 hw).1
 refine ⟨_,hw,rfl,rfl,rfl,rfl,rfl,hsz,hT,?_,?_⟩
 ·refine h.write hb ha hB (fun c e=>by simp [e]) rfl (fun c l' e hc hac=>?_) ?_ (fun c l' et cells st g v hc hoc=>?_) (fun k hk=>World.putObj_heap_other hk) (by simp) rfl rfl rfl
  ·have hac':H.alive (H.obj c)=true:=by cases hoc:H.obj c<;>rw [hoc] at hac<;>exact hac
   refine ⟨hac',fun e'=>?_⟩
   have:=h.sep b c l l' (Ne.symm e) hb hc ha hac' e'.symm
   rw [ho] at this
   cases hoc:H.obj c<;>rw [hoc] at this<;>simp [Share] at this
  ·simp only [AH.obj_put,if_true]
   exact ⟨hB,fn,tmps,defers,World.putObj_heap_same hlt,hsz,hT⟩
  ·by_cases e:c=b
   ·subst e;simp at hoc
   ·simp [e] at hoc;simpa using h.grp c l' et cells st g v hc hoc
 ·refine h.write hb ha hB (fun c e=>by simp [e]) rfl (fun c l' e hc hac=>?_) ?_ (fun c l' et cells st g v hc hoc=>?_) (fun k hk=>World.putObj_heap_other hk) (by simp) rfl rfl rfl
  ·have hac':H.alive (H.obj c)=true:=by cases hoc:H.obj c<;>rw [hoc] at hac<;>exact hac
   refine ⟨hac',fun e'=>?_⟩
   have:=h.sep b c l l' (Ne.symm e) hb hc ha hac' e'.symm
   rw [ho] at this
   cases hoc:H.obj c<;>rw [hoc] at this<;>simp [Share] at this
  ·simp only [AH.obj_put,if_true]
   trivial
  ·by_cases e:c=b
   ·subst e;simp at hoc
   ·simp [e] at hoc;simpa using h.grp c l' et cells st g v hc hoc
theorem ofJump_code {pend:Option Code}{e:Ex} (h:ofJump pend=some e):(pend=none∧e=.normal)∨(pend=some .ret∧e=.ret)∨∃ id,pend=some (.exit id)∧e=.exit id:=by
 cases pend with
 | none=>simp [ofJump] at h;exact .inl ⟨rfl,h.symm⟩
 | some c=>cases c<;>simp [ofJump] at h
           ·exact .inr (.inr ⟨_,rfl,h.symm⟩)
           ·exact .inr (.inl ⟨rfl,h.symm⟩)
theorem enter_ok {s0 n:Nat}{ro rr:Option Nat}{a:Act}{ps:Array Tmp}{x y:Code} (hf:FrOk V B0 s0 n ro rr ι T H a w) (hrok:roAlive H ro=true) (fid:FuncId) :
 ∃ (l:Nat) (mark:List Deferred) (wA:World) (dfr:Nat),(Instr.enterLoop fid a.tmps ps x y (Wd rr).round).run V.P w=.ok (l,mark) (wA.alloc (.loop ⟨.ready,none,fid,a.tmps,ps,x,y,dfr⟩))∧l=wA.heap.size ∧
   Step V.P B0 ι H w ι H wA∧Marks s0 ι H wA (mark++a.defers):=by
 cases ro with
 |none =>
  cases rr with
  | some r=>exact hf.ro.elim
  |none =>
   have hst0:Step V.P B0 ι H w ι H (w.alloc (.deferred (some []))) :=
    {le:=Emb.le_refl _,new:=fun _ _ h=>.inl h,next:=Nat.le_refl _
     rel:={ base:=by have:=hf.rel.base;simp;omega,dom:=hf.rel.dom,obj:=fun b l hb ha=>(hf.rel.obj b l hb ha).carry (Emb.le_refl _) (Below.heap_alloc _ _ _ ((hf.rel.obj b l hb ha).lt ha)),sep:=hf.rel.sep,grp:=hf.rel.grp }
     size:=by simp,frame:=fun c hc _=>Below.heap_alloc _ _ _ hc,low:=fun c hc=>Below.heap_alloc _ _ _ (by have:=hf.rel.base;omega)
     fresh:=fun b l hb hn _=>by rw [hn] at hb;cases hb
     old:=fun _ _ _ h=>h,loc:=fun _ _ _=>rfl,os:=rfl,tape:=rfl,output:=rfl }
   refine ⟨_,_,w.alloc (.deferred (some [])),w.heap.size,run_enterLoop_outer fid a.tmps ps x y,by simp,hst0,?_⟩
   obtain ⟨rs,m1,m2,m3⟩:=hf.mks
   refine ⟨w.heap.size::rs,List.nodup_cons.2 ⟨fun hr=>?_,m1⟩,by simp [m2],fun r hr=>?_⟩
   ·have:=(Array.getElem?_eq_some_iff.1 (m3 _ hr).2.1).1
    omega
   ·rcases List.mem_cons.1 hr with rfl|hr
    ·refine ⟨hf.s0,World.alloc_heap_new _ _,fun b l hb ha e=>?_⟩
     have:=(hf.rel.obj b l hb ha).lt ha
     omega
    ·obtain ⟨k1,k2,k3⟩:=m3 r hr
     exact ⟨k1,hst0.unheld k2 k3⟩
 |some b =>
  cases rr with
  | none=>exact hf.ro.elim
  |some r =>
   obtain ⟨l,hb,hr⟩:=hf.ro
   subst hr
   simp only [roAlive] at hrok
   split at hrok
   ·rename_i hob0
    obtain ⟨rec,k1,_⟩:=hf.rel.loopPut hb (st':=.ready) (pe':=none) hob0
    refine ⟨w.heap.size,[],w,rec.defers,?_,rfl,Step.refl hf.rel,by simpa using hf.mks⟩
    simp [Instr.enterLoop,Wd,Sem.run_bind,run_getLoop k1,Result.andThen]
   ·cases hrok
theorem evC_wp (draw:DrawFn) (hE:TOk V.E V.P) (hF:FOk V.F V.P) (hc:CallOk V call) (hdr:DrawOk V draw) {s0 n lf:Nat}{ro rr:Option Nat}:∀ (c:Code) {ι:Emb}{T:PTree Value}{H:AH}{a:Act}{w:World},
 FrOk V B0 s0 n ro rr ι T H a w→∀ {e:Ex}{T':PTree Value}{H':AH},evC V draw call ro n lf c T H=some (e,T',H')→∀ {Q:Exit→Act→World→Prop},
 (∀ ι' a' w',FrOk V B0 s0 n ro rr ι' T' H' a' w'→Step V.P B0 ι H w ι' H' w'→Q e.to a' w')→c.wpIn (Wd rr) 0 V.P Q a w:=by
 intro c
 induction c with
 |skip =>
  intro ι T H a w hf e T' H' he Q hQ
  simp only [evC] at he;cases he
  exact wpIn_skip (hQ ι a w hf (Step.refl hf.rel))
 |region id ops dr =>
  intro ι T H a w hf e T' H' he Q hQ
  cases dr with
  |false =>
   simp only [evC] at he
   obtain ⟨⟨T1,H1⟩,h1,h2⟩:=map_some he
   cases h2
   refine wpIn_region ?_
   have hl:=evOps_wp (Q:=Q) (ro:=rr) hE hF hc (all:=ops) ops.toList 0 (fun j hj=>by simp) hf.tr hf.sz rfl hf.g hf.rel h1 fun ι' a' w' g1 g2 g3 g4=>hQ ι' a' w' (hf.next g1 g2 g3 g4) g4
   simpa [List.range_eq_range'] using hl
  |true =>
   simp only [evC] at he
   obtain ⟨⟨T1,H1⟩,h1,h2⟩:=map_some he
   cases h2
   exact hdr call hc rr n _ ops id B0 ι T H a w T1 H1 hf.tr hf.sz rfl hf.g hf.rel h1 Q fun ι' a' w' g1 g2 g3 g4=>hQ ι' a' w' (hf.next g1 g2 g3 g4) g4
 |seq x y ihx ihy =>
  intro ι T H a w hf e T' H' he Q hQ
  simp only [evC] at he
  split at he
  ·rename_i T1 H1 h1
   refine wpIn_seq (ihx hf h1 fun ι1 a1 w1 g1 g4=>?_)
   exact ihy g1 he fun ι2 a2 w2 k1 k4=>hQ ι2 a2 w2 k1 (g4.trans k4)
  ·rename_i hno
   refine wpIn_seq (ihx hf he fun ι1 a1 w1 g1 g4=>?_)
   have hq:=hQ ι1 a1 w1 g1 g4
   cases e with
   | normal=>exact absurd he (hno _ _)
   | exit id=>exact hq
   | ret=>exact hq
 |cond x y z ihy ihz =>
  intro ι T H a w hf e T' H' he Q hQ
  simp only [evC] at he
  split at he
  ·rename_i hb
   exact wpIn_cond_true ((oval_ok hf.tr hf.g hb).plain_eq rfl) (ihy hf he hQ)
  ·rename_i hb
   exact wpIn_cond_false ((oval_ok hf.tr hf.g hb).plain_eq rfl) (ihz hf he hQ)
  ·cases he
 |block id x ih =>
  intro ι T H a w hf e T' H' he Q hQ
  simp only [evC] at he
  split at he
  ·rename_i id' T1 H1 h1
   refine wpIn_block (ih hf h1 fun ι1 a1 w1 g1 g4=>?_)
   simp only [Ex.to,Exit.inBlock]
   split at he
   ·rename_i hid;cases he
    rw [if_pos hid];exact hQ ι1 a1 w1 g1 g4
   ·rename_i hid;cases he
    rw [if_neg hid];exact hQ ι1 a1 w1 g1 g4
  ·rename_i hno
   refine wpIn_block (ih hf he fun ι1 a1 w1 g1 g4=>?_)
   have hq:=hQ ι1 a1 w1 g1 g4
   cases e with
   | normal=>exact hq
   | exit id'=>exact absurd he (hno _ _ _)
   | ret=>exact hq
 |loop x ih =>
  intro ι T H a w hf e T' H' he Q hQ
  simp only [evC] at he
  refine wpIn_loop_rounds lf ?_
  have key:∀ (k:Nat) {ι:Emb}{T:PTree Value}{H:AH}{a:Act}{w:World},FrOk V B0 s0 n ro rr ι T H a w →
   loopN (fun T H=>evC V draw call ro n lf x T H) k T H=some (e,T',H')→(∀ ι' a' w',FrOk V B0 s0 n ro rr ι' T' H' a' w'→Step V.P B0 ι H w ι' H' w'→Q e.to a' w')→Code.roundsIn (Wd rr) 0 V.P x Q k a w:=by
   intro k
   induction k with
   | zero=>intro ι T H a w _ hl;simp [loopN] at hl
   |succ k ihk =>
    intro ι T H a w hf hl hQ
    simp only [loopN] at hl
    rw [roundsIn_succ]
    split at hl
    ·rename_i T1 H1 h1
     refine ih hf h1 fun ι1 a1 w1 g1 g4=>?_
     exact ihk g1 hl fun ι2 a2 w2 k1 k4=>hQ ι2 a2 w2 k1 (g4.trans k4)
    ·rename_i hno
     refine ih hf hl fun ι1 a1 w1 g1 g4=>?_
     have hq:=hQ ι1 a1 w1 g1 g4
     cases e with
     | normal=>exact absurd hl (hno _ _)
     | exit id=>exact hq
     | ret=>exact hq
  exact key lf hf he hQ
 |exit id =>
  intro ι T H a w hf e T' H' he Q hQ
  simp only [evC] at he;cases he
  exact wpIn_exit (hQ ι a w hf (Step.refl hf.rel))
 |label l =>
  intro ι T H a w hf e T' H' he Q hQ
  simp only [evC] at he;cases he
  exact wpIn_label (hQ ι a w hf (Step.refl hf.rel))
 |ret =>
  intro ι T H a w hf e T' H' he Q hQ
  simp only [evC] at he;cases he
  exact wpIn_ret (hQ ι a w hf (Step.refl hf.rel))
 |rangeFunc f ps x y =>
  intro ι T H a w hf e T' H' he Q hQ
  simp only [evC] at he
  split at he
  ·rename_i g first cap hrok hfo
   split at he
   ·rename_i fn hfn
    split at he
    ·rename_i v1 H1 hcall
     obtain ⟨h1,h2,h3⟩:=hF g fn hfn
     have hfv:=oval_ok hf.tr hf.g hfo
     generalize hfe:a.eval f=fv at hfv
     cases hfv with
     |func q1 q2 q3 q4 =>
      rename_i first' cap'
      refine wpIn_rangeFunc fun fid _=>?_
      obtain ⟨l,mark,wA,dfr,he1,hlA,hsA,hmA⟩:=enter_ok (x:=x) (y:=y) (ps:=ps) hf hrok fid
      have hrA:=hsA.rel
      have hsB:Step V.P B0 ι H wA (ι.ext H.next ⟨wA.heap.size,0,0,0⟩) (H.alloc (.loop .ready none n T ps x y)) (wA.alloc (.loop ⟨.ready,none,fid,a.tmps,ps,x,y,dfr⟩)) :=
       hrA.alloc _ _ _ rfl ⟨hrA.base,fid,a.tmps,dfr,World.alloc_heap_new _ _,hf.sz,hf.tr.mono (Emb.le_ext (hrA.outside (Nat.le_refl _)))⟩ (fun _ _ _ _ _ e=>(nomatch e))
      have hsAB:=hsA.trans hsB
      have hyv:VRel (ι.ext H.next ⟨wA.heap.size,0,0,0⟩) (.func (.yield H.next) #[] #[]) (.func (.yield wA.heap.size) #[] #[]):=.yield (Emb.ext_same ι H.next ⟨wA.heap.size,0,0,0⟩)
      have hL:=(((LRel.of_array q1 q3).mono hsAB.le).append (.cons hyv .nil)).append ((LRel.of_array q2 q4).mono hsAB.le)
      have hcalls:=hc.fn _ _ _ _ _ hcall B0 _ _ _ (hf.g.mono hsAB.le) hsB.rel hL
      have hb:fn.body≠none:=fun hb=>by rw [hb] at h2;cases h2
      have hnm:fn.name ≠ "runtime.NumGoroutine" := by simpa using h3
      have harr:first'++#[Value.func (.yield l) #[] #[]]++cap'=(first'.toList++[Value.func (.yield wA.heap.size) #[] #[]]++cap'.toList).toArray:=by apply Array.ext';simp [hlA]
      refine ⟨l,mark,wA.alloc (.loop ⟨.ready,none,fid,a.tmps,ps,x,y,dfr⟩),{ target:=.fn (.func g) cap',args:=first'++#[.func (.yield l) #[] #[]] },wA.alloc (.loop ⟨.ready,none,fid,a.tmps,ps,x,y,dfr⟩),g,(first'++#[Value.func (.yield l) #[] #[]])++cap',wA.alloc (.loop ⟨.ready,none,fid,a.tmps,ps,x,y,dfr⟩),he1,?_,fun _ _=>trivial,?_,fun e=>(nomatch e),?_⟩
      ·have hk:∀ u,a.eval (.const u)=u:=fun _=>rfl
       simp [resolve,hfe,Deferred.ofValue,hk]
      ·simp [invoke,callFunc,h1,hb,hnm]
      ·rw [harr]
       refine (Wd.calls hcalls).mono fun e0 w0 ⟨v',ι0,he0,hv0,hs0⟩=>?_
       subst he0
       unfold loopEnd at he
       split at he
       ·rename_i st pend n1 T1 ps1 x1 y1 hob
        split at he
        ·cases he
        ·rename_i hst
         obtain ⟨ex,hj,hx⟩:=map_some he
         cases hx
         obtain ⟨rec,r1,r2,r3,r4,r5,r6,r7,r8,r9,r10⟩:=hs0.rel.loopPut (hs0.le _ _ (Emb.ext_same ι H.next ⟨wA.heap.size,0,0,0⟩)) (st':=.exhausted) (pe':=none) hob
         have hend:=run_endLoop (P:=V.P) r1 (by rw [r2];exact hst)
         have hfin:=(hsAB.trans hs0).trans r10
         have hmk:=hmA.step ((hsB.trans hs0).trans r10)
         refine ⟨rec.pending,_,by rw [hlA];exact hend,?_⟩
         have hfo':FrOk V B0 s0 n ro rr ι0 T (H1.put H.next .dead) { a with defers:=mark++a.defers } (w0.putObj wA.heap.size (.loop { rec with state:=.exhausted })) :=
          ⟨hf.tr.mono hfin.le,hf.sz,hmk,hf.g.mono hfin.le,hfin.rel,hf.ro.mono hfin.le,Nat.le_trans hf.s0 hfin.size⟩
         have hq:=hQ _ _ _ hfo' hfin
         have hj':ofJump rec.pending=some e:=by rw [r3];exact hj
         rcases ofJump_code hj' with ⟨hp,rfl⟩|⟨hp,rfl⟩|⟨id,hp,rfl⟩
         ·split
          ·exact hq
          ·rename_i hcc;rw [hp] at hcc;cases hcc
         ·split
          ·rename_i hcc;rw [hp] at hcc;cases hcc
          ·rename_i hcc;rw [hp] at hcc;cases hcc
           exact wpIn_ret hq
         ·split
          ·rename_i hcc;rw [hp] at hcc;cases hcc
          ·rename_i hcc;rw [hp] at hcc;cases hcc
           exact wpIn_exit hq
       ·cases he
    ·cases he
   ·cases he
  ·cases he
 | _=>intro ι T H a w hf e T' H' he;simp [evC] at he
theorem initT_get:∀ (vs:List Value) (i:Nat) (T:PTree Value) (t:Nat),(initT vs i T).get t=if i≤t∧t<i+vs.length then vs[t-i]? else T.get t
 | [],i,T,t=>by simp [initT];omega
 |v::vs,i,T,t=>by
  simp only [initT,initT_get vs (i+1) (T.set i v) t,PTree.get_set,List.length_cons]
  by_cases e:t=i
  ·subst e
   rw [if_neg (by omega),if_pos rfl,if_pos (by omega)]
   simp
  ·by_cases h:i+1≤t∧t<i+1+vs.length
   ·rw [if_pos h,if_pos (by omega),show t-i=(t-(i+1))+1 by omega]
    simp
   ·rw [if_neg h,if_neg e,if_neg (by omega)]
theorem initT_ok {vs vs':List Value} (h:LRel ι vs vs') (n:Nat):TRel ι (initT vs 0 .leaf) (vs'.toArray++Array.replicate (n-vs'.length) undef):=fun t u hu=>by
 rw [initT_get] at hu
 by_cases ht:t<vs.length
 ·rw [if_pos (by omega)] at hu
  obtain ⟨y,hy,hr⟩:=h.get (i:=t) (x:=u) (by simpa using hu)
  have ht':t<vs'.length:=by rw [←h.length];exact ht
  have hy':vs'[t]=y:=by simpa [ht'] using hy
  have e1:(vs'.toArray++Array.replicate (n-vs'.length) undef).getD t undef=y:=by
   rw [Array.getD_eq_getD_getElem?,Array.getElem?_append_left (by simpa using ht')]
   simp [ht',hy']
  rw [e1]
  exact hr
 ·rw [if_neg (by omega)] at hu
  simp at hu
def resF (tmps:Array Value):ResultVar→Sem Value
 | .tmp t=>pure (tmps.getD t undef)
 | .cell x t=>do loadVar t (←asAddr (tmps.getD x undef))
theorem results_eq (fn:Func) (tmps:Array Value):results fn tmps=(do let vs ←fn.results.mapM (resF tmps);pure (if h:vs.size=1 then vs[0] else .tuple vs)):=by
 unfold results
 congr 1
theorem aResults_ok (hE:TOk V.E V.P) {a:Act} (hT:TRel ι T a.tmps) (h:HRel V.P B0 ι H w):∀ {rs:List ResultVar}{vs:List Value},aResults V T H rs=some vs →
 ∃ vs',LRel ι vs vs'∧(rs.mapM (resF a.tmps)).run V.P w=.ok vs' w
 | [],vs,hr=>by simp [aResults] at hr;subst hr;exact ⟨[],.nil,by simp⟩
 |.tmp t::rs,vs,hr=>by
  simp only [aResults] at hr
  split at hr
  ·rename_i u us h0 h1
   cases hr
   obtain ⟨us',k1,k2⟩:=aResults_ok hE hT h h1
   refine ⟨_::us',.cons (hT t u h0) k1,?_⟩
   simp only [List.mapM_cons,resF,Sem.run_bind,Sem.run_pure,Result.andThen_ok,k2]
  ·cases hr
 |.cell x t::rs,vs,hr=>by
  simp only [aResults] at hr
  split at hr
  case h_2=>cases hr
  rename_i xp hxp
  split at hr
  ·rename_i v us h1 h2
   cases hr
   obtain ⟨us',k1,k2⟩:=aResults_ok hE hT h h2
   have hx:=hT x xp hxp
   obtain ⟨v',hrun,hv⟩:=aLoad_ok hE h hx h1
   refine ⟨v'::us',.cons hv k1,?_⟩
   unfold aLoad at h1
   split at h1
   ·rename_i b off
    generalize hp:a.tmps.getD x undef=p at hx hrun
    cases hx with
    |ptr hb' =>
     rename_i l
     have:(loadVar t ⟨l.blk,l.base+off,none⟩).run V.P w=.ok v' w:=by simpa [Instr.loadAt,Instr.sureAddr] using hrun
     simp only [List.mapM_cons,resF,Sem.run_bind,hp,asAddr,Sem.run_pure,Result.andThen_ok,k2,this]
   ·cases h1
  ·cases hr
theorem setPs_ok {n:Nat}:∀ {ps:List Tmp}{vs vs':List Value}{T T1:PTree Value}{tmps:Array Value},LRel ι vs vs'→TRel ι T tmps→tmps.size=n→setPs n ps vs T=some T1 →
 vs'.length=ps.length∧TRel ι T1 ((ps.zip vs').foldl (fun tmps (t,a)=>tmps.setIfInBounds t a) tmps)∧((ps.zip vs').foldl (fun tmps (t,a)=>tmps.setIfInBounds t a) tmps).size=n
 | [],[],_,T,T1,tmps,.nil,hT,hn,h=>by simp [setPs] at h;subst h;exact ⟨rfl,hT,hn⟩
 | [],_::_,_,T,T1,tmps,_,hT,hn,h=>by simp [setPs] at h
 | _::_,[],_,T,T1,tmps,_,hT,hn,h=>by simp [setPs] at h
 |t::ps,v::vs,_,T,T1,tmps,.cons hv hl,hT,hn,h=>by
  simp only [setPs] at h
  split at h
  ·rename_i ht
   rename_i v' vs'
   have hp:=put_ok (a:=⟨tmps,[]⟩) (d:=some t) (T':=T.set t v) hT hn hv (by simp [put,ht])
   obtain ⟨k1,k2,k3⟩:=setPs_ok (ps:=ps) (tmps:=tmps.setIfInBounds t v') hl hp.1 hp.2.1 h
   exact ⟨by simp [k1],by simpa using k2,by simpa using k3⟩
  ·cases h
theorem leaves_marks {P:Program}{fn:Func}{tmps:Array Value}{R:Ending→World→Prop} (w0:World) (H0:AH) (ι0:Emb) (ι:Emb) (H:AH) (hB:B0≤w0.heap.size):∀ (ds:List Deferred) (w:World),Marks w0.heap.size ι H w ds→Step P B0 ι0 H0 w0 ι H w →
 (∀ w',Step P B0 ι0 H0 w0 ι H w'→∃ v,(results fn tmps).run P w'=.ok v w'∧R (.returned v) w')→LeavesInM (Wd none) 0 P fn tmps R ds .returning w
 | [],w,_,hs,hR=>hR w hs
 |d::ds,w,hm,hs,hR=>by
  obtain ⟨rs,m1,m2,m3⟩:=hm
  cases rs with
  | nil=>simp at m2
  |cons r rs =>
   simp only [List.map_cons,List.cons.injEq] at m2
   obtain ⟨rfl,rfl⟩:=m2
   obtain ⟨k1,k2,k3⟩:=m3 r (by simp)
   obtain ⟨hr,hnd⟩:=List.nodup_cons.1 m1
   refine ⟨by simp,.inl ⟨r,w.putObj r (.deferred none),rfl,run_takeDeferred k2,?_⟩⟩
   refine leaves_marks w0 H0 ι0 ι H hB _ _ ⟨rs,hnd,rfl,fun r' hr'=>?_⟩ (hs.turn k1 k3 _ hB) hR
   obtain ⟨j1,j2,j3⟩:=m3 r' (by simp [hr'])
   exact ⟨j1,(World.putObj_heap_other (fun e=>by subst e;exact hr hr')).trans j2,j3⟩
end Go.Ev
namespace Go.Ev
open Go.RowKit
inductive Cls where
 | look|create|big
 deriving DecidableEq
def cls:Op→Cls
 | .move _|.assign _|.pick ..|.build ..|.nilCheck _|.binOp ..|.unOp ..|.makeInterface ..|.makeFunc ..|.fieldAddr ..|.field ..|.indexAddr ..|.index ..|.extract ..=>.look
 | .load ..|.lookup ..|.slice ..|.convert ..=>.look
 | .call ⟨.builtin .len,_,_⟩|.call ⟨.builtin .max,_,_⟩|.call ⟨.builtin .min,_,_⟩|.call ⟨.builtin .cap,_,_⟩=>.look
 | .alloc _|.box ..|.buildSlice ..|.makeSlice ..|.makeMap _ none=>.create
 | _=>.big
def maskOf (acc:List Nat) (o:Oper):Nat:=o.after.toList.foldl (fun s e=>if Region.binds .any e then s ||| (2 ^ e.on ||| acc.getD e.on 0) else s) 0
def masks:List Oper→List Nat→List Nat
 | [],acc=>acc
 | o::os,acc=>masks os (acc++[maskOf acc o])
theorem masks_old:∀ (os:List Oper) (acc:List Nat) (j:Nat),j<acc.length→(masks os acc).getD j 0=acc.getD j 0
 | [],acc,j,_=>rfl
 | o::os,acc,j,h=>by
  rw [masks,masks_old os _ j (by simp;omega)]
  simp [List.getD_eq_getElem?_getD,List.getElem?_append_left h]
theorem masks_new:∀ (os:List Oper) (acc:List Nat) (j:Nat) (o:Oper),os[j]?=some o→∃ acc',acc'.length=acc.length+j∧(∀ i,i<acc.length+j→acc'.getD i 0=(masks os acc).getD i 0)∧(masks os acc).getD (acc.length+j) 0=maskOf acc' o
 | [],acc,j,o,h=>by simp at h
 |p::os,acc,0,o,h=>by
  simp at h;subst h
  refine ⟨acc,rfl,fun i hi=>?_,?_⟩
  ·rw [masks,masks_old os _ i (by simp;omega)]
   simp [List.getD_eq_getElem?_getD,List.getElem?_append_left (show i<acc.length by omega)]
  ·rw [masks,masks_old os _ _ (by simp)]
   simp [List.getD_eq_getElem?_getD]
 |p::os,acc,j+1,o,h=>by
  obtain ⟨acc',h1,h2,h3⟩:=masks_new os (acc++[maskOf acc p]) j o (by simpa using h)
  simp only [List.length_append,List.length_singleton] at h1 h2 h3
  refine ⟨acc',by omega,fun i hi=>?_,?_⟩
  ·rw [masks];exact h2 i (by omega)
  ·rw [masks,show acc.length+(j+1)=acc.length+1+j by omega];exact h3
def Closed (ops:Array Oper) (L:Nat→Prop):Prop:=∀ j o,ops[j]?=some o→L j→∀ e∈o.after,Region.binds .any e=true→L e.on
theorem mask_foldl (acc:List Nat) (i:Nat):∀ (es:List Edge) (s:Nat),(es.foldl (fun s e=>if Region.binds .any e then s ||| (2 ^ e.on ||| acc.getD e.on 0) else s) s).testBit i=true →
 s.testBit i=true∨∃ e,e∈es∧Region.binds .any e=true∧(e.on=i∨(acc.getD e.on 0).testBit i=true)
 | [],s,h=>.inl h
 |e::es,s,h=>by
  simp only [List.foldl_cons] at h
  rcases mask_foldl acc i es _ h with h1|⟨e',h1,h2,h3⟩
  ·by_cases hb:Region.binds .any e=true
   ·rw [if_pos hb] at h1
    simp only [Nat.testBit_or,Bool.or_eq_true] at h1
    rcases h1 with h1|h1|h1
    ·exact .inl h1
    ·exact .inr ⟨e,by simp,hb,.inl (by rw [Nat.testBit_two_pow] at h1;simpa using h1)⟩
    ·exact .inr ⟨e,by simp,hb,.inr h1⟩
   ·rw [if_neg hb] at h1;exact .inl h1
  ·exact .inr ⟨e',by simp [h1],h2,h3⟩
def anc (ms:List Nat) (i j:Nat):Bool:=(ms.getD j 0).testBit i
theorem anc_listed {ops:Array Oper}{L:Nat→Prop} (hcl:Closed ops L):∀ (j:Nat) (o:Oper),ops[j]?=some o→(∀ e∈o.after,Region.binds .any e=true→L e.on)→∀ i,anc (masks ops.toList []) i j=true→L i:=by
 intro j
 induction j using Nat.strongRecOn with
 |_ j ih =>
  intro o ho hL i hi
  obtain ⟨acc',h1,h2,h3⟩:=masks_new ops.toList [] j o (by simpa using ho)
  simp only [List.length_nil,Nat.zero_add] at h1 h2 h3
  unfold anc at hi
  rw [h3] at hi
  unfold maskOf at hi
  rcases mask_foldl acc' i _ _ hi with h|⟨e,he,hb,h⟩
  ·simp at h
  ·have hLe:=hL e (by simpa using he) hb
   rcases h with rfl|h
   ·exact hLe
   ·by_cases hlt:e.on<j
    ·rw [h2 e.on hlt] at h
     cases hoe:ops[e.on]? with
     |none =>
      have hge:ops.size≤e.on:=by
       rcases Nat.lt_or_ge e.on ops.size with h'|h'
       ·rw [Array.getElem?_eq_getElem h'] at hoe;cases hoe
       ·exact h'
      have:=(Array.getElem?_eq_some_iff.1 ho).1
      omega
     | some oe=>exact ih e.on hlt oe hoe (fun e' he' hb'=>hcl e.on oe hoe hLe e' he' hb') i h
    ·rw [List.getD_eq_getElem?_getD,List.getElem?_eq_none (by omega)] at h
     simp at h
def waits (o:Oper):Nat:=o.after.toList.foldl (fun s e=>if Region.binds .any e then s ||| 2 ^ e.on else s) 0
def rowsOf:List Oper→Nat→List (Nat×Nat×Bool)
 | [],_=>[]
 | o::os,i=>(i,waits o,cls o.op==.big)::rowsOf os (i+1)
def smallPass:List (Nat×Nat×Bool)→Nat→List Nat→Nat×List Nat
 | [],done,acc=>(done,acc)
 | (i,em,big)::os,done,acc=>if !big&&!done.testBit i&&Nat.beq (Nat.land done em) em then smallPass os (done ||| 2 ^ i) (i::acc) else smallPass os done acc
def nextBig:List (Nat×Nat×Bool)→Nat→Option Nat
 | [],_=>none
 | (i,em,big)::os,d=>if big&&!d.testBit i&&Nat.beq (Nat.land d em) em then some i else nextBig os d
def greedy (ops:List (Nat×Nat×Bool)):Nat→Nat→List Nat→List Nat
 | 0,_,acc=>acc.reverse
 |f+1,done,acc =>
  match smallPass ops done acc with
  |(d,l)=>match nextBig ops d with
   | some i=>greedy ops f (d ||| 2 ^ i) (i::l)
   | none=>l.reverse
def orderOf (ops:Array Oper):List Nat:=greedy (rowsOf ops.toList 0) (ops.size+1) 0 []
end Go.Ev
namespace Go.Ev
open Go.RowKit
variable {B0:Nat}{ι:Emb}{H H':AH}{w:World}{T T':PTree Value}{V:Env}{call:CallFn}
def noAlloc (V:Env):Op→Bool
 |.convert _ d _=>match V.E d with
  | some ⟨.slice _,_,_,_⟩=>false
  | some _=>true
  | none=>false
 | _=>true
def stepOp (V:Env) (call:CallFn) (ops:Array Oper) (T:PTree Value) (H:AH) (o:Oper):Option (Value×AH) :=
 if aSeen ops T o then
    if aWanted ops T o then
     match cls o.op with
     | .look=>if noAlloc V o.op then aop V T H o.op else none
     |.create=>match aCreate V T o.op with
      | some (mk,ob)=>some (mk H.next,H.alloc ob)
      | none=>none
     | .big=>evOp V call T H o.op
    else some (undef,H)
 else none
structure Rec where
 i:Nat
 T:PTree Value
 H:AH
 v:Value
 H':AH
def runSeq (V:Env) (call:CallFn) (n:Nat) (ops:Array Oper):List Nat→PTree Value→AH→Option (List Rec×PTree Value×AH)
 | [],T,H=>some ([],T,H)
 |i::σ,T,H=>match ops[i]? with
  |some o=>match stepOp V call ops T H o with
   |some (v,H')=>match put n T o.dst v with
    |some T'=>match runSeq V call n ops σ T' H' with
     | some (rs,Tf,Hf)=>some (⟨i,T,H,v,H'⟩::rs,Tf,Hf)
     | none=>none
    | none=>none
   | none=>none
  | none=>none
theorem map_fst_same {o:Option Value}{v:Value}{H H':AH} (h:o.map (·,H)=some (v,H')):H'=H:=by
 obtain ⟨x,_,h2⟩:=map_some h
 cases h2;rfl
theorem convert_noAlloc {P:Program}{E:TypeId→Option TI}{H H':AH}{s d:TypeId}{x v:Value}{td:TI} (hd:E d=some td) (hn:∀ e,td.desc≠.slice e) (h:aConvert P E H s d x=some (v,H')):H'=H:=by
 unfold aConvert at h
 split at h
 ·split at h
  ·split at h
   ·cases h;rfl
   ·cases h
  ·cases h
 ·split at h
  ·split at h
   ·split at h
    ·cases h;rfl
    ·split at h
     ·split at h
      ·cases h;rfl
      ·cases h
     ·cases h
   ·cases h
  ·cases h
 ·split at h
  ·rename_i e _ _ _ h1 h2
   rw [hd] at h2;cases h2
   exact absurd rfl (hn _)
  ·exact map_fst_same h
 ·exact map_fst_same h
theorem noAlloc_same {s d:TypeId}{x:Operand} (hn:noAlloc V (.convert s d x)=true) {y v:Value} (h:aConvert V.P V.E H s d y=some (v,H')):H'=H:=by
 simp only [noAlloc] at hn
 split at hn
 ·cases hn
 ·rename_i td hne hd
  refine convert_noAlloc hd (fun e he=>?_) h
  obtain ⟨ds,a,b,c⟩:=td
  simp only at he
  subst he
  exact hne _ _ _ _ rfl
 ·cases hn
theorem look_same {o:Op}{v:Value} (hc:cls o=.look) (hn:noAlloc V o=true) (h:aop V T H o=some (v,H')):H'=H:=by
 unfold aop at h
 split at h
 case _=>exact map_fst_same h
 case _=>exact map_fst_same h
 case _=>split at h
         ·exact map_fst_same h
         ·cases h
 case _=>simp [cls] at hc
 case _=>simp [cls] at hc
 case _=>split at h
         ·exact map_fst_same h
         ·cases h
 case _=>simp [cls] at hc
 case _=>split at h
         ·exact map_fst_same h
         ·cases h
 case _=>simp [cls] at hc
 case _=>split at h<;>first|(cases h;rfl)|cases h
 case _=>split at h
         ·exact map_fst_same h
         ·cases h
 case _=>split at h
         ·exact map_fst_same h
         ·cases h
 case _=>split at h
         ·exact noAlloc_same hn h
         ·cases h
 case _=>split at h
         ·split at h
          ·cases h
          ·cases h;rfl
         ·cases h
 case _=>split at h<;>first|(cases h;rfl)|cases h
 case _=>simp [cls] at hc
 case _=>simp [cls] at hc
 case _=>split at h
         ·exact map_fst_same h
         ·cases h
 case _=>split at h
         ·exact map_fst_same h
         ·cases h
 case _=>split at h
         ·exact map_fst_same h
         ·cases h
 case _=>split at h
         ·exact map_fst_same h
         ·cases h
 case _=>split at h
         ·exact map_fst_same h
         ·cases h
 case _=>split at h
         ·exact map_fst_same h
         ·cases h
 case _=>simp [cls] at hc
 case _=>simp [cls] at hc
 case _=>split at h
         ·exact map_fst_same h
         ·cases h
 case _ b args ts =>
  split at h
  ·unfold aBuiltin at h
   split at h
   ·exact map_fst_same h
   ·simp [cls] at hc
   ·simp [cls] at hc
   ·simp [cls] at hc
   ·exact map_fst_same h
   ·exact map_fst_same h
   ·split at h
    ·split at h
     ·cases h;rfl
     ·cases h
    ·cases h
   ·cases h
  ·cases h
 case _=>cases h
def Agree (ops:Array Oper) (o:Oper) (T T2:PTree Value):Prop:=∀ t,t∈o.looksAt ops→T.get t=T2.get t
theorem oval_agree {nG:Nat}{T T2:PTree Value}{x:Operand} (h:∀ t,x=.tmp t→T.get t=T2.get t):oval nG T x=oval nG T2 x:=by
 cases x with
 | tmp t=>simp [oval,h t rfl]
 | _=>rfl
theorem ovals_agree {nG:Nat}{T T2:PTree Value}:∀ {xs:List Operand},(∀ t,Operand.tmp t∈xs→T.get t=T2.get t)→ovals nG T xs=ovals nG T2 xs
 | [],_=>rfl
 | x::xs,h=>by
  simp only [ovals]
  rw [oval_agree (T2:=T2) fun t e=>h t (by simp [e]),ovals_agree (T2:=T2) fun t e=>h t (by simp [e])]
theorem oparts_agree {nG:Nat}{T T2:PTree Value}:∀ {xs:List (Nat×Operand)},(∀ t,Operand.tmp t∈xs.map (·.2)→T.get t=T2.get t)→oparts nG T xs=oparts nG T2 xs
 | [],_=>rfl
 | (i,x)::xs,h=>by
  simp only [oparts]
  rw [oval_agree (T2:=T2) fun t e=>h t (by simp [e]),oparts_agree (T2:=T2) fun t e=>h t (by simp at e ⊢;exact .inr e)]
theorem oopt_agree {nG:Nat}{T T2:PTree Value}{x:Option Operand} (h:∀ t,x=some (.tmp t)→T.get t=T2.get t):oopt nG T x=oopt nG T2 x:=by
 cases x with
 | none=>rfl
 | some x=>simp only [oopt];rw [oval_agree (T2:=T2) fun t e=>h t (by rw [e])]
theorem mem_looksAt {ops:Array Oper}{o:Oper}{t:Tmp} (h:Operand.tmp t∈o.op.operands.toList):t∈o.looksAt ops:=
 List.mem_append_left _ (List.mem_filterMap.2 ⟨.tmp t,h,rfl⟩)
theorem aop_agree {ops:Array Oper}{o:Oper}{T T2:PTree Value} (h:Agree ops o T T2) (H:AH):aop V T H o.op=aop V T2 H o.op:=by
 have h':∀ t,Operand.tmp t∈o.op.operands.toList→T.get t=T2.get t:=fun t ht=>h t (mem_looksAt ht)
 clear h
 generalize o.op=op at h'
 cases op with
 | call c=>
  obtain ⟨cal,args,ts⟩:=c
  cases cal with
  | builtin b=>
   simp only [aop]
   rw [ovals_agree (T2:=T2) fun t e=>h' t (by simp [Op.operands,Call.operands];exact Array.mem_toList_iff.1 e)]
  | _=>rfl
 | build t ps=>
  simp only [aop]
  rw [oparts_agree (T2:=T2) fun t e=>h' t (by simpa [Op.operands] using e)]
 | buildSlice t n ps=>
  simp only [aop]
  rw [oparts_agree (T2:=T2) fun t e=>h' t (by simpa [Op.operands] using e)]
 | makeFunc fn first cap=>
  cases fn with
  | func f=>
   simp only [aop]
   rw [ovals_agree (T2:=T2) (xs:=first.toList) fun t e=>h' t (by simp [Op.operands];exact .inl (Array.mem_toList_iff.1 e)),ovals_agree (T2:=T2) (xs:=cap.toList) fun t e=>h' t (by simp [Op.operands];exact .inr (Array.mem_toList_iff.1 e))]
  | _=>rfl
 | slice t x lo hi mx=>
  simp only [aop]
  rw [oval_agree (T2:=T2) (x:=x) fun t e=>h' t (by simp [Op.operands,e]),oopt_agree (T2:=T2) (x:=lo) fun t e=>h' t (by simp [Op.operands,e]),oopt_agree (T2:=T2) (x:=hi) fun t e=>h' t (by simp [Op.operands,e]),
   oopt_agree (T2:=T2) (x:=mx) fun t e=>h' t (by simp [Op.operands,e])]
 | pick c a b=>
  simp only [aop]
  rw [oval_agree (T2:=T2) (x:=c) fun t e=>h' t (by simp [Op.operands,e])]
  split
  ·rename_i t _
   rw [oval_agree (T2:=T2) fun t' e=>h' t' (by cases t<;>simp [Op.operands] at e ⊢<;>simp [e])]
  ·rfl
 | move x=>simp only [aop];rw [oval_agree (T2:=T2) (x:=x) fun t e=>h' t (by simp [Op.operands,e])]
 | assign x=>simp only [aop];rw [oval_agree (T2:=T2) (x:=x) fun t e=>h' t (by simp [Op.operands,e])]
 | box t x=>simp only [aop];rw [oval_agree (T2:=T2) (x:=x) fun t e=>h' t (by simp [Op.operands,e])]
 | load t x=>simp only [aop];rw [oval_agree (T2:=T2) (x:=x) fun t e=>h' t (by simp [Op.operands,e])]
 | nilCheck x=>simp only [aop];rw [oval_agree (T2:=T2) (x:=x) fun t e=>h' t (by simp [Op.operands,e])]
 | unOp op t x=>simp only [aop];rw [oval_agree (T2:=T2) (x:=x) fun t e=>h' t (by simp [Op.operands,e])]
 | convert s d x=>simp only [aop];rw [oval_agree (T2:=T2) (x:=x) fun t e=>h' t (by simp [Op.operands,e])]
 | makeInterface t x=>simp only [aop];rw [oval_agree (T2:=T2) (x:=x) fun t e=>h' t (by simp [Op.operands,e])]
 | fieldAddr s x f=>simp only [aop];rw [oval_agree (T2:=T2) (x:=x) fun t e=>h' t (by simp [Op.operands,e])]
 | field t x f=>simp only [aop];rw [oval_agree (T2:=T2) (x:=x) fun t e=>h' t (by simp [Op.operands,e])]
 | extract x i=>simp only [aop];rw [oval_agree (T2:=T2) (x:=x) fun t e=>h' t (by simp [Op.operands,e])]
 | store t x y=>simp only [aop];rw [oval_agree (T2:=T2) (x:=x) fun t e=>h' t (by simp [Op.operands,e]),oval_agree (T2:=T2) (x:=y) fun t e=>h' t (by simp [Op.operands,e])]
 | binOp op t x y u=>simp only [aop];rw [oval_agree (T2:=T2) (x:=x) fun t e=>h' t (by simp [Op.operands,e]),oval_agree (T2:=T2) (x:=y) fun t e=>h' t (by simp [Op.operands,e])]
 | makeSlice t x y=>simp only [aop];rw [oval_agree (T2:=T2) (x:=x) fun t e=>h' t (by simp [Op.operands,e]),oval_agree (T2:=T2) (x:=y) fun t e=>h' t (by simp [Op.operands,e])]
 | indexAddr t x y=>simp only [aop];rw [oval_agree (T2:=T2) (x:=x) fun t e=>h' t (by simp [Op.operands,e]),oval_agree (T2:=T2) (x:=y) fun t e=>h' t (by simp [Op.operands,e])]
 | index t x y=>simp only [aop];rw [oval_agree (T2:=T2) (x:=x) fun t e=>h' t (by simp [Op.operands,e]),oval_agree (T2:=T2) (x:=y) fun t e=>h' t (by simp [Op.operands,e])]
 | lookup t x y ok=>simp only [aop];rw [oval_agree (T2:=T2) (x:=x) fun t e=>h' t (by simp [Op.operands,e]),oval_agree (T2:=T2) (x:=y) fun t e=>h' t (by simp [Op.operands,e])]
 | mapUpdate t x y z=>simp only [aop];rw [oval_agree (T2:=T2) (x:=x) fun t e=>h' t (by simp [Op.operands,e]),oval_agree (T2:=T2) (x:=y) fun t e=>h' t (by simp [Op.operands,e]),oval_agree (T2:=T2) (x:=z) fun t e=>h' t (by simp [Op.operands,e])]
 | makeMap t r=>cases r<;>rfl
 | insert t x y z=>simp only [aop];rw [oval_agree (T2:=T2) (x:=x) fun t e=>h' t (by simp [Op.operands,e]),oval_agree (T2:=T2) (x:=y) fun t e=>h' t (by simp [Op.operands,e]),oval_agree (T2:=T2) (x:=z) fun t e=>h' t (by simp [Op.operands,e])]
 | _=>rfl
theorem evOp_agree {ops:Array Oper}{o:Oper}{T T2:PTree Value} (h:Agree ops o T T2) (H:AH):evOp V call T H o.op=evOp V call T2 H o.op:=by
 have h':∀ t,Operand.tmp t∈o.op.operands.toList→T.get t=T2.get t:=fun t ht=>h t (mem_looksAt ht)
 have ha:=aop_agree (V:=V) h H
 generalize o.op=op at h' ha
 unfold evOp
 split
 ·rename_i f args ts
  rw [oval_agree (T2:=T2) (x:=f) fun t e=>h' t (by simp [Op.operands,Call.operands,e]),ovals_agree (T2:=T2) (xs:=args.toList) fun t e=>h' t (by simp [Op.operands,Call.operands];exact .inr (Array.mem_toList_iff.1 e))]
 ·exact ha
theorem aCreate_agree {ops:Array Oper}{o:Oper}{T T2:PTree Value} (h:Agree ops o T T2):aCreate V T o.op=aCreate V T2 o.op:=by
 have h':∀ t,Operand.tmp t∈o.op.operands.toList→T.get t=T2.get t:=fun t ht=>h t (mem_looksAt ht)
 clear h
 generalize o.op=op at h'
 cases op with
 | buildSlice t n ps=>
  simp only [aCreate]
  rw [oparts_agree (T2:=T2) fun t e=>h' t (by simpa [Op.operands] using e)]
 | box t x=>simp only [aCreate];rw [oval_agree (T2:=T2) (x:=x) fun t e=>h' t (by simp [Op.operands,e])]
 | makeMap t r=>cases r<;>rfl
 | makeSlice t x y=>simp only [aCreate];rw [oval_agree (T2:=T2) (x:=x) fun t e=>h' t (by simp [Op.operands,e]),oval_agree (T2:=T2) (x:=y) fun t e=>h' t (by simp [Op.operands,e])]
 | _=>rfl
theorem aWanted_agree {ops:Array Oper}{o:Oper}{T T2:PTree Value} (h:Agree ops o T T2):aWanted ops T o=aWanted ops T2 o:=by
 unfold aWanted
 cases hg:o.guard with
 | none=>rfl
 |some g =>
  obtain ⟨j,b⟩:=g
  simp only
  unfold aYielded
  cases hd:(ops[j]?).bind (·.dst) with
  | none=>rfl
  |some d =>
   have:d∈o.looksAt ops:=by
    refine List.mem_append_right _ ?_
    simp [hg,hd]
   simp only [h d this]
theorem aSeen_agree {ops:Array Oper}{o:Oper}{T T2:PTree Value} (h:Agree ops o T T2):aSeen ops T o=aSeen ops T2 o:=by
 unfold aSeen
 cases hg:o.guard with
 | none=>rfl
 |some g =>
  obtain ⟨j,b⟩:=g
  simp only
  cases hd:(ops[j]?).bind (·.dst) with
  | none=>rfl
  |some d =>
   have:d∈o.looksAt ops:=by
    refine List.mem_append_right _ ?_
    simp [hg,hd]
   simp only [h d this]
theorem stepOp_seen {ops:Array Oper}{T:PTree Value}{H:AH}{o:Oper}{r:Value×AH} (h:stepOp V call ops T H o=some r):aSeen ops T o=true:=by
 unfold stepOp at h
 split at h
 ·assumption
 ·cases h
end Go.Ev
namespace Go.Ev
open Go.RowKit
variable {B0:Nat}{V:Env}{call:CallFn}
def same0:Value→Value→Bool
 | .bool a,.bool b=>a==b
 | .int j a,.int k b=>decide (j=k)&&decide (a=b)
 | .string a,.string b=>decide (a=b)
 | .pointer a,.pointer b=>decide (a=b)
 | .slice a n c,.slice b m d=>decide (a=b)&&decide (n=m)&&decide (c=d)
 | .map a,.map b=>decide (a=b)
 | .nilFunc,.nilFunc=>true
 | .nilIface,.nilIface=>true
 | _,_=>false
theorem same0_eq {a b:Value} (h:same0 a b=true):a=b:=by
 unfold same0 at h
 split at h<;>simp at h<;>first|(obtain ⟨⟨rfl,rfl⟩,rfl⟩:=h;rfl)|(obtain ⟨rfl,rfl⟩:=h;rfl)|(subst h;rfl)|rfl
def sameL:List Value→List Value→Bool
 | [],[]=>true
 | a::as,b::bs=>same0 a b&&sameL as bs
 | _,_=>false
theorem sameL_eq:∀ {a b:List Value},sameL a b=true→a=b
 | [],[],_=>rfl
 | a::as,b::bs,h=>by simp [sameL] at h;rw [same0_eq h.1,sameL_eq h.2]
 | [],_::_,h=>by simp [sameL] at h
 | _::_,[],h=>by simp [sameL] at h
def sameV:Value→Value→Bool
 | .agg a,.agg b=>sameL a.toList b.toList
 | .tuple a,.tuple b=>sameL a.toList b.toList
 | .iface t v,.iface u x=>decide (t=u)&&same0 v x
 | .func f a b,.func g c d=>decide (f=g)&&sameL a.toList c.toList&&sameL b.toList d.toList
 | a,b=>same0 a b
theorem sameV_eq {a b:Value} (h:sameV a b=true):a=b:=by
 unfold sameV at h
 split at h
 ·rw [Array.ext' (sameL_eq h)]
 ·rw [Array.ext' (sameL_eq h)]
 ·simp at h;rw [h.1,same0_eq h.2]
 ·simp at h;rw [h.1.1,Array.ext' (sameL_eq h.1.2),Array.ext' (sameL_eq h.2)]
 ·exact same0_eq h
def bigAt (ops:Array Oper) (r:Rec):Bool:=
 match ops[r.i]? with
 | some o=>cls o.op==.big
 | none=>false
def lookWin (V:Env) (ops:Array Oper) (ms:List Nat) (Hf:AH) (r:Rec) (o:Op):List Rec→Bool
 |[]=>match aop V r.T Hf o with
  | some (v,_)=>sameV v r.v
  | none=>false
 |q :: rs=>if bigAt ops q then (match aop V r.T q.H o with
    | some (v,_)=>sameV v r.v
    | none=>false)&&(anc ms r.i q.i||lookWin V ops ms Hf r o rs)
  else lookWin V ops ms Hf r o rs
def lookAll (V:Env) (ops:Array Oper) (ms:List Nat) (Hf:AH):List Rec→Bool
 | []=>true
 | r :: rs=>(match ops[r.i]? with
     | some o=>if cls o.op=.look∧aWanted ops r.T o=true then lookWin V ops ms Hf r o.op rs else true
     | none=>false)&&lookAll V ops ms Hf rs
def Hat (R:List Rec) (Hf:AH) (k:Nat):AH:=((R[k]?).map (·.H)).getD Hf
def Tat (R:List Rec) (Tf:PTree Value) (k:Nat):PTree Value:=((R[k]?).map (·.T)).getD Tf
theorem runSeq_len {n:Nat}{ops:Array Oper}:∀ {σ:List Nat}{T:PTree Value}{H:AH}{R:List Rec}{Tf:PTree Value}{Hf:AH},runSeq V call n ops σ T H=some (R,Tf,Hf)→R.map (·.i)=σ
 | [],T,H,R,Tf,Hf,h=>by simp [runSeq] at h;obtain ⟨rfl,_⟩:=h;rfl
 |i::σ,T,H,R,Tf,Hf,h=>by
  simp only [runSeq] at h
  split at h
  ·split at h
   ·split at h
    ·split at h
     ·rename_i rs Tf' Hf' hr
      cases h
      simp [runSeq_len hr]
     ·cases h
    ·cases h
   ·cases h
  ·cases h
theorem runSeq_zero {n:Nat}{ops:Array Oper}{σ:List Nat}{T:PTree Value}{H:AH}{R:List Rec}{Tf:PTree Value}{Hf:AH} (h:runSeq V call n ops σ T H=some (R,Tf,Hf)):Hat R Hf 0=H∧Tat R Tf 0=T:=by
 cases σ with
 | nil=>simp [runSeq] at h;obtain ⟨rfl,rfl,rfl⟩:=h;exact ⟨rfl,rfl⟩
 |cons i σ =>
  simp only [runSeq] at h
  split at h
  ·split at h
   ·split at h
    ·split at h
     ·cases h;exact ⟨rfl,rfl⟩
     ·cases h
    ·cases h
   ·cases h
  ·cases h
theorem runSeq_step {n:Nat}{ops:Array Oper}:∀ {σ:List Nat}{T:PTree Value}{H:AH}{R:List Rec}{Tf:PTree Value}{Hf:AH},runSeq V call n ops σ T H=some (R,Tf,Hf)→∀ (k:Nat) (r:Rec),R[k]?=some r →
 ∃ o,ops[r.i]?=some o∧stepOp V call ops r.T r.H o=some (r.v,r.H')∧put n r.T o.dst r.v=some (Tat R Tf (k+1))∧Hat R Hf (k+1)=r.H'
 | [],T,H,R,Tf,Hf,h=>by simp [runSeq] at h;obtain ⟨rfl,_⟩:=h;intro k r hk;simp at hk
 |i::σ,T,H,R,Tf,Hf,h=>by
  simp only [runSeq] at h
  split at h
  ·rename_i o ho
   split at h
   ·rename_i v H' hs
    split at h
    ·rename_i T' hp
     split at h
     ·rename_i rs Tf' Hf' hr
      cases h
      intro k r hk
      cases k with
      |zero =>
       simp at hk;subst hk
       obtain ⟨z1,z2⟩:=runSeq_zero hr
       refine ⟨o,ho,hs,?_,?_⟩
       ·rw [hp];congr 1
        rw [←z2];simp [Tat]
       ·rw [←z1];simp [Hat]
      |succ k =>
       obtain ⟨o',a,b,c,d⟩:=runSeq_step hr k r (by simpa using hk)
       exact ⟨o',a,b,by rw [c];simp [Tat],by rw [←d];simp [Hat]⟩
     ·cases h
    ·cases h
   ·cases h
  ·cases h
end Go.Ev
namespace Go.Ev
open Go.RowKit
variable {B0:Nat}{V:Env}{call:CallFn}
structure Ord (ops:Array Oper) (σ:List Nat):Prop where
 nodup:σ.Nodup
 lt:∀ i,i∈σ→i<ops.size
 mem:∀ i,i<ops.size→i∈σ
 topo:∀ j o,ops[j]?=some o→∀ e∈o.after,Region.binds .any e=true→σ.idxOf e.on<σ.idxOf j
 big:∀ i j o,i∈σ→j∈σ→ops[i]?=some o→cls o.op=.big→σ.idxOf i<σ.idxOf j→anc (masks ops.toList []) i j=true
 dst:∀ i j o p t,i∈σ→j∈σ→ops[i]?=some o→ops[j]?=some p→i≠j→o.dst=some t→p.dst≠some t∧(t∈p.looksAt ops→anc (masks ops.toList []) i j=true∨anc (masks ops.toList []) j i=true)
theorem idxOf_at:∀ {l:List Nat} (_:l.Nodup) {k x:Nat},l[k]?=some x→l.idxOf x=k
 | [],_,k,x,h=>by simp at h
 | y::l,hn,0,x,h=>by simp at h;subst h;simp
 | y::l,hn,k+1,x,h=>by
  rw [List.nodup_cons] at hn
  have hx:l[k]?=some x:=by simpa using h
  have hne:y≠x:=fun e=>hn.1 (by rw [e];exact List.mem_of_getElem? hx)
  rw [List.idxOf_cons,idxOf_at hn.2 hx]
  have:(y==x)=false:=by simpa using hne
  rw [this];rfl
structure Ran (V:Env) (call:CallFn) (n:Nat) (ops:Array Oper) (σ:List Nat) (T0:PTree Value) (H0:AH) (R:List Rec) (Tf:PTree Value) (Hf:AH):Prop where
 ord:Ord ops σ
 ids:R.map (·.i)=σ
 zero:Hat R Hf 0=H0∧Tat R Tf 0=T0
 step:∀ (k:Nat) (r:Rec),R[k]?=some r→∃ o,ops[r.i]?=some o∧stepOp V call ops r.T r.H o=some (r.v,r.H')∧put n r.T o.dst r.v=some (Tat R Tf (k+1))∧Hat R Hf (k+1)=r.H'
 looks:∀ (k nb:Nat) (r:Rec) (o:Oper),R[k]?=some r→ops[r.i]?=some o→cls o.op=.look→aWanted ops r.T o=true→k<nb→nb≤R.length →
  (∀ q,R[nb]?=some q→bigAt ops q=true)→(∀ m q,k<m→m<nb→R[m]?=some q→bigAt ops q=true→anc (masks ops.toList []) r.i q.i=false)→aop V r.T (Hat R Hf nb) o.op=some (r.v,Hat R Hf nb)
section
variable {n:Nat}{ops:Array Oper}{σ:List Nat}{T0:PTree Value}{H0:AH}{R:List Rec}{Tf:PTree Value}{Hf:AH}
theorem Ran.at (h:Ran V call n ops σ T0 H0 R Tf Hf) {k:Nat}{r:Rec} (hr:R[k]?=some r):σ[k]?=some r.i:=by
 rw [←h.ids];simp [hr]
theorem Ran.idx (h:Ran V call n ops σ T0 H0 R Tf Hf) {k:Nat}{r:Rec} (hr:R[k]?=some r):σ.idxOf r.i=k:=idxOf_at h.ord.nodup (h.at hr)
theorem Ran.mem (h:Ran V call n ops σ T0 H0 R Tf Hf) {k:Nat}{r:Rec} (hr:R[k]?=some r):r.i∈σ:=List.mem_of_getElem? (h.at hr)
theorem Ran.find (h:Ran V call n ops σ T0 H0 R Tf Hf) {i:Nat} (hi:i<ops.size):∃ (k:Nat) (r:Rec),R[k]?=some r∧r.i=i:=by
 obtain ⟨k,hk,e⟩:=List.mem_iff_getElem.1 (h.ord.mem i hi)
 have hl:R.length=σ.length:=by rw [←h.ids];simp
 have hk':k<R.length:=by omega
 refine ⟨k,R[k],by simp [hk'],?_⟩
 have:=h.at (k:=k) (r:=R[k]) (by simp [hk'])
 simp [hk] at this
 rw [←this,e]
theorem Ran.uniq (h:Ran V call n ops σ T0 H0 R Tf Hf) {k k':Nat}{r r':Rec} (hr:R[k]?=some r) (hr':R[k']?=some r') (e:r.i=r'.i):k=k'∧r=r':=by
 have h1:=h.idx hr
 have h2:=h.idx hr'
 rw [e,h2] at h1
 subst h1
 rw [hr] at hr'
 exact ⟨rfl,by simpa using hr'⟩
theorem Ord.anc_pos (h:Ord ops σ) {i j:Nat}{o:Oper} (ho:ops[j]?=some o) (ha:anc (masks ops.toList []) i j=true):σ.idxOf i<σ.idxOf j:=
 anc_listed (L:=fun x=>σ.idxOf x<σ.idxOf j) (fun x p hp hx e he hb=>Nat.lt_trans (h.topo x p hp e he hb) hx) j o ho (fun e he hb=>h.topo j o ho e he hb) i ha
theorem Tat_get (h:Ran V call n ops σ T0 H0 R Tf Hf):∀ (k:Nat),k≤R.length→∀ t,
 (∃ k' r o,k'<k∧R[k']?=some r∧ops[r.i]?=some o∧o.dst=some t∧(Tat R Tf k).get t=some r.v)∨((∀ k' r o,k'<k→R[k']?=some r→ops[r.i]?=some o→o.dst≠some t)∧(Tat R Tf k).get t=T0.get t)
 | 0,_,t=>.inr ⟨fun k' r o hk=>absurd hk (Nat.not_lt_zero _),by rw [h.zero.2]⟩
 |k+1,hk,t=>by
  have hk':k<R.length:=by omega
  obtain ⟨o,ho,_,hp,_⟩:=h.step k R[k] (by simp [hk'])
  have hT:(R[k]).T=Tat R Tf k:=by simp [Tat,hk']
  rw [hT] at hp
  have ih:=Tat_get h k (by omega) t
  unfold put at hp
  cases hd:o.dst with
  |none =>
   rw [hd] at hp
   simp only [Option.some.injEq] at hp
   rw [←hp]
   rcases ih with ⟨k',r,o',h1,h2,h3,h4,h5⟩|⟨h1,h2⟩
   ·exact .inl ⟨k',r,o',by omega,h2,h3,h4,h5⟩
   ·refine .inr ⟨fun k' r o' hlt hr ho'=>?_,h2⟩
    by_cases e:k'=k
    ·subst e
     have:r=R[k']:=by simpa [hk'] using hr.symm
     subst this
     rw [ho] at ho';cases ho'
     rw [hd];simp
    ·exact h1 k' r o' (by omega) hr ho'
  |some d =>
   rw [hd] at hp
   simp only at hp
   split at hp
   ·simp only [Option.some.injEq] at hp
    rw [←hp]
    by_cases e:t=d
    ·subst e
     exact .inl ⟨k,R[k],o,by omega,by simp [hk'],ho,hd,by simp⟩
    ·rw [PTree.get_set_ne _ _ e]
     rcases ih with ⟨k',r,o',h1,h2,h3,h4,h5⟩|⟨h1,h2⟩
     ·exact .inl ⟨k',r,o',by omega,h2,h3,h4,h5⟩
     ·refine .inr ⟨fun k' r o' hlt hr ho'=>?_,h2⟩
      by_cases e':k'=k
      ·subst e'
       have:r=R[k']:=by simpa [hk'] using hr.symm
       subst this
       rw [ho] at ho';cases ho'
       rw [hd];simp [Ne.symm e]
      ·exact h1 k' r o' (by omega) hr ho'
   ·cases hp
theorem small_step {ops:Array Oper}{T:PTree Value}{H H':AH}{o:Oper}{v:Value} (hc:cls o.op≠.big) (h:stepOp V call ops T H o=some (v,H')) :
 H'=H∨∃ mk ob,cls o.op=.create∧aWanted ops T o=true∧aCreate V T o.op=some (mk,ob)∧v=mk H.next∧H'=H.alloc ob:=by
 unfold stepOp at h
 split at h
 case isFalse=>cases h
 split at h
 ·rename_i hw
  split at h
  ·rename_i hl
   split at h
   ·rename_i hn;exact .inl (look_same hl hn h)
   ·cases h
  ·rename_i hl
   split at h
   ·rename_i mk ob hcr
    cases h
    exact .inr ⟨mk,ob,hl,hw,hcr,rfl,rfl⟩
   ·cases h
  ·rename_i hl;exact absurd hl hc
 ·cases h;exact .inl rfl
theorem bigAt_iff {ops:Array Oper}{r:Rec}{o:Oper} (ho:ops[r.i]?=some o):bigAt ops r=true↔cls o.op=.big:=by
 unfold bigAt;rw [ho];simp
theorem Hat_chain (h:Ran V call n ops σ T0 H0 R Tf Hf) (p:Nat):∀ (q:Nat),p≤q→q≤R.length→(∀ m r,p≤m→m<q→R[m]?=some r→bigAt ops r=false) →
 (Hat R Hf p).next≤(Hat R Hf q).next∧(∀ b,b<(Hat R Hf p).next→(Hat R Hf q).obj b=(Hat R Hf p).obj b)∧(∀ g,(Hat R Hf q).ver g=(Hat R Hf p).ver g)
 |q,hpq,hq,hno=>by
  rcases Nat.eq_or_lt_of_le hpq with e|hlt
  ·subst e;exact ⟨Nat.le_refl _,fun _ _=>rfl,fun _=>rfl⟩
  ·obtain ⟨q,rfl⟩:∃ m,q=m+1:=⟨q-1,by omega⟩
   obtain ⟨i1,i2,i3⟩:=Hat_chain h p q (by omega) (by omega) (fun m r h1 h2=>hno m r h1 (by omega))
   have hq':q<R.length:=by omega
   obtain ⟨o,ho,hs,_,hH⟩:=h.step q R[q] (by simp [hq'])
   have hHq:(R[q]).H=Hat R Hf q:=by simp [Hat,hq']
   have hb:=hno q R[q] (by omega) (by omega) (by simp [hq'])
   have hc:cls o.op≠.big:=fun e=>by rw [(bigAt_iff ho).2 e] at hb;cases hb
   rw [hH]
   rcases small_step hc hs with e|⟨mk,ob,_,_,_,_,e⟩
   ·rw [e,hHq];exact ⟨i1,i2,i3⟩
   ·rw [e,hHq]
    refine ⟨by simp;omega,fun b hb=>?_,fun g=>by simpa using i3 g⟩
    rw [AH.obj_alloc,if_neg (by omega)];exact i2 b hb
theorem lookWin_ok {ms:List Nat}{r:Rec}{o:Op}:∀ {rs:List Rec},lookWin V ops ms Hf r o rs=true→∀ nb,nb≤rs.length→(∀ q,rs[nb]?=some q→bigAt ops q=true)→(∀ m q,m<nb→rs[m]?=some q→bigAt ops q=true→anc ms r.i q.i=false) →
 ∃ H',aop V r.T (Hat rs Hf nb) o=some (r.v,H')
 |[],h,nb,hle,_,_=>by
  have:nb=0:=by simpa using hle
  subst this
  simp only [lookWin] at h
  split at h
  ·rename_i v H' ha
   exact ⟨H',by rw [←sameV_eq h];exact ha⟩
  ·cases h
 |q::rs,h,nb,hle,hbig,hno=>by
  simp only [lookWin] at h
  cases nb with
  |zero =>
   have hb:=hbig q (by simp)
   rw [if_pos hb,Bool.and_eq_true] at h
   have h:=h.1
   split at h
   ·rename_i v H' ha
    exact ⟨H',by rw [←sameV_eq h];exact ha⟩
   ·cases h
  |succ nb =>
   have rest:lookWin V ops ms Hf r o rs=true:=by
    split at h
    ·rename_i hb
     rw [Bool.and_eq_true,Bool.or_eq_true] at h
     rcases h.2 with h2|h2
     ·have:=hno 0 q (by omega) (by simp) hb
      rw [this] at h2;cases h2
     ·exact h2
    ·exact h
   have:=lookWin_ok rest nb (by simpa using hle) (fun q' hq'=>hbig q' (by simpa using hq')) (fun m q' hm hq'=>hno (m+1) q' (by omega) (by simpa using hq'))
   simpa [Hat] using this
theorem lookAll_ok {ms:List Nat}:∀ {R:List Rec},lookAll V ops ms Hf R=true→∀ k r o,R[k]?=some r→ops[r.i]?=some o→cls o.op=.look→aWanted ops r.T o=true→lookWin V ops ms Hf r o.op (R.drop (k+1))=true
 | [],_,k,r,o,hr,_,_,_=>by simp at hr
 | q::R,h,0,r,o,hr,ho,hc,hw=>by
  simp at hr;subst hr
  simp only [lookAll,Bool.and_eq_true] at h
  have h:=h.1
  rw [ho] at h
  simp only [hc,hw,and_self,if_true] at h
  simpa using h
 | q::R,h,k+1,r,o,hr,ho,hc,hw=>by
  simp only [lookAll,Bool.and_eq_true] at h
  simpa using lookAll_ok h.2 k r o (by simpa using hr) ho hc hw
theorem looks_of_all (hall:lookAll V ops (masks ops.toList []) Hf R=true) (k nb:Nat) (r:Rec) (o:Oper) (hr:R[k]?=some r) (ho:ops[r.i]?=some o) (hc:cls o.op=.look) (hn:noAlloc V o.op=true) (hw:aWanted ops r.T o=true) (hlt:k<nb) (hle:nb≤R.length)
  (hbig:∀ q,R[nb]?=some q→bigAt ops q=true) (hno:∀ m q,k<m→m<nb→R[m]?=some q→bigAt ops q=true→anc (masks ops.toList []) r.i q.i=false):aop V r.T (Hat R Hf nb) o.op=some (r.v,Hat R Hf nb):=by
 have hl:=lookAll_ok hall k r o hr ho hc hw
 obtain ⟨H',hH⟩:=lookWin_ok hl (nb-(k+1)) (by simp;omega) (fun q hq=>hbig q (by simpa [show k+1+(nb-(k+1))=nb by omega] using hq)) (fun m q hm hq=>hno (k+1+m) q (by omega) (by omega) (by simpa using hq))
 have e:Hat (R.drop (k+1)) Hf (nb-(k+1))=Hat R Hf nb:=by
  simp [Hat,show k+1+(nb-(k+1))=nb by omega]
 rw [e] at hH
 rw [hH,look_same hc hn hH]
theorem next_big (R:List Rec) (ops:Array Oper):∀ (d p:Nat),R.length-p=d→p≤R.length→∃ q,p≤q∧q≤R.length∧(∀ r,R[q]?=some r→bigAt ops r=true)∧(∀ m r,p≤m→m<q→R[m]?=some r→bigAt ops r=false)
 | 0,p,hd,hp=>⟨p,Nat.le_refl _,hp,fun r hr=>by have:=(List.getElem?_eq_some_iff.1 hr).1;omega,fun m r h1 h2=>by omega⟩
 |d+1,p,hd,hp=>by
  have hlt:p<R.length:=by omega
  cases hb:bigAt ops R[p] with
  | true=>exact ⟨p,Nat.le_refl _,hp,fun r hr=>by simp [hlt] at hr;subst hr;exact hb,fun m r h1 h2=>by omega⟩
  |false =>
   obtain ⟨q,h1,h2,h3,h4⟩:=next_big R ops d (p+1) (by omega) (by omega)
   refine ⟨q,by omega,h2,h3,fun m r hm hm' hr=>?_⟩
   by_cases e:m=p
   ·subst e;simp [hlt] at hr;subst hr;exact hb
   ·exact h4 m r (by omega) hm' hr
end
end Go.Ev
namespace Go.Ev
open Go.RowKit
variable {B0:Nat}{V:Env}{call:CallFn}{n:Nat}{ds:List Deferred}{ops:Array Oper}{σ:List Nat}{T0:PTree Value}{H0:AH}{R:List Rec}{Tf:PTree Value}{Hf:AH}
def Listed (listed:Array Bool) (i:Nat):Prop:=listed.getD i false=true
def NewAt (V:Env) (ops:Array Oper) (R:List Rec) (k:Nat) (r:Rec) (ob:AObj):Prop:=
 R[k]?=some r∧∃ o mk,ops[r.i]?=some o∧cls o.op=.create∧aWanted ops r.T o=true∧aCreate V r.T o.op=some (mk,ob)
structure Inv (V:Env) (B0:Nat) (n:Nat) (ds:List Deferred) (ops:Array Oper) (T0:PTree Value) (H0:AH) (R:List Rec) (Hf:AH) (ι0:Emb) (w0:World) (fuel:Nat) (listed:Array Bool) (a:Act) (w:World) (nb:Nat) (ι:Emb) (T:PTree Value):Prop where
 sz:listed.size=ops.size
 cnt:listed.toList.count false=fuel
 closed:Closed ops (Listed listed)
 nbl:nb≤R.length
 nbbig:∀ r:Rec,R[nb]?=some r→bigAt ops r=true
 before:∀ (k:Nat) (r:Rec),k<nb→R[k]?=some r→bigAt ops r=true→Listed listed r.i
 after:∀ (k:Nat) (r:Rec),nb≤k→R[k]?=some r→bigAt ops r=true→¬ Listed listed r.i
 step:Step V.P B0 ι0 H0 w0 ι (Hat R Hf nb) w
 slots:∀ t,(∃ (k:Nat) (r:Rec) (o:Oper),R[k]?=some r∧Listed listed r.i∧ops[r.i]?=some o∧o.dst=some t∧T.get t=some r.v)∨((∀ (k:Nat) (r:Rec) (o:Oper),R[k]?=some r→Listed listed r.i→ops[r.i]?=some o→o.dst≠some t)∧T.get t=T0.get t)
 tr:TRel ι T a.tmps
 tsz:a.tmps.size=n
 td:a.defers=ds
 cr:∀ (k:Nat) (r:Rec) (ob:AObj),k<nb→NewAt V ops R k r ob→¬ Listed listed r.i→ι r.H.next=none∧H0.next≤r.H.next∧r.H.next<(Hat R Hf nb).next∧(Hat R Hf nb).obj r.H.next=ob
 crd:∀ (k1 k2:Nat) (r1 r2:Rec) (o1 o2:AObj),k1<nb→k2<nb→k1≠k2→NewAt V ops R k1 r1 o1→NewAt V ops R k2 r2 o2→¬ Listed listed r1.i→¬ Listed listed r2.i→r1.H.next≠r2.H.next
theorem listed_set {listed:Array Bool}{i j:Nat} (hi:i<listed.size):Listed (listed.setIfInBounds i true) j↔j=i∨Listed listed j:=by
 unfold Listed
 by_cases e:j=i
 ·subst e;simp [hi]
 ·simp [e,Array.getD_eq_getD_getElem?,Ne.symm e]
theorem count_set {listed:Array Bool}{i:Nat}{fuel:Nat} (hi:i<listed.size) (h0:listed.getD i true=false) (hc:listed.toList.count false=fuel+1):(listed.setIfInBounds i true).toList.count false=fuel:=by
 have hl:i<listed.toList.length:=by simpa using hi
 rw [Array.toList_setIfInBounds,List.count_set hl]
 have:listed.toList[i]=false:=by
  simp [Array.getD_eq_getD_getElem?,hi] at h0
  simpa using h0
 simp [this,hc]
theorem agree_at (h:Ran V call n ops σ T0 H0 R Tf Hf) {ι0:Emb}{w0:World}{fuel:Nat}{listed:Array Bool}{a:Act}{w:World}{nb:Nat}{ι:Emb}{T:PTree Value} (hI:Inv V B0 n ds ops T0 H0 R Hf ι0 w0 fuel listed a w nb ι T)
 {k:Nat}{r:Rec}{o:Oper} (hr:R[k]?=some r) (ho:ops[r.i]?=some o) (hun:¬ Listed listed r.i) (hed:∀ e∈o.after,Region.binds .any e=true→Listed listed e.on):Agree ops o T r.T:=by
 intro t ht
 have hk:k<R.length:=(List.getElem?_eq_some_iff.1 hr).1
 have hT:r.T=Tat R Tf k:=by simp [Tat,hr]
 rw [hT]
 rcases Tat_get h k (by omega) t with ⟨k1,r1,o1,q1,q2,q3,q4,q5⟩|⟨q1,q2⟩
 ·rw [q5]
  have hne:r1.i≠r.i:=fun e=>by have:=(h.uniq q2 hr e).1;omega
  rcases (h.ord.dst r1.i r.i o1 o t (h.mem q2) (h.mem hr) q3 ho hne q4).2 ht with ha|ha
  ·have hL:Listed listed r1.i:=anc_listed hI.closed r.i o ho hed r1.i ha
   rcases hI.slots t with ⟨k2,r2,o2,s1,s2,s3,s4,s5⟩|⟨s1,_⟩
   ·by_cases e:r2.i=r1.i
    ·obtain ⟨rfl,rfl⟩:=h.uniq s1 q2 e
     exact s5
    ·exact absurd q4 (h.ord.dst r2.i r1.i o2 o1 t (h.mem s1) (h.mem q2) s3 q3 e s4).1
   ·exact absurd q4 (s1 k1 r1 o1 q2 hL q3)
  ·have:=h.ord.anc_pos q3 ha
   rw [h.idx hr,h.idx q2] at this
   omega
 ·rw [q2]
  rcases hI.slots t with ⟨k2,r2,o2,s1,s2,s3,s4,s5⟩|⟨_,s2⟩
  ·have hk2:¬ k2<k:=fun hlt=>q1 k2 r2 o2 hlt s1 s3 s4
   have hne:r2.i≠r.i:=fun e=>hun (e ▸ s2)
   rcases (h.ord.dst r2.i r.i o2 o t (h.mem s1) (h.mem hr) s3 ho hne s4).2 ht with ha|ha
   ·have:=h.ord.anc_pos ho ha
    rw [h.idx hr,h.idx s1] at this
    omega
   ·exact absurd (anc_listed hI.closed r2.i o2 s3 (fun e he hb=>hI.closed r2.i o2 s3 s2 e he hb) r.i ha) hun
  ·exact s2
theorem Step.extend {P:Program}{ι ι':Emb}{H H' K:AH}{w w':World} (h:Step P B0 ι H w ι' H' w') (hn:H'.next≤K.next) (ho:∀ b,b<H'.next→K.obj b=H'.obj b) (hv:∀ g,K.ver g=H'.ver g) (hH:H.next≤H'.next):Step P B0 ι H w ι' K w':=by
 have hal:∀ o,K.alive o=H'.alive o:=fun o=>by cases o<;>simp [AH.alive,hv]
 have hdom:∀ b l,ι' b=some l→K.obj b=H'.obj b:=fun b l hb=>ho b (h.rel.dom b l hb)
 exact
  {le:=h.le,new:=h.new,next:=Nat.le_trans h.next hn
   rel := ⟨h.rel.base,fun b l hb=>Nat.lt_of_lt_of_le (h.rel.dom b l hb) hn,fun b l hb ha=>by
       rw [hdom b l hb] at ha ⊢;rw [hal] at ha;exact h.rel.obj b l hb ha,fun b b' l l' hne hb hb' ha ha' he=>by
       rw [hdom b l hb] at ha ⊢;rw [hdom b' l' hb'] at ha' ⊢;rw [hal] at ha ha';exact h.rel.sep b b' l l' hne hb hb' ha ha' he,fun b l et cells st g v hb hob=>by
       rw [hdom b l hb] at hob
       have:=h.rel.grp b l et cells st g v hb hob
       rw [hv];omega⟩
   size:=h.size,frame:=h.frame,low:=h.low
   fresh:=fun b l hb hn' ha=>by rw [hdom b l hb,hal] at ha;exact h.fresh b l hb hn' ha
   old:=fun b l hb ha=>by rw [hdom b l (h.le b l hb),hal] at ha;exact h.old b l hb ha
   loc:=fun b hb hn'=>(ho b (by omega)).trans (h.loc b hb hn')
   os:=h.os,tape:=h.tape,output:=h.output }
theorem Step.adopt {P:Program}{ι0 ι:Emb}{H0 M:AH}{w0 w:World} (h:Step P B0 ι0 H0 w0 ι M w) {b:Nat} (hb0:H0.next≤b) (hb:b<M.next) (hn:ι b=none) {ob:AObj} (ho:M.obj b=ob) (hl1:ob.lone=true) {obj:Obj}{l:ILoc} (hl:l.blk=w.heap.size)
  (hok:OOk P B0 (ι.ext b l) (w.alloc obj) l ob):Step P B0 ι0 H0 w0 (ι.ext b l) M (w.alloc obj):=by
 have hle:ι.le (ι.ext b l):=Emb.le_ext hn
 have key:∀ c l',ι.ext b l c=some l'→(c=b∧l'=l)∨(c≠b∧ι c=some l'):=fun c l' hc=>by
  unfold Emb.ext at hc
  by_cases e:c=b
  ·rw [if_pos e] at hc;cases hc;exact .inl ⟨e,rfl⟩
  ·rw [if_neg e] at hc;exact .inr ⟨e,hc⟩
 refine
  {le:=Emb.le_trans h.le hle
   new:=fun c l' hc=>?_
   next:=h.next
   rel:=h.rel.adopt hb hn ho hl1 hl hok
   size:=by have:=h.size;simp;omega
   frame:=fun c hc hf=>(Below.heap_alloc _ _ _ (Nat.lt_of_lt_of_le hc h.size)).trans (h.frame c hc hf)
   low:=fun c hc=>(Below.heap_alloc _ _ _ (by have:=h.rel.base;omega)).trans (h.low c hc)
   fresh:=fun c l' hc hn' ha=>?_
   old:=h.old,loc:=h.loc,os:=h.os,tape:=h.tape,output:=h.output }
 ·rcases key c l' hc with ⟨rfl,rfl⟩|⟨_,h1⟩
  ·refine .inr ⟨?_,hb0⟩
   cases e:ι0 c with
   | none=>rfl
   | some l''=>rw [h.le c l'' e] at hn;cases hn
  ·exact h.new c l' h1
 ·rcases key c l' hc with ⟨rfl,rfl⟩|⟨_,h1⟩
  ·exact .inl (by rw [hl];exact h.size)
  ·exact h.fresh c l' h1 hn' ha
theorem Step.same_emb {P:Program}{ι ι':Emb}{H:AH}{w w':World} (h:Step P B0 ι H w ι' H w'):ι'=ι:=by
 funext b
 cases e:ι' b with
 | none=>cases e':ι b with
  | none=>rfl
  | some l=>rw [h.le b l e'] at e;cases e
 | some l=>
  rcases h.new b l e with h1|⟨_,h1⟩
  ·exact h1.symm
  ·have:=h.rel.dom b l e;omega
end Go.Ev
namespace Go.Ev
open Go.RowKit
variable {B0:Nat}{V:Env}{call:CallFn}{n:Nat}{ds:List Deferred}{ops:Array Oper}{σ:List Nat}{T0:PTree Value}{H0:AH}{R:List Rec}{Tf:PTree Value}{Hf:AH}{ι0:Emb}{w0:World}
theorem new_chain (h:Ran V call n ops σ T0 H0 R Tf Hf) {p q k:Nat} (hpk:p≤k) (hkq:k<q) (hq:q≤R.length) (hno:∀ m r,p≤m→m<q→R[m]?=some r→bigAt ops r=false) {r:Rec}{ob:AObj} (hn:NewAt V ops R k r ob) :
  (Hat R Hf p).next≤r.H.next∧r.H.next<(Hat R Hf q).next∧(Hat R Hf q).obj r.H.next=ob∧(Hat R Hf (k+1)).next=r.H.next+1:=by
 obtain ⟨hr,o,mk,ho,hc,hw,hcr⟩:=hn
 obtain ⟨o',ho',hs,_,hH⟩:=h.step k r hr
 rw [ho] at ho';cases ho'
 have hHk:r.H=Hat R Hf k:=by simp [Hat,hr]
 have hs':r.H'=r.H.alloc ob:=by
  have hsn:=stepOp_seen hs
  unfold stepOp at hs
  rw [if_pos hsn] at hs
  rw [if_pos hw,hc] at hs
  simp only [hcr,Option.some.injEq,Prod.mk.injEq] at hs
  exact hs.2.symm
 have c1:=Hat_chain h p k hpk (by omega) (fun m r' h1 h2=>hno m r' h1 (by omega))
 have c2:=Hat_chain h (k+1) q (by omega) hq (fun m r' h1 h2=>hno m r' (by omega) h2)
 rw [hH,hs'] at c2
 refine ⟨by rw [hHk];exact c1.1,by have:=c2.1;simp at this;omega,?_,by rw [hH,hs'];rfl⟩
 rw [c2.2.1 r.H.next (by simp)]
 simp
theorem slots_step (h:Ran V call n ops σ T0 H0 R Tf Hf) {listed:Array Bool}{T T':PTree Value}{k:Nat}{r:Rec}{o:Oper} (hr:R[k]?=some r) (ho:ops[r.i]?=some o) (hi:r.i<listed.size) (hp:put n T o.dst r.v=some T')
 (hs:∀ t,(∃ (k:Nat) (r:Rec) (o:Oper),R[k]?=some r∧Listed listed r.i∧ops[r.i]?=some o∧o.dst=some t∧T.get t=some r.v)∨((∀ (k:Nat) (r:Rec) (o:Oper),R[k]?=some r→Listed listed r.i→ops[r.i]?=some o→o.dst≠some t)∧T.get t=T0.get t)) :
 ∀ t,(∃ (k:Nat) (q:Rec) (o:Oper),R[k]?=some q∧Listed (listed.setIfInBounds r.i true) q.i∧ops[q.i]?=some o∧o.dst=some t∧T'.get t=some q.v)∨((∀ (k:Nat) (q:Rec) (o:Oper),R[k]?=some q→Listed (listed.setIfInBounds r.i true) q.i→ops[q.i]?=some o→o.dst≠some t)∧T'.get t=T0.get t):=by
 intro t
 by_cases e:o.dst=some t
 ·refine .inl ⟨k,r,o,hr,(listed_set hi).2 (.inl rfl),ho,e,?_⟩
  rw [e] at hp
  simp only [put] at hp
  split at hp
  ·cases hp;simp
  ·cases hp
 ·have hT:T'.get t=T.get t:=by
   unfold put at hp
   cases hd:o.dst with
   | none=>rw [hd] at hp;cases hp;rfl
   |some d =>
    rw [hd] at hp
    simp only at hp
    split at hp
    ·cases hp
     exact PTree.get_set_ne _ _ (fun e'=>e (by rw [hd,e']))
    ·cases hp
  rw [hT]
  rcases hs t with ⟨k2,r2,o2,s1,s2,s3,s4,s5⟩|⟨s1,s2⟩
  ·exact .inl ⟨k2,r2,o2,s1,(listed_set hi).2 (.inr s2),s3,s4,s5⟩
  ·refine .inr ⟨fun k2 r2 o2 g1 g2 g3=>?_,s2⟩
   rcases (listed_set hi).1 g2 with g|g
   ·obtain ⟨rfl,rfl⟩:=h.uniq g1 hr g
    rw [ho] at g3;cases g3
    exact e
   ·exact s1 k2 r2 o2 g1 g g3
theorem put_some {n:Nat}{T T2 T':PTree Value}{d:Option Tmp}{v:Value} (h:put n T d v=some T'):∃ T3,put n T2 d v=some T3:=by
 unfold put at h ⊢
 cases d with
 | none=>exact ⟨T2,rfl⟩
 | some d=>
  simp only at h ⊢
  split at h
  ·rename_i hd;exact ⟨_,by rw [if_pos hd]⟩
  ·cases h
theorem closed_step {listed:Array Bool}{i:Nat}{o:Oper} (hc:Closed ops (Listed listed)) (ho:ops[i]?=some o) (hi:i<listed.size) (hed:∀ e∈o.after,Region.binds .any e=true→Listed listed e.on):Closed ops (Listed (listed.setIfInBounds i true)):=by
 intro j p hp hj e he hb
 rcases (listed_set hi).1 hj with rfl|hj
 ·rw [ho] at hp;cases hp
  exact (listed_set hi).2 (.inr (hed e he hb))
 ·exact (listed_set hi).2 (.inr (hc j p hp hj e he hb))
theorem Inv.small (h:Ran V call n ops σ T0 H0 R Tf Hf) {fuel:Nat}{listed:Array Bool}{a:Act}{w:World}{nb:Nat}{ι:Emb}{T:PTree Value} (hI:Inv V B0 n ds ops T0 H0 R Hf ι0 w0 (fuel+1) listed a w nb ι T)
  {k:Nat}{r:Rec}{o:Oper} (hr:R[k]?=some r) (ho:ops[r.i]?=some o) (h0:listed.getD r.i true=false) (hed:∀ e∈o.after,Region.binds .any e=true→Listed listed e.on) (hk:k<nb) (hb:bigAt ops r=false)
  {ι':Emb}{w':World}{v':Value} (hs:Step V.P B0 ι0 H0 w0 ι' (Hat R Hf nb) w') (hle:ι.le ι') (hv:VRel ι' r.v v') (hnew:∀ k2 r2 ob2,k2<nb→k2≠k→NewAt V ops R k2 r2 ob2→¬ Listed listed r2.i→ι' r2.H.next=none) :
  ∃ T',Inv V B0 n ds ops T0 H0 R Hf ι0 w0 fuel (listed.setIfInBounds r.i true) (a.put o.dst v') w' nb ι' T':=by
 have hi:r.i<listed.size:=by rw [hI.sz];exact (Array.getElem?_eq_some_iff.1 ho).1
 obtain ⟨o',ho',_,hp,_⟩:=h.step k r hr
 rw [ho] at ho';cases ho'
 obtain ⟨T',hp'⟩:=put_some (T2:=T) hp
 obtain ⟨g1,g2,g3⟩:=put_ok (hI.tr.mono hle) hI.tsz hv hp'
 have hLs:∀ j,Listed (listed.setIfInBounds r.i true) j↔j=r.i∨Listed listed j:=fun j=>listed_set hi
 refine ⟨T',by simpa using hI.sz,count_set hi h0 hI.cnt,closed_step hI.closed ho hi hed,hI.nbl,hI.nbbig,fun k2 r2 q1 q2 q3=>(hLs _).2 (.inr (hI.before k2 r2 q1 q2 q3)),fun k2 r2 q1 q2 q3 q4=>?_,hs,slots_step h hr ho hi hp' hI.slots,g1,g2,g3.trans hI.td,fun k2 r2 ob2 q1 q2 q3=>?_,fun k1 k2 r1 r2 o1 o2 q1 q2 q3 q4 q5 q6 q7=>?_⟩
 ·rcases (hLs _).1 q4 with e|q
  ·obtain ⟨rfl,rfl⟩:=h.uniq q2 hr e;rw [hb] at q3;cases q3
  ·exact hI.after k2 r2 q1 q2 q3 q
 ·have hn:¬ Listed listed r2.i:=fun q=>q3 ((hLs _).2 (.inr q))
  have hne:k2≠k:=fun e=>by
   subst e
   have:r2=r:=by have:=q2.1;rw [hr] at this;simpa using this.symm
   subst this
   exact q3 ((hLs _).2 (.inl rfl))
  obtain ⟨_,c2,c3,c4⟩:=hI.cr k2 r2 ob2 q1 q2 hn
  exact ⟨hnew k2 r2 ob2 q1 hne q2 hn,c2,c3,c4⟩
 ·exact hI.crd k1 k2 r1 r2 o1 o2 q1 q2 q3 q4 q5 (fun q=>q6 ((hLs _).2 (.inr q))) (fun q=>q7 ((hLs _).2 (.inr q)))
theorem Inv.big (h:Ran V call n ops σ T0 H0 R Tf Hf) {fuel:Nat}{listed:Array Bool}{a:Act}{w:World}{nb:Nat}{ι:Emb}{T:PTree Value} (hI:Inv V B0 n ds ops T0 H0 R Hf ι0 w0 (fuel+1) listed a w nb ι T)
 {r:Rec}{o:Oper} (hr:R[nb]?=some r) (ho:ops[r.i]?=some o) (h0:listed.getD r.i true=false) (hed:∀ e∈o.after,Region.binds .any e=true→Listed listed e.on) (hb:bigAt ops r=true)
 {ι':Emb}{w':World}{v':Value} (hs:Step V.P B0 ι (Hat R Hf nb) w ι' r.H' w') (hv:VRel ι' r.v v') :
 ∃ nb' T',Inv V B0 n ds ops T0 H0 R Hf ι0 w0 fuel (listed.setIfInBounds r.i true) (a.put o.dst v') w' nb' ι' T':=by
 have hi:r.i<listed.size:=by rw [hI.sz];exact (Array.getElem?_eq_some_iff.1 ho).1
 have hlt:nb<R.length:=(List.getElem?_eq_some_iff.1 hr).1
 obtain ⟨o',ho',_,hp,hH⟩:=h.step nb r hr
 rw [ho] at ho';cases ho'
 obtain ⟨T',hp'⟩:=put_some (T2:=T) hp
 obtain ⟨g1,g2,g3⟩:=put_ok (hI.tr.mono hs.le) hI.tsz hv hp'
 have hLs:∀ j,Listed (listed.setIfInBounds r.i true) j↔j=r.i∨Listed listed j:=fun j=>listed_set hi
 obtain ⟨nb',n1,n2,n3,n4⟩:=next_big R ops (R.length-(nb+1)) (nb+1) rfl (by omega)
 have c:=Hat_chain h (nb+1) nb' n1 n2 n4
 rw [hH] at c
 have hst:=hI.step.trans hs
 have hcb:cls o.op=.big:=(bigAt_iff ho).1 hb
 have hsplit:∀ k2 r2 ob2,k2<nb'→NewAt V ops R k2 r2 ob2→k2<nb∨nb+1≤k2:=fun k2 r2 ob2 q1 q2=>by
  by_cases e:k2=nb
  ·subst e
   obtain ⟨q3,o2,mk,q4,q5,_⟩:=q2
   rw [hr] at q3;cases q3
   rw [ho] at q4;cases q4
   rw [hcb] at q5;cases q5
  ·omega
 refine ⟨nb',T',by simpa using hI.sz,count_set hi h0 hI.cnt,closed_step hI.closed ho hi hed,n2,n3,fun k2 r2 q1 q2 q3=>?_,fun k2 r2 q1 q2 q3 q4=>?_,hst.extend c.1 c.2.1 c.2.2 hst.next,slots_step h hr ho hi hp' hI.slots,g1,g2,g3.trans hI.td,fun k2 r2 ob2 q1 q2 q3=>?_,fun k1 k2 r1 r2 o1 o2 q1 q2 q3 q4 q5 q6 q7=>?_⟩
 ·by_cases e1:k2<nb
  ·exact (hLs _).2 (.inr (hI.before k2 r2 e1 q2 q3))
  ·by_cases e2:k2=nb
   ·subst e2;rw [hr] at q2;cases q2;exact (hLs _).2 (.inl rfl)
   ·have:=n4 k2 r2 (by omega) q1 q2;rw [q3] at this;cases this
 ·rcases (hLs _).1 q4 with e|q
  ·have:=(h.uniq q2 hr e).1;omega
  ·exact hI.after k2 r2 (by omega) q2 q3 q
 ·have hn:¬ Listed listed r2.i:=fun q=>q3 ((hLs _).2 (.inr q))
  rcases hsplit k2 r2 ob2 q1 q2 with e|e
  ·obtain ⟨c1,c2,c3,c4⟩:=hI.cr k2 r2 ob2 e q2 hn
   have hlt':r2.H.next<r.H'.next:=Nat.lt_of_lt_of_le c3 hs.next
   refine ⟨?_,c2,Nat.lt_of_lt_of_le hlt' c.1,?_⟩
   ·cases e':ι' r2.H.next with
    | none=>rfl
    | some l=>rcases hs.new _ l e' with e''|⟨_,e''⟩
              ·rw [c1] at e'';cases e''
              ·omega
   ·rw [c.2.1 _ hlt',hs.loc _ c3 c1,c4]
  ·obtain ⟨d1,d2,d3,_⟩:=new_chain h e q1 n2 n4 q2
   rw [hH] at d1
   refine ⟨?_,Nat.le_trans hst.next d1,d2,d3⟩
   cases e':ι' r2.H.next with
   | none=>rfl
   | some l=>have:=hs.rel.dom _ l e';omega
 ·have hn1:¬ Listed listed r1.i:=fun q=>q6 ((hLs _).2 (.inr q))
  have hn2:¬ Listed listed r2.i:=fun q=>q7 ((hLs _).2 (.inr q))
  rcases hsplit k1 r1 o1 q1 q4 with e1|e1
  ·rcases hsplit k2 r2 o2 q2 q5 with e2|e2
   ·exact hI.crd k1 k2 r1 r2 o1 o2 e1 e2 q3 q4 q5 hn1 hn2
   ·have a1:=(hI.cr k1 r1 o1 e1 q4 hn1).2.2.1
    have a2:=(new_chain h e2 q2 n2 n4 q5).1
    rw [hH] at a2
    have:=hs.next
    omega
  ·rcases hsplit k2 r2 o2 q2 q5 with e2|e2
   ·have a1:=(hI.cr k2 r2 o2 e2 q5 hn2).2.2.1
    have a2:=(new_chain h e1 q1 n2 n4 q4).1
    rw [hH] at a2
    have:=hs.next
    omega
   ·rcases Nat.lt_or_gt_of_ne q3 with hlt'|hlt'
    ·have a1:=(new_chain h e1 q1 n2 n4 q4).2.2.2
     have a2:=(new_chain h (p:=k1+1) (q:=nb') hlt' q2 n2 (fun m r' m1 m2=>n4 m r' (by omega) m2) q5).1
     omega
    ·have a1:=(new_chain h e2 q2 n2 n4 q5).2.2.2
     have a2:=(new_chain h (p:=k2+1) (q:=nb') hlt' q1 n2 (fun m r' m1 m2=>n4 m r' (by omega) m2) q4).1
     omega
theorem Inv.start (h:Ran V call n ops σ T0 H0 R Tf Hf) {a:Act}{w:World} (hT:TRel ι0 T0 a.tmps) (hn:a.tmps.size=n) (hd:a.defers=ds) (hR:HRel V.P B0 ι0 H0 w) :
  ∃ nb,Inv V B0 n ds ops T0 H0 R Hf ι0 w ops.size (Array.replicate ops.size false) a w nb ι0 T0:=by
 obtain ⟨nb,n1,n2,n3,n4⟩:=next_big R ops (R.length-0) 0 rfl (by omega)
 have c:=Hat_chain h 0 nb n1 n2 n4
 rw [h.zero.1] at c
 have hno:∀ i,¬ Listed (Array.replicate ops.size false) i:=fun i hi=>by
  unfold Listed at hi
  simp [Array.getD_eq_getD_getElem?,Array.getElem?_replicate] at hi
  split at hi<;>simp at hi
 have hst:=(Step.refl hR).extend c.1 c.2.1 c.2.2 (Nat.le_refl _)
 refine ⟨nb,by simp,by simp,fun j o _ hj=>absurd hj (hno j),n2,n3,fun k r q1 q2 q3=>?_,fun k r _ _ _=>hno _,hst,fun t=>.inr ⟨fun k r o _ hL=>absurd hL (hno _),rfl⟩,hT,hn,hd,fun k r ob q1 q2 _=>?_,fun k1 k2 r1 r2 o1 o2 q1 q2 q3 q4 q5 _ _=>?_⟩
 ·have:=n4 k r (Nat.zero_le _) q1 q2;rw [q3] at this;cases this
 ·obtain ⟨d1,d2,d3,_⟩:=new_chain h (Nat.zero_le k) q1 n2 n4 q2
  rw [h.zero.1] at d1
  refine ⟨?_,d1,d2,d3⟩
  cases e':ι0 r.H.next with
  | none=>rfl
  | some l=>have:=hR.dom _ l e';omega
 ·rcases Nat.lt_or_gt_of_ne q3 with hlt'|hlt'
  ·have a1:=(new_chain h (Nat.zero_le k1) q1 n2 n4 q4).2.2.2
   have a2:=(new_chain h (p:=k1+1) (q:=nb) hlt' q2 n2 (fun m r' m1 m2=>n4 m r' (by omega) m2) q5).1
   omega
  ·have a1:=(new_chain h (Nat.zero_le k2) q2 n2 n4 q5).2.2.2
   have a2:=(new_chain h (p:=k2+1) (q:=nb) hlt' q1 n2 (fun m r' m1 m2=>n4 m r' (by omega) m2) q4).1
   omega
end Go.Ev
namespace Go.Ev
open Go.RowKit
variable {B0:Nat}{V:Env}{call:CallFn}{n:Nat}{ds:List Deferred}{ops:Array Oper}{σ:List Nat}{T0:PTree Value}{H0:AH}{R:List Rec}{Tf:PTree Value}{Hf:AH}{ι0:Emb}{w0:World}
theorem all_listed (h:Ran V call n ops σ T0 H0 R Tf Hf) {listed:Array Bool} (hsz:listed.size=ops.size) (hr:Region.ready .any ops listed=[]):∀ (k:Nat) (r:Rec),R[k]?=some r→Listed listed r.i:=by
 intro k
 induction k using Nat.strongRecOn with
 |_ k ih =>
  intro r hk
  have hin:=h.ord.lt _ (h.mem hk)
  obtain ⟨o,ho,_⟩:=h.step k r hk
  by_cases hL:Listed listed r.i
  ·exact hL
  ·exfalso
   have:r.i∈Region.ready .any ops listed:=mem_ready.2 ⟨by
    unfold Listed at hL
    have hi:r.i<listed.size:=by omega
    simp only [Array.getD_eq_getD_getElem?,Array.getElem?_eq_getElem hi,Option.getD_some] at hL ⊢
    simpa using hL,o,ho,fun e he hb=>by
    have hlt:=h.ord.topo r.i o ho e he hb
    rw [h.idx hk] at hlt
    have hmem:e.on∈σ:=by
     have hl:R.length=σ.length:=by rw [←h.ids];simp
     have hk':=(List.getElem?_eq_some_iff.1 hk).1
     exact List.idxOf_lt_length_iff.1 (by omega)
    obtain ⟨k2,r2,q1,q2⟩:=h.find (h.ord.lt _ hmem)
    have:=h.idx q1
    rw [q2] at this
    have:=ih k2 (by omega) r2 q1
    rw [q2] at this
    exact this⟩
   rw [hr] at this
   cases this
theorem draw_done (h:Ran V call n ops σ T0 H0 R Tf Hf) {Q:Exit→Act→World→Prop} (hQ:∀ ι' a' w',TRel ι' Tf a'.tmps→a'.tmps.size=n→a'.defers=ds→Step V.P B0 ι0 H0 w0 ι' Hf w'→Q .normal a' w')
 {fuel:Nat}{listed:Array Bool}{a:Act}{w:World}{nb:Nat}{ι:Emb}{T:PTree Value} (hI:Inv V B0 n ds ops T0 H0 R Hf ι0 w0 fuel listed a w nb ι T) (hr:Region.ready .any ops listed=[]):Q .normal a w:=by
 have hall:=all_listed h hI.sz hr
 have hnb:nb=R.length:=by
  rcases Nat.eq_or_lt_of_le hI.nbl with e|hlt
  ·exact e
  ·have h1:=hI.nbbig R[nb] (by simp [hlt])
   exact absurd (hall nb R[nb] (by simp [hlt])) (hI.after nb R[nb] (Nat.le_refl _) (by simp [hlt]) h1)
 have hH:Hat R Hf nb=Hf:=by rw [hnb];simp [Hat]
 have hst:=hI.step
 rw [hH] at hst
 refine hQ ι a w (fun t v hv=>?_) hI.tsz hI.td hst
 have hTf:Tat R Tf R.length=Tf:=by simp [Tat]
 have key:T.get t=Tf.get t:=by
  have h1:=Tat_get h R.length (Nat.le_refl _) t
  rw [hTf] at h1
  rcases h1 with ⟨k1,r1,o1,_,q2,q3,q4,q5⟩|⟨q1,q2⟩
  ·rw [q5]
   rcases hI.slots t with ⟨k2,r2,o2,s1,s2,s3,s4,s5⟩|⟨s1,_⟩
   ·by_cases e:r2.i=r1.i
    ·obtain ⟨rfl,rfl⟩:=h.uniq s1 q2 e
     exact s5
    ·exact absurd q4 (h.ord.dst r2.i r1.i o2 o1 t (h.mem s1) (h.mem q2) s3 q3 e s4).1
   ·exact absurd q4 (s1 k1 r1 o1 q2 (hall k1 r1 q2) q3)
  ·rw [q2]
   rcases hI.slots t with ⟨k2,r2,o2,s1,s2,s3,s4,s5⟩|⟨_,s2⟩
   ·exact absurd s4 (q1 k2 r2 o2 (List.getElem?_eq_some_iff.1 s1).1 s1 s3)
   ·exact s2
 exact hI.tr t v (by rw [key];exact hv)
theorem draw_any {ro:Option Nat} (hE:TOk V.E V.P) (hF:FOk V.F V.P) (hc:CallOk V call) (h:Ran V call n ops σ T0 H0 R Tf Hf) (hG:GOk ι0 V.nG) {Q:Exit→Act→World→Prop}
 (hQ:∀ ι' a' w',TRel ι' Tf a'.tmps→a'.tmps.size=n→a'.defers=ds→Step V.P B0 ι0 H0 w0 ι' Hf w'→Q .normal a' w') :
 ∀ (fuel:Nat) (listed:Array Bool) (a:Act) (w:World) (nb:Nat) (ι:Emb) (T:PTree Value),Inv V B0 n ds ops T0 H0 R Hf ι0 w0 fuel listed a w nb ι T→wpAnyIn (Wd ro) 0 V.P .any ops Q fuel listed a w
 |0,listed,a,w,nb,ι,T,hI=>by
  have hr:Region.ready .any ops listed=[]:=by
   have hc0:=hI.cnt
   rw [List.count_eq_zero] at hc0
   cases hrd:Region.ready .any ops listed with
   | nil=>rfl
   |cons j js =>
    have hj:j∈Region.ready .any ops listed:=by rw [hrd];simp
    obtain ⟨h1,o,ho,_⟩:=mem_ready.1 hj
    have hlt:j<listed.size:=by rw [hI.sz];exact (Array.getElem?_eq_some_iff.1 ho).1
    refine absurd ?_ hc0
    simp only [Array.getD_eq_getD_getElem?,Array.getElem?_eq_getElem hlt,Option.getD_some] at h1
    rw [←h1]
    simp
  exact ⟨hr,draw_done h hQ hI hr⟩
 |fuel+1,listed,a,w,nb,ι,T,hI=>by
  refine ⟨fun hr=>draw_done h hQ hI hr,fun i hi=>?_⟩
  obtain ⟨h0,o,ho,hed⟩:=mem_ready.1 hi
  obtain ⟨k,r,hr,rfl⟩:=h.find (Array.getElem?_eq_some_iff.1 ho).1
  have hilt:r.i<listed.size:=by rw [hI.sz];exact (Array.getElem?_eq_some_iff.1 ho).1
  have hun:¬ Listed listed r.i:=fun hL=>by
   unfold Listed at hL
   simp only [Array.getD_eq_getD_getElem?,Array.getElem?_eq_getElem hilt,Option.getD_some] at hL h0
   rw [hL] at h0;cases h0
  have hag:=agree_at h hI hr ho hun hed
  have hG':GOk ι V.nG:=hG.mono hI.step.le
  obtain ⟨o',ho',hs,_,hH⟩:=h.step k r hr
  rw [ho] at ho';cases ho'
  have hHk:r.H=Hat R Hf k:=by simp [Hat,hr]
  unfold wpOpIn
  simp only [ho]
  have hsn:=stepOp_seen hs
  rw [aWanted_ok hI.tr o (by rw [aSeen_agree hag];exact hsn),aWanted_agree hag]
  unfold stepOp at hs
  rw [if_pos hsn] at hs
  cases hb:bigAt ops r with
  |true =>
   have hcb:cls o.op=.big:=(bigAt_iff ho).1 hb
   have hk:k=nb:=by
    rcases Nat.lt_trichotomy k nb with hlt|e|hgt
    ·exact absurd (hI.before k r hlt hr hb) hun
    ·exact e
    ·exfalso
     have hlt:nb<R.length:=Nat.lt_trans hgt (List.getElem?_eq_some_iff.1 hr).1
     have hnb:R[nb]?=some R[nb]:=by simp [hlt]
     have hbn:=hI.nbbig R[nb] hnb
     obtain ⟨o2,ho2,_⟩:=h.step nb R[nb] hnb
     have ha:=h.ord.big R[nb].i r.i o2 (h.mem hnb) (h.mem hr) ho2 ((bigAt_iff ho2).1 hbn) (by rw [h.idx hnb,h.idx hr];exact hgt)
     exact hI.after nb R[nb] (Nat.le_refl _) hnb hbn (anc_listed hI.closed r.i o ho hed _ ha)
   subst hk
   by_cases hw:aWanted ops r.T o=true
   ·rw [if_pos hw] at hs ⊢
    rw [hcb] at hs
    simp only at hs
    rw [←evOp_agree hag,hHk] at hs
    refine (evOp_wp hE hF hc hI.tr hG' hI.step.rel hs fun v' w' ι' hv hst=>?_)
    obtain ⟨nb',T',hI'⟩:=hI.big h hr ho h0 hed hb hst hv
    exact draw_any hE hF hc h hG hQ fuel _ _ _ nb' ι' T' hI'
   ·rw [if_neg hw] at hs ⊢
    simp only [Option.some.injEq,Prod.mk.injEq] at hs
    have hst:Step V.P B0 ι (Hat R Hf k) w ι r.H' w:=by rw [←hs.2,hHk];exact Step.refl hI.step.rel
    obtain ⟨nb',T',hI'⟩:=hI.big h hr ho h0 hed hb hst (v':=undef) (by rw [←hs.1];exact VRel.undef)
    exact ⟨fun _ _=>trivial,draw_any hE hF hc h hG hQ fuel _ _ _ nb' ι T' hI'⟩
  |false =>
   have hcb:cls o.op≠.big:=fun e=>by rw [(bigAt_iff ho).2 e] at hb;cases hb
   have hk:k<nb:=by
    rcases Nat.lt_or_ge k nb with hlt|hge
    ·exact hlt
    ·exfalso
     rcases Nat.eq_or_lt_of_le hge with e|hgt
     ·subst e;have:=hI.nbbig r hr;rw [hb] at this;cases this
     ·have hlt:nb<R.length:=Nat.lt_trans hgt (List.getElem?_eq_some_iff.1 hr).1
      have hnb:R[nb]?=some R[nb]:=by simp [hlt]
      have hbn:=hI.nbbig R[nb] hnb
      obtain ⟨o2,ho2,_⟩:=h.step nb R[nb] hnb
      have ha:=h.ord.big R[nb].i r.i o2 (h.mem hnb) (h.mem hr) ho2 ((bigAt_iff ho2).1 hbn) (by rw [h.idx hnb,h.idx hr];exact hgt)
      exact hI.after nb R[nb] (Nat.le_refl _) hnb hbn (anc_listed hI.closed r.i o ho hed _ ha)
   by_cases hw:aWanted ops r.T o=true
   ·rw [if_pos hw] at hs ⊢
    cases hcl:cls o.op with
    | big=>exact absurd hcl hcb
    |look =>
     have hl:=h.looks k nb r o hr ho hcl hw hk hI.nbl hI.nbbig fun m q m1 m2 m3 m4=>by
      cases hq:anc (masks ops.toList []) r.i q.i with
      | false=>rfl
      |true =>
       exfalso
       obtain ⟨oq,hoq,_⟩:=h.step m q m3
       have hLq:=hI.before m q m2 m3 m4
       exact hun (anc_listed hI.closed q.i oq hoq (fun e he hbb=>hI.closed q.i oq hoq hLq e he hbb) _ hq)
     rw [←aop_agree hag] at hl
     have hev:evOp V call T (Hat R Hf nb) o.op=some (r.v,Hat R Hf nb):=by
      unfold evOp
      split
      ·rename_i heq;rw [heq] at hcl;simp [cls] at hcl
      ·exact hl
     refine (evOp_wp hE hF hc hI.tr hG' hI.step.rel hev fun v' w' ι' hv hst=>?_)
     have e:=hst.same_emb
     subst e
     obtain ⟨T',hI'⟩:=hI.small h hr ho h0 hed hk hb (hI.step.trans hst) (Emb.le_refl _) hv fun k2 r2 ob2 q1 _ q2 q3=>(hI.cr k2 r2 ob2 q1 q2 q3).1
     exact draw_any hE hF hc h hG hQ fuel _ _ _ nb _ T' hI'
    |create =>
     rw [hcl] at hs
     simp only at hs
     cases hcr:aCreate V r.T o.op with
     | none=>rw [hcr] at hs;cases hs
     |some mo =>
      obtain ⟨mk,ob⟩:=mo
      rw [hcr] at hs
      simp only [Option.some.injEq,Prod.mk.injEq] at hs
      have hnew:NewAt V ops R k r ob:=⟨hr,o,mk,ho,hcl,hw,hcr⟩
      obtain ⟨c1,c2,c3,c4⟩:=hI.cr k r ob hk hnew hun
      rw [←aCreate_agree hag] at hcr
      obtain ⟨hlone,v',obj,l,hmk⟩:=aCreate_ok (B0:=B0) (w:=w) hE hI.tr hG' hcr
      obtain ⟨m1,m2⟩:=hmk.ok r.H.next c1 hI.step.rel.base
      unfold Oper.wpIn
      refine ⟨fun _ _=>trivial,?_⟩
      rw [Oper.semAt_eq _ _ _ fun c e=>by rw [e] at hcr;simp [aCreate] at hcr]
      rw [hmk.run]
      simp only [Oper.uponIn]
      have hst:=hI.step.adopt c2 c3 c1 c4 hlone hmk.blk m2
      obtain ⟨T',hI'⟩:=hI.small h hr ho h0 hed hk hb hst (Emb.le_ext c1) (v':=v') (by rw [←hs.1];exact m1) fun k2 r2 ob2 q1 qne q2 q3=>by
       have hne:=hI.crd k2 k r2 r ob2 ob q1 hk qne q2 hnew q3 hun
       unfold Emb.ext
       rw [if_neg hne]
       exact (hI.cr k2 r2 ob2 q1 q2 q3).1
      exact draw_any hE hF hc h hG hQ fuel _ _ _ nb _ T' hI'
   ·rw [if_neg hw] at hs ⊢
    simp only [Option.some.injEq,Prod.mk.injEq] at hs
    obtain ⟨T',hI'⟩:=hI.small h hr ho h0 hed hk hb hI.step (Emb.le_refl _) (v':=undef) (by rw [←hs.1];exact VRel.undef) fun k2 r2 ob2 q1 _ q2 q3=>(hI.cr k2 r2 ob2 q1 q2 q3).1
    exact ⟨fun _ _=>trivial,draw_any hE hF hc h hG hQ fuel _ _ _ nb ι T' hI'⟩
theorem ran_wp (hE:TOk V.E V.P) (hF:FOk V.F V.P) (hm:V.P.follows .mixedOrders=true) (hc:CallOk V call) (ro:Option Nat) (id:Nat) {ι:Emb}{T:PTree Value}{H:AH}{a:Act}{w:World}{T':PTree Value}{H':AH}{R:List Rec}
  (hT:TRel ι T a.tmps) (hn:a.tmps.size=n) (hd:a.defers=ds) (hG:GOk ι V.nG) (hR:HRel V.P B0 ι H w) (h:Ran V call n ops σ T H R T' H') (Q:Exit→Act→World→Prop)
  (hQ:∀ ι' a' w',TRel ι' T' a'.tmps→a'.tmps.size=n→a'.defers=ds→Step V.P B0 ι H w ι' H' w'→Q .normal a' w'):(Code.region id ops true).wpIn (Wd ro) 0 V.P Q a w:=by
 refine wpIn_region_any hm ?_
 have hR':HRel V.P B0 ι H w.drew:=hR.drewN w.drew rfl
 obtain ⟨nb,hI⟩:=Inv.start h hT hn hd hR'
 exact draw_any hE hF hc h hG (w0:=w.drew) (fun ι' a' w' g1 g2 g3 g4=>hQ ι' a' w' g1 g2 g3 ((Step.drew hR).trans g4)) _ _ _ _ nb ι T hI
end Go.Ev
