/-
  EV, part A: maps keyed by numbers (PTree), the abstract heap, and how abstract values and heaps stand to the model's own.
-/
import Derived.Orders
import Derived.Below
import Derived.Laws.Sem
import Derived.Laws.World
import Derived.Laws.Tables
import Derived.WalkKit
import Derived.WalkLawsBesides
set_option linter.all false
namespace Go.Ev
open Go.RowKit
inductive PTree (α:Type) where
 | leaf
 | node (l:PTree α) (o:Option α) (r:PTree α)
namespace PTree
variable {α:Type}
def getS:PTree α→Nat→Option α
 | leaf,_=>none
 | node l o r,n=>if n=0 then o else if n % 2=1 then getS l (n / 2) else getS r ((n-1) / 2)
def setFS (v:α):Nat→Nat→PTree α→PTree α
 | 0,_,t=>t
 | f+1,n,leaf=>if n=0 then node leaf (some v) leaf else if n % 2=1 then node (setFS v f (n / 2) leaf) none leaf else node leaf none (setFS v f ((n-1) / 2) leaf)
 | f+1,n,node l o r=>if n=0 then node l (some v) r else if n % 2=1 then node (setFS v f (n / 2) l) o r else node l o (setFS v f ((n-1) / 2) r)
theorem getS_setFS (v:α):∀ (f n m:Nat) (t:PTree α),n<f→(setFS v f n t).getS m=if m=n then some v else t.getS m
 | 0,_,_,_,h=>absurd h (Nat.not_lt_zero _)
 |f+1,n,m,leaf,h=>by
  unfold setFS
  by_cases h0:n=0
  ·subst h0
   by_cases hm:m=0
   ·simp [getS,hm]
   ·simp [getS,hm]
  ·rw [if_neg h0]
   by_cases ho:n % 2=1
   ·rw [if_pos ho]
    simp only [getS]
    by_cases hm:m=0
    ·rw [if_pos hm,if_neg (by omega)]
    ·rw [if_neg hm]
     by_cases hmo:m % 2=1
     ·rw [if_pos hmo,getS_setFS v f (n / 2) (m / 2) leaf (by omega)]
      by_cases e:m=n
      ·subst e;simp
      ·rw [if_neg (by omega),if_neg e];rfl
     ·rw [if_neg hmo,if_neg (by omega)]
   ·rw [if_neg ho]
    simp only [getS]
    by_cases hm:m=0
    ·rw [if_pos hm,if_neg (by omega)]
    ·rw [if_neg hm]
     by_cases hmo:m % 2=1
     ·rw [if_pos hmo,if_neg (by omega)]
     ·rw [if_neg hmo,getS_setFS v f ((n-1) / 2) ((m-1) / 2) leaf (by omega)]
      by_cases e:m=n
      ·subst e;simp
      ·rw [if_neg (by omega),if_neg e];rfl
 |f+1,n,m,node l o r,h=>by
  unfold setFS
  by_cases h0:n=0
  ·subst h0
   rw [if_pos rfl]
   simp only [getS]
   by_cases hm:m=0
   ·simp [hm]
   ·simp [hm]
  ·rw [if_neg h0]
   by_cases ho:n % 2=1
   ·rw [if_pos ho]
    simp only [getS]
    by_cases hm:m=0
    ·rw [if_pos hm,if_neg (by omega),if_pos hm]
    ·rw [if_neg hm,if_neg hm]
     by_cases hmo:m % 2=1
     ·rw [if_pos hmo,if_pos hmo,getS_setFS v f (n / 2) (m / 2) l (by omega)]
      by_cases e:m=n
      ·subst e;simp
      ·rw [if_neg (by omega),if_neg e]
     ·rw [if_neg hmo,if_neg hmo,if_neg (by omega)]
   ·rw [if_neg ho]
    simp only [getS]
    by_cases hm:m=0
    ·rw [if_pos hm,if_neg (by omega),if_pos hm]
    ·rw [if_neg hm,if_neg hm]
     by_cases hmo:m % 2=1
     ·rw [if_pos hmo,if_pos hmo,if_neg (by omega)]
     ·rw [if_neg hmo,if_neg hmo,getS_setFS v f ((n-1) / 2) ((m-1) / 2) r (by omega)]
      by_cases e:m=n
      ·subst e;simp
      ·rw [if_neg (by omega),if_neg e]
def get:PTree α→Nat→Option α
 | leaf,_=>none
 | node _ o _,0=>o
 |node l _ r,n+1=>match Nat.beq (n % 2) 0 with
  | true=>get l ((n+1) / 2)
  | false=>get r (n / 2)
def setF (v:α):Nat→Nat→PTree α→PTree α
 | 0,_,t=>t
 | _+1,0,leaf=>node leaf (some v) leaf
 | _+1,0,node l _ r=>node l (some v) r
 |f+1,n+1,leaf=>match Nat.beq (n % 2) 0 with
  | true=>node (setF v f ((n+1) / 2) leaf) none leaf
  | false=>node leaf none (setF v f (n / 2) leaf)
 |f+1,n+1,node l o r=>match Nat.beq (n % 2) 0 with
  | true=>node (setF v f ((n+1) / 2) l) o r
  | false=>node l o (setF v f (n / 2) r)
def set (t:PTree α) (n:Nat) (v:α):PTree α:=setF v (n+1) n t
theorem get_eq:∀ (t:PTree α) (n:Nat),t.get n=t.getS n
 | leaf,_=>rfl
 | node l o r,0=>rfl
 | node l o r,n+1=>by
  unfold get getS
  rw [if_neg (Nat.succ_ne_zero n)]
  cases h:Nat.beq (n % 2) 0 with
  | true=>
   have:=Nat.eq_of_beq_eq_true h
   rw [if_pos (by omega)]
   exact get_eq l _
  | false=>
   have:=Nat.ne_of_beq_eq_false h
   rw [if_neg (by omega)]
   exact get_eq r _
theorem setF_eq (v:α):∀ (f n:Nat) (t:PTree α),setF v f n t=setFS v f n t
 | 0,_,_=>by unfold setF setFS;rfl
 | f+1,0,leaf=>by unfold setF setFS;rfl
 | f+1,0,node l o r=>by unfold setF setFS;rfl
 |f+1,n+1,leaf=>by
  unfold setF setFS
  rw [if_neg (Nat.succ_ne_zero n)]
  cases h:Nat.beq (n % 2) 0 with
  |true =>
   have:=Nat.eq_of_beq_eq_true h
   rw [if_pos (by omega)]
   simp only [setF_eq v f]
  |false =>
   have:=Nat.ne_of_beq_eq_false h
   rw [if_neg (by omega)]
   simp only [setF_eq v f,Nat.add_sub_cancel]
 |f+1,n+1,node l o r=>by
  unfold setF setFS
  rw [if_neg (Nat.succ_ne_zero n)]
  cases h:Nat.beq (n % 2) 0 with
  |true =>
   have:=Nat.eq_of_beq_eq_true h
   rw [if_pos (by omega)]
   simp only [setF_eq v f]
  |false =>
   have:=Nat.ne_of_beq_eq_false h
   rw [if_neg (by omega)]
   simp only [setF_eq v f,Nat.add_sub_cancel]
@[simp] theorem get_leaf (n:Nat):(leaf:PTree α).get n=none:=rfl
@[simp] theorem get_set (t:PTree α) (n m:Nat) (v:α):(t.set n v).get m=if m=n then some v else t.get m:=by
 unfold set
 rw [get_eq,setF_eq,getS_setFS v (n+1) n m t (Nat.lt_succ_self n),get_eq]
theorem get_set_same (t:PTree α) (n:Nat) (v:α):(t.set n v).get n=some v:=by simp
theorem get_set_ne (t:PTree α) {n m:Nat} (v:α) (h:m≠n):(t.set n v).get m=t.get m:=by simp [h]
end PTree
inductive RowSt where
 | exact|loose|shared|ro
 deriving DecidableEq
def unk:Nat:=18446744073709551616
inductive AObj where
 | row (et:TypeId) (cells:List Value) (st:RowSt) (grp ver:Nat)
 | map (es:List (Value×Value))
 | strIter (s:ByteArray) (pos:Nat)
 | loop (st:LoopState) (pend:Option Code) (n:Nat) (T:PTree Value) (ps:Array Tmp) (assign body:Code)
 | dead
structure AH where
 tree:PTree AObj
 next:Nat
 wv:PTree Nat
namespace AH
def obj (H:AH) (b:Nat):AObj:=(H.tree.get b).getD .dead
def ver (H:AH) (g:Nat):Nat:=(H.wv.get g).getD 0
def put (H:AH) (b:Nat) (o:AObj):AH:={ H with tree:=H.tree.set b o }
def alloc (H:AH) (o:AObj):AH:={ H with tree:=H.tree.set H.next o,next:=H.next+1 }
def bump (H:AH) (g v:Nat):AH:={ H with wv:=H.wv.set g v }
@[simp] theorem obj_put (H:AH) (b c:Nat) (o:AObj):(H.put b o).obj c=if c=b then o else H.obj c:=by
 unfold put obj;simp only [PTree.get_set];split<;>rfl
@[simp] theorem obj_alloc (H:AH) (c:Nat) (o:AObj):(H.alloc o).obj c=if c=H.next then o else H.obj c:=by
 unfold alloc obj;simp only [PTree.get_set];split<;>rfl
@[simp] theorem obj_bump (H:AH) (g v c:Nat):(H.bump g v).obj c=H.obj c:=rfl
@[simp] theorem next_put (H:AH) (b:Nat) (o:AObj):(H.put b o).next=H.next:=rfl
@[simp] theorem next_alloc (H:AH) (o:AObj):(H.alloc o).next=H.next+1:=rfl
@[simp] theorem next_bump (H:AH) (g v:Nat):(H.bump g v).next=H.next:=rfl
@[simp] theorem ver_put (H:AH) (b g:Nat) (o:AObj):(H.put b o).ver g=H.ver g:=rfl
@[simp] theorem ver_alloc (H:AH) (g:Nat) (o:AObj):(H.alloc o).ver g=H.ver g:=rfl
@[simp] theorem ver_bump (H:AH) (g v k:Nat):(H.bump g v).ver k=if k=g then v else H.ver k:=by
 unfold bump ver;simp only [PTree.get_set];split<;>rfl
end AH
structure ILoc where
 blk:Nat
 base:Nat
 size:Nat
 esz:Nat
abbrev Emb:=Nat→Option ILoc
def Emb.le (ι ι':Emb):Prop:=∀ b l,ι b=some l→ι' b=some l
theorem Emb.le_refl (ι:Emb):ι.le ι:=fun _ _ h=>h
theorem Emb.le_trans {a b c:Emb} (h:a.le b) (k:b.le c):a.le c:=fun _ _ x=>k _ _ (h _ _ x)
inductive VRel (ι:Emb):Value→Value→Prop
 | bool (b:Bool):VRel ι (.bool b) (.bool b)
 | int (k:IntKind) (n:Int):VRel ι (.int k n) (.int k n)
 | float (k:FloatKind) (n:Nat):VRel ι (.float k n) (.float k n)
 | string (s:ByteArray):VRel ι (.string s) (.string s)
 | ptrNil:VRel ι (.pointer none) (.pointer none)
 | ptr {b off:Nat}{l:ILoc} (h:ι b=some l):VRel ι (.pointer (some ⟨b,off,none⟩)) (.pointer (some ⟨l.blk,l.base+off,none⟩))
 | sliceNil:VRel ι (.slice none 0 0) (.slice none 0 0)
 | slice {b off len cap:Nat}{l:ILoc} (h:ι b=some l) (hc:cap<unk) (hl:len≤cap):VRel ι (.slice (some ⟨b,off,none⟩) len cap) (.slice (some ⟨l.blk,l.base+off,none⟩) len cap)
 | sliceUnk {b off len cap:Nat}{l:ILoc} (h:ι b=some l) (hl:len≤cap) (hs:l.base+off+cap*l.esz=l.size) (he:0<l.esz):VRel ι (.slice (some ⟨b,off,none⟩) len unk) (.slice (some ⟨l.blk,l.base+off,none⟩) len cap)
 | sliceEnd {b off:Nat}{l:ILoc} (a:Addr) (h:ι b=some l) (hs:l.base+off=l.size):VRel ι (.slice (some ⟨b,off,none⟩) 0 unk) (.slice (some a) 0 0)
 | sliceZ {b off:Nat} (a:Addr):VRel ι (.slice (some ⟨b,off,none⟩) 0 0) (.slice (some a) 0 0)
 | mapNil:VRel ι (.map none) (.map none)
 | map {b:Nat}{l:ILoc} (h:ι b=some l):VRel ι (.map (some b)) (.map (some l.blk))
 | func {f:FuncId}{xs ys xs' ys':Array Value} (hx:xs.size=xs'.size) (hy:ys.size=ys'.size)
  (h:∀ i (h:i<xs.size) (h':i<xs'.size),VRel ι xs[i] xs'[i]) (k:∀ i (h:i<ys.size) (h':i<ys'.size),VRel ι ys[i] ys'[i]):VRel ι (.func (.func f) xs ys) (.func (.func f) xs' ys')
 | yield {b:Nat}{l:ILoc} (h:ι b=some l):VRel ι (.func (.yield b) #[] #[]) (.func (.yield l.blk) #[] #[])
 | nilFunc:VRel ι .nilFunc .nilFunc
 | iface {t:TypeId}{v v':Value} (h:VRel ι v v'):VRel ι (.iface t v) (.iface t v')
 | nilIface:VRel ι .nilIface .nilIface
 | agg {xs xs':Array Value} (hx:xs.size=xs'.size) (h:∀ i (h:i<xs.size) (h':i<xs'.size),VRel ι xs[i] xs'[i]):VRel ι (.agg xs) (.agg xs')
 | tuple {xs xs':Array Value} (hx:xs.size=xs'.size) (h:∀ i (h:i<xs.size) (h':i<xs'.size),VRel ι xs[i] xs'[i]):VRel ι (.tuple xs) (.tuple xs')
theorem VRel.mono {ι ι':Emb} (hi:ι.le ι') {v v':Value} (h:VRel ι v v'):VRel ι' v v':=by
 induction h with
 | bool b=>exact .bool b
 | int k n=>exact .int k n
 | float k n=>exact .float k n
 | string s=>exact .string s
 | ptrNil=>exact .ptrNil
 | ptr h=>exact .ptr (hi _ _ h)
 | sliceNil=>exact .sliceNil
 | slice h hc hl=>exact .slice (hi _ _ h) hc hl
 | sliceUnk h hl hs he=>exact .sliceUnk (hi _ _ h) hl hs he
 | sliceEnd a h hs=>exact .sliceEnd a (hi _ _ h) hs
 | sliceZ a=>exact .sliceZ a
 | mapNil=>exact .mapNil
 | map h=>exact .map (hi _ _ h)
 | func hx hy _ _ ih ih'=>exact .func hx hy ih ih'
 | yield h=>exact .yield (hi _ _ h)
 | nilFunc=>exact .nilFunc
 | iface _ ih=>exact .iface ih
 | nilIface=>exact .nilIface
 | agg hx _ ih=>exact .agg hx ih
 | tuple hx _ ih=>exact .tuple hx ih
theorem VRel.undef {ι:Emb}:VRel ι undef undef:=.tuple rfl (fun i h _=>by simp at h)
inductive LRel (ι:Emb):List Value→List Value→Prop
 | nil:LRel ι [] []
 | cons {x y:Value}{xs ys:List Value} (h:VRel ι x y) (t:LRel ι xs ys):LRel ι (x::xs) (y::ys)
theorem LRel.length {ι:Emb}{xs ys:List Value} (h:LRel ι xs ys):xs.length=ys.length:=by
 induction h with
 | nil=>rfl
 | cons _ _ ih=>simp [ih]
theorem LRel.mono {ι ι':Emb} (hi:ι.le ι') {xs ys:List Value} (h:LRel ι xs ys):LRel ι' xs ys:=by
 induction h with
 | nil=>exact .nil
 | cons h _ ih=>exact .cons (h.mono hi) ih
theorem LRel.append {ι:Emb}{xs ys xs' ys':List Value} (h:LRel ι xs ys) (k:LRel ι xs' ys'):LRel ι (xs++xs') (ys++ys'):=by
 induction h with
 | nil=>exact k
 | cons h _ ih=>exact .cons h ih
theorem LRel.get {ι:Emb}{xs ys:List Value} (h:LRel ι xs ys) {i:Nat}{x:Value} (hx:xs[i]?=some x):∃ y,ys[i]?=some y∧VRel ι x y:=by
 induction h generalizing i with
 | nil=>simp at hx
 | cons h _ ih=>
  cases i with
  | zero=>simp at hx;subst hx;exact ⟨_,by simp,h⟩
  | succ i=>simp at hx;obtain ⟨y,hy,hr⟩:=ih hx;exact ⟨y,by simpa using hy,hr⟩
theorem LRel.drop {ι:Emb}{xs ys:List Value} (h:LRel ι xs ys) (n:Nat):LRel ι (xs.drop n) (ys.drop n):=by
 induction h generalizing n with
 | nil=>simp;exact .nil
 | cons h t ih=>
  cases n with
  | zero=>exact .cons h t
  | succ n=>simpa using ih n
theorem LRel.take {ι:Emb}{xs ys:List Value} (h:LRel ι xs ys) (n:Nat):LRel ι (xs.take n) (ys.take n):=by
 induction h generalizing n with
 | nil=>simp;exact .nil
 | cons h t ih=>
  cases n with
  | zero=>exact .nil
  | succ n=>simpa using LRel.cons h (ih n)
theorem LRel.of_get {ι:Emb}:∀ {xs ys:List Value},xs.length=ys.length→(∀ (i:Nat) (x y:Value),xs[i]?=some x→ys[i]?=some y→VRel ι x y)→LRel ι xs ys
 | [],[],_,_=>.nil
 | [],_::_,h,_=>by simp at h
 | _::_,[],h,_=>by simp at h
 | x::xs,y::ys,h,k=>.cons (k 0 x y (by simp) (by simp)) (LRel.of_get (by simpa using h) fun i a b ha hb=>k (i+1) a b (by simpa using ha) (by simpa using hb))
theorem LRel.of_array {ι:Emb}{xs ys:Array Value} (hs:xs.size=ys.size) (h:∀ i (h:i<xs.size) (h':i<ys.size),VRel ι xs[i] ys[i]):LRel ι xs.toList ys.toList:=
 LRel.of_get (by simpa using hs) fun i x y hx hy=>by
  simp only [Array.getElem?_toList] at hx hy
  obtain ⟨h1,rfl⟩:=Array.getElem?_eq_some_iff.1 hx
  obtain ⟨h2,rfl⟩:=Array.getElem?_eq_some_iff.1 hy
  exact h i h1 h2
theorem LRel.to_array {ι:Emb}{xs ys:Array Value} (h:LRel ι xs.toList ys.toList):xs.size=ys.size∧∀ i (h:i<xs.size) (h':i<ys.size),VRel ι xs[i] ys[i]:=by
 refine ⟨by simpa using h.length,fun i h1 h2=>?_⟩
 obtain ⟨y,hy,hr⟩:=h.get (i:=i) (x:=xs[i]) (by simp [h1])
 simp [h2] at hy
 rwa [hy]
theorem VRel.agg' {ι:Emb}{xs ys:List Value} (h:LRel ι xs ys):VRel ι (.agg xs.toArray) (.agg ys.toArray):=
 let ⟨a,b⟩:=LRel.to_array (xs:=xs.toArray) (ys:=ys.toArray) (by simpa using h);.agg a b
theorem VRel.tuple' {ι:Emb}{xs ys:List Value} (h:LRel ι xs ys):VRel ι (.tuple xs.toArray) (.tuple ys.toArray):=
 let ⟨a,b⟩:=LRel.to_array (xs:=xs.toArray) (ys:=ys.toArray) (by simpa using h);.tuple a b
theorem VRel.cells {ι:Emb}{v v':Value} (h:VRel ι v v'):LRel ι v.cells.toList v'.cells.toList:=by
 cases h with
 | agg hx h=>exact LRel.of_array hx h
 | bool b=>exact .cons (.bool b) .nil
 | int k n=>exact .cons (.int k n) .nil
 | float k n=>exact .cons (.float k n) .nil
 | string s=>exact .cons (.string s) .nil
 | ptrNil=>exact .cons .ptrNil .nil
 | ptr h=>exact .cons (.ptr h) .nil
 | sliceNil=>exact .cons .sliceNil .nil
 | slice h hc hl=>exact .cons (.slice h hc hl) .nil
 | sliceUnk h hl hs he=>exact .cons (.sliceUnk h hl hs he) .nil
 | sliceEnd a h hs=>exact .cons (.sliceEnd a h hs) .nil
 | sliceZ a=>exact .cons (.sliceZ a) .nil
 | mapNil=>exact .cons .mapNil .nil
 | map h=>exact .cons (.map h) .nil
 | func hx hy h k=>exact .cons (.func hx hy h k) .nil
 | yield h=>exact .cons (.yield h) .nil
 | nilFunc=>exact .cons .nilFunc .nil
 | iface h=>exact .cons (.iface h) .nil
 | nilIface=>exact .cons .nilIface .nil
 | tuple hx h=>exact .cons (.tuple hx h) .nil
def TRel (ι:Emb) (T:PTree Value) (tmps:Array Value):Prop:=∀ t v,T.get t=some v→VRel ι v (tmps.getD t undef)
theorem TRel.mono {ι ι':Emb} (hi:ι.le ι') {T:PTree Value}{tmps:Array Value} (h:TRel ι T tmps):TRel ι' T tmps:=fun t v e=>(h t v e).mono hi
end Go.Ev
namespace Go.Ev
open Go.RowKit
def RowSt.writes:RowSt→Bool
 | .exact|.loose=>true
 | _=>false
def AH.alive (H:AH):AObj→Bool
 | .row _ _ .exact _ _|.row _ _ .ro _ _=>true
 | .row _ _ _ g v=>H.ver g==v
 | .dead=>false
 | _=>true
structure RowOk (P:Program) (B0:Nat) (ι:Emb) (w:World) (l:ILoc) (et:TypeId) (cells:List Value) (st:RowSt):Prop where
 ex:∃ cs t fr,w.heap[l.blk]?=some (.cells cs t fr)∧cs.size=l.size ∧
  (∀ (i:Nat) (x:Value),cells[i]?=some x→∃ y,cs[l.base+i]?=some y∧VRel ι x y)∧(st.writes=true→∀ i,i<l.size→¬ (fr.1≤i∧i<fr.2))
 fits:l.base+cells.length≤l.size
 esz:P.cellsOf et=l.esz
 own:st≠.ro→B0≤l.blk
 ro:st=.ro→l.blk<B0
 exact_:st=.exact→l.base=0∧cells.length=l.size
def plain:Value→Bool
 | .bool _|.int _ _|.float _ _|.string _|.pointer none|.slice none 0 0|.map none|.nilFunc|.nilIface=>true
 | _=>false
theorem VRel.of_plain {ι:Emb}{v:Value} (h:plain v=true):VRel ι v v:=by
 cases v with
 | bool b=>exact .bool b
 | int k n=>exact .int k n
 | float k n=>exact .float k n
 | string s=>exact .string s
 |pointer a=>cases a with
  | none=>exact .ptrNil
  | some a=>simp [plain] at h
 |slice a n c=>cases a with
  |none=>cases n with
   |zero=>cases c with
    | zero=>exact .sliceNil
    | succ c=>simp [plain] at h
   | succ n=>simp [plain] at h
  | some a=>simp [plain] at h
 |map r=>cases r with
  | none=>exact .mapNil
  | some r=>simp [plain] at h
 | nilFunc=>exact .nilFunc
 | nilIface=>exact .nilIface
 | _=>simp [plain] at h
theorem VRel.plain_eq {ι:Emb}{v v':Value} (h:VRel ι v v') (hp:plain v=true):v'=v:=by
 cases h<;>first|rfl|simp [plain] at hp
theorem LRel.of_plain {ι:Emb}:∀ {vs:List Value},(∀ v,v∈vs→plain v=true)→LRel ι vs vs
 | [],_=>.nil
 | v::vs,h=>.cons (VRel.of_plain (h v (by simp))) (LRel.of_plain fun u hu=>h u (by simp [hu]))
theorem LRel.plain_eq {ι:Emb}{vs vs':List Value} (h:LRel ι vs vs') (hp:∀ v,v∈vs→plain v=true):vs'=vs:=by
 induction h with
 | nil=>rfl
 | cons h _ ih=>rw [h.plain_eq (hp _ (by simp)),ih fun v hv=>hp v (by simp [hv])]
structure MapOk (B0:Nat) (ι:Emb) (w:World) (l:ILoc) (es:List (Value×Value)):Prop where
 ex:∃ mes clock,w.heap[l.blk]?=some (.map mes clock)∧mes.size=es.length ∧
  (∀ (i:Nat) (k v:Value),es[i]?=some (k,v)→∃ e,mes[i]?=some e∧plain k=true∧e.key=k∧VRel ι v e.val)
 own:B0≤l.blk
def OOk (P:Program) (B0:Nat) (ι:Emb) (w:World) (l:ILoc):AObj→Prop
 | .row et cells st _ _=>RowOk P B0 ι w l et cells st
 | .map es=>MapOk B0 ι w l es
 | .strIter s pos=>B0≤l.blk∧w.heap[l.blk]?=some (.stringIter s pos)
 | .loop st pend n T ps assign body=>B0≤l.blk∧∃ fn tmps defers,w.heap[l.blk]?=some (.loop ⟨st,pend,fn,tmps,ps,assign,body,defers⟩)∧tmps.size=n∧TRel ι T tmps
 | .dead=>True
def Share (l:ILoc) (o:AObj) (l':ILoc) (o':AObj):Prop:=
 match o,o' with
 | .row _ _ .ro _ _,.row _ _ .ro _ _=>True
 | .row _ cs .loose g _,.row _ cs' .shared g' _=>g=g'∧l'.base+cs'.length≤l.base+cs.length
 | .row _ cs .shared g _,.row _ cs' .loose g' _=>g=g'∧l.base+cs.length≤l'.base+cs'.length
 | .row _ _ .shared g _,.row _ _ .shared g' _=>g=g'
 | _,_=>False
structure HRel (P:Program) (B0:Nat) (ι:Emb) (H:AH) (w:World):Prop where
 base:B0≤w.heap.size
 dom:∀ b l,ι b=some l→b<H.next
 obj:∀ b l,ι b=some l→H.alive (H.obj b)=true→OOk P B0 ι w l (H.obj b)
 sep:∀ b b' l l',b≠b'→ι b=some l→ι b'=some l'→H.alive (H.obj b)=true→H.alive (H.obj b')=true→l.blk=l'.blk→Share l (H.obj b) l' (H.obj b')
 grp:∀ b l et cells st g v,ι b=some l→H.obj b=.row et cells st g v→g<H.next∧v≤H.ver g
theorem OOk.lt {P:Program}{B0:Nat}{ι:Emb}{w:World}{l:ILoc}{H:AH}{o:AObj} (ha:H.alive o=true) (h:OOk P B0 ι w l o):l.blk<w.heap.size:=by
 cases o with
 | row et cells st g v=>obtain ⟨⟨cs,t,fr,h1,_⟩,_⟩:=h;exact (Array.getElem?_eq_some_iff.1 h1).1
 | map es=>obtain ⟨⟨cs,t,h1,_⟩,_⟩:=h;exact (Array.getElem?_eq_some_iff.1 h1).1
 | strIter s pos=>obtain ⟨_,h1⟩:=h;exact (Array.getElem?_eq_some_iff.1 h1).1
 | loop st pend n T ps assign body=>obtain ⟨_,_,_,_,h1,_⟩:=h;exact (Array.getElem?_eq_some_iff.1 h1).1
 | dead=>simp [AH.alive] at ha
theorem OOk.carry {P:Program}{B0:Nat}{ι ι':Emb}{w w':World}{l:ILoc}{o:AObj} (h:OOk P B0 ι w l o) (hi:ι.le ι') (hw:w'.heap[l.blk]?=w.heap[l.blk]?):OOk P B0 ι' w' l o:=by
 cases o with
 | row et cells st g v=>
  obtain ⟨⟨cs,t,fr,h1,h2,h3,h4⟩,hf,he,hb,hr,hx⟩:=h
  exact ⟨⟨cs,t,fr,hw.trans h1,h2,fun i x hx=>let ⟨y,a,b⟩:=h3 i x hx;⟨y,a,b.mono hi⟩,h4⟩,hf,he,hb,hr,hx⟩
 | map es=>
  obtain ⟨⟨mes,clock,h1,h2,h3⟩,hb⟩:=h
  exact ⟨⟨mes,clock,hw.trans h1,h2,fun i k v hx=>let ⟨e,a,b,c,d⟩:=h3 i k v hx;⟨e,a,b,c,d.mono hi⟩⟩,hb⟩
 | strIter s pos=>exact ⟨h.1,hw.trans h.2⟩
 | loop st pend n T ps assign body=>obtain ⟨h0,f,t,d,h1,h2,h3⟩:=h;exact ⟨h0,f,t,d,hw.trans h1,h2,h3.mono hi⟩
 | dead=>trivial
structure Step (P:Program) (B0:Nat) (ι:Emb) (H:AH) (w:World) (ι':Emb) (H':AH) (w':World):Prop where
 le:ι.le ι'
 new:∀ b l,ι' b=some l→ι b=some l∨(ι b=none∧H.next≤b)
 next:H.next≤H'.next
 rel:HRel P B0 ι' H' w'
 size:w.heap.size≤w'.heap.size
 frame:∀ c,c<w.heap.size→(∀ b l,ι b=some l→H.alive (H.obj b)=true→l.blk≠c)→w'.heap[c]?=w.heap[c]?
 low:∀ c,c<B0→w'.heap[c]?=w.heap[c]?
 fresh:∀ b l,ι' b=some l→ι b=none→H'.alive (H'.obj b)=true→w.heap.size≤l.blk∨∃ b0 l0,ι b0=some l0∧H.alive (H.obj b0)=true∧l0.blk=l.blk
 old:∀ b l,ι b=some l→H'.alive (H'.obj b)=true→H.alive (H.obj b)=true
 loc:∀ b,b<H.next→ι b=none→H'.obj b=H.obj b
 os:w'.os=w.os
 tape:w'.tape=w.tape
 output:w'.output=w.output
theorem Step.refl {P:Program}{B0:Nat}{ι:Emb}{H:AH}{w:World} (h:HRel P B0 ι H w):Step P B0 ι H w ι H w:=
 ⟨Emb.le_refl _,fun _ _ h=>.inl h,Nat.le_refl _,h,Nat.le_refl _,fun _ _ _=>rfl,fun _ _=>rfl,fun b l h k=>by rw [h] at k;simp at k,fun _ _ _ h=>h,fun _ _ _=>rfl,rfl,rfl,rfl⟩
theorem Step.trans {P:Program}{B0:Nat}{ι ι1 ι2:Emb}{H H1 H2:AH}{w w1 w2:World} (h:Step P B0 ι H w ι1 H1 w1) (k:Step P B0 ι1 H1 w1 ι2 H2 w2):Step P B0 ι H w ι2 H2 w2 where
 le:=Emb.le_trans h.le k.le
 new b l hb:=by
  rcases k.new b l hb with h1|⟨h1,h2⟩
  ·exact h.new b l h1
  ·cases e:ι b with
   | none=>exact .inr ⟨rfl,Nat.le_trans h.next h2⟩
   | some l'=>have:=h.le b l' e;rw [h1] at this;simp at this
 next:=Nat.le_trans h.next k.next
 rel:=k.rel
 size:=Nat.le_trans h.size k.size
 frame c hc hn:=by
  rw [k.frame c (Nat.lt_of_lt_of_le hc h.size) ?_,h.frame c hc hn]
  intro b l hb ha e
  rcases h.new b l hb with h1|⟨h1,_⟩
  ·exact hn b l h1 (h.old b l h1 ha) e
  ·rcases h.fresh b l hb h1 ha with h2|⟨b0,l0,hb0,ha0,e0⟩
   ·omega
   ·exact hn b0 l0 hb0 ha0 (e0.trans e)
 low c hc:=(k.low c hc).trans (h.low c hc)
 fresh b l hb hn ha:=by
  rcases k.new b l hb with h1|⟨h1,_⟩
  ·exact h.fresh b l h1 hn (k.old b l h1 ha)
  ·rcases k.fresh b l hb h1 ha with h2|⟨b0,l0,hb0,ha0,e0⟩
   ·exact .inl (Nat.le_trans h.size h2)
   ·rcases h.new b0 l0 hb0 with h3|⟨h3,_⟩
    ·exact .inr ⟨b0,l0,h3,h.old b0 l0 h3 ha0,e0⟩
    ·rcases h.fresh b0 l0 hb0 h3 ha0 with h4|⟨b1,l1,hb1,ha1,e1⟩
     ·exact .inl (by omega)
     ·exact .inr ⟨b1,l1,hb1,ha1,e1.trans e0⟩
 old b l hb ha:=h.old b l hb (k.old b l (h.le b l hb) ha)
 loc b hb hn:=by
  rw [k.loc b (Nat.lt_of_lt_of_le hb h.next) ?_,h.loc b hb hn]
  cases e:ι1 b with
  | none=>rfl
  | some l=>rcases h.new b l e with h1|⟨_,h1⟩
            ·rw [hn] at h1;cases h1
            ·omega
 os:=k.os.trans h.os
 tape:=k.tape.trans h.tape
 output:=k.output.trans h.output
theorem HRel.drewN {P:Program}{B0:Nat}{ι:Emb}{H:AH}{w:World} (h:HRel P B0 ι H w) (w':World) (hw:w'.heap=w.heap):HRel P B0 ι H w' where
 base:=by rw [hw];exact h.base
 dom:=h.dom
 obj b l hb ha:=(h.obj b l hb ha).carry (Emb.le_refl _) (by rw [hw])
 sep:=h.sep
 grp:=h.grp
theorem Step.drew {P:Program}{B0:Nat}{ι:Emb}{H:AH}{w:World} (h:HRel P B0 ι H w):Step P B0 ι H w ι H w.drew:=
 ⟨Emb.le_refl _,fun _ _ h=>.inl h,Nat.le_refl _,h.drewN w.drew rfl,Nat.le_refl _,fun _ _ _=>rfl,fun _ _=>rfl,fun b l h k=>by rw [h] at k;simp at k,fun _ _ _ h=>h,fun _ _ _=>rfl,rfl,rfl,rfl⟩
def AH.lo (H:AH) (b:Nat):AObj:=if b<H.next then H.obj b else .dead
theorem AH.lo_row {H:AH}{b:Nat}{et:TypeId}{cells:List Value}{st:RowSt}{g v:Nat} (h:H.lo b=.row et cells st g v):H.obj b=.row et cells st g v:=by
 unfold AH.lo at h;split at h
 ·exact h
 ·cases h
theorem AH.lo_map {H:AH}{b:Nat}{es:List (Value×Value)} (h:H.lo b=.map es):H.obj b=.map es:=by
 unfold AH.lo at h;split at h
 ·exact h
 ·cases h
theorem AH.lo_lt {H:AH}{b:Nat} (h:b<H.next):H.lo b=H.obj b:=if_pos h
theorem AH.lo_of {H:AH}{b:Nat}{o:AObj} (h:H.lo b=o) (ho:o≠.dead):b<H.next∧H.obj b=o:=by
 unfold AH.lo at h;split at h
 ·rename_i hb;exact ⟨hb,h⟩
 ·exact absurd h.symm ho
def AH.rd (H:AH) (b off n:Nat):Option (List Value):=
 match H.lo b with
 | .row et cells st g v=>if H.alive (.row et cells st g v)&&decide (off+n≤cells.length) then some ((cells.drop off).take n) else none
 | _=>none
theorem Addr.add_plain (c o i:Nat):(⟨c,o,none⟩:Addr).add i=⟨c,o+i,none⟩:=by
 unfold Addr.add;split<;>simp_all
theorem run_loadCellsFrom {P:Program}{w:World}{c o:Nat}:∀ (n i:Nat) (acc:Array Value) (vs:List Value),vs.length=n→(∀ j y,vs[j]?=some y→w.cell? ⟨c,o+(i+j),none⟩=some y) →
 (loadCellsFrom ⟨c,o,none⟩ i n acc).run P w=.ok (acc++vs.toArray) w
 |0,i,acc,vs,hl,_=>by
  have:vs=[]:=List.length_eq_zero_iff.1 hl
  subst this;simp [loadCellsFrom]
 | n+1,i,acc,[],hl,_=>by simp at hl
 |n + 1,i,acc,v::vs,hl,h=>by
  have h0:=h 0 v (by simp)
  have:=run_loadCellsFrom (P:=P) (w:=w) (c:=c) (o:=o) n (i+1) (acc.push v) vs (by simpa using hl) (fun j y hy=>by
    have:=h (j+1) y (by simpa using hy)
    rw [show i+1+j=i+(j+1) by omega];exact this)
  simp only [loadCellsFrom,Sem.run_bind,run_load,Addr.add_plain]
  simp only [Nat.add_zero] at h0
  rw [h0]
  simp only [Result.andThen_ok,this]
  simp
theorem HRel.rd {P:Program}{B0:Nat}{ι:Emb}{H:AH}{w:World} (h:HRel P B0 ι H w) {b off n:Nat}{l:ILoc} (hb:ι b=some l) {vs:List Value} (hr:H.rd b off n=some vs) :
 vs.length=n∧∃ vs',LRel ι vs vs'∧(∀ j y,vs'[j]?=some y→w.cell? ⟨l.blk,l.base+off+j,none⟩=some y):=by
 unfold AH.rd at hr
 split at hr
 ·rename_i et cells st g v ho
  have ho:=AH.lo_row ho
  split at hr
  ·rename_i hc
   rw [Bool.and_eq_true,decide_eq_true_eq] at hc
   injection hr with hr
   have hlen:vs.length=n:=by rw [←hr];simp;omega
   refine ⟨hlen,?_⟩
   have ha:H.alive (H.obj b)=true:=by rw [ho];exact hc.1
   have hO:=h.obj b l hb ha
   rw [ho] at hO
   obtain ⟨⟨cs,t,fr,h1,h2,h3,_⟩,hf,_⟩:=hO
   have hget:∀ j x,vs[j]?=some x→∃ y,cs[l.base+off+j]?=some y∧VRel ι x y:=fun j x hx=>by
    have:cells[off+j]?=some x:=by
     rw [←hr] at hx
     rw [List.getElem?_take] at hx
     split at hx
     ·rwa [List.getElem?_drop] at hx
     ·simp at hx
    obtain ⟨y,a,b⟩:=h3 _ _ this
    exact ⟨y,by rw [Nat.add_assoc];exact a,b⟩
   refine ⟨(List.range n).map fun j=>(cs[l.base+off+j]?).getD undef,LRel.of_get (by simp [hlen]) (fun i x y hx hy=>?_),fun j y hy=>?_⟩
   ·obtain ⟨y',a,b⟩:=hget i x hx
    simp only [List.getElem?_map] at hy
    have hi:i<n:=by
     have:=(List.getElem?_eq_some_iff.1 hx).1;omega
    rw [List.getElem?_range hi] at hy
    simp only [Option.map_some,Option.some.injEq] at hy
    rw [a] at hy
    simp at hy;subst hy;exact b
   ·simp only [List.getElem?_map] at hy
    have hj:j<n:=by
     rcases Nat.lt_or_ge j n with h'|h'
     ·exact h'
     ·rw [List.getElem?_eq_none (by simpa using h')] at hy;simp at hy
    rw [List.getElem?_range hj] at hy
    simp only [Option.map_some,Option.some.injEq] at hy
    obtain ⟨y',a,_⟩:=hget j (vs[j]'(by omega)) (by simp)
    rw [a] at hy
    simp at hy;subst hy
    simp [World.cell?,h1,a]
  ·simp at hr
 ·simp at hr
theorem HRel.loadCells {P:Program}{B0:Nat}{ι:Emb}{H:AH}{w:World} (h:HRel P B0 ι H w) {b off n:Nat}{l:ILoc} (hb:ι b=some l) {vs:List Value} (hr:H.rd b off n=some vs) :
  ∃ vs',LRel ι vs vs'∧(Go.loadCells ⟨l.blk,l.base+off,none⟩ n).run P w=.ok vs'.toArray w:=by
 obtain ⟨hl,vs',hv,hc⟩:=h.rd hb hr
 refine ⟨vs',hv,?_⟩
 have:=run_loadCellsFrom (P:=P) (w:=w) (c:=l.blk) (o:=l.base+off) n 0 #[] vs' (by rw [←hv.length,hl]) (fun j y hy=>by rw [Nat.zero_add];exact hc j y hy)
 simpa [Go.loadCells] using this
end Go.Ev
namespace Go.Ev
open Go.RowKit
theorem VRel.oneCell {ι:Emb}{v v':Value} (h:VRel ι v v'):v'.oneCell'=v.oneCell':=by cases h<;>rfl
def splice (cells:List Value) (off:Nat) (vs:List Value):List Value:=cells.take off++vs++cells.drop (off+vs.length)
theorem splice_length {cells vs:List Value}{off:Nat} (h:off+vs.length≤cells.length):(splice cells off vs).length=cells.length:=by
 simp [splice];omega
theorem splice_get {cells vs:List Value}{off:Nat} (h:off+vs.length≤cells.length) (i:Nat) :
  (splice cells off vs)[i]?=if off≤i∧i<off+vs.length then vs[i-off]? else cells[i]?:=by
 unfold splice
 rw [List.append_assoc]
 by_cases h1:i<off
 ·rw [List.getElem?_append_left (by simp;omega),if_neg (by omega),List.getElem?_take,if_pos h1]
 ·rw [List.getElem?_append_right (by simp;omega)]
  simp only [List.length_take,Nat.min_eq_left (show off≤cells.length by omega)]
  by_cases h2:i<off+vs.length
  ·rw [List.getElem?_append_left (by omega),if_pos (by omega)]
  ·rw [List.getElem?_append_right (by omega),if_neg (by omega),List.getElem?_drop]
   congr 1;omega
theorem run_storeCells {P:Program}{c:Nat}{t:TypeId}{fr:Nat×Nat}:∀ (vs:List Value) (o i:Nat) (w:World) (cs:Array Value),w.heap[c]?=some (.cells cs t fr) →
 o+i+vs.length≤cs.size→(∀ j,j<cs.size→¬ (fr.1≤j∧j<fr.2))→(∀ v,v∈vs→v.oneCell'=true) →
 ∃ w' cs',(storeCells ⟨c,o,none⟩ vs i).run P w=.ok () w'∧w'.heap[c]?=some (.cells cs' t fr)∧cs'.size=cs.size ∧
   (∀ j,cs'[j]?=if o+i≤j∧j<o+i+vs.length then vs[j-(o+i)]? else cs[j]?) ∧
   (∀ k,k≠c→w'.heap[k]?=w.heap[k]?)∧w'.heap.size=w.heap.size∧w'.os=w.os∧w'.tape=w.tape∧w'.output=w.output
 | [],o,i,w,cs,hc,_,_,_=>⟨w,cs,by simp [storeCells],hc,rfl,fun j=>by rw [if_neg (by simp)],fun _ _=>rfl,rfl,rfl,rfl,rfl⟩
 |v :: vs,o,i,w,cs,hc,hs,hf,h1=>by
  have hlt:o+i<cs.size:=by simp at hs;omega
  have hcell:w.cell? ⟨c,o+i,none⟩=some cs[o+i]:=by simp [World.cell?,hc,hlt]
  have hfr:w.frozen? ⟨c,o+i,none⟩=false:=by
    have:=hf (o+i) hlt
    simp only [World.frozen?,hc]
    cases hx:(decide (fr.1≤o+i)&&decide (o+i<fr.2)) with
    | false=>rfl
    | true=>simp at hx;exact absurd hx this
  have hc':(w.setCell ⟨c,o+i,none⟩ v).heap[c]?=some (.cells (cs.setIfInBounds (o+i) v) t fr):=by
    simp [World.setCell,Array.getElem?_modify,hc]
  obtain ⟨w',cs',hr,h2,h3,h4,h5,h6,h7,h8,h9⟩:=run_storeCells (P:=P) vs o (i+1) (w.setCell ⟨c,o+i,none⟩ v) _ hc' (by simp at hs ⊢;omega) (by simpa using hf) (fun u hu=>h1 u (by simp [hu]))
  refine ⟨w',cs',?_,h2,by simpa using h3,fun j=>?_,fun k hk=>(h5 k hk).trans (Below.heap_setCell _ _ _ k hk),by simpa using h6,h7,h8,h9⟩
  ·simp only [storeCells,Sem.run_bind,Addr.add_plain]
   have:(store ⟨c,o+i,none⟩ v).run P w=.ok () (w.setCell ⟨c,o+i,none⟩ v):=by
    rw [run_store P w _ v .plain (h1 v (by simp))]
    simp [hcell,hfr]
   rw [this]
   exact hr
  ·rw [h4 j]
   simp only [List.length_cons]
   by_cases e:j=o+i
   ·subst e
    rw [if_neg (by omega),if_pos (by omega)]
    simp [hlt]
   ·by_cases hj:o+(i+1)≤j∧j<o+(i+1)+vs.length
    ·rw [if_pos hj,if_pos (by omega)]
     rw [show j-(o+i)=(j-(o+(i+1)))+1 by omega]
     simp
    ·rw [if_neg hj,if_neg (by omega)]
     simp [Ne.symm e]
theorem HRel.write {P:Program}{B0:Nat}{ι:Emb}{H H':AH}{w w':World} (h:HRel P B0 ι H w) {b:Nat}{l:ILoc} (hb:ι b=some l) (ha:H.alive (H.obj b)=true) (hB:B0≤l.blk)
 (hobj:∀ c,c≠b→H'.obj c=H.obj c) (hnext:H'.next=H.next)
 (hal:∀ c l',c≠b→ι c=some l'→H'.alive (H.obj c)=true→H.alive (H.obj c)=true∧l'.blk≠l.blk)
 (hok:OOk P B0 ι w' l (H'.obj b)) (hgrp:∀ c l' et cells st g v,ι c=some l'→H'.obj c=.row et cells st g v→g<H'.next∧v≤H'.ver g)
 (hheap:∀ k,k≠l.blk→w'.heap[k]?=w.heap[k]?) (hsize:w'.heap.size=w.heap.size) (hos:w'.os=w.os) (htape:w'.tape=w.tape) (hout:w'.output=w.output) :
 Step P B0 ι H w ι H' w' where
 le:=Emb.le_refl _
 new _ _ h:=.inl h
 next:=by rw [hnext];exact Nat.le_refl _
 rel :=
  {base:=by rw [hsize];exact h.base
   dom:=fun c l' hc=>by rw [hnext];exact h.dom c l' hc
   obj:=fun c l' hc hac=>by
    by_cases e:c=b
    ·subst e;rw [hb] at hc;cases hc;exact hok
    ·rw [hobj c e] at hac ⊢
     obtain ⟨h1,h2⟩:=hal c l' e hc hac
     exact (h.obj c l' hc h1).carry (Emb.le_refl _) (hheap _ h2)
   sep:=fun c c' lc lc' hne hc hc' hac hac' he=>by
    by_cases e:c=b
    ·subst e
     rw [hb] at hc;cases hc
     rw [hobj c' (Ne.symm hne)] at hac'
     exact absurd he.symm (hal c' lc' (Ne.symm hne) hc' hac').2
    ·by_cases e':c'=b
     ·subst e'
      rw [hb] at hc';cases hc'
      rw [hobj c e] at hac
      exact absurd he (hal c lc e hc hac).2
     ·rw [hobj c e] at hac ⊢
      rw [hobj c' e'] at hac' ⊢
      exact h.sep c c' lc lc' hne hc hc' (hal c lc e hc hac).1 (hal c' lc' e' hc' hac').1 he
   grp:=hgrp }
 size:=by rw [hsize];exact Nat.le_refl _
 frame c _ hn:=hheap c (fun e=>hn b l hb ha e.symm)
 low c hc:=hheap c (by omega)
 fresh c l' hc hn _:=by rw [hn] at hc;cases hc
 old c l' hc hac:=by
  by_cases e:c=b
  ·subst e;exact ha
  ·rw [hobj c e] at hac;exact (hal c l' e hc hac).1
 loc c _ hn:=hobj c fun e=>by subst e;rw [hb] at hn;cases hn
 os:=hos
 tape:=htape
 output:=hout
def AH.wr (H:AH) (b off:Nat) (vs:List Value):Option AH:=
 if vs.isEmpty then some H else
 match H.obj b with
 | .row et cells .exact g v=>if off+vs.length≤cells.length then some (H.put b (.row et (splice cells off vs) .exact g v)) else none
 | .row et cells .loose g v=>if H.ver g==v&&decide (off+vs.length≤cells.length) then some ((H.put b (.row et (splice cells off vs) .loose g (v+1))).bump g (v+1)) else none
 | _=>none
theorem RowOk.spliced {P:Program}{B0:Nat}{ι:Emb}{w w':World}{l:ILoc}{et:TypeId}{cells:List Value}{st:RowSt} (h:RowOk P B0 ι w l et cells st) {off:Nat}{vs vs':List Value}
  (hv:LRel ι vs vs') (hf:off+vs.length≤cells.length) {cs cs':Array Value}{t:TypeId}{fr:Nat×Nat} (hc:w.heap[l.blk]?=some (.cells cs t fr)) (hc':w'.heap[l.blk]?=some (.cells cs' t fr)) (hs:cs'.size=cs.size)
  (hg:∀ j,cs'[j]?=if l.base+off≤j∧j<l.base+off+vs'.length then vs'[j-(l.base+off)]? else cs[j]?):RowOk P B0 ι w' l et (splice cells off vs) st:=by
 obtain ⟨⟨cs0,t0,fr0,h1,h2,h3,h4⟩,hfit,he,hb,hr,hx⟩:=h
 rw [hc] at h1;injection h1 with h1;injection h1 with e1 e2 e3;subst e1 e2 e3
 refine ⟨⟨cs',t,fr,hc',by omega,fun i x hx=>?_,h4⟩,by rw [splice_length hf];exact hfit,he,hb,hr,fun e=>by rw [splice_length hf];exact hx e⟩
 rw [splice_get hf] at hx
 rw [hg,←hv.length]
 by_cases hi:off≤i∧i<off+vs.length
 ·rw [if_pos hi] at hx
  obtain ⟨y,hy,hr⟩:=hv.get hx
  exact ⟨y,by rw [if_pos (by omega),show l.base+i-(l.base+off)=i-off by omega];exact hy,hr⟩
 ·rw [if_neg hi] at hx
  rw [if_neg (by omega)]
  exact h3 i x hx
theorem HRel.storeCells {P:Program}{B0:Nat}{ι:Emb}{H H':AH}{w:World} (h:HRel P B0 ι H w) {b off:Nat}{l:ILoc} (hb:ι b=some l) {vs vs':List Value} (hv:LRel ι vs vs') (h1:∀ v,v∈vs→v.oneCell'=true)
 (hw:H.wr b off vs=some H'):∃ w',(Go.storeCells ⟨l.blk,l.base+off,none⟩ vs').run P w=.ok () w'∧Step P B0 ι H w ι H' w':=by
 have h1':∀ v',v'∈vs'→v'.oneCell'=true:=fun v' hv'=>by
  obtain ⟨i,hi,e⟩:=List.mem_iff_getElem.1 hv'
  have hi2:i<vs.length:=by rw [hv.length];exact hi
  obtain ⟨y,hy,hr⟩:=hv.get (i:=i) (x:=vs[i]) (by simp [hi2])
  have:y=v':=by simp [hi] at hy;rw [←hy,e]
  subst this
  rw [hr.oneCell];exact h1 _ (List.getElem_mem hi2)
 unfold AH.wr at hw
 by_cases hemp:vs.isEmpty=true
 ·rw [if_pos hemp] at hw
  cases hw
  have hnil:vs=[]:=by simpa using hemp
  subst hnil
  cases hv
  exact ⟨w,by simp [Go.storeCells],Step.refl h⟩
 ·rw [if_neg hemp] at hw
  split at hw
  ·rename_i et cells g v ho
   split at hw
   ·rename_i hf
    cases hw
    have ha:H.alive (H.obj b)=true:=by rw [ho];rfl
    have hO:=h.obj b l hb ha
    rw [ho] at hO
    have hO':RowOk P B0 ι w l et cells .exact:=hO
    obtain ⟨cs,t,fr,hc,hs,h3,h4⟩:=hO'.ex
    have hfit:=hO'.fits
    obtain ⟨w',cs',hr,k1,k2,k3,k4,k5,k6,k7,k8⟩:=run_storeCells (P:=P) (t:=t) (fr:=fr) vs' (l.base+off) 0 w cs hc (by rw [←hv.length,hs];omega) (by rw [hs];exact h4 rfl) h1'
    refine ⟨w',hr,h.write hb ha (hO'.own (by simp)) (fun c e=>by simp [e]) (by simp) (fun c l' e hcl hac=>?_) ?_ (fun c l' et' cells' st g' v' hcl he=>?_) k4 k5 k6 k7 k8⟩
    ·have hac':H.alive (H.obj c)=true:=by
      revert hac;cases H.obj c with
      | row=>simp [AH.alive]
      | _=>simp [AH.alive]
     refine ⟨hac',fun e'=>?_⟩
     have:=h.sep b c l l' (Ne.symm e) hb hcl ha hac' e'.symm
     rw [ho] at this
     revert this;cases H.obj c with
     | row=>simp [Share]
     | _=>simp [Share]
    ·simp only [AH.obj_put,if_true]
     exact hO'.spliced hv hf hc k1 k2 (by simpa using k3)
    ·by_cases e:c=b
     ·subst e
      simp at he
      obtain ⟨_,_,_,rfl,rfl⟩:=he
      simpa using h.grp c l et cells .exact g v hb ho
     ·simp [e] at he
      simpa using h.grp c l' et' cells' st g' v' hcl he
   ·cases hw
  ·rename_i et cells g v ho
   split at hw
   ·rename_i hf
    rw [Bool.and_eq_true,decide_eq_true_eq,beq_iff_eq] at hf
    cases hw
    have ha:H.alive (H.obj b)=true:=by rw [ho];simp [AH.alive,hf.1]
    have hO:=h.obj b l hb ha
    rw [ho] at hO
    have hO':RowOk P B0 ι w l et cells .loose:=hO
    obtain ⟨cs,t,fr,hc,hs,h3,h4⟩:=hO'.ex
    have hfit:=hO'.fits
    obtain ⟨w',cs',hr,k1,k2,k3,k4,k5,k6,k7,k8⟩:=run_storeCells (P:=P) (t:=t) (fr:=fr) vs' (l.base+off) 0 w cs hc (by rw [←hv.length,hs];omega) (by rw [hs];exact h4 rfl) h1'
    have hver:∀ c l' et' cells' st g' v',ι c=some l'→H.obj c=.row et' cells' st g' v'→g'<H.next∧v'≤(if g'=g then v+1 else H.ver g'):=fun c l' et' cells' st g' v' hcl he=>by
     have:=h.grp c l' et' cells' st g' v' hcl he
     refine ⟨this.1,?_⟩
     split
     ·rename_i e;subst e;omega
     ·exact this.2
    refine ⟨w',hr,h.write hb ha (hO'.own (by simp)) (fun c e=>by simp [e]) (by simp) (fun c l' e hcl hac=>?_) ?_ (fun c l' et' cells' st g' v' hcl he=>?_) k4 k5 k6 k7 k8⟩
    ·cases hoc:H.obj c with
     |row et' cells' st g' v' =>
      rw [hoc] at hac
      have hg:=h.grp c l' et' cells' st g' v' hcl hoc
      have hal:H.alive (H.obj c)=true∧(st=.shared∨st=.loose→g'≠g):=by
       rw [hoc]
       cases st<;>simp [AH.alive] at hac ⊢
       ·by_cases e':g'=g
        ·rw [if_pos e'] at hac;subst e';omega
        ·rw [if_neg e'] at hac;exact ⟨hac,e'⟩
       ·by_cases e':g'=g
        ·rw [if_pos e'] at hac;subst e';omega
        ·rw [if_neg e'] at hac;exact ⟨hac,e'⟩
      rw [←hoc]
      refine ⟨hal.1,fun e'=>?_⟩
      have:=h.sep b c l l' (Ne.symm e) hb hcl ha hal.1 e'.symm
      rw [ho,hoc] at this
      cases st<;>simp [Share] at this
      exact hal.2 (.inl rfl) this.1.symm
     |map es =>
      refine ⟨by rfl,fun e'=>?_⟩
      have:=h.sep b c l l' (Ne.symm e) hb hcl ha (by rw [hoc];rfl) e'.symm
      rw [ho,hoc] at this;simp [Share] at this
     |strIter s p =>
      refine ⟨by rfl,fun e'=>?_⟩
      have:=h.sep b c l l' (Ne.symm e) hb hcl ha (by rw [hoc];rfl) e'.symm
      rw [ho,hoc] at this;simp [Share] at this
     |loop =>
      refine ⟨by rfl,fun e'=>?_⟩
      have:=h.sep b c l l' (Ne.symm e) hb hcl ha (by rw [hoc];rfl) e'.symm
      rw [ho,hoc] at this;simp [Share] at this
     | dead=>rw [hoc] at hac;simp [AH.alive] at hac
    ·simp only [AH.obj_bump,AH.obj_put,if_true]
     exact hO'.spliced hv hf.2 hc k1 k2 (by simpa using k3)
    ·by_cases e:c=b
     ·subst e
      simp at he
      obtain ⟨_,_,_,rfl,rfl⟩:=he
      have:=h.grp c l et cells .loose g v hb ho
      simp;exact this.1
     ·simp [e] at he
      simpa using hver c l' et' cells' st g' v' hcl he
   ·cases hw
  ·cases hw
end Go.Ev
namespace Go.Ev
open Go.RowKit
structure TI where
 desc:TypeDesc
 size:Nat
 bytes:Nat
 zv:Value
def tiOf (P:Program) (t:TypeId):Option TI :=
 match P.underlying t,P.info? t with
 |some d,some i=>match i.zero with
  | some z=>if z.cells.size=i.size∧z.cells.toList.all plain=true then some ⟨d,i.size,i.bytes,z⟩ else none
  | none=>none
 | _,_=>none
def TOk (E:TypeId→Option TI) (P:Program):Prop:=∀ t ti,E t=some ti→tiOf P t=some ti
structure TIs (P:Program) (t:TypeId) (ti:TI) (i:TypeInfo):Prop where
 u:P.underlying t=some ti.desc
 info:P.info? t=some i
 size:i.size=ti.size
 bytes:i.bytes=ti.bytes
 zero:i.zero=some ti.zv
 zsize:ti.zv.cells.size=ti.size
 zplain:∀ v,v∈ti.zv.cells.toList→plain v=true
theorem TOk.get {E:TypeId→Option TI}{P:Program} (h:TOk E P) {t:TypeId}{ti:TI} (ht:E t=some ti):∃ i,TIs P t ti i:=by
 have:=h t ti ht
 unfold tiOf at this
 split at this
 ·rename_i d i hu hi
  split at this
  ·rename_i z hz
   split at this
   ·rename_i hc
    cases this
    exact ⟨i,hu,hi,rfl,rfl,hz,hc.1,fun v hv=>List.all_eq_true.1 hc.2 v hv⟩
   ·cases this
  ·cases this
 ·cases this
theorem TIs.cellsOf {P:Program}{t:TypeId}{ti:TI}{i:TypeInfo} (h:TIs P t ti i):P.cellsOf t=ti.size:=by simp [Program.cellsOf,h.info,h.size]
theorem heap_new (w:World) (o:Obj):(w.alloc o).heap[w.heap.size]?=some o:=by
 show (w.heap.push o)[w.heap.size]?=some o
 simp
def Emb.ext (ι:Emb) (b:Nat) (l:ILoc):Emb:=fun c=>if c=b then some l else ι c
theorem Emb.ext_same (ι:Emb) (b:Nat) (l:ILoc):ι.ext b l b=some l:=by simp [Emb.ext]
theorem HRel.outside {P:Program}{B0:Nat}{ι:Emb}{H:AH}{w:World} (h:HRel P B0 ι H w) {b:Nat} (hb:H.next≤b):ι b=none:=by
 cases e:ι b with
 | none=>rfl
 | some l=>have:=h.dom b l e;omega
theorem Emb.le_ext {ι:Emb}{b:Nat}{l:ILoc} (h:ι b=Option.none):ι.le (ι.ext b l):=fun c l' hc=>by
 unfold Emb.ext
 by_cases e:c=b
 ·subst e;rw [h] at hc;cases hc
 ·rw [if_neg e];exact hc
theorem HRel.allocW {P:Program}{B0:Nat}{ι:Emb}{H:AH}{w:World} (h:HRel P B0 ι H w) (o:AObj) (w':World) (l:ILoc) (hl:l.blk=w.heap.size) (hsz:w'.heap.size=w.heap.size+1) (hold:∀ k,k<w.heap.size→w'.heap[k]?=w.heap[k]?)
 (hos:w'.os=w.os) (htape:w'.tape=w.tape) (hout:w'.output=w.output)
 (hok:OOk P B0 (ι.ext H.next l) w' l o) (hg:∀ et cells st g v,o=.row et cells st g v→g≤H.next∧v≤H.ver g):Step P B0 ι H w (ι.ext H.next l) (H.alloc o) w':=by
 have hle:ι.le (ι.ext H.next l):=Emb.le_ext (h.outside (Nat.le_refl _))
 have hal:∀ o',(H.alloc o).alive o'=H.alive o':=fun o'=>by cases o'<;>rfl
 have key:∀ b l',ι.ext H.next l b=some l'→(b=H.next∧l'=l)∨(b≠H.next∧ι b=some l'):=fun b l' hb=>by
  unfold Emb.ext at hb
  by_cases e:b=H.next
  ·rw [if_pos e] at hb;cases hb;exact .inl ⟨e,rfl⟩
  ·rw [if_neg e] at hb;exact .inr ⟨e,hb⟩
 refine ⟨hle,fun b l' hb=>?_,by simp,⟨by have:=h.base;omega,fun b l' hb=>?_,fun b l' hb ha=>?_,fun b b' lb lb' hne hb hb' ha ha' he=>?_,fun b l' et cells st g v hb ho=>?_⟩,by omega,fun c hc _=>hold c hc,fun c hc=>hold c (by have:=h.base;omega),fun b l' hb hn _=>?_,fun b l' hb ha=>?_,fun b hb _=>by rw [AH.obj_alloc,if_neg (by omega)],hos,htape,hout⟩
 ·rcases key b l' hb with ⟨rfl,rfl⟩|⟨_,h1⟩
  ·exact .inr ⟨h.outside (Nat.le_refl _),Nat.le_refl _⟩
  ·exact .inl h1
 ·rcases key b l' hb with ⟨rfl,rfl⟩|⟨_,h1⟩
  ·simp
  ·have:=h.dom b l' h1;simp;omega
 ·rcases key b l' hb with ⟨rfl,rfl⟩|⟨hne,h1⟩
  ·simpa using hok
  ·rw [AH.obj_alloc,if_neg hne] at ha ⊢
   rw [hal] at ha
   have hO:=h.obj b l' h1 ha
   exact hO.carry hle (hold _ (hO.lt ha))
 ·rcases key b lb hb with ⟨rfl,rfl⟩|⟨h0,h1⟩
  ·rcases key b' lb' hb' with ⟨rfl,rfl⟩|⟨h0',h1'⟩
   ·exact absurd rfl hne
   ·rw [AH.obj_alloc,if_neg h0',hal] at ha'
    have:=(h.obj b' lb' h1' ha').lt ha'
    omega
  ·rcases key b' lb' hb' with ⟨rfl,rfl⟩|⟨h0',h1'⟩
   ·rw [AH.obj_alloc,if_neg h0,hal] at ha
    have:=(h.obj b lb h1 ha).lt ha
    omega
   ·rw [AH.obj_alloc,if_neg h0,hal] at ha
    rw [AH.obj_alloc,if_neg h0',hal] at ha'
    rw [AH.obj_alloc,AH.obj_alloc,if_neg h0,if_neg h0']
    exact h.sep b b' lb lb' hne h1 h1' ha ha' he
 ·rcases key b l' hb with ⟨rfl,rfl⟩|⟨h0,h1⟩
  ·rw [AH.obj_alloc,if_pos rfl] at ho
   have:=hg _ _ _ _ _ ho
   simp;omega
  ·rw [AH.obj_alloc,if_neg h0] at ho
   have:=h.grp b l' et cells st g v h1 ho
   simp;omega
 ·rcases key b l' hb with ⟨rfl,rfl⟩|⟨h0,h1⟩
  ·exact .inl (by omega)
  ·rw [hn] at h1;cases h1
 ·have hne:b≠H.next:=fun e=>by have:=h.dom b l' hb;omega
  rw [AH.obj_alloc,if_neg hne,hal] at ha
  exact ha
theorem HRel.alloc {P:Program}{B0:Nat}{ι:Emb}{H:AH}{w:World} (h:HRel P B0 ι H w) (o:AObj) (obj:Obj) (l:ILoc) (hl:l.blk=w.heap.size)
  (hok:OOk P B0 (ι.ext H.next l) (w.alloc obj) l o) (hg:∀ et cells st g v,o=.row et cells st g v→g≤H.next∧v≤H.ver g):Step P B0 ι H w (ι.ext H.next l) (H.alloc o) (w.alloc obj):=
 h.allocW o (w.alloc obj) l hl (by simp) (fun k hk=>Below.heap_alloc _ _ _ hk) rfl rfl rfl hok hg
theorem HRel.newRow {P:Program}{B0:Nat}{ι:Emb}{H:AH}{w:World} (h:HRel P B0 ι H w) (et t:TypeId) {vs vs':List Value} (hv:LRel ι vs vs') :
  Step P B0 ι H w (ι.ext H.next ⟨w.heap.size,0,vs.length,P.cellsOf et⟩) (H.alloc (.row et vs .exact 0 0)) (w.alloc (.cells vs'.toArray t)):=by
 refine h.alloc _ _ _ rfl ⟨⟨vs'.toArray,t,(0,0),?_,by simp [hv.length],fun i x hx=>?_,fun _ i _=>by simp⟩,by simp,rfl,fun _=>h.base,fun e=>(nomatch e),fun _=>⟨rfl,rfl⟩⟩ (fun _ _ _ _ _ e=>by cases e;simp)
 ·exact heap_new w _
 ·obtain ⟨y,hy,hr⟩:=hv.get hx
  exact ⟨y,by simpa using hy,hr.mono (Emb.le_ext (h.outside (Nat.le_refl _)))⟩
theorem HRel.newLoose {P:Program}{B0:Nat}{ι:Emb}{H:AH}{w:World} (h:HRel P B0 ι H w) (et t:TypeId) {vs vs':List Value} (hv:LRel ι vs vs') (spare:Array Value) :
  Step P B0 ι H w (ι.ext H.next ⟨w.heap.size,0,vs.length+spare.size,P.cellsOf et⟩) (H.alloc (.row et vs .loose H.next (H.ver H.next))) (w.alloc (.cells (vs'.toArray++spare) t)):=by
 refine h.alloc _ _ _ rfl ⟨⟨vs'.toArray++spare,t,(0,0),?_,by simp [hv.length],fun i x hx=>?_,fun _ i _=>by simp⟩,by simp,rfl,fun _=>h.base,fun e=>(nomatch e),fun e=>(nomatch e)⟩ (fun _ _ _ _ _ e=>by cases e;simp)
 ·exact heap_new w _
 ·obtain ⟨y,hy,hr⟩:=hv.get hx
  refine ⟨y,?_,hr.mono (Emb.le_ext (h.outside (Nat.le_refl _)))⟩
  have:i<vs'.length:=(List.getElem?_eq_some_iff.1 hy).1
  simp only [Nat.zero_add]
  rw [Array.getElem?_append_left (by simpa using this)]
  simpa using hy
def AH.app (H:AH) (et:TypeId) (sz bytes:Nat) (s:Value) (n:Nat) (new:List Value):Option (Value×AH) :=
 match s with
 |.slice none 0 0 =>
  if n=0 then some (.slice none 0 0,H)
  else if n*bytes≤140737488355328∧n<4611686018427387904∧0<sz then some (.slice (some ⟨H.next,0,none⟩) n unk,H.alloc (.row et new .loose H.next (H.ver H.next)))
  else none
 |.slice (some ⟨b,off,none⟩) len cap =>
  if n=0 then some (.slice (some ⟨b,off,none⟩) len cap,H)
  else if ¬ ((len+n)*bytes≤140737488355328∧len+n<4611686018427387904∧0<sz) then none
  else if cap=unk then
   match H.obj b with
   |.row et' cells .loose g v =>
    if et'=et∧H.ver g=v then
     if off+len*sz+n*sz≤cells.length then (H.wr b (off+len*sz) new).map fun H'=>(.slice (some ⟨b,off,none⟩) (len+n) unk,H')
     else if off+len*sz=cells.length then
      some (.slice (some ⟨H.next,0,none⟩) (len+n) unk,(H.put b (.row et cells .shared g v)).alloc (.row et (cells.drop off++new) .loose g v))
     else if off+len*sz<cells.length then
      some (.slice (some ⟨H.next,0,none⟩) (len+n) unk,((H.put b .dead).bump g (v+1)).alloc (.row et ((cells.drop off).take (len*sz)++new) .loose g (v+1)))
     else none
    else none
   | _=>none
  else if len+n≤cap then (H.wr b (off+len*sz) new).map fun H'=>(.slice (some ⟨b,off,none⟩) (len+n) cap,H')
  else match H.rd b off (len*sz) with
   | some old=>some (.slice (some ⟨H.next,0,none⟩) (len+n) unk,H.alloc (.row et (old++new) .loose H.next (H.ver H.next)))
   | none=>none
 | _=>none
section
variable {P:Program}{w:World}
theorem run_underlying' {t:TypeId}{d:TypeDesc} (h:P.underlying t=some d) (w:World):(underlying t).run P w=.ok d w:=by simp [underlying,h]
theorem zeroCells_size (z:Array Value) (n:Nat):(Builtin.zeroCells z n).size=n*z.size:=by simp [Builtin.zeroCells]
theorem run_append_grows (t u ty e:TypeId) (ti:TI) (i:TypeInfo) (ht:P.underlying t=some (.slice e)) (hT:TIs P e ti i) {d:TypeDesc} (hu:P.underlying u=some d) (hd:∀ k,d≠.int k)
 (base:Option Addr) (sLen sCap:Nat) (olds news:List Value) (x:Value) (n:Nat) (hlen:(Builtin.lenOf x).run P w=.ok n w)
 (hold:(Builtin.firstCells ti.size sLen (.slice base sLen sCap)).run P w.drew=.ok olds.toArray w.drew) (hnew:(Builtin.firstCells ti.size n x).run P w.drew=.ok news.toArray w.drew)
 (hg:sCap<sLen+n) (h63:sLen+n<4611686018427387904) (hfit:(sLen+n)*ti.bytes≤140737488355328) :
 ∃ c,sLen+n≤c∧(Builtin.append_ #[t,u] ty #[.slice base sLen sCap,x]).run P w =
   .ok (.slice (some ⟨w.heap.size,0,none⟩) (sLen+n) c) (w.drew.alloc (.cells ((olds++news).toArray++Builtin.zeroCells ti.zv.cells (c-(sLen+n))) e)):=by
 refine ⟨grownCap w (sLen+n) sCap e,by unfold grownCap;simp [Question.cut],?_⟩
 have hn:¬ (sLen+n≤sCap):=by omega
 have h63':¬ (9223372036854775807<((sLen:Int)+(n:Int))):=by omega
 have hfit':=growslice_fits (need:=sLen+n) (old:=sCap) (bytes:=ti.bytes) hg hfit
 have h48':¬ (281474976710656<Builtin.nextslicecap (sLen+n) sCap*i.bytes):=by rw [hT.bytes];omega
 simp [Builtin.append_,run_underlying' ht,run_underlying' hu,sizeOf,typeInfo,zeroValue,hT.info,hT.zero,hT.size,hlen,hn,h63',h48',Question.forced,hold,hnew,newRow,grownCap]
 congr 2
 apply Array.ext'
 simp [List.append_assoc]
theorem run_append_fits (t u ty e:TypeId) (ti:TI) (i:TypeInfo) (ht:P.underlying t=some (.slice e)) (hT:TIs P e ti i) {d:TypeDesc} (hu:P.underlying u=some d) (hd:∀ k,d≠.int k)
  (base:Option Addr) (sLen sCap:Nat) (news:List Value) (x:Value) (n:Nat) (hlen:(Builtin.lenOf x).run P w=.ok n w)
  (hnew:(Builtin.firstCells ti.size n x).run P w=.ok news.toArray w) (hg:sLen+n≤sCap) :
  (Builtin.append_ #[t,u] ty #[.slice base sLen sCap,x]).run P w=((match base with|some a=>storeCells (a.add (sLen*ti.size)) news|none=>pure ():Sem Unit).run P w).andThen fun _ w'=>.ok (.slice base (sLen+n) sCap) w':=by
 cases base<;>simp [Builtin.append_,run_underlying' ht,run_underlying' hu,sizeOf,typeInfo,hT.info,hT.size,hlen,hg,hnew]
end
end Go.Ev
namespace Go.Ev
open Go.RowKit
variable {P:Program}{B0:Nat}{ι:Emb}{H H':AH}{w:World}
theorem run_firstCells_ok (h:HRel P B0 ι H w) {b off m sz:Nat}{l:ILoc} (hb:ι b=some l) {vs:List Value} (hr:H.rd b off (m*sz)=some vs) (n c:Nat) :
  ∃ vs',LRel ι vs vs'∧∀ w2:World,w2.heap=w.heap→(Builtin.firstCells sz m (.slice (some ⟨l.blk,l.base+off,none⟩) n c)).run P w2=.ok vs'.toArray w2:=by
 obtain ⟨hl,vs',hv,hc⟩:=h.rd hb hr
 refine ⟨vs',hv,fun w2 h2=>?_⟩
 have:=run_loadCellsFrom (P:=P) (w:=w2) (c:=l.blk) (o:=l.base+off) (m*sz) 0 #[] vs' (by rw [←hv.length,hl]) (fun j y hy=>by
  rw [Nat.zero_add,←hc j y hy];simp [World.cell?,h2])
 simpa [Builtin.firstCells,Go.loadCells] using this
theorem HRel.retire (h:HRel P B0 ι H w) {b:Nat}{l:ILoc} (hb:ι b=some l) {et:TypeId}{cells:List Value}{g v:Nat} (ho:H.obj b=.row et cells .loose g v):HRel P B0 ι (H.put b (.row et cells .shared g v)) w:=by
 have hal:∀ o,(H.put b (.row et cells .shared g v)).alive o=H.alive o:=fun o=>by cases o<;>rfl
 have hsame:∀ c,(H.put b (.row et cells .shared g v)).alive ((H.put b (.row et cells .shared g v)).obj c)=H.alive (H.obj c):=fun c=>by
  rw [hal,AH.obj_put]
  by_cases e:c=b
  ·subst e;rw [if_pos rfl,ho];rfl
  ·rw [if_neg e]
 refine ⟨h.base,fun c l' hc=>by simpa using h.dom c l' hc,fun c l' hc ha=>?_,fun c c' lc lc' hne hc hc' ha ha' he=>?_,fun c l' et' cells' st g' v' hc hoc=>?_⟩
 ·rw [hsame] at ha
  have hO:=h.obj c l' hc ha
  rw [AH.obj_put]
  by_cases e:c=b
  ·subst e
   rw [if_pos rfl]
   rw [ho] at hO
   obtain ⟨⟨cs,t,fr,h1,h2,h3,h4⟩,hf,he,hbb,_,_⟩:=hO
   exact ⟨⟨cs,t,fr,h1,h2,h3,fun e=>(nomatch e)⟩,hf,he,fun _=>hbb (by simp),fun e=>(nomatch e),fun e=>(nomatch e)⟩
  ·rw [if_neg e];exact hO
 ·rw [hsame] at ha ha'
  have hS:=h.sep c c' lc lc' hne hc hc' ha ha' he
  rw [AH.obj_put,AH.obj_put]
  by_cases e:c=b
  ·subst e
   rw [if_pos rfl,if_neg (Ne.symm hne)]
   rw [ho] at hS
   cases hoc:H.obj c' with
   | row et' cells' st g' v'=>rw [hoc] at hS;cases st<;>simp [Share] at hS ⊢;exact hS.1
   | _=>rw [hoc] at hS;simp [Share] at hS
  ·rw [if_neg e]
   by_cases e':c'=b
   ·subst e'
    rw [if_pos rfl]
    rw [ho] at hS
    cases hoc:H.obj c with
    | row et' cells' st g' v'=>rw [hoc] at hS;cases st<;>simp [Share] at hS ⊢;exact hS.1
    | _=>rw [hoc] at hS;simp [Share] at hS
   ·rw [if_neg e'];exact hS
 ·rw [AH.obj_put] at hoc
  by_cases e:c=b
  ·subst e
   rw [if_pos rfl] at hoc
   cases hoc
   simpa using h.grp c l et cells .loose g v hb ho
  ·rw [if_neg e] at hoc
   simpa using h.grp c l' et' cells' st g' v' hc hoc
theorem HRel.kill (h:HRel P B0 ι H w) {b:Nat}{l:ILoc} (hb:ι b=some l) {et:TypeId}{cells:List Value}{g v:Nat} (ho:H.obj b=.row et cells .loose g v) (hv:H.ver g=v) :
 HRel P B0 ι ((H.put b .dead).bump g (v+1)) w∧(∀ c l',ι c=some l'→((H.put b .dead).bump g (v+1)).alive (((H.put b .dead).bump g (v+1)).obj c)=true→c≠b∧H.alive (H.obj c)=true∧l'.blk≠l.blk):=by
 have hab:H.alive (H.obj b)=true:=by rw [ho];simp [AH.alive,hv]
 have key:∀ c l',ι c=some l'→((H.put b .dead).bump g (v+1)).alive (((H.put b .dead).bump g (v+1)).obj c)=true→c≠b∧H.alive (H.obj c)=true∧l'.blk≠l.blk:=fun c l' hc ha=>by
  rw [AH.obj_bump,AH.obj_put] at ha
  by_cases e:c=b
  ·rw [if_pos e] at ha;simp [AH.alive] at ha
  ·rw [if_neg e] at ha
   refine ⟨e,?_⟩
   cases hoc:H.obj c with
   |row et' cells' st g' v' =>
    rw [hoc] at ha
    have hg:=h.grp c l' et' cells' st g' v' hc hoc
    have hal:H.alive (.row et' cells' st g' v')=true∧(st=.shared∨st=.loose→g'≠g):=by
     cases st<;>simp [AH.alive] at ha ⊢
     ·by_cases e':g'=g
      ·rw [if_pos e'] at ha;subst e';omega
      ·rw [if_neg e'] at ha;exact ⟨ha,e'⟩
     ·by_cases e':g'=g
      ·rw [if_pos e'] at ha;subst e';omega
      ·rw [if_neg e'] at ha;exact ⟨ha,e'⟩
    refine ⟨hal.1,fun e'=>?_⟩
    have:=h.sep b c l l' (Ne.symm e) hb hc hab (by rw [hoc];exact hal.1) e'.symm
    rw [ho,hoc] at this
    cases st<;>simp [Share] at this
    exact hal.2 (.inl rfl) this.1.symm
   |map es =>
    refine ⟨by rfl,fun e'=>?_⟩
    have:=h.sep b c l l' (Ne.symm e) hb hc hab (by rw [hoc];rfl) e'.symm
    rw [ho,hoc] at this;simp [Share] at this
   |strIter s p =>
    refine ⟨by rfl,fun e'=>?_⟩
    have:=h.sep b c l l' (Ne.symm e) hb hc hab (by rw [hoc];rfl) e'.symm
    rw [ho,hoc] at this;simp [Share] at this
   |loop =>
    refine ⟨by rfl,fun e'=>?_⟩
    have:=h.sep b c l l' (Ne.symm e) hb hc hab (by rw [hoc];rfl) e'.symm
    rw [ho,hoc] at this;simp [Share] at this
   | dead=>rw [hoc] at ha;simp [AH.alive] at ha
 have hobj:∀ c,c≠b→((H.put b .dead).bump g (v+1)).obj c=H.obj c:=fun c e=>by simp [e]
 refine ⟨⟨h.base,fun c l' hc=>by simpa using h.dom c l' hc,fun c l' hc ha=>?_,fun c c' lc lc' hne hc hc' ha ha' he=>?_,fun c l' et' cells' st g' v' hc hoc=>?_⟩,key⟩
 ·obtain ⟨e,h1,_⟩:=key c l' hc ha
  rw [hobj c e]
  exact h.obj c l' hc h1
 ·obtain ⟨e,h1,_⟩:=key c lc hc ha
  obtain ⟨e',h1',_⟩:=key c' lc' hc' ha'
  rw [hobj c e,hobj c' e']
  exact h.sep c c' lc lc' hne hc hc' h1 h1' he
 ·by_cases e:c=b
  ·subst e;simp at hoc
  ·rw [hobj c e] at hoc
   have:=h.grp c l' et' cells' st g' v' hc hoc
   refine ⟨by simpa using this.1,?_⟩
   simp only [AH.ver_bump,AH.ver_put]
   split
   ·rename_i e';subst e';omega
   ·exact this.2
theorem Step.weaken {ι':Emb}{H1 H2:AH}{w':World} (hn:H1.next=H.next) (hal:∀ c l,ι c=some l→H1.alive (H1.obj c)=true→H.alive (H.obj c)=true) (hob:∀ c,ι c=none→H1.obj c=H.obj c) (k:Step P B0 ι H1 w ι' H2 w'):Step P B0 ι H w ι' H2 w' where
 le:=k.le
 new b l hb:=by rw [←hn];exact k.new b l hb
 next:=by rw [←hn];exact k.next
 rel:=k.rel
 size:=k.size
 frame c hc hf:=k.frame c hc fun b l hb ha=>hf b l hb (hal b l hb ha)
 low:=k.low
 fresh b l hb hb' ha:=by
  rcases k.fresh b l hb hb' ha with h1|⟨b0,l0,h1,h2,h3⟩
  ·exact .inl h1
  ·exact .inr ⟨b0,l0,h1,hal _ _ h1 h2,h3⟩
 old b l hb ha:=hal b l hb (k.old b l hb ha)
 loc b hb hn':=(k.loc b (by omega) hn').trans (hob b hn')
 os:=k.os
 tape:=k.tape
 output:=k.output
end Go.Ev
namespace Go.Ev
open Go.RowKit
variable {P:Program}{B0:Nat}{ι:Emb}{H H':AH}{w:World}
theorem HRel.tip (h:HRel P B0 ι H w) {b off:Nat}{l:ILoc} (hb:ι b=some l) {et:TypeId}{cells:List Value}{g v:Nat} (ho:H.obj b=.row et cells .loose g v) (hv:H.ver g=v) (hoff:off≤cells.length)
 {new new':List Value} (hn:LRel ι new new') {cs cs':Array Value}{t:TypeId}{fr:Nat×Nat}{w':World} (hc:w.heap[l.blk]?=some (.cells cs t fr)) (hroom:l.base+cells.length+new.length≤l.size)
 (hc':w'.heap[l.blk]?=some (.cells cs' t fr)) (hs:cs'.size=cs.size) (hg:∀ j,cs'[j]?=if l.base+cells.length≤j∧j<l.base+cells.length+new'.length then new'[j-(l.base+cells.length)]? else cs[j]?)
 (hheap:∀ k,k≠l.blk→w'.heap[k]?=w.heap[k]?) (hsize:w'.heap.size=w.heap.size) (hos:w'.os=w.os) (htape:w'.tape=w.tape) (hout:w'.output=w.output) :
 Step P B0 ι H w (ι.ext H.next ⟨l.blk,l.base+off,l.size,l.esz⟩) ((H.put b (.row et cells .shared g v)).alloc (.row et (cells.drop off++new) .loose g v)) w':=by
 have hab:H.alive (H.obj b)=true:=by rw [ho];simp [AH.alive,hv]
 have hOb:=h.obj b l hb hab
 rw [ho] at hOb
 obtain ⟨⟨cs0,t0,fr0,h1,h2,h3,h4⟩,hf,he,hbb,_,_⟩:=hOb
 rw [hc] at h1;injection h1 with h1;injection h1 with e1 e2 e3;subst e1 e2 e3
 have hle:ι.le (ι.ext H.next ⟨l.blk,l.base+off,l.size,l.esz⟩):=Emb.le_ext (h.outside (Nat.le_refl _))
 have hB:=hbb (by simp)
 have hbn:b≠H.next:=fun e=>by have:=h.dom b l hb;omega
 let H1:=(H.put b (.row et cells .shared g v)).alloc (.row et (cells.drop off++new) .loose g v)
 have hal:∀ o,H1.alive o=H.alive o:=fun o=>by cases o<;>rfl
 have hobj:∀ c,c≠b→c≠H.next→H1.obj c=H.obj c:=fun c e e'=>by simp [H1,e,e']
 have hobn:H1.obj H.next=.row et (cells.drop off++new) .loose g v:=by simp [H1]
 have hobb:H1.obj b=.row et cells .shared g v:=by simp [H1,hbn]
 have hsame:∀ c,c≠H.next→H1.alive (H1.obj c)=H.alive (H.obj c):=fun c e=>by
  rw [hal]
  by_cases e':c=b
  ·subst e';rw [hobb,ho];rfl
  ·rw [hobj c e' e]
 have key:∀ c l',ι.ext H.next ⟨l.blk,l.base+off,l.size,l.esz⟩ c=some l'→(c=H.next∧l'=⟨l.blk,l.base+off,l.size,l.esz⟩)∨(c≠H.next∧ι c=some l'):=fun c l' hc=>by
  unfold Emb.ext at hc
  by_cases e:c=H.next
  ·rw [if_pos e] at hc;cases hc;exact .inl ⟨e,rfl⟩
  ·rw [if_neg e] at hc;exact .inr ⟨e,hc⟩
 have hsh:∀ c l',c≠b→ι c=some l'→H.alive (H.obj c)=true→l'.blk=l.blk→∃ et' cells' v',H.obj c=.row et' cells' .shared g v'∧l'.base+cells'.length≤l.base+cells.length:=fun c l' e hcl ha eb=>by
  have hS:=h.sep b c l l' (Ne.symm e) hb hcl hab ha eb.symm
  rw [ho] at hS
  cases hoc:H.obj c with
  |row et' cells' st g' v' =>
   rw [hoc] at hS
   cases st<;>simp [Share] at hS
   obtain ⟨rfl,hS⟩:=hS
   exact ⟨et',cells',v',rfl,hS⟩
  | _=>rw [hoc] at hS;simp [Share] at hS
 have hold:∀ (l':ILoc) et' cells' g' v',l'.blk=l.blk→RowOk P B0 ι w l' et' cells' .shared→l'.base+cells'.length≤l.base+cells.length→OOk P B0 (ι.ext H.next ⟨l.blk,l.base+off,l.size,l.esz⟩) w' l' (.row et' cells' .shared g' v'):=fun l' et' cells' g' v' eb hR hx=>by
  obtain ⟨⟨cs0,t0,fr0,k1,k2,k3,k4⟩,kf,ke,kb,_,_⟩:=hR
  rw [eb,hc] at k1;injection k1 with k1;injection k1 with e1 e2 e3;subst e1 e2 e3
  refine ⟨⟨cs',t,fr,by rw [eb];exact hc',by omega,fun i x hx'=>?_,fun e=>(nomatch e)⟩,kf,ke,kb,fun e=>(nomatch e),fun e=>(nomatch e)⟩
  obtain ⟨y,hy,hr⟩:=k3 i x hx'
  have:i<cells'.length:=(List.getElem?_eq_some_iff.1 hx').1
  exact ⟨y,by rw [hg,if_neg (by omega)];exact hy,hr.mono hle⟩
 refine ⟨hle,fun c l' hcl=>?_,by simp,⟨by rw [hsize];exact h.base,fun c l' hcl=>?_,fun c l' hcl ha=>?_,fun c c' lc lc' hne hcl hcl' ha ha' he'=>?_,fun c l' et' cells' st g' v' hcl hoc=>?_⟩,by omega,fun c _ hn'=>hheap c fun e=>hn' b l hb hab e.symm,fun c hcB=>hheap c (by omega),fun c l' hcl hn' _=>?_,fun c l' hcl ha=>?_,fun c hc hn'=>hobj c (fun e=>by subst e;rw [hb] at hn';cases hn') (by omega),hos,htape,hout⟩
 ·rcases key c l' hcl with ⟨rfl,rfl⟩|⟨_,k1⟩
  ·exact .inr ⟨h.outside (Nat.le_refl _),Nat.le_refl _⟩
  ·exact .inl k1
 ·rcases key c l' hcl with ⟨rfl,rfl⟩|⟨_,k1⟩
  ·simp
  ·have:=h.dom c l' k1;simp;omega
 ·rcases key c l' hcl with ⟨rfl,rfl⟩|⟨hcn,k1⟩
  ·show OOk P B0 _ w' _ (H1.obj H.next)
   rw [hobn]
   refine ⟨⟨cs',t,fr,hc',by simpa using hs.trans h2,fun i x hx=>?_,fun _=>h4 rfl⟩,by simp;omega,he,fun _=>hB,fun e=>(nomatch e),fun e=>(nomatch e)⟩
   have hlen:(cells.drop off).length=cells.length-off:=by simp
   by_cases hi:i<cells.length-off
   ·rw [List.getElem?_append_left (by omega),List.getElem?_drop] at hx
    obtain ⟨y,hy,hr⟩:=h3 _ _ hx
    refine ⟨y,?_,hr.mono hle⟩
    show cs'[l.base+off+i]?=some y
    rw [hg,if_neg (by omega),show l.base+off+i=l.base+(off+i) by omega]
    exact hy
   ·rw [List.getElem?_append_right (by omega),hlen] at hx
    obtain ⟨y,hy,hr⟩:=hn.get hx
    have hi2:i-(cells.length-off)<new'.length:=(List.getElem?_eq_some_iff.1 hy).1
    refine ⟨y,?_,hr.mono hle⟩
    show cs'[l.base+off+i]?=some y
    rw [hg,if_pos (by omega),show l.base+off+i-(l.base+cells.length)=i-(cells.length-off) by omega]
    exact hy
  ·have ha':=hsame c hcn
   rw [show ((H.put b (.row et cells .shared g v)).alloc (.row et (cells.drop off++new) .loose g v)).alive (((H.put b (.row et cells .shared g v)).alloc (.row et (cells.drop off++new) .loose g v)).obj c)=H.alive (H.obj c) from ha'] at ha
   show OOk P B0 _ w' l' (H1.obj c)
   by_cases e:c=b
   ·subst e
    rw [hb] at k1;cases k1
    rw [hobb]
    exact hold l et cells g v rfl ⟨⟨cs,t,fr,hc,h2,h3,fun e=>(nomatch e)⟩,hf,he,fun _=>hB,fun e=>(nomatch e),fun e=>(nomatch e)⟩ (Nat.le_refl _)
   ·rw [hobj c e hcn]
    have hO:=h.obj c l' k1 ha
    by_cases eb:l'.blk=l.blk
    ·obtain ⟨et',cells',v',hoc,hx⟩:=hsh c l' e k1 ha eb
     rw [hoc] at hO ⊢
     exact hold l' et' cells' g v' eb hO hx
    ·exact hO.carry hle (hheap _ eb)
 ·have hA:∀ c,c≠H.next→((H.put b (.row et cells .shared g v)).alloc (.row et (cells.drop off++new) .loose g v)).alive (((H.put b (.row et cells .shared g v)).alloc (.row et (cells.drop off++new) .loose g v)).obj c)=H.alive (H.obj c):=hsame
  have hob:∀ c,((H.put b (.row et cells .shared g v)).alloc (.row et (cells.drop off++new) .loose g v)).obj c=H1.obj c:=fun _=>rfl
  have side:∀ c lc,c≠H.next→ι c=some lc→H.alive (H.obj c)=true→lc.blk=l.blk→∃ et' cells' v',H1.obj c=.row et' cells' .shared g v'∧lc.base+cells'.length≤l.base+cells.length:=fun c lc e1 e2 e3 e4=>by
   by_cases e:c=b
   ·subst e;rw [hb] at e2;cases e2;exact ⟨et,cells,v,hobb,Nat.le_refl _⟩
   ·rw [hobj c e e1];exact hsh c lc e e2 e3 e4
  rw [hob,hob]
  rcases key c lc hcl with ⟨rfl,rfl⟩|⟨k0,k1⟩
  ·rcases key c' lc' hcl' with ⟨rfl,rfl⟩|⟨k0',k1'⟩
   ·exact absurd rfl hne
   ·rw [hA c' k0'] at ha'
    obtain ⟨et',cells',v',q1,q2⟩:=side c' lc' k0' k1' ha' he'.symm
    rw [hobn,q1]
    refine ⟨rfl,?_⟩
    simp;omega
  ·rw [hA c k0] at ha
   rcases key c' lc' hcl' with ⟨rfl,rfl⟩|⟨k0',k1'⟩
   ·obtain ⟨et',cells',v',q1,q2⟩:=side c lc k0 k1 ha he'
    rw [hobn,q1]
    refine ⟨rfl,?_⟩
    simp;omega
   ·rw [hA c' k0'] at ha'
    by_cases e:c=b
    ·subst e
     rw [hb] at k1;cases k1
     obtain ⟨et',cells',v',q1,q2⟩:=side c' lc' k0' k1' ha' he'.symm
     rw [hobb,q1];rfl
    ·by_cases e':c'=b
     ·subst e'
      rw [hb] at k1';cases k1'
      obtain ⟨et',cells',v',q1,q2⟩:=side c lc k0 k1 ha he'
      rw [hobb,q1];rfl
     ·rw [hobj c e k0,hobj c' e' k0']
      exact h.sep c c' lc lc' hne k1 k1' ha ha' he'
 ·have hob:((H.put b (.row et cells .shared g v)).alloc (.row et (cells.drop off++new) .loose g v)).obj c=H1.obj c:=rfl
  rw [hob] at hoc
  have hgb:=h.grp b l et cells .loose g v hb ho
  rcases key c l' hcl with ⟨rfl,rfl⟩|⟨k0,k1⟩
  ·rw [hobn] at hoc;cases hoc;simp;omega
  ·by_cases e:c=b
   ·subst e;rw [hobb] at hoc;cases hoc;simp;omega
   ·rw [hobj c e k0] at hoc
    have:=h.grp c l' et' cells' st g' v' k1 hoc
    simp;omega
 ·rcases key c l' hcl with ⟨rfl,rfl⟩|⟨k0,k1⟩
  ·exact .inr ⟨b,l,hb,hab,rfl⟩
  ·rw [hn'] at k1;cases k1
 ·have hcn:c≠H.next:=fun e=>by have:=h.dom c l' hcl;omega
  rw [show ((H.put b (.row et cells .shared g v)).alloc (.row et (cells.drop off++new) .loose g v)).alive (((H.put b (.row et cells .shared g v)).alloc (.row et (cells.drop off++new) .loose g v)).obj c)=H.alive (H.obj c) from hsame c hcn] at ha
  exact ha
end Go.Ev
namespace Go.Ev
open Go.RowKit
variable {P:Program}{B0:Nat}{ι:Emb}{H H':AH}{w:World}
theorem HRel.cut (h:HRel P B0 ι H w) {b off k:Nat}{l:ILoc} (hb:ι b=some l) {et:TypeId}{cells:List Value}{g v:Nat} (ho:H.obj b=.row et cells .loose g v) (hv:H.ver g=v) (hoff:off+k≤cells.length)
 {new new':List Value} (hn:LRel ι new new') {cs cs':Array Value}{t:TypeId}{fr:Nat×Nat}{w':World} (hc:w.heap[l.blk]?=some (.cells cs t fr)) (hroom:l.base+off+k+new.length≤l.size)
 (hc':w'.heap[l.blk]?=some (.cells cs' t fr)) (hs:cs'.size=cs.size) (hg:∀ j,cs'[j]?=if l.base+off+k≤j∧j<l.base+off+k+new'.length then new'[j-(l.base+off+k)]? else cs[j]?)
 (hheap:∀ k,k≠l.blk→w'.heap[k]?=w.heap[k]?) (hsize:w'.heap.size=w.heap.size) (hos:w'.os=w.os) (htape:w'.tape=w.tape) (hout:w'.output=w.output) :
 Step P B0 ι H w (ι.ext H.next ⟨l.blk,l.base+off,l.size,l.esz⟩) (((H.put b .dead).bump g (v+1)).alloc (.row et ((cells.drop off).take k++new) .loose g (v+1))) w':=by
 obtain ⟨hk,key⟩:=h.kill hb ho hv
 have hab:H.alive (H.obj b)=true:=by rw [ho];simp [AH.alive,hv]
 have hOb:=h.obj b l hb hab
 rw [ho] at hOb
 obtain ⟨⟨cs0,t0,fr0,h1,h2,h3,h4⟩,hf,he,hbb,_,_⟩:=hOb
 rw [hc] at h1;injection h1 with h1;injection h1 with e1 e2 e3;subst e1 e2 e3
 have hle:ι.le (ι.ext H.next ⟨l.blk,l.base+off,l.size,l.esz⟩):=Emb.le_ext (h.outside (Nat.le_refl _))
 have hB:=hbb (by simp)
 generalize hK:(H.put b .dead).bump g (v+1)=K at hk key ⊢
 have hKn:K.next=H.next:=by rw [←hK];rfl
 have hKv:K.ver g=v+1:=by rw [←hK];simp
 have hal:∀ (o o':AObj),(K.alloc o).alive o'=K.alive o':=fun o o'=>by cases o'<;>rfl
 have sp:∀ c l',ι.ext H.next ⟨l.blk,l.base+off,l.size,l.esz⟩ c=some l'→(c=H.next∧l'=⟨l.blk,l.base+off,l.size,l.esz⟩)∨(c≠H.next∧ι c=some l'):=fun c l' hc=>by
  unfold Emb.ext at hc
  by_cases e:c=H.next
  ·rw [if_pos e] at hc;cases hc;exact .inl ⟨e,rfl⟩
  ·rw [if_neg e] at hc;exact .inr ⟨e,hc⟩
 refine ⟨hle,fun c l' hcl=>?_,by simp [hKn],⟨by rw [hsize];exact h.base,fun c l' hcl=>?_,fun c l' hcl ha=>?_,fun c c' lc lc' hne hcl hcl' ha ha' he'=>?_,fun c l' et' cells' st g' v' hcl hoc=>?_⟩,by omega,fun c _ hn'=>hheap c fun e=>hn' b l hb hab e.symm,fun c hcB=>hheap c (by omega),fun c l' hcl hn' _=>?_,fun c l' hcl ha=>?_,fun c hc hn'=>by rw [AH.obj_alloc,hKn,if_neg (by omega),←hK];simp [show c≠b from fun e=>by subst e;rw [hb] at hn';cases hn'],hos,htape,hout⟩
 ·rcases sp c l' hcl with ⟨rfl,rfl⟩|⟨_,k1⟩
  ·exact .inr ⟨h.outside (Nat.le_refl _),Nat.le_refl _⟩
  ·exact .inl k1
 ·rcases sp c l' hcl with ⟨rfl,rfl⟩|⟨_,k1⟩
  ·simp [hKn]
  ·have:=h.dom c l' k1;simp [hKn];omega
 ·rw [hal] at ha
  rw [AH.obj_alloc,hKn] at ha ⊢
  rcases sp c l' hcl with ⟨rfl,rfl⟩|⟨hcn,k1⟩
  ·rw [if_pos rfl]
   have hlen:((cells.drop off).take k).length=k:=by simp;omega
   refine ⟨⟨cs',t,fr,hc',by simpa using hs.trans h2,fun i x hx=>?_,fun _=>h4 rfl⟩,by simp;omega,he,fun _=>hB,fun e=>(nomatch e),fun e=>(nomatch e)⟩
   by_cases hi:i<k
   ·rw [List.getElem?_append_left (by omega),List.getElem?_take,if_pos hi,List.getElem?_drop] at hx
    obtain ⟨y,hy,hr⟩:=h3 _ _ hx
    refine ⟨y,?_,hr.mono hle⟩
    show cs'[l.base+off+i]?=some y
    rw [hg,if_neg (by omega),show l.base+off+i=l.base+(off+i) by omega]
    exact hy
   ·rw [List.getElem?_append_right (by omega),hlen] at hx
    obtain ⟨y,hy,hr⟩:=hn.get hx
    have hi2:i-k<new'.length:=(List.getElem?_eq_some_iff.1 hy).1
    refine ⟨y,?_,hr.mono hle⟩
    show cs'[l.base+off+i]?=some y
    rw [hg,if_pos (by omega),show l.base+off+i-(l.base+off+k)=i-k by omega]
    exact hy
  ·rw [if_neg hcn] at ha ⊢
   obtain ⟨q1,q2,q3⟩:=key c l' k1 ha
   exact (hk.obj c l' k1 ha).carry hle (hheap _ q3)
 ·rw [hal] at ha ha'
  rw [AH.obj_alloc,hKn] at ha ha' ⊢
  rw [AH.obj_alloc,hKn]
  rcases sp c lc hcl with ⟨rfl,rfl⟩|⟨k0,k1⟩
  ·rcases sp c' lc' hcl' with ⟨rfl,rfl⟩|⟨k0',k1'⟩
   ·exact absurd rfl hne
   ·rw [if_neg k0'] at ha'
    exact absurd he'.symm (key c' lc' k1' ha').2.2
  ·rw [if_neg k0] at ha
   rcases sp c' lc' hcl' with ⟨rfl,rfl⟩|⟨k0',k1'⟩
   ·exact absurd he' (key c lc k1 ha).2.2
   ·rw [if_neg k0'] at ha'
    rw [if_neg k0,if_neg k0']
    exact hk.sep c c' lc lc' hne k1 k1' ha ha' he'
 ·rw [AH.obj_alloc,hKn] at hoc
  have hgb:=h.grp b l et cells .loose g v hb ho
  rcases sp c l' hcl with ⟨rfl,rfl⟩|⟨k0,k1⟩
  ·rw [if_pos rfl] at hoc;cases hoc;simp [hKn,hKv];omega
  ·rw [if_neg k0] at hoc
   have:=hk.grp c l' et' cells' st g' v' k1 hoc
   simp [hKn] at this ⊢;omega
 ·rcases sp c l' hcl with ⟨rfl,rfl⟩|⟨k0,k1⟩
  ·exact .inr ⟨b,l,hb,hab,rfl⟩
  ·rw [hn'] at k1;cases k1
 ·rw [hal] at ha
  have hcn:c≠H.next:=fun e=>by have:=h.dom c l' hcl;omega
  rw [AH.obj_alloc,hKn,if_neg hcn] at ha
  exact (key c l' hcl ha).2.1
theorem LRel.oneCell {vs vs':List Value} (hv:LRel ι vs vs') (h1:∀ v,v∈vs→v.oneCell'=true):∀ v',v'∈vs'→v'.oneCell'=true:=fun v' hv'=>by
 obtain ⟨i,hi,e⟩:=List.mem_iff_getElem.1 hv'
 have hi2:i<vs.length:=by rw [hv.length];exact hi
 obtain ⟨y,hy,hr⟩:=hv.get (i:=i) (x:=vs[i]) (by simp [hi2])
 have:y=v':=by simp [hi] at hy;rw [←hy,e]
 subst this
 rw [hr.oneCell];exact h1 _ (List.getElem_mem hi2)
theorem AH.rd_full {b:Nat}{et:TypeId}{cells:List Value}{g v:Nat} (hb:b<H.next) (ho:H.obj b=.row et cells .loose g v) (hv:H.ver g=v) (off n:Nat) (hle:off+n≤cells.length):H.rd b off n=some ((cells.drop off).take n):=by
 simp [AH.rd,AH.lo_lt hb,ho,AH.alive,hv,hle]
theorem HRel.append (h:HRel P B0 ι H w) {t u ty e:TypeId}{ti:TI}{i:TypeInfo} (ht:P.underlying t=some (.slice e)) (hT:TIs P e ti i) {d:TypeDesc} (hu:P.underlying u=some d) (hd:∀ k,d≠.int k)
 {s s' x:Value} (hs:VRel ι s s') {n:Nat}{new new':List Value} (hn:LRel ι new new') (h1:∀ v,v∈new→v.oneCell'=true) (hnl:new.length=n*ti.size) (hlen:(Builtin.lenOf x).run P w=.ok n w)
 (hnew:∀ w2:World,w2.heap=w.heap→(Builtin.firstCells ti.size n x).run P w2=.ok new'.toArray w2) {v:Value} (ha:H.app e ti.size ti.bytes s n new=some (v,H')) :
 ∃ v' w' ι',(Builtin.append_ #[t,u] ty #[s',x]).run P w=.ok v' w'∧VRel ι' v v'∧Step P B0 ι H w ι' H' w':=by
 have hn1:=hn.oneCell h1
 have hnl':new'.length=n*ti.size:=by rw [←hn.length];exact hnl
 have fits:=fun (base:Option Addr) (sLen sCap:Nat) (hg:sLen+n≤sCap)=>run_append_fits (P:=P) (w:=w) t u ty e ti i ht hT hu hd base sLen sCap new' x n hlen (hnew w rfl) hg
 have grows:=fun (base:Option Addr) (sLen sCap:Nat) (olds:List Value) ho (hg:sCap<sLen+n)=>run_append_grows (P:=P) (w:=w) t u ty e ti i ht hT hu hd base sLen sCap olds new' x n hlen ho (hnew w.drew rfl) hg
 unfold AH.app at ha
 cases hs with
 |sliceNil =>
  simp only at ha
  by_cases h0:n=0
  ·rw [if_pos h0] at ha;cases ha
   subst h0
   refine ⟨_,w,ι,?_,.sliceNil,Step.refl h⟩
   rw [fits none 0 0 (by omega)]
   simp
  ·rw [if_neg h0] at ha
   split at ha
   ·rename_i hb
    cases ha
    obtain ⟨c,hc,hr⟩:=grows none 0 0 [] (by simp [Builtin.firstCells]) (by omega) (by omega) (by simpa using hb.1)
    have hst:=(h.drewN w.drew rfl).newLoose e e hn (Builtin.zeroCells ti.zv.cells (c-n))
    have hz:=zeroCells_size ti.zv.cells (c-n)
    refine ⟨_,_,_,hr,?_,(Step.drew h).trans (by simpa using hst)⟩
    rw [Nat.zero_add] at hc ⊢
    have:=VRel.sliceUnk (ι:=ι.ext H.next ⟨w.heap.size,0,new.length+(Builtin.zeroCells ti.zv.cells (c-n)).size,P.cellsOf e⟩) (b:=H.next) (off:=0) (len:=n) (cap:=c) (Emb.ext_same _ _ _) hc
     (by simp only [hz,hT.zsize,hnl,hT.cellsOf,Nat.zero_add];rw [←Nat.add_mul];congr 1;omega) (by simp only [hT.cellsOf];exact hb.2.2)
    simpa using this
   ·cases ha
 |slice hb hcu hl =>
  rename_i b off len cap l
  simp only at ha
  by_cases h0:n=0
  ·rw [if_pos h0] at ha;cases ha
   subst h0
   have hnil:new'=[]:=List.length_eq_zero_iff.1 (by simpa using hnl')
   subst hnil
   refine ⟨_,w,ι,?_,.slice hb hcu hl,Step.refl h⟩
   rw [fits _ len cap (by omega)]
   simp [Go.storeCells]
  ·rw [if_neg h0] at ha
   split at ha
   ·cases ha
   ·rename_i hbd
    rw [Decidable.not_not] at hbd
    rw [if_neg (Nat.ne_of_lt hcu)] at ha
    split at ha
    ·rename_i hfit
     cases hw:H.wr b (off+len*ti.size) new with
     | none=>rw [hw] at ha;cases ha
     |some H1 =>
      rw [hw] at ha;cases ha
      obtain ⟨w',hr,hst⟩:=h.storeCells hb hn h1 hw
      refine ⟨_,w',ι,?_,.slice hb hcu hfit,hst⟩
      rw [fits _ len cap hfit];simp only [Addr.add_plain];rw [Nat.add_assoc,hr];rfl
    ·rename_i hfit
     cases hrd:H.rd b off (len*ti.size) with
     | none=>rw [hrd] at ha;cases ha
     |some old =>
      rw [hrd] at ha;cases ha
      obtain ⟨olds',ho',hof⟩:=run_firstCells_ok h hb hrd len cap
      obtain ⟨c,hc,hr⟩:=grows _ len cap olds' (hof w.drew rfl) (by omega) (by omega) hbd.1
      have hst:=(h.drewN w.drew rfl).newLoose e e (ho'.append hn) (Builtin.zeroCells ti.zv.cells (c-(len+n)))
      have hz:=zeroCells_size ti.zv.cells (c-(len+n))
      have hol:old.length=len*ti.size:=(h.rd hb hrd).1
      refine ⟨_,_,_,hr,?_,(Step.drew h).trans (by simpa using hst)⟩
      have:=VRel.sliceUnk (ι:=ι.ext H.next ⟨w.heap.size,0,(old++new).length+(Builtin.zeroCells ti.zv.cells (c-(len+n))).size,P.cellsOf e⟩) (b:=H.next) (off:=0) (len:=len+n) (cap:=c) (Emb.ext_same _ _ _) hc
       (by simp only [hz,hT.zsize,hnl,hol,hT.cellsOf,Nat.zero_add,List.length_append];rw [←Nat.add_mul,←Nat.add_mul];congr 1;omega) (by simp only [hT.cellsOf];exact hbd.2.2)
      simpa using this
 |sliceUnk hb hl hsz hez =>
  rename_i b off len cap l
  simp only at ha
  by_cases h0:n=0
  ·rw [if_pos h0] at ha;cases ha
   subst h0
   have hnil:new'=[]:=List.length_eq_zero_iff.1 (by simpa using hnl')
   subst hnil
   refine ⟨_,w,ι,?_,.sliceUnk hb hl hsz hez,Step.refl h⟩
   rw [fits _ len cap (by omega)]
   simp [Go.storeCells]
  ·rw [if_neg h0] at ha
   split at ha
   ·cases ha
   ·rename_i hbd
    rw [Decidable.not_not] at hbd
    rw [if_pos trivial] at ha
    split at ha
    ·rename_i et' cells g ve ho
     split at ha
     ·rename_i hev
      obtain ⟨rfl,hve⟩:=hev
      have hab:H.alive (H.obj b)=true:=by rw [ho];simp [AH.alive,hve]
      have hOb:=h.obj b l hb hab
      rw [ho] at hOb
      have hOb':RowOk P B0 ι w l et' cells .loose:=hOb
      have hesz:l.esz=ti.size:=by rw [←hOb'.esz,hT.cellsOf]
      rw [hesz] at hsz
      have hfitb:=hOb'.fits
      split at ha
      ·rename_i hfit
       cases hw:H.wr b (off+len*ti.size) new with
       | none=>rw [hw] at ha;cases ha
       |some H1 =>
        rw [hw] at ha;cases ha
        obtain ⟨w',hr,hst⟩:=h.storeCells hb hn h1 hw
        have hcap:len+n≤cap:=by
         have:(len+n)*ti.size≤cap*ti.size:=by rw [Nat.add_mul];omega
         exact Nat.le_of_mul_le_mul_right this hbd.2.2
        refine ⟨_,w',ι,?_,.sliceUnk hb hcap (by rw [hesz];exact hsz) hez,hst⟩
        rw [fits _ len cap hcap];simp only [Addr.add_plain];rw [Nat.add_assoc,hr];rfl
      ·rename_i hnf
       obtain ⟨cs,t0,fr,hcs,hcsz,h3,h4⟩:=hOb'.ex
       by_cases hcap:len+n≤cap
       ·have hmul:(len+n)*ti.size≤cap*ti.size:=Nat.mul_le_mul_right _ hcap
        rw [Nat.add_mul] at hmul
        obtain ⟨w',cs',hr,k1,k2,k3,k4,k5,k6,k7,k8⟩:=run_storeCells (P:=P) (t:=t0) (fr:=fr) new' (l.base+off+len*ti.size) 0 w cs hcs (by rw [hnl',hcsz];omega) (by rw [hcsz];exact h4 rfl) hn1
        simp only [Nat.add_zero] at k3
        have hrun:(Builtin.append_ #[t,u] ty #[.slice (some ⟨l.blk,l.base+off,none⟩) len cap,x]).run P w=.ok (.slice (some ⟨l.blk,l.base+off,none⟩) (len+n) cap) w':=by
         rw [fits _ len cap hcap];simp only [Addr.add_plain];rw [hr];rfl
        split at ha
        ·rename_i hend
         cases ha
         have hst:=h.tip hb ho hve (by omega:off≤cells.length) hn hcs (by rw [hnl];omega) k1 k2 (fun j=>by rw [k3 j,←hend,←Nat.add_assoc]) k4 k5 k6 k7 k8
         exact ⟨_,w',_,hrun,by simpa using VRel.sliceUnk (b:=H.next) (off:=0) (Emb.ext_same ι H.next ⟨l.blk,l.base+off,l.size,l.esz⟩) hcap (by simp only [hesz,Nat.add_zero];exact hsz) hez,hst⟩
        ·split at ha
         ·rename_i hlt
          cases ha
          have hst:=h.cut hb ho hve (by omega:off+len*ti.size≤cells.length) hn hcs (by rw [hnl];omega) k1 k2 k3 k4 k5 k6 k7 k8
          exact ⟨_,w',_,hrun,by simpa using VRel.sliceUnk (b:=H.next) (off:=0) (Emb.ext_same ι H.next ⟨l.blk,l.base+off,l.size,l.esz⟩) hcap (by simp only [hesz,Nat.add_zero];exact hsz) hez,hst⟩
         ·cases ha
       ·split at ha
        ·rename_i hend
         cases ha
         have hrd:=AH.rd_full (h.dom _ _ hb) ho hve off (len*ti.size) (by omega)
         have htk:(cells.drop off).take (len*ti.size)=cells.drop off:=List.take_of_length_le (by simp;omega)
         rw [htk] at hrd
         obtain ⟨olds',ho',hof⟩:=run_firstCells_ok h hb hrd len cap
         obtain ⟨c,hc,hr⟩:=grows _ len cap olds' (hof w.drew rfl) (by omega) (by omega) hbd.1
         have hret:=(h.drewN w.drew rfl).retire hb ho
         have hz:=zeroCells_size ti.zv.cells (c-(len+n))
         have hdl:(cells.drop off).length=len*ti.size:=by simp;omega
         have hst:=hret.alloc (.row et' (cells.drop off++new) .loose g ve) (.cells ((olds'++new').toArray++Builtin.zeroCells ti.zv.cells (c-(len+n))) et')
          ⟨w.heap.size,0,(cells.drop off++new).length+(Builtin.zeroCells ti.zv.cells (c-(len+n))).size,P.cellsOf et'⟩ rfl
          ⟨⟨_,_,_,heap_new w.drew _,by simp [ho'.length,hn.length],fun j x hx=>by
           obtain ⟨y,hy,hrr⟩:=(ho'.append hn).get hx
           refine ⟨y,?_,hrr.mono (Emb.le_ext (h.outside (Nat.le_refl _)))⟩
           have:j<(olds'++new').length:=(List.getElem?_eq_some_iff.1 hy).1
           simp only [Nat.zero_add]
           rw [Array.getElem?_append_left (by simpa using this)]
           simpa using hy,fun _ j _=>by simp⟩,by simp,rfl,fun _=>h.base,fun e=>(nomatch e),fun e=>(nomatch e)⟩
          (fun _ _ _ _ _ e=>by cases e;have:=h.grp b l et' cells .loose g ve hb ho;simp;omega)
         refine ⟨_,_,_,hr,?_,(Step.drew h).trans (hst.weaken (by rfl) (fun c' l' hc' ha'=>?_) (fun c' hc'=>by simp [show c'≠b from fun e=>by subst e;rw [hb] at hc';cases hc']))⟩
         ·have:=VRel.sliceUnk (ι:=ι.ext H.next ⟨w.heap.size,0,(cells.drop off++new).length+(Builtin.zeroCells ti.zv.cells (c-(len+n))).size,P.cellsOf et'⟩) (b:=H.next) (off:=0) (len:=len+n) (cap:=c) (Emb.ext_same _ _ _) hc
           (by simp only [hz,hT.zsize,hnl,hdl,hT.cellsOf,Nat.zero_add,List.length_append];rw [←Nat.add_mul,←Nat.add_mul];congr 1;omega) (by simp only [hT.cellsOf];exact hbd.2.2)
          simpa using this
         ·by_cases e:c'=b
          ·subst e;exact hab
          ·rw [AH.obj_put,if_neg e] at ha';cases hoc:H.obj c'<;>rw [hoc] at ha'<;>exact ha'
        ·split at ha
         ·rename_i hlt
          cases ha
          have hrd:=AH.rd_full (h.dom _ _ hb) ho hve off (len*ti.size) (by omega)
          obtain ⟨olds',ho',hof⟩:=run_firstCells_ok h hb hrd len cap
          obtain ⟨c,hc,hr⟩:=grows _ len cap olds' (hof w.drew rfl) (by omega) (by omega) hbd.1
          obtain ⟨hkl,key⟩:=(h.drewN w.drew rfl).kill hb ho hve
          have hz:=zeroCells_size ti.zv.cells (c-(len+n))
          have hdl:((cells.drop off).take (len*ti.size)).length=len*ti.size:=by simp;omega
          have hst:=hkl.alloc (.row et' ((cells.drop off).take (len*ti.size)++new) .loose g (ve+1)) (.cells ((olds'++new').toArray++Builtin.zeroCells ti.zv.cells (c-(len+n))) et')
           ⟨w.heap.size,0,((cells.drop off).take (len*ti.size)++new).length+(Builtin.zeroCells ti.zv.cells (c-(len+n))).size,P.cellsOf et'⟩ rfl
           ⟨⟨_,_,_,heap_new w.drew _,by simp only [Array.size_append,List.size_toArray,List.length_append];rw [←ho'.length,hn.length],fun j x hx=>by
            obtain ⟨y,hy,hrr⟩:=(ho'.append hn).get hx
            refine ⟨y,?_,hrr.mono (Emb.le_ext (h.outside (Nat.le_refl _)))⟩
            have:j<(olds'++new').length:=(List.getElem?_eq_some_iff.1 hy).1
            simp only [Nat.zero_add]
            rw [Array.getElem?_append_left (by simpa using this)]
            simpa using hy,fun _ j _=>by simp⟩,by simp only [Nat.zero_add];omega,rfl,fun _=>h.base,fun e=>(nomatch e),fun e=>(nomatch e)⟩
           (fun _ _ _ _ _ e=>by cases e;have:=h.grp b l et' cells .loose g ve hb ho;simp;omega)
          refine ⟨_,_,_,hr,?_,(Step.drew h).trans (hst.weaken (by rfl) (fun c' l' hc' ha'=>(key c' l' hc' ha').2.1) (fun c' hc'=>by simp [show c'≠b from fun e=>by subst e;rw [hb] at hc';cases hc']))⟩
          have:=VRel.sliceUnk (ι:=ι.ext H.next ⟨w.heap.size,0,((cells.drop off).take (len*ti.size)++new).length+(Builtin.zeroCells ti.zv.cells (c-(len+n))).size,P.cellsOf et'⟩) (b:=H.next) (off:=0) (len:=len+n) (cap:=c) (Emb.ext_same _ _ _) hc
           (by simp only [hz,hT.zsize,hnl,hdl,hT.cellsOf,Nat.zero_add,List.length_append];rw [←Nat.add_mul,←Nat.add_mul];congr 1;omega) (by simp only [hT.cellsOf];exact hbd.2.2)
          simpa using this
         ·cases ha
     ·cases ha
    ·cases ha
 |sliceZ a =>
  rename_i b off
  simp only at ha
  by_cases h0:n=0
  ·rw [if_pos h0] at ha;cases ha
   subst h0
   have hnil:new'=[]:=List.length_eq_zero_iff.1 (by simpa using hnl')
   subst hnil
   refine ⟨_,w,ι,?_,.sliceZ a,Step.refl h⟩
   rw [fits _ 0 0 (by omega)]
   simp [Go.storeCells]
  ·rw [if_neg h0] at ha
   split at ha
   ·cases ha
   ·rename_i hbd
    rw [Decidable.not_not] at hbd
    rw [if_neg (show ¬ (0=unk) by decide),if_neg (show ¬ (0+n≤0) by omega)] at ha
    split at ha
    ·rename_i old hold
     have ho0:old=[]:=by
      unfold AH.rd at hold
      split at hold
      ·split at hold
       ·cases hold;simp
       ·cases hold
      ·cases hold
     subst ho0
     cases ha
     obtain ⟨c,hc,hr⟩:=grows (some a) 0 0 [] (by simp [Builtin.firstCells,Go.loadCells,loadCellsFrom]) (by omega) (by omega) hbd.1
     have hst:=(h.drewN w.drew rfl).newLoose e e hn (Builtin.zeroCells ti.zv.cells (c-n))
     have hz:=zeroCells_size ti.zv.cells (c-n)
     refine ⟨_,_,_,hr,?_,(Step.drew h).trans (by simpa using hst)⟩
     rw [Nat.zero_add] at hc ⊢
     have:=VRel.sliceUnk (ι:=ι.ext H.next ⟨w.heap.size,0,new.length+(Builtin.zeroCells ti.zv.cells (c-n)).size,P.cellsOf e⟩) (b:=H.next) (off:=0) (len:=n) (cap:=c) (Emb.ext_same _ _ _) hc
      (by simp only [hz,hT.zsize,hnl,hT.cellsOf,Nat.zero_add];rw [←Nat.add_mul];congr 1;omega) (by simp only [hT.cellsOf];exact hbd.2.2)
     simpa using this
    ·cases ha
 |sliceEnd a hb hsz =>
  rename_i b off l
  simp only at ha
  by_cases h0:n=0
  ·rw [if_pos h0] at ha;cases ha
   subst h0
   have hnil:new'=[]:=List.length_eq_zero_iff.1 (by simpa using hnl')
   subst hnil
   refine ⟨_,w,ι,?_,.sliceEnd a hb hsz,Step.refl h⟩
   rw [fits _ 0 0 (by omega)]
   simp [Go.storeCells]
  ·rw [if_neg h0] at ha
   split at ha
   ·cases ha
   ·rename_i hbd
    rw [Decidable.not_not] at hbd
    rw [if_pos trivial] at ha
    split at ha
    ·rename_i et' cells g ve ho
     split at ha
     ·rename_i hev
      obtain ⟨rfl,hve⟩:=hev
      have hab:H.alive (H.obj b)=true:=by rw [ho];simp [AH.alive,hve]
      have hOb:=h.obj b l hb hab
      rw [ho] at hOb
      have hOb':RowOk P B0 ι w l et' cells .loose:=hOb
      have hfitb:=hOb'.fits
      have hpos:0<n*ti.size:=Nat.mul_pos (by omega) hbd.2.2
      have hno:¬ (off+0*ti.size+n*ti.size≤cells.length):=by omega
      rw [if_neg hno] at ha
      split at ha
      ·rename_i hend
       cases ha
       have hdn:cells.drop off=[]:=List.drop_of_length_le (by omega)
       obtain ⟨c,hc,hr⟩:=grows (some a) 0 0 [] (by simp [Builtin.firstCells,Go.loadCells,loadCellsFrom]) (by omega) (by omega) hbd.1
       have hret:=(h.drewN w.drew rfl).retire hb ho
       have hst:=hret.alloc (.row et' (cells.drop off++new) .loose g ve) (.cells (([]++new').toArray++Builtin.zeroCells ti.zv.cells (c-(0+n))) et')
        ⟨w.heap.size,0,(cells.drop off++new).length+(Builtin.zeroCells ti.zv.cells (c-(0+n))).size,P.cellsOf et'⟩ rfl
        ⟨⟨_,_,_,heap_new w.drew _,by simp [hdn,hn.length],fun j x hx=>by
         rw [hdn] at hx
         obtain ⟨y,hy,hrr⟩:=hn.get (by simpa using hx)
         refine ⟨y,?_,hrr.mono (Emb.le_ext (h.outside (Nat.le_refl _)))⟩
         have:j<new'.length:=(List.getElem?_eq_some_iff.1 hy).1
         simp only [Nat.zero_add]
         rw [Array.getElem?_append_left (by simpa using this)]
         simpa using hy,fun _ j _=>by simp⟩,by simp,rfl,fun _=>h.base,fun e=>(nomatch e),fun e=>(nomatch e)⟩
        (fun _ _ _ _ _ e=>by cases e;have:=h.grp b l et' cells .loose g ve hb ho;simp;omega)
       refine ⟨_,_,_,hr,?_,(Step.drew h).trans (hst.weaken (by rfl) (fun c' l' hc' ha'=>?_) (fun c' hc'=>by simp [show c'≠b from fun e=>by subst e;rw [hb] at hc';cases hc']))⟩
       ·have:=VRel.sliceUnk (ι:=ι.ext H.next ⟨w.heap.size,0,(cells.drop off++new).length+(Builtin.zeroCells ti.zv.cells (c-(0+n))).size,P.cellsOf et'⟩) (b:=H.next) (off:=0) (len:=0+n) (cap:=c) (Emb.ext_same _ _ _) hc
         (by simp only [hnl,hdn,hT.cellsOf,Nat.zero_add,List.length_append,List.length_nil,zeroCells_size,hT.zsize];rw [←Nat.add_mul];congr 1;omega) (by simp only [hT.cellsOf];exact hbd.2.2)
        simpa using this
       ·by_cases e:c'=b
        ·subst e;exact hab
        ·rw [AH.obj_put,if_neg e] at ha';cases hoc:H.obj c'<;>rw [hoc] at ha'<;>exact ha'
      ·rw [if_neg (by omega)] at ha
       cases ha
     ·cases ha
    ·cases ha
 | _=>simp at ha
end Go.Ev
namespace Go.Ev
open Go.RowKit
def constOk (v:Value):Bool:=plain v||(match v with|.agg cs=>cs.toList.all plain|.tuple cs=>cs.toList.all plain|.iface _ v=>plain v|_=>false)
def oval (nG:Nat) (T:PTree Value):Operand→Option Value
 | .tmp t=>T.get t
 | .const v=>if constOk v then some v else none
 | .global g=>if g<nG then some (.pointer (some ⟨g,0,none⟩)) else none
 | .func f=>some (.func (.func f) #[] #[])
def ovals (nG:Nat) (T:PTree Value):List Operand→Option (List Value)
 | []=>some []
 |x::xs=>match oval nG T x,ovals nG T xs with
  | some v,some vs=>some (v::vs)
  | _,_=>none
def GOk (ι:Emb) (nG:Nat):Prop:=∀ g,g<nG→∃ l,ι g=some l∧l.blk=g∧l.base=0
theorem GOk.mono {ι ι':Emb} (hi:ι.le ι') {nG:Nat} (h:GOk ι nG):GOk ι' nG:=fun g hg=>let ⟨l,a,b,c⟩:=h g hg;⟨l,hi _ _ a,b,c⟩
theorem VRel.of_constOk {ι:Emb}{v:Value} (h:constOk v=true):VRel ι v v:=by
 unfold constOk at h
 by_cases hp:plain v=true
 ·exact VRel.of_plain hp
 ·simp [hp] at h
  cases v with
  | agg cs=>exact VRel.agg' (xs:=cs.toList) (ys:=cs.toList) (LRel.of_plain fun v hv=>by simp at h;obtain ⟨i,hi,e⟩:=List.mem_iff_getElem.1 hv;subst e;simpa using h i (by simpa using hi))
  | tuple cs=>exact VRel.tuple' (xs:=cs.toList) (ys:=cs.toList) (LRel.of_plain fun v hv=>by simp at h;obtain ⟨i,hi,e⟩:=List.mem_iff_getElem.1 hv;subst e;simpa using h i (by simpa using hi))
  | iface t v=>simp at h;exact .iface (VRel.of_plain h)
  | _=>simp at h
theorem oval_ok {ι:Emb}{nG:Nat}{T:PTree Value}{a:Act} (hT:TRel ι T a.tmps) (hG:GOk ι nG) {x:Operand}{v:Value} (h:oval nG T x=some v):VRel ι v (a.eval x):=by
 cases x with
 | tmp t=>exact hT t v h
 | const c=>
  simp only [oval] at h
  split at h
  ·rename_i hc;cases h;exact VRel.of_constOk hc
  ·cases h
 | global g=>
  simp only [oval] at h
  split at h
  ·rename_i hg
   cases h
   obtain ⟨l,h1,h2,h3⟩:=hG g hg
   have:=VRel.ptr (off:=0) h1
   rw [h2,h3] at this
   exact this
  ·cases h
 | func f=>simp [oval] at h;subst h;exact .func rfl rfl (fun i h _=>by simp at h) (fun i h _=>by simp at h)
theorem ovals_ok {ι:Emb}{nG:Nat}{T:PTree Value}{a:Act} (hT:TRel ι T a.tmps) (hG:GOk ι nG):∀ {xs:List Operand}{vs:List Value},ovals nG T xs=some vs→LRel ι vs (xs.map a.eval)
 | [],vs,h=>by simp [ovals] at h;subst h;exact .nil
 |x::xs,vs,h=>by
  simp only [ovals] at h
  split at h
  ·rename_i v vs' h1 h2
   cases h
   exact .cons (oval_ok hT hG h1) (ovals_ok hT hG h2)
  ·cases h
def Desc.agg:TypeDesc→Bool
 | .struct _|.array _ _=>true
 | _=>false
def aLoad (E:TypeId→Option TI) (H:AH) (t:TypeId):Value→Option Value
 |.pointer (some ⟨b,off,none⟩)=>match E t with
  |some ti=>if Desc.agg ti.desc then (H.rd b off ti.size).map fun vs=>.agg vs.toArray else match H.rd b off 1 with
   | some [v]=>some v
   | _=>none
  | none=>none
 | _=>none
def aStore (E:TypeId→Option TI) (H:AH) (t:TypeId) (p v:Value):Option AH :=
 match p with
 |.pointer (some ⟨b,off,none⟩)=>match E t with
  | some ti=>if v.cells.size=ti.size∧v.cells.toList.all Value.oneCell'=true then H.wr b off v.cells.toList else none
  | none=>none
 | _=>none
variable {P:Program}{B0:Nat}{ι:Emb}{H H':AH}{w:World}{E:TypeId→Option TI}
theorem run_isAgg {t:TypeId}{d:TypeDesc} (h:P.underlying t=some d) (w:World):(isAgg t).run P w=.ok (Desc.agg d) w:=by
 unfold isAgg
 simp only [Sem.run_bind,run_underlying' h,Result.andThen_ok]
 cases d<;>rfl
theorem run_sizeOf {t:TypeId}{ti:TI}{i:TypeInfo} (h:TIs P t ti i) (w:World):(sizeOf t).run P w=.ok ti.size w:=by
 simp [sizeOf,typeInfo,h.info,h.size]
theorem run_zeroValue {t:TypeId}{ti:TI}{i:TypeInfo} (h:TIs P t ti i) (w:World):(zeroValue t).run P w=.ok ti.zv w:=by
 simp [zeroValue,typeInfo,h.info,h.zero]
theorem aLoad_ok (hE:TOk E P) (h:HRel P B0 ι H w) {t:TypeId}{p p' v:Value} (hp:VRel ι p p') (ha:aLoad E H t p=some v):∃ v',(Instr.loadAt t p').run P w=.ok v' w∧VRel ι v v':=by
 unfold aLoad at ha
 split at ha
 ·rename_i b off
  cases hp with
  |ptr hb =>
   rename_i l
   split at ha
   ·rename_i ti hti
    obtain ⟨i,hT⟩:=hE.get hti
    split at ha
    ·rename_i hagg
     cases hr:H.rd b off ti.size with
     | none=>rw [hr] at ha;cases ha
     |some vs =>
      rw [hr] at ha;cases ha
      obtain ⟨vs',hv,hrun⟩:=h.loadCells hb hr
      refine ⟨.agg vs'.toArray,?_,VRel.agg' hv⟩
      simp [Instr.loadAt,Instr.sureAddr,loadVar,run_isAgg hT.u,run_sizeOf hT,hagg,hrun]
    ·rename_i hagg
     split at ha
     ·rename_i v0 hr
      cases ha
      obtain ⟨hl,vs',hv,hc⟩:=h.rd hb hr
      cases hv with
      |cons hv ht =>
       cases ht
       have:=hc 0 _ (by simp;rfl)
       simp only [Nat.add_zero] at this
       refine ⟨_,?_,hv⟩
       simp [Instr.loadAt,Instr.sureAddr,loadVar,run_isAgg hT.u,hagg,this]
     ·cases ha
   ·cases ha
 ·cases ha
theorem aStore_ok (hE:TOk E P) (h:HRel P B0 ι H w) {t:TypeId}{p p' v v':Value} (hp:VRel ι p p') (hv:VRel ι v v') (ha:aStore E H t p v=some H'):∃ w',(Instr.storeAt t p' v').run P w=.ok () w'∧Step P B0 ι H w ι H' w':=by
 unfold aStore at ha
 split at ha
 ·rename_i b off
  cases hp with
  |ptr hb =>
   rename_i l
   split at ha
   ·rename_i ti hti
    obtain ⟨i,hT⟩:=hE.get hti
    split at ha
    ·rename_i hc
     have hcv:=hv.cells
     obtain ⟨w',hr,hst⟩:=h.storeCells hb hcv (fun x hx=>List.all_eq_true.1 hc.2 x hx) ha
     refine ⟨w',?_,hst⟩
     have hsz:v'.cells.size=ti.size:=by
      have:=hcv.length;simp at this;omega
     simp [Instr.storeAt,Instr.sureAddr,storeVar,run_sizeOf hT,hsz,hr]
    ·cases ha
   ·cases ha
 ·cases ha
def aField (E:TypeId→Option TI) (s:TypeId) (f:Nat):Value→Option Value
 |.pointer (some ⟨b,off,none⟩)=>match E s with
  |some ⟨.struct fs,_,_,_⟩=>match fs[f]? with
   |some fd=>match E fd.type with
    | some tf=>if tf.size=0 then none else some (.pointer (some ⟨b,off+fd.offset,none⟩))
    | none=>none
   | none=>none
  | _=>none
 | _=>none
theorem aField_ok (hE:TOk E P) {s:TypeId}{f:Nat}{p p' v:Value} (hp:VRel ι p p') (ha:aField E s f p=some v):∃ v',(Instr.fieldAt s p' f).run P w=.ok v' w∧VRel ι v v':=by
 unfold aField at ha
 split at ha
 ·cases hp with
  |ptr hb =>
   split at ha
   ·rename_i fs sz by_ zv hti
    obtain ⟨i,hT⟩:=hE.get hti
    have hu:P.underlying s=some (.struct fs):=hT.u
    split at ha
    ·rename_i fd hfd
     split at ha
     ·rename_i tf htf
      obtain ⟨j,hTf⟩:=hE.get htf
      split at ha
      ·cases ha
      ·rename_i hz
       cases ha
       refine ⟨_,?_,.ptr hb⟩
       simp [Instr.fieldAt,run_underlying' hu,hfd,Instr.sureAddr,fieldPlace,run_sizeOf hTf,hz,Addr.add_plain,Nat.add_assoc]
     ·cases ha
    ·cases ha
   ·cases ha
 ·cases ha
def aIndex (E:TypeId→Option TI) (t:TypeId) (x i:Value):Option Value :=
 match i with
 |.int _ n=>match E t with
  |some ⟨.slice e,_,_,_⟩=>match x with
   |.slice (some ⟨b,off,none⟩) len _=>match E e with
    | some te=>if 0≤n∧n<len then some (.pointer (some ⟨b,off+n.toNat*te.size,none⟩)) else none
    | none=>none
   | _=>none
  |some ⟨.array len e,_,_,_⟩=>match x with
   |.pointer (some ⟨b,off,none⟩)=>match E e with
    | some te=>if 0≤n∧n<len then some (.pointer (some ⟨b,off+n.toNat*te.size,none⟩)) else none
    | none=>none
   | _=>none
  | _=>none
 | _=>none
theorem aIndex_ok (hE:TOk E P) {t:TypeId}{x x' i i' v:Value} (hx:VRel ι x x') (hi:VRel ι i i') (ha:aIndex E t x i=some v):∃ v',(Instr.indexAt t x' i').run P w=.ok v' w∧VRel ι v v':=by
 unfold aIndex at ha
 split at ha
 ·rename_i k n
  cases hi
  split at ha
  ·rename_i e sz by_ zv hti
   obtain ⟨j,hT⟩:=hE.get hti
   have hu:P.underlying t=some (.slice e):=hT.u
   split at ha
   ·rename_i b off len cap
    split at ha
    ·rename_i te hte
     obtain ⟨je,hTe⟩:=hE.get hte
     split at ha
     ·rename_i hr
      cases ha
      cases hx with
      |slice hb hc hl =>
       refine ⟨_,?_,.ptr hb⟩
       simp [Instr.indexAt,asIntOf,run_underlying' hu,run_sizeOf hTe,hr.1,hr.2,Addr.add_plain,Nat.add_assoc]
      |sliceUnk hb hl hs he =>
       refine ⟨_,?_,.ptr hb⟩
       simp [Instr.indexAt,asIntOf,run_underlying' hu,run_sizeOf hTe,hr.1,hr.2,Addr.add_plain,Nat.add_assoc]
      | sliceEnd a hb hs=>exact absurd hr.2 (by simp;omega)
      | sliceZ a=>exact absurd hr.2 (by simp;omega)
     ·cases ha
    ·cases ha
   ·cases ha
  ·rename_i len e sz by_ zv hti
   obtain ⟨j,hT⟩:=hE.get hti
   have hu:P.underlying t=some (.array len e):=hT.u
   split at ha
   ·split at ha
    ·rename_i te hte
     obtain ⟨je,hTe⟩:=hE.get hte
     split at ha
     ·rename_i hr
      cases ha
      cases hx with
      |ptr hb =>
       refine ⟨_,?_,.ptr hb⟩
       simp [Instr.indexAt,Instr.sureAddr,asIntOf,run_underlying' hu,run_sizeOf hTe,hr.1,hr.2,Addr.add_plain,Nat.add_assoc]
     ·cases ha
    ·cases ha
   ·cases ha
  ·cases ha
 ·cases ha
end Go.Ev
namespace Go.Ev
open Go.RowKit
variable {P:Program}{B0:Nat}{ι:Emb}{H H':AH}{w:World}{E:TypeId→Option TI}
def bound (v:Value) (y:Nat):Option Nat:=
 match v with
 | .int _ n=>if 0≤n∧n≤y then some n.toNat else none
 | _=>none
def optBound (v:Option Value) (d y:Nat):Option Nat:=
 match v with
 | some v=>bound v y
 | none=>some d
def AH.rowOf (H:AH) (b:Nat) (e:TypeId):Option (List Value):=
 match H.lo b with
 | .row et cells st g v=>if H.alive (.row et cells st g v)&&decide (et=e) then some cells else none
 | _=>none
def reach (cells:List Value) (off sz len:Nat):Nat:=max len ((cells.length-off) / sz)
def aSlice (E:TypeId→Option TI) (H:AH) (t:TypeId) (x:Value) (lo hi mx:Option Value):Option Value :=
 match E t with
 |some ⟨.string,_,_,_⟩=>match x,mx with
  |.string s,none=>match optBound hi s.size s.size with
   |some h=>match optBound lo 0 h with
    | some l=>some (.string (s.extract l h))
    | none=>none
   | none=>none
  | _,_=>none
 |some ⟨.slice e,_,_,_⟩=>match E e with
  | none=>none
  |some te=>match x with
   |.slice none 0 0=>match optBound mx 0 0,optBound hi 0 0,optBound lo 0 0 with
    | some _,some _,some _=>if mx.isSome&&hi.isNone then none else some (.slice none 0 0)
    | _,_,_=>none
   |.slice (some ⟨b,off,none⟩) len cap =>
    if mx.isSome&&hi.isNone then none else
    if cap=unk then
     if te.size=0 then none else
     match H.rowOf b e with
     | none=>none
     |some cells=>match mx with
      |none=>match optBound hi len (reach cells off te.size len) with
       |some h=>match optBound lo 0 h with
        | some l=>if l=0 then some (.slice (some ⟨b,off,none⟩) h unk) else some (.slice (some ⟨b,off+l*te.size,none⟩) (h-l) unk)
        | none=>none
       | none=>none
      |some m=>match bound m (reach cells off te.size len) with
       |some m=>if (m=0∧len=0)∨unk≤m then none else match optBound hi len m with
        |some h=>match optBound lo 0 h with
         | some l=>some (.slice (some ⟨b,if m=l then off else off+l*te.size,none⟩) (h-l) (m-l))
         | none=>none
        | none=>none
       | none=>none
    else match optBound mx cap cap with
     |some m=>match optBound hi len m with
      |some h=>match optBound lo 0 h with
       | some l=>some (.slice (some ⟨b,if m=l then off else off+l*te.size,none⟩) (h-l) (m-l))
       | none=>none
      | none=>none
     | none=>none
   | _=>none
 |some ⟨.array n e,_,_,_⟩=>match E e with
  | none=>none
  |some te=>match x with
   |.pointer (some ⟨b,off,none⟩)=>if (mx.isSome&&hi.isNone)||decide (unk≤n) then none else match optBound mx n n with
    |some m=>match optBound hi n m with
     |some h=>match optBound lo 0 h with
      | some l=>some (.slice (some ⟨b,if m=l then off else off+l*te.size,none⟩) (h-l) (m-l))
      | none=>none
     | none=>none
    | none=>none
   | _=>none
 | _=>none
theorem bound_mono {v:Value}{y y' n:Nat} (h:bound v y=some n) (hy:y≤y'):bound v y'=some n:=by
 unfold bound at *
 split at h
 ·split at h
  ·rename_i hc;cases h;rw [if_pos ⟨hc.1,by omega⟩]
  ·cases h
 ·cases h
theorem bound_le {v:Value}{y n:Nat} (h:bound v y=some n):n≤y:=by
 unfold bound at h
 split at h
 ·split at h
  ·rename_i hc;cases h;omega
  ·cases h
 ·cases h
theorem bound_run {v v':Value}{y n:Nat} (hv:VRel ι v v') (h:bound v y=some n) (c:BoundsCode):(Instr.sliceBound v' y c).run P w=.ok n w:=by
 unfold bound at h
 split at h
 ·cases hv
  split at h
  ·rename_i hc;cases h;simp [Instr.sliceBound,asIntOf,hc]
  ·cases h
 ·cases h
theorem optBound_le {v:Option Value}{d y n:Nat} (h:optBound v d y=some n) (hd:d≤y):n≤y:=by
 cases v with
 | none=>simp [optBound] at h;omega
 | some v=>exact bound_le h
inductive ORel (ι:Emb):Option Value→Option Value→Prop
 | none:ORel ι none none
 | some {v v':Value} (h:VRel ι v v'):ORel ι (some v) (some v')
theorem bounds_run {lo hi mx lo' hi' mx':Option Value} (hlo:ORel ι lo lo') (hhi:ORel ι hi hi') (hmx:ORel ι mx mx') {isSlice:Bool}{len cap l h m:Nat} (h0:(mx.isSome&&hi.isNone)=false)
  (h1:optBound mx cap cap=some m) (h2:optBound hi len m=some h) (h3:optBound lo 0 h=some l):(Instr.sliceBounds isSlice len cap lo' hi' mx').run P w=.ok (l,h,m) w:=by
 cases hmx with
 | none=>
  simp only [optBound,Option.some.injEq] at h1;subst h1
  cases hhi with
  | none=>
   simp only [optBound,Option.some.injEq] at h2;subst h2
   cases hlo with
   | none=>simp only [optBound,Option.some.injEq] at h3;subst h3;simp [Instr.sliceBounds]
   | some hl=>simp only [optBound] at h3;simp [Instr.sliceBounds,bound_run hl h3]
  | some hh=>
   simp only [optBound] at h2
   cases hlo with
   | none=>simp only [optBound,Option.some.injEq] at h3;subst h3;simp [Instr.sliceBounds,bound_run hh h2]
   | some hl=>simp only [optBound] at h3;simp [Instr.sliceBounds,bound_run hh h2,bound_run hl h3]
 | some hm=>
  simp only [optBound] at h1
  cases hhi with
  | none=>simp at h0
  | some hh=>
   simp only [optBound] at h2
   cases hlo with
   | none=>simp only [optBound,Option.some.injEq] at h3;subst h3;simp [Instr.sliceBounds,bound_run hm h1,bound_run hh h2]
   | some hl=>simp only [optBound] at h3;simp [Instr.sliceBounds,bound_run hm h1,bound_run hh h2,bound_run hl h3]
theorem rowOf_ok (h:HRel P B0 ι H w) {b:Nat}{e:TypeId}{l:ILoc} (hb:ι b=some l) {cells:List Value} (hr:H.rowOf b e=some cells):∃ st,RowOk P B0 ι w l e cells st:=by
 unfold AH.rowOf at hr
 split at hr
 ·rename_i et cells' st g v ho
  have ho:=AH.lo_row ho
  split at hr
  ·rename_i hc
   simp only [Bool.and_eq_true,decide_eq_true_eq] at hc
   cases hr
   have hO:=h.obj b l hb (by rw [ho];exact hc.1)
   rw [ho] at hO
   rw [←hc.2]
   exact ⟨st,hO⟩
  ·cases hr
 ·cases hr
theorem reach_ok {cells:List Value}{off len cap sz:Nat}{l:ILoc} (hl:len≤cap) (hz:0<sz) (hs:l.base+off+cap*sz=l.size) (hf:l.base+cells.length≤l.size):reach cells off sz len≤cap:=by
 unfold reach
 have:(cells.length-off) / sz≤cap:=by
  have h1:cells.length-off≤cap*sz:=by omega
  calc (cells.length-off) / sz≤(cap*sz) / sz:=Nat.div_le_div_right h1
   _=cap:=Nat.mul_div_cancel _ hz
 omega
theorem isSome_not {mx hi:Option Value} (h:¬ (mx.isSome&&hi.isNone)=true):(mx.isSome&&hi.isNone)=false:=by
 cases e:(mx.isSome&&hi.isNone) with
 | false=>rfl
 | true=>exact absurd e h
theorem aSlice_ok (hE:TOk E P) (h:HRel P B0 ι H w) {t:TypeId}{x x' v:Value}{lo hi mx lo' hi' mx':Option Value} (hx:VRel ι x x') (hlo:ORel ι lo lo') (hhi:ORel ι hi hi') (hmx:ORel ι mx mx')
 (ha:aSlice E H t x lo hi mx=some v):∃ v',(Instr.sliceAt t x' lo' hi' mx').run P w=.ok v' w∧VRel ι v v':=by
 unfold aSlice at ha
 split at ha
 ·rename_i sz by_ zv hti
  obtain ⟨j,hT⟩:=hE.get hti
  have hu:P.underlying t=some .string:=hT.u
  split at ha
  ·rename_i s
   split at ha
   ·rename_i h' hh
    split at ha
    ·rename_i l hl
     cases ha
     cases hx
     cases hmx
     have:=bounds_run (P:=P) (w:=w) hlo hhi (.none (ι:=ι)) (isSlice:=false) (len:=s.size) (cap:=s.size) (by simp) rfl hh hl
     refine ⟨_,?_,.string _⟩
     simp [Instr.sliceAt,Instr.slice,run_underlying' hu,this]
    ·cases ha
   ·cases ha
  ·cases ha
 ·rename_i e sz by_ zv hti
  obtain ⟨j,hT⟩:=hE.get hti
  have hu:P.underlying t=some (.slice e):=hT.u
  split at ha
  ·cases ha
  ·rename_i te hte
   obtain ⟨je,hTe⟩:=hE.get hte
   have run:∀ (a:Option Addr) (len cap l h m:Nat),(Instr.sliceBounds true len cap lo' hi' mx').run P w=.ok (l,h,m) w →
    (Instr.sliceAt t (.slice a len cap) lo' hi' mx').run P w=.ok (.slice (if m=l then a else a.map (·.add (l*te.size))) (h-l) (m-l)) w:=fun a len cap l h m hb=>by
    simp [Instr.sliceAt,Instr.slice,run_underlying' hu,hb,run_sizeOf hTe]
   split at ha
   ·split at ha
    ·rename_i m h' l q1 q2 q3
     split at ha
     ·cases ha
     ·rename_i hn
      cases ha
      cases hx
      have e1:=optBound_le q1 (Nat.le_refl 0)
      have e2:=optBound_le q2 (Nat.le_refl 0)
      have e3:=optBound_le q3 (Nat.le_refl 0)
      obtain rfl:m=0:=by omega
      obtain rfl:h'=0:=by omega
      obtain rfl:l=0:=by omega
      have:=bounds_run (P:=P) (w:=w) hlo hhi hmx (isSlice:=true) (len:=0) (cap:=0) (isSome_not hn) q1 q2 q3
      exact ⟨_,run _ _ _ _ _ _ this,by simpa using VRel.sliceNil⟩
    ·cases ha
   ·rename_i b off len cap
    split at ha
    ·cases ha
    ·rename_i hn
     have hn':=isSome_not hn
     split at ha
     ·rename_i hcap
      subst hcap
      split at ha
      ·cases ha
      ·rename_i hpos
       split at ha
       ·cases ha
       ·rename_i cells hro
        cases hx with
        | slice hb hc hl=>exact absurd hc (Nat.lt_irrefl _)
        |sliceUnk hb hl hs he =>
         rename_i cap' lo_
         obtain ⟨st,hR⟩:=rowOf_ok h hb hro
         have hz:lo_.esz=te.size:=by rw [←hR.esz,hTe.cellsOf]
         rw [hz] at hs he
         have hre:=reach_ok (cells:=cells) hl (by omega) hs hR.fits
         split at ha
         ·
          cases hmx
          split at ha
          ·rename_i h' q2
           split at ha
           ·rename_i l q3
            have hh:optBound hi len cap'=some h':=by
             cases hi with
             | none=>simpa [optBound] using q2
             | some v=>exact bound_mono (by simpa [optBound] using q2) hre
            have hle:h'≤cap':=optBound_le hh hl
            have hb3:=bounds_run (P:=P) (w:=w) hlo hhi (.none (ι:=ι)) (isSlice:=true) (by simp) rfl hh q3
            have hlh:l≤h':=optBound_le q3 (Nat.zero_le _)
            refine ⟨_,run _ _ _ _ _ _ hb3,?_⟩
            by_cases hl0:l=0
            ·subst hl0
             rw [if_pos rfl] at ha;cases ha
             simp only [Nat.zero_mul,Nat.sub_zero,Option.map_some,Addr.add_plain,Nat.add_zero,ite_self]
             exact .sliceUnk hb hle (by rw [hz];exact hs) (by rw [hz];exact he)
            ·rw [if_neg hl0] at ha;cases ha
             by_cases hml:cap'=l
             ·subst hml
              obtain rfl:h'=cap':=by omega
              rw [if_pos rfl,Nat.sub_self]
              exact .sliceEnd _ hb (by omega)
             ·rw [if_neg hml]
              simp only [Option.map_some,Addr.add_plain,Nat.add_assoc]
              refine .sliceUnk hb (by omega) ?_ (by rw [hz];exact he)
              rw [hz,Nat.sub_mul]
              have:l*te.size≤cap'*te.size:=Nat.mul_le_mul_right _ (by omega)
              omega
           ·cases ha
          ·cases ha
         ·
          rename_i vm
          split at ha
          ·rename_i m qm
           split at ha
           ·cases ha
           ·rename_i hm0
            split at ha
            ·rename_i h' q2
             split at ha
             ·rename_i l q3
              cases ha
              have hm:optBound (some vm) cap' cap'=some m:=bound_mono qm hre
              have hb3:=bounds_run (P:=P) (w:=w) hlo hhi hmx (isSlice:=true) (len:=len) (cap:=cap') hn' hm q2 q3
              have hmc:m≤cap':=optBound_le hm (Nat.le_refl _)
              have hhm:h'≤m:=by
               cases hi with
               | none=>simp at hn'
               | some v=>exact bound_le q2
              have hlh:l≤h':=optBound_le q3 (Nat.zero_le _)
              refine ⟨_,run _ _ _ _ _ _ hb3,?_⟩
              by_cases hml:m=l
              ·rw [if_pos hml,if_pos hml]
               exact .slice hb (by omega) (by omega)
              ·rw [if_neg hml,if_neg hml]
               simp only [Option.map_some,Addr.add_plain,Nat.add_assoc]
               exact .slice hb (by omega) (by omega)
             ·cases ha
            ·cases ha
          ·cases ha
        |sliceEnd a hb hs =>
         rename_i lo_
         obtain ⟨st,hR⟩:=rowOf_ok h hb hro
         have hf:=hR.fits
         have hr0:reach cells off te.size 0=0:=by
          unfold reach
          rw [show cells.length-off=0 by omega]
          simp
         rw [hr0] at ha
         split at ha
         ·cases hmx
          split at ha
          ·rename_i h' q2
           split at ha
           ·rename_i l q3
            have e2:=optBound_le q2 (Nat.le_refl 0)
            obtain rfl:h'=0:=by omega
            have e3:=optBound_le q3 (Nat.le_refl 0)
            obtain rfl:l=0:=by omega
            have hb3:=bounds_run (P:=P) (w:=w) hlo hhi (.none (ι:=ι)) (isSlice:=true) (len:=0) (cap:=0) (by simp) rfl q2 q3
            rw [if_pos rfl] at ha;cases ha
            exact ⟨_,run _ _ _ _ _ _ hb3,by simpa using VRel.sliceEnd a hb hs⟩
           ·cases ha
          ·cases ha
         ·split at ha
          ·rename_i m qm
           have:=bound_le qm
           rw [if_pos (.inl ⟨by omega,rfl⟩)] at ha
           cases ha
          ·cases ha
     ·rename_i hcap
      split at ha
      ·rename_i m q1
       split at ha
       ·rename_i h' q2
        split at ha
        ·rename_i l q3
         cases ha
         cases hx with
         |slice hb hc hl =>
          have hb3:=bounds_run (P:=P) (w:=w) hlo hhi hmx (isSlice:=true) (len:=len) (cap:=cap) hn' q1 q2 q3
          have hmc:m≤cap:=optBound_le q1 (Nat.le_refl _)
          have hhm:h'≤m:=by
           cases hi with
           |none =>
            cases mx with
            | none=>simp only [optBound,Option.some.injEq] at q1 q2;omega
            | some v=>simp at hn'
           | some v=>exact bound_le q2
          have hlh:l≤h':=optBound_le q3 (Nat.zero_le _)
          refine ⟨_,run _ _ _ _ _ _ hb3,?_⟩
          by_cases hml:m=l
          ·rw [if_pos hml,if_pos hml]
           exact .slice hb (by omega) (by omega)
          ·rw [if_neg hml,if_neg hml]
           simp only [Option.map_some,Addr.add_plain,Nat.add_assoc]
           exact .slice hb (by omega) (by omega)
         | sliceUnk=>exact absurd rfl hcap
         | sliceEnd=>exact absurd rfl hcap
         |sliceZ a =>
          have hb3:=bounds_run (P:=P) (w:=w) hlo hhi hmx (isSlice:=true) (len:=0) (cap:=0) hn' q1 q2 q3
          have e1:=optBound_le q1 (Nat.le_refl 0)
          obtain rfl:m=0:=by omega
          have e2:=optBound_le q2 (Nat.le_refl 0)
          obtain rfl:h'=0:=by omega
          have e3:=optBound_le q3 (Nat.le_refl 0)
          obtain rfl:l=0:=by omega
          refine ⟨_,run _ _ _ _ _ _ hb3,?_⟩
          simp only [Option.map_some,if_true,Nat.sub_self]
          exact .sliceZ _
        ·cases ha
       ·cases ha
      ·cases ha
   ·cases ha
 ·rename_i n e sz by_ zv hti
  obtain ⟨j,hT⟩:=hE.get hti
  have hu:P.underlying t=some (.array n e):=hT.u
  split at ha
  ·cases ha
  ·rename_i te hte
   obtain ⟨je,hTe⟩:=hE.get hte
   split at ha
   ·rename_i b off
    split at ha
    ·cases ha
    ·rename_i hn0
     simp only [Bool.or_eq_true,decide_eq_true_eq,not_or] at hn0
     have hn':=isSome_not hn0.1
     split at ha
     ·rename_i m q1
      split at ha
      ·rename_i h' q2
       split at ha
       ·rename_i l q3
        cases ha
        cases hx with
        |ptr hb =>
         have hb3:=bounds_run (P:=P) (w:=w) hlo hhi hmx (isSlice:=false) (len:=n) (cap:=n) hn' q1 q2 q3
         have hmc:m≤n:=optBound_le q1 (Nat.le_refl _)
         have hhm:h'≤m:=by
          cases hi with
          |none =>
           cases mx with
           | none=>simp only [optBound,Option.some.injEq] at q1 q2;omega
           | some v=>simp at hn'
          | some v=>exact bound_le q2
         have hlh:l≤h':=optBound_le q3 (Nat.zero_le _)
         refine ⟨_,by simp only [Instr.sliceAt,Instr.sureAddr,Sem.run_bind,run_underlying' hu,Result.andThen_ok,Sem.run_pure,hb3,run_sizeOf hTe];rfl,?_⟩
         by_cases hml:m=l
         ·rw [if_pos hml,if_pos hml]
          exact .slice hb (by omega) (by omega)
         ·rw [if_neg hml,if_neg hml]
          simp only [Addr.add_plain,Nat.add_assoc]
          exact .slice hb (by omega) (by omega)
       ·cases ha
      ·cases ha
     ·cases ha
   ·cases ha
 ·cases ha
end Go.Ev
namespace Go.Ev
open Go.RowKit
variable {P:Program}{B0:Nat}{ι:Emb}{H H':AH}{w:World}{E:TypeId→Option TI}
inductive PRel (ι:Emb):List (Nat×Value)→List (Nat×Value)→Prop
 | nil:PRel ι [] []
 | cons {i:Nat}{v v':Value}{ps ps':List (Nat×Value)} (h:VRel ι v v') (t:PRel ι ps ps'):PRel ι ((i,v)::ps) ((i,v')::ps')
def afill (place:Nat→Option (Nat×Nat)) (cells:List Value):List (Nat×Value)→Option (List Value)
 | []=>some cells
 |(i,v)::rest=>match place i with
  | none=>none
  | some (off,size)=>if v.cells.size≠size∨cells.length<off+v.cells.size then none else afill place (splice cells off v.cells.toList) rest
theorem foldl_set:∀ (vs:List Value) (k off:Nat) (cs:Array Value),off+k+vs.length≤cs.size →
 ((vs.zipIdx k).foldl (fun cs (c,j)=>cs.setIfInBounds (off+j) c) cs).toList=splice cs.toList (off+k) vs
 | [],k,off,cs,h=>by simp [splice]
 |v::vs,k,off,cs,h=>by
  simp only [List.zipIdx_cons,List.foldl_cons]
  simp only [List.length_cons] at h
  rw [foldl_set vs (k+1) off (cs.setIfInBounds (off+k) v) (by simp;omega)]
  apply List.ext_getElem?
  intro j
  rw [splice_get (by simp;omega),splice_get (by simp;omega)]
  simp only [List.length_cons]
  by_cases h1:j=off+k
  ·subst h1
   rw [if_neg (by omega),if_pos (by omega)]
   simp
   rw [List.getElem?_set_self (by simpa using (by omega:off+k<cs.size))]
  ·by_cases h2:off+(k+1)≤j∧j<off+(k+1)+vs.length
   ·rw [if_pos h2,if_pos (by omega),show j-(off+k)=(j-(off+(k+1)))+1 by omega]
    simp
   ·rw [if_neg h2,if_neg (by omega)]
    simp [Ne.symm h1]
theorem foldl_arr (vs:Array Value) (off:Nat) (cs:Array Value) (h:off+vs.size≤cs.size) :
  (vs.zipIdx.foldl (fun cs (c,j)=>cs.setIfInBounds (off+j) c) cs).toList=splice cs.toList off vs.toList:=by
 have:=foldl_set vs.toList 0 off cs (by simpa using h)
 rw [←Array.foldl_toList,Array.toList_zipIdx]
 simpa using this
theorem LRel.splice {cells cells' vs vs':List Value} (h:LRel ι cells cells') (k:LRel ι vs vs') (off:Nat):LRel ι (splice cells off vs) (splice cells' off vs'):=by
 unfold Go.Ev.splice
 rw [k.length]
 exact ((h.take off).append k).append (h.drop _)
theorem afill_ok (place:Nat→Option (Nat×Nat)):∀ {ps ps':List (Nat×Value)},PRel ι ps ps'→∀ {cells:List Value}{cells':Array Value}{r:List Value},LRel ι cells cells'.toList→afill place cells ps=some r →
 ∃ r',Instr.fill place cells' ps'=some r'∧LRel ι r r'.toList:=by
 intro ps ps' hp
 induction hp with
 | nil=>intro cells cells' r hc h;simp [afill] at h;subst h;exact ⟨cells',rfl,hc⟩
 |@cons i v v' ps ps' hv ht ih =>
  intro cells cells' r hc h
  simp only [afill] at h
  simp only [Instr.fill]
  split at h
  ·cases h
  ·rename_i off size hpl
   rw [hpl]
   split at h
   ·cases h
   ·rename_i hn
    rw [not_or,Decidable.not_not,Nat.not_lt] at hn
    have hl:_=_:=hv.cells.length
    simp only [Array.length_toList] at hl
    have hcl:cells.length=cells'.size:=by simpa using hc.length
    have h1:¬ ((decide (¬ v'.cells.size=size)||decide (cells'.size<off+v'.cells.size))=true):=by
     simp only [Bool.or_eq_true,decide_eq_true_eq,not_or,Decidable.not_not,Nat.not_lt]
     exact ⟨hl ▸ hn.1,hcl ▸ hl ▸ hn.2⟩
    simp only [gt_iff_lt,ne_eq]
    rw [if_neg h1]
    exact ih (by rw [foldl_arr _ _ _ (by omega)];exact hc.splice hv.cells off) h
def aPlaces (E:TypeId→Option TI):List Field→Option (List (Nat×Nat))
 | []=>some []
 |f::fs=>match E f.type,aPlaces E fs with
  | some ti,some ps=>some ((f.offset,ti.size)::ps)
  | _,_=>none
theorem aPlaces_ok (hE:TOk E P):∀ {fs:List Field}{ps:List (Nat×Nat)},aPlaces E fs=some ps→fs.mapM (fun f=>(P.info? f.type).map fun i=>(f.offset,i.size))=some ps
 | [],ps,h=>by simp [aPlaces] at h;subst h;simp
 |f::fs,ps,h=>by
  simp only [aPlaces] at h
  split at h
  ·rename_i ti ps' h1 h2
   cases h
   obtain ⟨i,hT⟩:=hE.get h1
   simp [List.mapM_cons,hT.info,hT.size,aPlaces_ok hE h2]
  ·cases h
def aBuild (E:TypeId→Option TI) (t:TypeId) (parts:List (Nat×Value)):Option Value :=
 match E t with
 |some ⟨.struct fs,_,_,zv⟩=>match aPlaces E fs.toList with
  | some ps=>(afill (ps[·]?) zv.cells.toList parts).map fun cs=>.agg cs.toArray
  | none=>none
 |some ⟨.array _ e,_,_,zv⟩=>match E e with
  | some te=>(afill (fun i=>some (i*te.size,te.size)) zv.cells.toList parts).map fun cs=>.agg cs.toArray
  | none=>none
 | _=>none
theorem aBuild_ok (hE:TOk E P) {t:TypeId}{ps:List (Nat×Value)}{ps':Array (Nat×Value)}{v:Value} (hp:PRel ι ps ps'.toList) (ha:aBuild E t ps=some v):∃ v',(Instr.build t ps').run P w=.ok v' w∧VRel ι v v':=by
 unfold aBuild at ha
 split at ha
 ·rename_i fs sz by_ zv hti
  obtain ⟨i,hT⟩:=hE.get hti
  have hu:P.underlying t=some (.struct fs):=hT.u
  have hz:i.zero=some zv:=hT.zero
  split at ha
  ·rename_i pl hpl
   cases hf:afill (pl[·]?) zv.cells.toList ps with
   | none=>rw [hf] at ha;cases ha
   |some r =>
    rw [hf] at ha;cases ha
    obtain ⟨r',h1,h2⟩:=afill_ok (ι:=ι) (pl[·]?) hp (LRel.of_plain fun x hx=>hT.zplain x hx) hf
    refine ⟨.agg r',run_build w t ps' r' ?_,by simpa using VRel.agg' h2⟩
    unfold Program.built
    rw [hT.info,hu]
    simp only [hz,aPlaces_ok hE hpl]
    simpa using h1
  ·cases ha
 ·rename_i n e sz by_ zv hti
  obtain ⟨i,hT⟩:=hE.get hti
  have hu:P.underlying t=some (.array n e):=hT.u
  have hz:i.zero=some zv:=hT.zero
  split at ha
  ·rename_i te hte
   obtain ⟨je,hTe⟩:=hE.get hte
   cases hf:afill (fun i=>some (i*te.size,te.size)) zv.cells.toList ps with
   | none=>rw [hf] at ha;cases ha
   |some r =>
    rw [hf] at ha;cases ha
    obtain ⟨r',h1,h2⟩:=afill_ok (ι:=ι) _ hp (LRel.of_plain fun x hx=>hT.zplain x hx) hf
    refine ⟨.agg r',run_build w t ps' r' ?_,by simpa using VRel.agg' h2⟩
    unfold Program.built
    rw [hT.info,hu]
    simp only [hz,hTe.info,hTe.size]
    exact h1
  ·cases ha
 ·cases ha
def azeros (z:List Value) (n:Nat):List Value:=(List.range (n*z.length)).map fun i=>z[i % z.length]!
theorem azeros_eq (z:Array Value) (n:Nat):(Builtin.zeroCells z n).toList=azeros z.toList n:=by
 simp only [Builtin.zeroCells,azeros,Array.toList_map,Array.toList_range,Array.length_toList]
 apply List.map_congr_left
 intro a _
 simp [getElem!_def]
theorem azeros_plain {z:List Value} (hz:∀ v,v∈z→plain v=true) (n:Nat):∀ v,v∈azeros z n→plain v=true:=fun v hv=>by
 simp only [azeros,List.mem_map,List.mem_range] at hv
 obtain ⟨i,hi,rfl⟩:=hv
 have hpos:0<z.length:=by
  rcases Nat.eq_zero_or_pos z.length with e|e
  ·rw [e] at hi;simp at hi
  ·exact e
 have hlt:i % z.length<z.length:=Nat.mod_lt _ hpos
 rw [getElem!_pos z _ hlt]
 exact hz _ (List.getElem_mem hlt)
theorem azeros_length (z:List Value) (n:Nat):(azeros z n).length=n*z.length:=by simp [azeros]
def aBuildSlice (E:TypeId→Option TI) (H:AH) (t:TypeId) (len:Nat) (parts:List (Nat×Value)):Option (Value×AH) :=
 match E t with
 |some ⟨.slice e,_,_,_⟩=>match E e with
  |some te=>if 16777216<len*te.size∨unk≤len then none else
   match afill (fun i=>some (i*te.size,te.size)) (azeros te.zv.cells.toList len) parts with
   | some cs=>some (.slice (some ⟨H.next,0,none⟩) len len,H.alloc (.row e cs .exact 0 0))
   | none=>none
  | none=>none
 | _=>none
theorem aBuildSlice_ok (hE:TOk E P) (h:HRel P B0 ι H w) {t:TypeId}{len:Nat}{ps:List (Nat×Value)}{ps':Array (Nat×Value)}{v:Value} (hp:PRel ι ps ps'.toList) (ha:aBuildSlice E H t len ps=some (v,H')) :
 ∃ v' w' ι',(Instr.buildSlice t len ps').run P w=.ok v' w'∧VRel ι' v v'∧Step P B0 ι H w ι' H' w':=by
 unfold aBuildSlice at ha
 split at ha
 ·rename_i e sz by_ zv hti
  obtain ⟨i,hT⟩:=hE.get hti
  have hu:P.underlying t=some (.slice e):=hT.u
  split at ha
  ·rename_i te hte
   obtain ⟨je,hTe⟩:=hE.get hte
   split at ha
   ·cases ha
   ·rename_i hn
    rw [not_or] at hn
    split at ha
    ·rename_i cs hf
     cases ha
     have hzl:te.zv.cells.toList.length=te.size:=by simpa using hTe.zsize
     have hz0:LRel ι (azeros te.zv.cells.toList len) (Builtin.zeroCells te.zv.cells len).toList:=by
      rw [azeros_eq];exact LRel.of_plain (azeros_plain hTe.zplain len)
     obtain ⟨r',h1,h2⟩:=afill_ok (ι:=ι) _ hp hz0 hf
     have hst:=h.newRow e e h2
     refine ⟨.slice (some ⟨w.heap.size,0,none⟩) len len,_,_,?_,?_,hst⟩
     rotate_left
     ·have:=VRel.slice (len:=len) (cap:=len) (off:=0) (Emb.ext_same ι H.next ⟨w.heap.size,0,cs.length,P.cellsOf e⟩) (by omega) (Nat.le_refl _)
      simpa using this
     ·have hlim:¬ (len*te.size>2 ^ 24):=by omega
      have hcells:∀ z:Array Value,(len*te.size≠0→z=te.zv.cells)→(Array.range (len*te.size)).map (z[· % z.size]!)=Builtin.zeroCells te.zv.cells len:=fun z hz=>by
       unfold Builtin.zeroCells
       rw [hTe.zsize]
       by_cases h0:len*te.size=0
       ·rw [h0];simp
       ·rw [hz h0,hTe.zsize]
      unfold Instr.buildSlice
      simp only [Sem.run_bind,run_underlying' hu,Result.andThen_ok,run_sizeOf hTe]
      rw [if_neg hlim]
      by_cases h0:len*te.size=0
      ·rw [if_pos h0]
       simp only [Sem.run_pure,Sem.run_bind,Result.andThen_ok]
       rw [hcells #[] (fun e=>absurd h0 e),h1]
       simp [newRow]
      ·rw [if_neg h0]
       simp only [Sem.run_pure,Sem.run_bind,Result.andThen_ok,run_zeroValue hTe]
       rw [hcells te.zv.cells (fun _=>rfl),h1]
       simp [newRow]
    ·cases ha
  ·cases ha
 ·cases ha
end Go.Ev
namespace Go.Ev
open Go.RowKit
variable {P:Program}{B0:Nat}{ι:Emb}{H H':AH}{w:World}{E:TypeId→Option TI}
def aMakeSlice (E:TypeId→Option TI) (H:AH) (t:TypeId) (len cap:Value):Option (Value×AH) :=
 match len,cap with
 |.int _ l,.int _ c=>match E t with
  |some ⟨.slice e,_,_,_⟩=>match E e with
   |some te=>if 0≤l∧l≤c∧c.toNat*te.bytes≤140737488355328∧c<4611686018427387904 then
    some (.slice (some ⟨H.next,0,none⟩) l.toNat c.toNat,H.alloc (.row e (azeros te.zv.cells.toList c.toNat) .exact 0 0))
    else none
   | none=>none
  | _=>none
 | _,_=>none
theorem wrap_i64 {n:Int} (h0:0≤n) (h1:n<9223372036854775808):IntKind.i64.wrap n=n:=by
 rw [IntKind.wrap_i64];omega
theorem aMakeSlice_ok (hE:TOk E P) (h:HRel P B0 ι H w) {t:TypeId}{l l' c c' v:Value} (hl:VRel ι l l') (hc:VRel ι c c') (ha:aMakeSlice E H t l c=some (v,H')) :
 ∃ v' w' ι',(Instr.makeSlice t l' c').run P w=.ok v' w'∧VRel ι' v v'∧Step P B0 ι H w ι' H' w':=by
 unfold aMakeSlice at ha
 split at ha
 ·rename_i k1 l k2 c
  cases hl;cases hc
  split at ha
  ·rename_i e sz by_ zv hti
   obtain ⟨i,hT⟩:=hE.get hti
   have hu:P.underlying t=some (.slice e):=hT.u
   split at ha
   ·rename_i te hte
    obtain ⟨je,hTe⟩:=hE.get hte
    split at ha
    ·rename_i hb
     obtain ⟨h0,h1,h2,h3⟩:=hb
     cases ha
     have hst:=h.newRow e e (LRel.of_plain (ι:=ι) (azeros_plain hTe.zplain c.toNat))
     refine ⟨.slice (some ⟨w.heap.size,0,none⟩) l.toNat c.toNat,_,_,?_,?_,hst⟩
     ·have wl:IntKind.i64.wrap l=l:=wrap_i64 h0 (by omega)
      have wc:IntKind.i64.wrap c=c:=wrap_i64 (by omega) (by omega)
      have hbig:¬ ((je.bytes:Int)*c>2 ^ 48):=by
       rw [hTe.bytes]
       have:((c.toNat*te.bytes:Nat):Int)≤140737488355328:=Int.ofNat_le.2 h2
       have e1:((c.toNat*te.bytes:Nat):Int)=(te.bytes:Int)*c:=by
        rw [Int.natCast_mul,Int.toNat_of_nonneg (by omega),Int.mul_comm]
       omega
      have hz:azeros te.zv.cells.toList c.toNat=(Builtin.zeroCells te.zv.cells c.toNat).toList:=(azeros_eq _ _).symm
      have hcells:∀ z:Array Value,(c.toNat*te.size≠0→z=te.zv.cells)→(Array.range (c.toNat*te.size)).map (z[· % z.size]!)=Builtin.zeroCells te.zv.cells c.toNat:=fun z hz=>by
       unfold Builtin.zeroCells
       rw [hTe.zsize]
       by_cases h0:c.toNat*te.size=0
       ·rw [h0];simp
       ·rw [hz h0,hTe.zsize]
      have hcond:¬ (((decide (c<0)||decide ((je.bytes:Int)*c>2 ^ 48))||decide (l<0))||decide (l>c))=true:=by
       simp only [Bool.or_eq_true,decide_eq_true_eq,not_or]
       omega
      unfold Instr.makeSlice
      simp only [Sem.run_bind,run_underlying' hu,Result.andThen_ok,asInt,asIntOf,Sem.run_pure,typeInfo,run_program,hTe.info,wl,wc]
      have h4:¬ (c<0):=by omega
      have h5:¬ (l<0):=by omega
      have h6:¬ (l>c):=by omega
      simp only [h4,h5,h6,hbig,decide_false,Bool.or_false,Bool.false_eq_true,if_false]
      simp only [Sem.run_bind,run_askRoom,Result.andThen_ok,run_sizeOf hTe]
      by_cases h0:c.toNat*te.size=0
      ·rw [if_pos h0]
       simp only [Sem.run_pure,Sem.run_bind,Result.andThen_ok]
       rw [hcells #[] (fun e=>absurd h0 e)]
       simp [newRow,hz]
      ·rw [if_neg h0]
       simp only [Sem.run_pure,Sem.run_bind,Result.andThen_ok,run_zeroValue hTe]
       rw [hcells te.zv.cells (fun _=>rfl)]
       simp [newRow,hz]
     ·have:=VRel.slice (len:=l.toNat) (cap:=c.toNat) (off:=0) (Emb.ext_same ι H.next ⟨w.heap.size,0,(azeros te.zv.cells.toList c.toNat).length,P.cellsOf e⟩) (by unfold unk;omega) (by omega)
      simpa using this
    ·cases ha
   ·cases ha
  ·cases ha
 ·cases ha
theorem HRel.newMap (h:HRel P B0 ι H w):Step P B0 ι H w (ι.ext H.next ⟨w.heap.size,0,0,0⟩) (H.alloc (.map [])) (w.alloc (.map #[] 0)):=
 h.alloc _ _ _ rfl ⟨⟨#[],0,heap_new w _,rfl,fun i k v hx=>by simp at hx⟩,h.base⟩ (fun _ _ _ _ _ e=>(nomatch e))
theorem makeMap_ok (t:TypeId):(Instr.makeMap t none).run P w=.ok (.map (some w.heap.size)) (w.alloc (.map #[] 0)):=by
 simp [Instr.makeMap]
def aLen (E:TypeId→Option TI) (H:AH) (t:TypeId) (x:Value):Option Value :=
 match E t with
 |some ti=>match ti.desc,x with
  | .string,.string s=>some (.int .i64 s.size)
  | .slice _,.slice _ n _=>some (.int .i64 n)
  | .map _ _,.map none=>some (.int .i64 0)
  |.map _ _,.map (some b)=>match H.lo b with
   | .map es=>some (.int .i64 es.length)
   | _=>none
  | .array n _,_=>some (.int .i64 n)
  | _,_=>none
 | none=>none
theorem aLen_ok (hE:TOk E P) (h:HRel P B0 ι H w) {t ty:TypeId}{x x' v:Value} (hx:VRel ι x x') (ha:aLen E H t x=some v):∃ v',(Builtin.len_ #[t] ty #[x']).run P w=.ok v' w∧VRel ι v v':=by
 unfold aLen at ha
 split at ha
 ·rename_i ti hti
  obtain ⟨i,hT⟩:=hE.get hti
  have hu:=hT.u
  split at ha
  ·rename_i s hd
   rw [hd] at hu
   cases ha;cases hx
   exact ⟨_,by simp [Builtin.len_,run_underlying' hu,goInt],.int _ _⟩
  ·rename_i e a n c hd
   rw [hd] at hu
   cases ha
   cases hx<;>exact ⟨_,by simp [Builtin.len_,run_underlying' hu,goInt],.int _ _⟩
  ·rename_i k e hd
   rw [hd] at hu
   cases ha;cases hx
   exact ⟨_,by simp [Builtin.len_,run_underlying' hu,goInt],.int _ _⟩
  ·rename_i k e b hd
   rw [hd] at hu
   split at ha
   ·rename_i es ho
    have ho:=AH.lo_map ho
    cases ha
    cases hx with
    |map hb =>
     have hO:=h.obj b _ hb (by rw [ho];rfl)
     rw [ho] at hO
     obtain ⟨⟨mes,clock,h1,h2,_⟩,_⟩:=hO
     refine ⟨_,?_,.int _ _⟩
     simp [Builtin.len_,run_underlying' hu,goInt,getObj,Sem.run,h1,h2]
   ·cases ha
  ·rename_i n e hd
   rw [hd] at hu
   cases ha
   exact ⟨_,by simp [Builtin.len_,run_underlying' hu,goInt],.int _ _⟩
  ·cases ha
 ·cases ha
def AH.src (H:AH) (sz:Nat) (x:Value) (n:Nat):Option (List Value):=
 match x with
 | .slice none 0 0=>if n=0 then some [] else none
 | .slice (some ⟨b,off,none⟩) _ _=>if n=0 then some [] else H.rd b off (n*sz)
 | .string s=>if sz=1∧n≤s.size then some ((s.data.toList.take n).map fun b=>.int .u8 b.toNat) else none
 | _=>none
def srcLen:Value→Option Nat
 | .slice _ n _=>some n
 | .string s=>some s.size
 | _=>none
theorem srcLen_ok {x x':Value}{n:Nat} (hx:VRel ι x x') (h:srcLen x=some n) (w:World):(Builtin.lenOf x').run P w=.ok n w:=by
 cases hx<;>simp [srcLen] at h<;>subst h<;>simp [Builtin.lenOf]
theorem src_ok (h:HRel P B0 ι H w) {sz n:Nat}{x x':Value}{vs:List Value} (hx:VRel ι x x') (hs:H.src sz x n=some vs) (hnl:∀ m,srcLen x=some m→n≤m) :
 vs.length=n*sz∧∃ vs',LRel ι vs vs'∧∀ w2:World,w2.heap=w.heap→(Builtin.firstCells sz n x').run P w2=.ok vs'.toArray w2:=by
 cases hx with
 |sliceNil =>
  simp only [AH.src] at hs
  split at hs
  ·rename_i h0;cases hs;subst h0;exact ⟨by simp,[],.nil,fun w2 _=>by simp [Builtin.firstCells]⟩
  ·cases hs
 |slice hb hc hl =>
  simp only [AH.src] at hs
  split at hs
  ·rename_i h0;cases hs;subst h0;exact ⟨by simp,[],.nil,fun w2 _=>by simp [Builtin.firstCells,Go.loadCells,loadCellsFrom]⟩
  ·obtain ⟨vs',hv,hf⟩:=run_firstCells_ok h hb hs _ _
   exact ⟨(h.rd hb hs).1,vs',hv,hf⟩
 |sliceUnk hb hl hsz he =>
  simp only [AH.src] at hs
  split at hs
  ·rename_i h0;cases hs;subst h0;exact ⟨by simp,[],.nil,fun w2 _=>by simp [Builtin.firstCells,Go.loadCells,loadCellsFrom]⟩
  ·obtain ⟨vs',hv,hf⟩:=run_firstCells_ok h hb hs _ _
   exact ⟨(h.rd hb hs).1,vs',hv,hf⟩
 |sliceZ a =>
  simp only [AH.src] at hs
  split at hs
  ·rename_i h0;cases hs;subst h0;exact ⟨by simp,[],.nil,fun w2 _=>by simp [Builtin.firstCells,Go.loadCells,loadCellsFrom]⟩
  ·rename_i h0;exact absurd (Nat.le_zero.1 (hnl 0 rfl)) h0
 |sliceEnd a hb hsz =>
  rename_i b off l
  simp only [AH.src] at hs
  split at hs
  ·rename_i h0;cases hs;subst h0;exact ⟨by simp,[],.nil,fun w2 _=>by simp [Builtin.firstCells,Go.loadCells,loadCellsFrom]⟩
  ·obtain ⟨hl,vs',hv,hc⟩:=h.rd hb hs
   unfold AH.rd at hs
   split at hs
   ·rename_i et cells st g v ho
    have ho:=AH.lo_row ho
    split at hs
    ·rename_i hcd
     simp only [Bool.and_eq_true,decide_eq_true_eq] at hcd
     have hO:=h.obj b l hb (by rw [ho];exact hcd.1)
     rw [ho] at hO
     have hf:l.base+cells.length≤l.size:=RowOk.fits hO
     have h0:n*sz=0:=by omega
     have hnil:vs'=[]:=List.length_eq_zero_iff.1 (by rw [←hv.length,hl,h0])
     subst hnil
     exact ⟨hl,[],hv,fun w2 _=>by simp [Builtin.firstCells,h0,Go.loadCells,loadCellsFrom]⟩
    ·cases hs
   ·cases hs
 |string s =>
  simp only [AH.src] at hs
  split at hs
  ·rename_i hc
   cases hs
   have hsz:s.data.toList.length=s.size:=by simp
   refine ⟨by simp [hc.1];omega,_,LRel.of_plain (fun v hv=>?_),fun w2 _=>?_⟩
   ·simp only [List.mem_map] at hv
    obtain ⟨x,_,rfl⟩:=hv
    rfl
   ·simp only [Builtin.firstCells,Sem.run_pure]
    congr 1
    apply Array.ext'
    simp
  ·cases hs
 | _=>simp [AH.src] at hs
def aCopy (E:TypeId→Option TI) (H:AH) (t:TypeId) (dst src:Value):Option (Value×AH) :=
 match E t,srcLen src with
 |some ⟨.slice e,_,_,_⟩,some m=>match E e,dst with
  | some _,.slice none 0 0=>some (.int .i64 0,H)
  |some te,.slice (some ⟨b,off,none⟩) len _ =>
   match H.src te.size src (min m len) with
   | some vs=>if vs.all Value.oneCell' then (H.wr b off vs).map fun H'=>(.int .i64 (min m len:Nat),H') else none
   | none=>none
  | _,_=>none
 | _,_=>none
theorem aCopy_ok (hE:TOk E P) (h:HRel P B0 ι H w) {t u ty:TypeId}{d d' x x' v:Value} (hd:VRel ι d d') (hx:VRel ι x x') (ha:aCopy E H t d x=some (v,H')) :
 ∃ v' w',(Builtin.copy_ #[t,u] ty #[d',x']).run P w=.ok v' w'∧VRel ι v v'∧Step P B0 ι H w ι H' w':=by
 unfold aCopy at ha
 split at ha
 ·rename_i e sz by_ zv m hti hm
  obtain ⟨i,hT⟩:=hE.get hti
  have hu:P.underlying t=some (.slice e):=hT.u
  have hlen:=srcLen_ok (P:=P) hx hm w
  split at ha
  ·rename_i te hte
   obtain ⟨je,hTe⟩:=hE.get hte
   cases ha;cases hd
   have hf0:(Builtin.firstCells te.size 0 x').run P w=.ok #[] w:=by
    cases hx<;>simp [srcLen] at hm<;>simp [Builtin.firstCells,Go.loadCells,loadCellsFrom]
   refine ⟨_,w,?_,.int _ _,Step.refl h⟩
   simp [Builtin.copy_,run_underlying' hu,hlen,run_sizeOf hTe,hf0,goInt]
  ·rename_i te b off len cap hte
   obtain ⟨je,hTe⟩:=hE.get hte
   split at ha
   ·rename_i vs hs
    split at ha
    ·rename_i hone
     cases hw:H.wr b off vs with
     | none=>rw [hw] at ha;cases ha
     |some H1 =>
      rw [hw] at ha;cases ha
      obtain ⟨hvl,vs',hv,hf⟩:=src_ok h hx hs fun k hk=>by rw [hm] at hk;cases hk;exact Nat.min_le_left _ _
      have hf:=hf w rfl
      have h1:∀ v,v∈vs→v.oneCell'=true:=fun v hv=>List.all_eq_true.1 hone v hv
      cases hd with
      |slice hb hc hl =>
       obtain ⟨w',hr,hst⟩:=h.storeCells hb hv h1 hw
       refine ⟨_,w',?_,.int _ _,hst⟩
       have hf':(Builtin.firstCells te.size (Nat.min m len) x').run P w=.ok vs'.toArray w:=hf
       simp [Builtin.copy_,run_underlying' hu,hlen,run_sizeOf hTe,hf',hr,goInt]
      |sliceUnk hb hl hsz he =>
       obtain ⟨w',hr,hst⟩:=h.storeCells hb hv h1 hw
       refine ⟨_,w',?_,.int _ _,hst⟩
       have hf':(Builtin.firstCells te.size (Nat.min m len) x').run P w=.ok vs'.toArray w:=hf
       simp [Builtin.copy_,run_underlying' hu,hlen,run_sizeOf hTe,hf',hr,goInt]
      |sliceZ a =>
       have hmin:min m 0=0:=Nat.min_zero m
       rw [hmin] at hvl hs hf
       have hnil:vs=[]:=List.length_eq_zero_iff.1 (by simpa using hvl)
       subst hnil
       cases hv
       simp only [AH.wr,List.isEmpty_nil,if_true] at hw
       cases hw
       refine ⟨_,w,?_,.int _ _,Step.refl h⟩
       simp only [Builtin.copy_,run_underlying' hu,hlen,run_sizeOf hTe,goInt,Sem.run_bind,Result.andThen_ok,Sem.run_pure,hmin,List.getElem?_toArray,List.getElem?_cons_zero,List.getElem?_cons_succ]
       simp [hf,Go.storeCells]
      |sliceEnd a hb hsz =>
       have hmin:min m 0=0:=Nat.min_zero m
       rw [hmin] at hvl hs hf
       have hnil:vs=[]:=List.length_eq_zero_iff.1 (by simpa using hvl)
       subst hnil
       cases hv
       simp only [AH.wr,List.isEmpty_nil,if_true] at hw
       cases hw
       refine ⟨_,w,?_,.int _ _,Step.refl h⟩
       simp only [Builtin.copy_,run_underlying' hu,hlen,run_sizeOf hTe,goInt,Sem.run_bind,Result.andThen_ok,Sem.run_pure,hmin,List.getElem?_toArray,List.getElem?_cons_zero,List.getElem?_cons_succ]
       simp [hf,Go.storeCells]
    ·cases ha
   ·cases ha
  ·cases ha
 ·cases ha
def aClear (E:TypeId→Option TI) (H:AH) (t:TypeId) (x:Value):Option AH :=
 match E t,x with
 | some ⟨.slice _,_,_,_⟩,.slice none 0 0=>some H
 |some ⟨.slice e,_,_,_⟩,.slice (some ⟨b,off,none⟩) n _=>match E e with
  | some te=>if n=0 then some H else H.wr b off (azeros te.zv.cells.toList n)
  | none=>none
 | _,_=>none
theorem plain_oneCell {v:Value} (h:plain v=true):v.oneCell'=true:=by cases v<;>simp [plain] at h<;>rfl
theorem aClear_ok (hE:TOk E P) (h:HRel P B0 ι H w) {t ty:TypeId}{x x':Value} (hx:VRel ι x x') (ha:aClear E H t x=some H') :
 ∃ w',(Builtin.clear_ #[t] ty #[x']).run P w=.ok (.tuple #[]) w'∧Step P B0 ι H w ι H' w':=by
 unfold aClear at ha
 split at ha
 ·rename_i e sz by_ zv hti
  obtain ⟨i,hT⟩:=hE.get hti
  have hu:P.underlying t=some (.slice e):=hT.u
  cases ha;cases hx
  exact ⟨w,by simp [Builtin.clear_,run_underlying' hu],Step.refl h⟩
 ·rename_i e sz by_ zv b off n cap hti
  obtain ⟨i,hT⟩:=hE.get hti
  have hu:P.underlying t=some (.slice e):=hT.u
  split at ha
  ·rename_i te hte
   obtain ⟨je,hTe⟩:=hE.get hte
   split at ha
   ·rename_i h0
    cases ha;subst h0
    cases hx<;>exact ⟨w,by simp [Builtin.clear_,run_underlying' hu],Step.refl h⟩
   ·rename_i h0
    have hv:LRel ι (azeros te.zv.cells.toList n) (Builtin.zeroCells te.zv.cells n).toList:=by
     rw [azeros_eq];exact LRel.of_plain (azeros_plain hTe.zplain n)
    have h1:∀ v,v∈azeros te.zv.cells.toList n→v.oneCell'=true:=fun v hv=>plain_oneCell (azeros_plain hTe.zplain n v hv)
    cases hx with
    |slice hb hc hl =>
     obtain ⟨w',hr,hst⟩:=h.storeCells hb hv h1 ha
     refine ⟨w',?_,hst⟩
     obtain ⟨n,rfl⟩:∃ m,n=m+1:=⟨n-1,by omega⟩
     simp [Builtin.clear_,run_underlying' hu,run_zeroValue hTe,hr]
    |sliceUnk hb hl hsz he =>
     obtain ⟨w',hr,hst⟩:=h.storeCells hb hv h1 ha
     refine ⟨w',?_,hst⟩
     obtain ⟨n,rfl⟩:∃ m,n=m+1:=⟨n-1,by omega⟩
     simp [Builtin.clear_,run_underlying' hu,run_zeroValue hTe,hr]
    | sliceEnd=>exact absurd rfl h0
    | sliceZ=>exact absurd rfl h0
  ·cases ha
 ·cases ha
end Go.Ev
namespace Go.Ev
open Go.RowKit
variable {P:Program}{B0:Nat}{ι:Emb}{H H':AH}{w:World}{E:TypeId→Option TI}
theorem bytes_beq (a b:ByteArray):(a==b)=(a.data==b.data):=rfl
theorem bytes_eq {a b:ByteArray} (h:(a==b)=true):a=b:=by
 rw [bytes_beq,beq_iff_eq] at h
 cases a;cases b;simp_all
theorem bytes_self (a:ByteArray):(a==a)=true:=by rw [bytes_beq,beq_iff_eq]
def keyOk:TypeDesc→Value→Bool
 | .int k,.int k' _=>k=k'
 | .string,.string _=>true
 | .bool,.bool _=>true
 | _,_=>false
def sameKey:Value→Value→Bool
 | .int _ a,.int _ b=>a==b
 | .string a,.string b=>a==b
 | .bool a,.bool b=>a==b
 | _,_=>false
def findA (k:Value):List (Value×Value)→Nat→Option (Nat×Value)
 | [],_=>none
 | (k',v)::es,i=>if sameKey k k' then some (i,v) else findA k es (i+1)
def entriesOk (d:TypeDesc) (es:List (Value×Value)):Bool:=es.all fun e=>keyOk d e.1
structure ERel (ι:Emb) (es:List (Value×Value)) (mes:List MapEntry):Prop where
 len:mes.length=es.length
 get:∀ (i:Nat) (k v:Value),es[i]?=some (k,v)→∃ e,mes[i]?=some e∧plain k=true∧e.key=k∧VRel ι v e.val
theorem findA_ok {d:TypeDesc}{k:Value} (hk:keyOk d k=true):∀ (es:List (Value×Value)) (mes:List MapEntry) (i:Nat),ERel ι es mes→entriesOk d es=true →
  (findA k es i=none→Instr.findNow d k mes i=some none)∧(∀ j v,findA k es i=some (j,v)→∃ v',Instr.findNow d k mes i=some (some (j,v'))∧VRel ι v v'∧i≤j∧(es[j-i]?).map (·.1)=some k)
 | [],mes,i,h,_=>by
  have:mes=[]:=List.length_eq_zero_iff.1 (by simpa using h.len)
  subst this
  simp [findA,Instr.findNow]
 | (k',v')::es,[],i,h,_=>by have:=h.len;simp at this
 | (k',v')::es,e::mes,i,h,hok=>by
  obtain ⟨e0,he,hp,hke,hv⟩:=h.get 0 k' v' (by simp)
  simp at he;subst he
  have ht:ERel ι es mes:=⟨by have:=h.len;simpa using this,fun j a b hab=>by
   have:=h.get (j+1) a b (by simpa using hab)
   simpa using this⟩
  simp only [entriesOk,List.all_cons,Bool.and_eq_true] at hok
  have ih:=findA_ok hk es mes (i+1) ht hok.2
  have hs:Instr.sameNow d k e.key=some (sameKey k k'):=by
   rw [hke]
   have h1:=hok.1
   cases d<;>cases k<;>simp [keyOk] at hk<;>cases k'<;>simp [keyOk] at h1<;>(try subst hk)<;>(try subst h1)<;>simp [Instr.sameNow,sameKey]
  simp only [findA,Instr.findNow,hs]
  by_cases hsk:sameKey k k'=true
  ·rw [if_pos hsk]
   simp only [hsk]
   refine ⟨fun h=>(by cases h),fun j v hj=>?_⟩
   cases hj
   refine ⟨_,rfl,hv,Nat.le_refl _,?_⟩
   simp
   have h1:=hok.1
   cases d<;>cases k<;>simp [keyOk] at hk<;>cases k'<;>simp [keyOk] at h1<;>simp [sameKey] at hsk<;>(try subst hk)<;>(try subst h1)<;>first|(simp [hsk];done)|exact congrArg _ (bytes_eq hsk).symm
  ·rw [if_neg hsk]
   have:sameKey k k'=false:=by simpa using hsk
   simp only [this]
   refine ⟨ih.1,fun j v hj=>?_⟩
   obtain ⟨v'',a,b,c,d⟩:=ih.2 j v hj
   refine ⟨v'',a,b,by omega,?_⟩
   rw [show j-i=(j-(i+1))+1 by omega]
   simpa using d
def aLookup (E:TypeId→Option TI) (H:AH) (t:TypeId) (m k:Value) (ok:Bool):Option Value :=
 match E t with
 |some ⟨.map kt et,_,_,_⟩=>match E kt,E et with
  |some tk,some te =>
   if keyOk tk.desc k then
    match (match m with
     | .map none=>some []
     |.map (some b)=>match H.lo b with
      | .map es=>some es
      | _=>none
     | _=>none:Option (List (Value×Value))) with
    |some es=>if entriesOk tk.desc es then
     match findA k es 0 with
     | some (_,v)=>some (if ok then .tuple #[v,.bool true] else v)
     | none=>if constOk te.zv then some (if ok then .tuple #[te.zv,.bool false] else te.zv) else none
     else none
    | none=>none
   else none
  | _,_=>none
 | _=>none
theorem run_checkKey {d:TypeDesc}{kt:TypeId}{k:Value} (hu:P.underlying kt=some d) (hk:keyOk d k=true) (b:Bool) (w:World):(Instr.checkKey b 10000 kt k).run P w=.ok () w:=by
 unfold Instr.checkKey
 simp only [Sem.run_bind,run_underlying' hu,Result.andThen_ok]
 cases d<;>cases k<;>simp [keyOk] at hk<;>rfl
theorem aLookup_ok (hE:TOk E P) (h:HRel P B0 ι H w) {t:TypeId}{m m' k k' v:Value}{ok:Bool} (hm:VRel ι m m') (hk:VRel ι k k') (ha:aLookup E H t m k ok=some v) :
 ∃ v',(Instr.lookup t m' k' ok).run P w=.ok v' w∧VRel ι v v':=by
 unfold aLookup at ha
 split at ha
 ·rename_i kt et sz by_ zv hti
  obtain ⟨i,hT⟩:=hE.get hti
  have hu:P.underlying t=some (.map kt et):=hT.u
  split at ha
  ·rename_i tk te htk hte
   obtain ⟨ik,hTk⟩:=hE.get htk
   obtain ⟨ie,hTe⟩:=hE.get hte
   split at ha
   ·rename_i hkey
    have hk':k'=k:=hk.plain_eq (by cases hd:tk.desc<;>rw [hd] at hkey<;>cases k<;>simp [keyOk] at hkey<;>rfl)
    subst hk'
    split at ha
    ·rename_i es hes
     split at ha
     ·rename_i heok
      have fin:∀ mes:List MapEntry,ERel ι es mes→∃ r,Instr.findNow tk.desc k' mes 0=some r∧∃ v',VRel ι v v' ∧
       (match r with
        | some (_,v)=>v'=(if ok then .tuple #[v,.bool true] else v)
        | none=>v'=(if ok then .tuple #[te.zv,.bool false] else te.zv)):=fun mes hER=>by
       obtain ⟨f1,f2⟩:=findA_ok (ι:=ι) hkey es mes 0 hER heok
       split at ha
       ·rename_i j v0 hf
        cases ha
        obtain ⟨v1,g1,g2,_⟩:=f2 j v0 hf
        refine ⟨_,g1,_,?_,rfl⟩
        cases ok
        ·exact g2
        ·exact VRel.tuple' (xs:=[_,_]) (ys:=[_,_]) (.cons g2 (.cons (.bool true) .nil))
       ·rename_i hf
        split at ha
        ·rename_i hc
         cases ha
         refine ⟨_,f1 hf,_,?_,rfl⟩
         cases ok
         ·exact VRel.of_constOk hc
         ·exact VRel.tuple' (xs:=[_,_]) (ys:=[_,_]) (.cons (VRel.of_constOk hc) (.cons (.bool false) .nil))
        ·cases ha
      cases hm with
      |mapNil =>
       simp only [Option.some.injEq] at hes;subst hes
       obtain ⟨r,hr,v',hv,hm⟩:=fin [] ⟨rfl,fun i k v hx=>by simp at hx⟩
       refine ⟨v',?_,hv⟩
       cases r with
       | none=>simp only at hm;simp [Instr.lookup,run_underlying' hu,run_checkKey hTk.u hkey,Instr.findKey,run_underlying' hTk.u,hr,run_zeroValue hTe,hm]
       | some r=>simp [Instr.findNow] at hr
      |map hb =>
       simp only at hes
       split at hes
       ·rename_i b l _ es' ho
        cases hes
        have ho:=AH.lo_map ho
        have hO:=h.obj _ _ hb (by rw [ho];rfl)
        rw [ho] at hO
        obtain ⟨⟨mes,clock,h1,h2,h3⟩,_⟩:=hO
        obtain ⟨r,hr,v',hv,hm⟩:=fin mes.toList ⟨by simpa using h2,fun i k v hx=>by simpa using h3 i k v hx⟩
        refine ⟨v',?_,hv⟩
        cases r with
        | none=>simp only at hm;simp [Instr.lookup,run_underlying' hu,getObj,Sem.run,h1,run_checkKey hTk.u hkey,Instr.findKey,run_underlying' hTk.u,hr,run_zeroValue hTe,hm]
        | some r=>simp only at hm;simp [Instr.lookup,run_underlying' hu,getObj,Sem.run,h1,run_checkKey hTk.u hkey,Instr.findKey,run_underlying' hTk.u,hr,hm]
       ·cases hes
      | _=>simp at hes
     ·cases ha
    ·cases ha
   ·cases ha
  ·cases ha
 ·cases ha
theorem HRel.mapPut (h:HRel P B0 ι H w) {b:Nat}{l:ILoc} (hb:ι b=some l) {es es':List (Value×Value)} (ho:H.obj b=.map es) {mes mes':Array MapEntry}{clock clock':Nat}
  (hw:w.heap[l.blk]?=some (.map mes clock)) (hR:ERel ι es' mes'.toList):Step P B0 ι H w ι (H.put b (.map es')) { w with heap:=w.heap.setIfInBounds l.blk (.map mes' clock') }:=by
 have ha:H.alive (H.obj b)=true:=by rw [ho];rfl
 have hO:=h.obj b l hb ha
 rw [ho] at hO
 have hB:B0≤l.blk:=MapOk.own hO
 have hlt:l.blk<w.heap.size:=(Array.getElem?_eq_some_iff.1 hw).1
 refine h.write hb ha hB (fun c e=>by simp [e]) rfl (fun c l' e hc hac=>?_) ?_ (fun c l' et cells st g v hc hoc=>?_) (fun k hk=>by simp [Ne.symm hk]) (by simp) rfl rfl rfl
 ·have hac':H.alive (H.obj c)=true:=by cases hoc:H.obj c<;>rw [hoc] at hac<;>exact hac
  refine ⟨hac',fun e'=>?_⟩
  have:=h.sep b c l l' (Ne.symm e) hb hc ha hac' e'.symm
  rw [ho] at this
  cases hoc:H.obj c<;>rw [hoc] at this<;>simp [Share] at this
 ·simp only [AH.obj_put,if_true]
  exact ⟨⟨mes',clock',by simp [hlt],by simpa using hR.len,fun i k v hx=>by simpa using hR.get i k v hx⟩,hB⟩
 ·by_cases e:c=b
  ·subst e;simp at hoc
  ·simp [e] at hoc;simpa using h.grp c l' et cells st g v hc hoc
def aMapUpdate (E:TypeId→Option TI) (H:AH) (t:TypeId) (m k v:Value):Option AH :=
 match E t,m with
 |some ⟨.map kt _,_,_,_⟩,.map (some b)=>match E kt,H.obj b with
  |some tk,.map es=>if keyOk tk.desc k&&entriesOk tk.desc es then
   match findA k es 0 with
   | some (j,_)=>some (H.put b (.map (es.set j (k,v))))
   | none=>some (H.put b (.map (es++[(k,v)])))
   else none
  | _,_=>none
 | _,_=>none
theorem keyOk_plain {d:TypeDesc}{k:Value} (h:keyOk d k=true):plain k=true:=by cases d<;>cases k<;>simp [keyOk] at h<;>rfl
theorem sameBits_self {d:TypeDesc}{k:Value} (h:keyOk d k=true):Instr.sameBits 10000 k k=true:=by
 cases d<;>cases k<;>simp [keyOk] at h<;>simp [Instr.sameBits]
 exact bytes_self _
theorem aMapUpdate_ok (hE:TOk E P) (h:HRel P B0 ι H w) {t:TypeId}{m m' k k' v v':Value} (hm:VRel ι m m') (hk:VRel ι k k') (hv:VRel ι v v') (ha:aMapUpdate E H t m k v=some H') :
 ∃ w',(Instr.mapUpdate t m' k' v').run P w=.ok () w'∧Step P B0 ι H w ι H' w':=by
 unfold aMapUpdate at ha
 split at ha
 ·rename_i kt et sz by_ zv b hti
  obtain ⟨i,hT⟩:=hE.get hti
  have hu:P.underlying t=some (.map kt et):=hT.u
  split at ha
  ·rename_i tk es htk ho
   obtain ⟨ik,hTk⟩:=hE.get htk
   split at ha
   ·rename_i hc
    rw [Bool.and_eq_true] at hc
    obtain ⟨hkey,heok⟩:=hc
    have hpk:=keyOk_plain hkey
    have hk':k'=k:=hk.plain_eq hpk
    subst hk'
    cases hm with
    |map hb =>
     rename_i l
     have hO:=h.obj b _ hb (by rw [ho];rfl)
     rw [ho] at hO
     obtain ⟨⟨mes,clock,h1,h2,h3⟩,_⟩:=hO
     have hER:ERel ι es mes.toList:=⟨by simpa using h2,fun i k v hx=>by simpa using h3 i k v hx⟩
     obtain ⟨f1,f2⟩:=findA_ok (ι:=ι) hkey es mes.toList 0 hER heok
     split at ha
     ·rename_i j v0 hf
      cases ha
      obtain ⟨v1,g1,g2,_,g4⟩:=f2 j v0 hf
      have hkold:((mes[j]?).map (·.key)).getD k'=k':=by
       simp only [Nat.sub_zero] at g4
       cases hes:es[j]? with
       | none=>rw [hes] at g4;simp at g4
       |some kv =>
        rw [hes] at g4;simp at g4
        obtain ⟨e,he,_,hke,_⟩:=hER.get j kv.1 kv.2 hes
        simp at he
        rw [he];simp [hke,g4]
      refine ⟨_,?_,h.mapPut hb ho (mes':=mes.modify j fun e=>{ e with key:=k',val:=v' }) (clock':=clock) h1 ⟨by simpa using h2,fun i k v hx=>?_⟩⟩
      ·have hst:(Instr.keyThatStays (((mes[j]?).map (·.key)).getD k') k').run P w=.ok k' w:=by
        rw [hkold];simp [Instr.keyThatStays,sameBits_self hkey]
       simp [Instr.mapUpdate,run_underlying' hu,getObj,setObj,Sem.run,h1,run_checkKey hTk.u hkey,Instr.findKey,run_underlying' hTk.u,g1,hst]
      ·simp only [Array.getElem?_toList,Array.getElem?_modify]
       by_cases e:i=j
       ·subst e
        have hlt:i<es.length:=by
         have:=(List.getElem?_eq_some_iff.1 hx).1;simpa using this
        rw [List.getElem?_set_self hlt] at hx
        cases hx
        have hlt':i<mes.size:=by omega
        simp [hlt',hpk]
        exact hv
       ·rw [List.getElem?_set_ne (Ne.symm e)] at hx
        obtain ⟨en,a,b,c,d⟩:=hER.get i k v hx
        simp only [Array.getElem?_toList] at a
        refine ⟨en,?_,b,c,d⟩
        simp [Ne.symm e,a]
     ·rename_i hf
      cases ha
      refine ⟨_,?_,h.mapPut hb ho (mes':=mes.push { key:=k',val:=v',born:=clock }) (clock':=clock+1) h1 ⟨by simpa using h2,fun i k v hx=>?_⟩⟩
      ·simp [Instr.mapUpdate,run_underlying' hu,getObj,setObj,Sem.run,h1,run_checkKey hTk.u hkey,Instr.findKey,run_underlying' hTk.u,f1 hf]
      ·simp only [Array.getElem?_toList,Array.getElem?_push]
       by_cases e:i<es.length
       ·rw [List.getElem?_append_left e] at hx
        obtain ⟨en,a,b,c,d⟩:=hER.get i k v hx
        simp only [Array.getElem?_toList] at a
        exact ⟨en,by rw [if_neg (by omega)];exact a,b,c,d⟩
       ·rw [List.getElem?_append_right (by omega)] at hx
        have hi:i=es.length:=by
         have:=(List.getElem?_eq_some_iff.1 hx).1;simp at this;omega
        subst hi
        simp at hx
        obtain ⟨rfl,rfl⟩:=hx
        exact ⟨{ key:=k',val:=v',born:=clock },by rw [if_pos (by omega)],hpk,rfl,hv⟩
   ·cases ha
  ·cases ha
 ·cases ha
def aExtract (v:Value) (i:Nat):Option Value:=
 match v with
 | .tuple vs=>vs[i]?
 | _=>none
theorem aExtract_ok {x x' v:Value}{i:Nat} (hx:VRel ι x x') (ha:aExtract x i=some v):∃ v',(Instr.extract x' i).run P w=.ok v' w∧VRel ι v v':=by
 unfold aExtract at ha
 split at ha
 ·cases hx with
  | tuple hs h=>
   obtain ⟨h1,rfl⟩:=Array.getElem?_eq_some_iff.1 ha
   refine ⟨_,?_,h i h1 (by omega)⟩
   simp [Instr.extract]
   rw [Array.getElem?_eq_getElem (by omega)]
   rfl
 ·cases ha
def aPart (E:TypeId→Option TI) (t:TypeId) (cs:List Value) (off:Nat):Option Value:=
 match E t with
 | some ti=>if Desc.agg ti.desc then (if off+ti.size≤cs.length then some (.agg ((cs.drop off).take ti.size).toArray) else none) else cs[off]?
 | none=>none
theorem aPart_ok (hE:TOk E P) {t:TypeId}{cs:List Value}{cs':Array Value}{off:Nat}{v:Value} (hc:LRel ι cs cs'.toList) (ha:aPart E t cs off=some v):∃ v',(part t cs' off).run P w=.ok v' w∧VRel ι v v':=by
 unfold aPart at ha
 split at ha
 ·rename_i ti hti
  obtain ⟨i,hT⟩:=hE.get hti
  split at ha
  ·rename_i hagg
   split at ha
   ·cases ha
    refine ⟨.agg (cs'.extract off (off+ti.size)),by simp [part,run_isAgg hT.u,hagg,run_sizeOf hT],?_⟩
    have:=VRel.agg' ((hc.drop off).take ti.size)
    have e:((cs'.toList.drop off).take ti.size).toArray=cs'.extract off (off+ti.size):=by
     apply Array.ext'
     simp [List.take_drop,Nat.add_sub_cancel_left]
    rwa [e] at this
   ·cases ha
  ·rename_i hagg
   obtain ⟨y,hy,hr⟩:=hc.get ha
   simp only [Array.getElem?_toList] at hy
   exact ⟨y,by simp [part,run_isAgg hT.u,hagg,hy],hr⟩
 ·cases ha
def aFieldOf (E:TypeId→Option TI) (t:TypeId) (x:Value) (f:Nat):Option Value :=
 match E t,x with
 |some ⟨.struct fs,_,_,_⟩,.agg cs=>match fs[f]? with
  | some fd=>aPart E fd.type cs.toList fd.offset
  | none=>none
 | _,_=>none
theorem aFieldOf_ok (hE:TOk E P) {t:TypeId}{x x' v:Value}{f:Nat} (hx:VRel ι x x') (ha:aFieldOf E t x f=some v):∃ v',(Instr.field t x' f).run P w=.ok v' w∧VRel ι v v':=by
 unfold aFieldOf at ha
 split at ha
 ·rename_i fs sz by_ zv cs hti
  obtain ⟨i,hT⟩:=hE.get hti
  have hu:P.underlying t=some (.struct fs):=hT.u
  cases hx with
  |agg hs h =>
   split at ha
   ·rename_i fd hfd
    obtain ⟨v',h1,h2⟩:=aPart_ok (P:=P) (w:=w) hE (LRel.of_array hs h) ha
    exact ⟨v',by simp [Instr.field,run_underlying' hu,hfd,asAgg,h1],h2⟩
   ·cases ha
 ·cases ha
def aIndexOf (E:TypeId→Option TI) (t:TypeId) (x i:Value):Option Value :=
 match i with
 |.int _ n=>match E t,x with
  |some ⟨.array len e,_,_,_⟩,.agg cs=>match E e with
   | some te=>if 0≤n∧n<len then aPart E e cs.toList (n.toNat*te.size) else none
   | none=>none
  |some ⟨.string,_,_,_⟩,.string s=>if 0≤n then match s.data.toList[n.toNat]? with
   | some b=>some (.int .u8 b.toNat)
   | none=>none
   else none
  | _,_=>none
 | _=>none
theorem aIndexOf_ok (hE:TOk E P) {t:TypeId}{x x' i i' v:Value} (hx:VRel ι x x') (hi:VRel ι i i') (ha:aIndexOf E t x i=some v):∃ v',(Instr.index t x' i').run P w=.ok v' w∧VRel ι v v':=by
 unfold aIndexOf at ha
 split at ha
 ·rename_i k n
  cases hi
  split at ha
  ·rename_i len e sz by_ zv cs hti
   obtain ⟨j,hT⟩:=hE.get hti
   have hu:P.underlying t=some (.array len e):=hT.u
   cases hx with
   |agg hs h =>
    split at ha
    ·rename_i te hte
     obtain ⟨je,hTe⟩:=hE.get hte
     split at ha
     ·rename_i hr
      obtain ⟨v',h1,h2⟩:=aPart_ok (P:=P) (w:=w) hE (LRel.of_array hs h) ha
      exact ⟨v',by simp [Instr.index,asIntOf,run_underlying' hu,hr.1,hr.2,run_sizeOf hTe,h1],h2⟩
     ·cases ha
    ·cases ha
  ·rename_i sz by_ zv s hti
   obtain ⟨j,hT⟩:=hE.get hti
   have hu:P.underlying t=some .string:=hT.u
   cases hx
   split at ha
   ·rename_i h0
    split at ha
    ·rename_i b hb
     cases ha
     refine ⟨_,?_,.int _ _⟩
     have:s[n.toNat]?=some b:=by
      simp only [Array.getElem?_toList] at hb
      obtain ⟨h1,h2⟩:=Array.getElem?_eq_some_iff.1 hb
      rw [getElem?_pos s n.toNat h1]
      exact congrArg some h2
     simp [Instr.index,asIntOf,run_underlying' hu,h0,this]
    ·cases ha
   ·cases ha
  ·cases ha
 ·cases ha
end Go.Ev
