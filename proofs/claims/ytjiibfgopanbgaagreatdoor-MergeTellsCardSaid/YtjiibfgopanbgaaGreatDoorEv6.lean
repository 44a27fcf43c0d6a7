/-
  EV, universal use: functions with their prepared bodies; short words for what is printed of them.
-/
import Derived.Test.YtjiibfgopanbgaaGreatDoorEv5
import Derived.KernelRfl
import Derived.Shelf.Slices.In.SortAlone
import Derived.Shelf.Slices.In.SortNone
import Derived.Shelf.Slices.In.CompactS
import Derived.Sort.EveryDepth
import Derived.Lib.RowBridge
import Derived.Shelf.Strings.SlTrimAscii
set_option linter.all false
namespace Go.Ev
open Go.RowKit
noncomputable def bodyOf (fn:Func):Code:=match fn.body with
 | some c=>c
 | none=>.skip
def Fp (V:Env) (f:FuncId) (fn:Func) (P:PC):Prop:=V.F f=some fn∧fn.body=some (bodyOf fn)∧pcOf V fn.ntmps (some (liveOf fn (bodyOf fn))) (bodyOf fn)=some P
theorem Fp.is {V:Env}{f:FuncId}{fn:Func}{P:PC} (h:Fp V f fn P):(V.F f).isSome=true:=by rw [h.1];rfl
theorem Fp.lc {V:Env}{O:Orc}{f:FuncId}{fn:Func}{P:PC}{vs:List Value}{H:AH}{R:Value→AH→Prop} (h:Fp V f fn P) (ho:O f vs H=none) (hlen:vs.length≤fn.ntmps) (hlive:(List.range vs.length).all (isLive (some (liveOf fn (bodyOf fn))))=true)
  (k:WP V O (some (liveOf fn (bodyOf fn))) fn.ntmps P (initL vs 0) H fun e l H'=>(e=.normal∨e=.ret)∧∃ rs,resL V l H' fn.results.toList=some rs∧R (resOf rs) H'):∃ v H',Lc V O f vs H v H'∧R v H':=
 Lc.fnP ho h.1 h.2.1 h.2.2 hlen hlive k
theorem Fp.lq {V:Env}{O:Orc}{f:FuncId}{fn:Func}{P:PC}{vs:List Value}{H:AH}{R:Value→AH→Prop} (h:Fp V f fn P) (ho:O f vs H=none)
  (k:WP V O (some (liveOf fn (bodyOf fn))) fn.ntmps P (initL vs 0) H fun e l H'=>(e=.normal∨e=.ret)∧∃ rs,resL V l H' fn.results.toList=some rs∧R (resOf rs) H') (hlen:vs.length≤fn.ntmps:=by exact Nat.le_of_ble_eq_true rfl) (hlive:(List.range vs.length).all (isLive (some (liveOf fn (bodyOf fn))))=true:=by kernel_rfl):∃ v H',Lc V O f vs H v H'∧R v H':=
 h.lc ho hlen hlive k
section
variable {V:Env}{O:Orc}{live:Option Nat}{n:Nat}{l:SL}{H:AH}{Q:Ex→SL→AH→Prop}{a b:PC}{is:List LI}{outs:List (Tmp×Nat)}{E:List Value}{K:List Value→AH→Prop}{o:Op}{x y z:Operand}{w t:Bool}{u v:Value}{ty ty2:TypeId}{i j:Int}
theorem wN {l':SL} (k:Q .normal l' H) (h:outsL E outs l=some l':=by rfl):WL V O [] E l H fun E H'=>∃ l',outsL E outs l=some l'∧Q .normal l' H':=zNil h k
theorem wG {s:Tmp} (h:WL V O is (v::E) l H K) (hv:look l s=some v:=by rfl):WL V O (.get s::is) E l H K:=zGet hv h
theorem wA (h:WL V O is (v::E) l H K) (hx:gS V.nG E l x=some v:=by rfl):WL V O (.run (.assign x) none::is) E l H K:=zAsg hx h
theorem wM (h:WL V O is (v::E) l H K) (hx:gS V.nG E l x=some v:=by rfl):WL V O (.run (.move x) none::is) E l H K:=zMov hx h
theorem wL {k:IntKind} (h:WL V O is (.bool (decide (i<j))::E) l H K) (hx:gS V.nG E l x=some (.int k i):=by rfl) (hy:gS V.nG E l y=some (.int k j):=by rfl):WL V O (.run (.binOp .lss ty x y ty2) none::is) E l H K:=zLss hx hy h
theorem wO (h:WL V O (.run o none::is) E l H K) (hx:gS V.nG E l x=some (.bool t):=by rfl) (hb:t=w:=by assumption):WL V O (.run o (some (x,w))::is) E l H K:=zOn hx hb h
theorem wF (h:WL V O is (undef::E) l H K) (hx:gS V.nG E l x=some (.bool t):=by rfl) (hb:t=!w:=by assumption):WL V O (.run o (some (x,w))::is) E l H K:=zOff hx hb h
theorem wT (h:WP V O live n a l H Q) (hx:lookO V.nG l x=some (.bool t):=by rfl) (ht:t=true:=by assumption):WP V O live n (.cond x a b) l H Q:=zT hx ht h
theorem wE (h:WP V O live n b l H Q) (hx:lookO V.nG l x=some (.bool t):=by rfl) (ht:t=false:=by assumption):WP V O live n (.cond x a b) l H Q:=zF hx ht h
theorem wP (h:WL V O is (v::E) l H K) (hc:gS V.nG E l x=some (.bool t):=by rfl) (hb:t=true:=by assumption) (hx:gS V.nG E l y=some v:=by rfl):WL V O (.run (.pick x y z) none::is) E l H K:=zPT hc hb hx h
theorem wR (h:WL V O is (v::E) l H K) (hc:gS V.nG E l x=some (.bool t):=by rfl) (hb:t=false:=by assumption) (hx:gS V.nG E l z=some v:=by rfl):WL V O (.run (.pick x y z) none::is) E l H K:=zPF hc hb hx h
theorem wI {p:Value} (h:WL V O is (p::E) l H K) (hx:gS V.nG E l x=some u:=by rfl) (hi:gS V.nG E l y=some v:=by rfl) (h0:aIndex V.E ty u v=some p:=by assumption):WL V O (.run (.indexAddr ty x y) none::is) E l H K:=zIdx hx hi h0 h
theorem wB {te:TI}{c off:Nat}{et:TypeId}{cs:List Value} (he:V.E ty=some te) (h:WL V O is (v::E) l H K) (hx:gS V.nG E l x=some (.pointer (some ⟨c,off,none⟩)):=by rfl) (hb:Bx H c et cs:=by assumption) (hc:cs[off]?=some v:=by rfl) (ha:Desc.agg te.desc=false:=by rfl):WL V O (.run (.load ty x) none::is) E l H K:=zLd hx (hb.ld hc he ha) h
theorem wD {f:Nat} (h0:aField V.E ty f u=some v) (h:WL V O is (v::E) l H K) (hx:gS V.nG E l x=some u:=by rfl):WL V O (.run (.fieldAddr ty x f) none::is) E l H K:=zFld hx h0 h
theorem wK (h0:aLen V.E H ty u=some v) (h:WL V O is (v::E) l H K) (hx:gS V.nG E l x=some u:=by rfl):WL V O (.run (.call ⟨.builtin .len,#[x],#[ty]⟩) none::is) E l H K:=zLen hx h0 h
theorem wY (h:WL V O is (v::E) l H K) (hx:gS V.nG E l x=some u:=by rfl) (h0:aLoad V.E H ty u=some v:=by assumption):WL V O (.run (.load ty x) none::is) E l H K:=zLd hx h0 h
theorem wS (h:WL V O is (.int .i64 (i+j)::E) l H K) (hx:gS V.nG E l x=some (.int .i64 i):=by rfl) (hy:gS V.nG E l y=some (.int .i64 j):=by rfl) (h1:-9223372036854775808≤i+j∧i+j≤9223372036854775807:=by omega):WL V O (.run (.binOp .add ty x y ty2) none::is) E l H K:=zAdd hx hy h1 h
theorem wQ {k:IntKind} (h:WL V O is (.bool (i==j)::E) l H K) (hx:gS V.nG E l x=some (.int k i):=by rfl) (hy:gS V.nG E l y=some (.int k j):=by rfl):WL V O (.run (.binOp .eql ty x y ty2) none::is) E l H K:=zEql hx hy h
theorem wU {k:IntKind} (h:WL V O is (.bool (i != j)::E) l H K) (hx:gS V.nG E l x=some (.int k i):=by rfl) (hy:gS V.nG E l y=some (.int k j):=by rfl):WL V O (.run (.binOp .neq ty x y ty2) none::is) E l H K:=zNeq hx hy h
theorem wV {k:IntKind} (h:WL V O is (.bool (decide (i>j))::E) l H K) (hx:gS V.nG E l x=some (.int k i):=by rfl) (hy:gS V.nG E l y=some (.int k j):=by rfl):WL V O (.run (.binOp .gtr ty x y ty2) none::is) E l H K:=zGtr hx hy h
theorem wW {k:IntKind} (h:WL V O is (.bool (decide (i≥j))::E) l H K) (hx:gS V.nG E l x=some (.int k i):=by rfl) (hy:gS V.nG E l y=some (.int k j):=by rfl):WL V O (.run (.binOp .geq ty x y ty2) none::is) E l H K:=zGeq hx hy h
theorem wZ (h:WL V O is (.bool (!t)::E) l H K) (hx:gS V.nG E l x=some (.bool t):=by rfl):WL V O (.run (.unOp .not ty x) none::is) E l H K:=zNot hx h
theorem wt (h:WP V O live n a l H Q) (hx:lookO V.nG l x=some (.bool t):=by rfl) (ht:t=true:=by rfl):WP V O live n (.cond x a b) l H Q:=zT hx ht h
theorem wf (h:WP V O live n b l H Q) (hx:lookO V.nG l x=some (.bool t):=by rfl) (ht:t=false:=by rfl):WP V O live n (.cond x a b) l H Q:=zF hx ht h
theorem wo (h:WL V O (.run o none::is) E l H K) (hx:gS V.nG E l x=some (.bool t):=by rfl) (hb:t=w:=by rfl):WL V O (.run o (some (x,w))::is) E l H K:=zOn hx hb h
theorem wp (h:WL V O is (v::E) l H K) (hc:gS V.nG E l x=some (.bool t):=by rfl) (hb:t=true:=by rfl) (hx:gS V.nG E l y=some v:=by rfl):WL V O (.run (.pick x y z) none::is) E l H K:=zPT hc hb hx h
theorem wq (h:WL V O is (v::E) l H K) (hc:gS V.nG E l x=some (.bool t):=by rfl) (hb:t=false:=by rfl) (hx:gS V.nG E l z=some v:=by rfl):WL V O (.run (.pick x y z) none::is) E l H K:=zPF hc hb hx h
theorem wx (h:WL V O is (undef::E) l H K) (hx:gS V.nG E l x=some (.bool t):=by rfl) (hb:t=!w:=by rfl):WL V O (.run o (some (x,w))::is) E l H K:=zOff hx hb h
end
theorem dF {p:Prop} [Decidable p] (h:¬p:=by omega):decide p=false:=decide_eq_false h
theorem dT {p:Prop} [Decidable p] (h:p:=by omega):decide p=true:=decide_eq_true h
theorem Bx.lN {V:Env}{H:AH}{b:Nat}{et:TypeId}{cs:List Value} (h:Bx H b et cs) {t:TypeId}{te:TI} (he:V.E t=some te) (ha:Desc.agg te.desc=true) {n:Nat} (hz:te.size=n) (hn:n=cs.length:=by rfl):aLoad V.E H t (.pointer (some ⟨b,0,none⟩))=some (.agg cs.toArray):=h.ldN he ha (hz.trans hn)
theorem ap1 {l l':List Nat}{n:Nat} (k:∀ b∈l',n≤b) (h:∀ b∈l,b<n):∀ b∈l',b∉l:=fun b hb h2=>by have:=k b hb;have:=h b h2;omega
theorem Fp.of {V:Env}{f:FuncId}{fn:Func}{P:PC} (h1:V.F f=some fn:=by kernel_rfl) (h2:fn.body=some (bodyOf fn):=by kernel_rfl) (h3:pcOf V fn.ntmps (some (liveOf fn (bodyOf fn))) (bodyOf fn)=some P:=by kernel_rfl):Fp V f fn P:=⟨h1,h2,h3⟩
namespace Sh
abbrev t (n:Nat):Operand:=.tmp n
abbrev g (n:Nat):Operand:=.tmp (far+n)
abbrev t0:=t 0
abbrev t1:=t 1
abbrev t2:=t 2
abbrev t3:=t 3
abbrev t4:=t 4
abbrev t5:=t 5
abbrev t6:=t 6
abbrev t7:=t 7
abbrev t8:=t 8
abbrev t9:=t 9
abbrev t10:=t 10
abbrev t11:=t 11
abbrev t12:=t 12
abbrev t13:=t 13
abbrev t14:=t 14
abbrev t15:=t 15
abbrev t16:=t 16
abbrev t17:=t 17
abbrev t18:=t 18
abbrev t19:=t 19
abbrev t20:=t 20
abbrev t21:=t 21
abbrev t22:=t 22
abbrev t23:=t 23
abbrev t24:=t 24
abbrev t25:=t 25
abbrev t26:=t 26
abbrev t27:=t 27
abbrev t29:=t 29
abbrev t30:=t 30
abbrev t32:=t 32
abbrev t33:=t 33
abbrev t34:=t 34
abbrev t35:=t 35
abbrev t36:=t 36
abbrev t37:=t 37
abbrev t38:=t 38
abbrev t39:=t 39
abbrev t40:=t 40
abbrev t41:=t 41
abbrev t43:=t 43
abbrev t44:=t 44
abbrev t45:=t 45
abbrev t46:=t 46
abbrev t47:=t 47
abbrev t48:=t 48
abbrev t49:=t 49
abbrev t50:=t 50
abbrev t51:=t 51
abbrev t52:=t 52
abbrev t53:=t 53
abbrev t55:=t 55
abbrev t56:=t 56
abbrev t57:=t 57
abbrev t58:=t 58
abbrev t59:=t 59
abbrev t60:=t 60
abbrev t61:=t 61
abbrev t63:=t 63
abbrev t64:=t 64
abbrev t65:=t 65
abbrev t66:=t 66
abbrev t68:=t 68
abbrev t69:=t 69
abbrev t70:=t 70
abbrev t73:=t 73
abbrev t74:=t 74
abbrev t76:=t 76
abbrev t79:=t 79
abbrev t80:=t 80
abbrev t82:=t 82
abbrev t83:=t 83
abbrev t85:=t 85
abbrev t89:=t 89
abbrev t91:=t 91
abbrev t94:=t 94
abbrev t95:=t 95
abbrev t96:=t 96
abbrev t97:=t 97
abbrev g0:=g 0
abbrev g1:=g 1
abbrev g2:=g 2
abbrev g3:=g 3
abbrev g4:=g 4
abbrev g5:=g 5
abbrev g6:=g 6
abbrev g7:=g 7
abbrev g8:=g 8
abbrev g9:=g 9
abbrev g10:=g 10
abbrev g11:=g 11
abbrev g12:=g 12
abbrev g13:=g 13
abbrev g14:=g 14
abbrev g15:=g 15
abbrev g16:=g 16
abbrev g17:=g 17
abbrev g18:=g 18
abbrev g19:=g 19
abbrev g21:=g 21
abbrev g22:=g 22
abbrev g23:=g 23
abbrev g26:=g 26
abbrev g27:=g 27
abbrev g28:=g 28
abbrev g32:=g 32
abbrev g33:=g 33
abbrev g34:=g 34
abbrev g35:=g 35
abbrev g36:=g 36
abbrev g37:=g 37
abbrev g38:=g 38
abbrev g45:=g 45
abbrev g46:=g 46
abbrev g47:=g 47
abbrev g55:=g 55
abbrev g66:=g 66
abbrev g67:=g 67
abbrev kT:Operand:=.const (.bool true)
abbrev kF:Operand:=.const (.bool false)
abbrev k (n:Int):Operand:=.const (.int .i64 n)
abbrev k8 (n:Int):Operand:=.const (.int .u8 n)
abbrev r (i:Op):LI:=.run i none
abbrev rT (n:Nat) (i:Op):LI:=.run i (some (.tmp n,true))
abbrev rF (n:Nat) (i:Op):LI:=.run i (some (.tmp n,false))
abbrev ld (a:TypeId) (x:Operand):Op:=.load a x
abbrev fa (a:TypeId) (x:Operand) (n:Nat):Op:=.fieldAddr a x n
abbrev ia (a:TypeId) (x y:Operand):Op:=.indexAddr a x y
abbrev ln (x:Operand) (a:TypeId):Op:=.call ⟨.builtin .len,#[x],#[a]⟩
abbrev ap (x y:Operand) (a b:TypeId):Op:=.call ⟨.builtin .append,#[x,y],#[a,b]⟩
abbrev cf (f:FuncId) (xs:Array Operand) (ts:Array TypeId):Op:=.call ⟨.value (.func f),xs,ts⟩
abbrev bo (o:BinOp) (a:TypeId) (x y:Operand) (b:TypeId):Op:=.binOp o a x y b
abbrev pk (x y z:Operand):Op:=.pick x y z
end Sh
end Go.Ev
namespace Go.Ev
open Go.RowKit
structure Mem where
 name:ByteArray
 size:Int
 first:Int
structure Fun where
 name:ByteArray
 thread:Bool
 params:Int
 regs:Int
 code:List Ins
structure Prog where
 mems:List Mem
 locks:List ByteArray
 funs:List Fun
def MemR:Rq Mem:=fun _ _ cs m=>cs=[.string m.name,.int .i64 m.size,.int .i64 m.first]
def StrR:Rq ByteArray:=fun _ _ cs s=>cs=[.string s]
def Fun.cells (f:Fun) (vc:Value):List Value:=[.string f.name,.bool f.thread,.int .i64 f.params,.int .i64 f.regs,vc]
def FunR:Rq Fun:=fun A H cs f=>∃ vc,cs=f.cells vc∧Els 6 InsR A H vc f.code
theorem MemR.m:MonoF MemR:=⟨fun _ h=>h,fun _ h=>h⟩
theorem StrR.m:MonoF StrR:=⟨fun _ h=>h,fun _ h=>h⟩
theorem FunR.m:MonoF FunR:=⟨fun k ⟨va,h1,h2⟩=>⟨va,h1,h2.frX InsR.m k⟩,fun k ⟨va,h1,h2⟩=>⟨va,h1,h2.gr InsR.m k⟩⟩
def idxI {α:Type} (p:α→Bool) (l:List α):Int:=match l.findIdx? p with
 | some i=>i
 | none=>-1
theorem idxI_none {α:Type}{p:α→Bool}{l:List α} (h:∀ j (h:j<l.length),p l[j]=false):idxI p l=-1:=by
 have:l.findIdx? p=none:=by
  rw [List.findIdx?_eq_none_iff]
  intro x hx
  obtain ⟨j,hj,rfl⟩:=List.mem_iff_getElem.1 hx
  exact h j hj
 rw [idxI,this]
theorem idxI_some {α:Type}{p:α→Bool}{l:List α}{i:Nat} (h:i<l.length) (hp:p l[i]=true) (hn:∀ j (hj:j<i),p (l[j]'(Nat.lt_trans hj h))=false):idxI p l=i:=by
 have:l.findIdx? p=some i:=by
  rw [List.findIdx?_eq_some_iff_getElem]
  exact ⟨h,hp,fun j hj=>by simp [hn j hj]⟩
 rw [idxI,this]
theorem idxI_any {α:Type} (p:α→Bool) (l:List α):decide (idxI p l≥0)=l.any p:=by
 unfold idxI
 cases h:l.findIdx? p with
 | none=>
  have:l.any p=false:=by
   rw [List.any_eq_false]
   intro x hx
   rw [List.findIdx?_eq_none_iff.1 h x hx];simp
  rw [this];rfl
 | some i=>
  obtain ⟨hi,hp,_⟩:=List.findIdx?_eq_some_iff_getElem.1 h
  have:l.any p=true:=List.any_eq_true.2 ⟨_,List.getElem_mem hi,hp⟩
  rw [this]
  exact decide_eq_true (by simp)
end Go.Ev
namespace Go.Ev
open Go.RowKit
def rng (n:Nat) (f:Nat→List Value):List Value:=(List.range n).flatMap f
section
variable {n sz:Nat}{f g:Nat→List Value}
theorem rng_succ:rng (n+1) f=rng n f++f n:=by unfold rng;rw [List.range_succ,List.flatMap_append];simp
theorem rng_len (hf:∀ k,(f k).length=sz):∀ n,(rng n f).length=n*sz
 | 0=>by simp [rng]
 | n+1=>by rw [rng_succ,List.length_append,rng_len hf n,hf,Nat.add_mul,Nat.one_mul]
theorem rng_chunk (hf:∀ k,(f k).length=sz) {k:Nat} (h:k<n):((rng n f).drop (k*sz)).take sz=f k:=by
 induction n with
 | zero=>omega
 | succ n ih=>
  rw [rng_succ]
  have hl:=rng_len hf n
  by_cases e:k=n
  ·subst e
   rw [←hl,List.drop_left,List.take_of_length_le (by rw [hf];exact Nat.le_refl _)]
  ·have hle:(k+1)*sz≤n*sz:=Nat.mul_le_mul_right sz (by omega)
   rw [Nat.add_mul,Nat.one_mul] at hle
   rw [List.drop_append_of_le_length (by omega),List.take_append_of_le_length (by rw [List.length_drop];omega)]
   exact ih (by omega)
theorem rng_congr (h:∀ k,k<n→f k=g k):rng n f=rng n g:=by
 induction n with
 | zero=>rfl
 | succ n ih=>rw [rng_succ,rng_succ,ih fun k hk=>h k (by omega),h n (by omega)]
theorem rng_splice (hf:∀ k,(f k).length=sz) {k off:Nat}{vs:List Value} (h:k<n) (hv:off+vs.length≤sz):splice (rng n f) (k*sz+off) vs=rng n (fun j=>if j=k then splice (f k) off vs else f j):=by
 induction n with
 | zero=>omega
 | succ n ih=>
  rw [rng_succ,rng_succ]
  have hl:=rng_len hf n
  unfold splice at *
  by_cases e:k=n
  ·subst e
   rw [if_pos rfl,rng_congr (f:=fun j=>if j=k then (f k).take off++vs++(f k).drop (off+vs.length) else f j) (g:=f) (fun j hj=>if_neg (by omega))]
   rw [List.take_append,List.take_of_length_le (by omega),List.drop_append,List.drop_eq_nil_of_le (by omega),List.nil_append,show k*sz+off-(rng k f).length=off by omega,show k*sz+off+vs.length-(rng k f).length=off+vs.length by omega]
   simp only [List.append_assoc]
  ·have hle:(k+1)*sz≤n*sz:=Nat.mul_le_mul_right sz (by omega)
   rw [Nat.add_mul,Nat.one_mul] at hle
   rw [if_neg (Ne.symm e),←ih (by omega),List.take_append_of_le_length (by omega),List.drop_append_of_le_length (by omega)]
   simp only [List.append_assoc]
end
theorem rng_rep (k:Nat) (x:Value):∀ n,rng n (fun _=>List.replicate k x)=List.replicate (n*k) x
 | 0=>by simp [rng]
 | n+1=>by rw [rng_succ,rng_rep k x n,List.replicate_append_replicate,Nat.add_mul,Nat.one_mul]
theorem azeros_rep {k:Nat} (hk:0<k) (x:Value) (n:Nat):azeros (List.replicate k x) n=List.replicate (n*k) x:=by
 rw [List.eq_replicate_iff]
 refine ⟨by rw [azeros_length,List.length_replicate],fun v hv=>?_⟩
 unfold azeros at hv
 obtain ⟨i,hi,rfl⟩:=List.mem_map.1 hv
 rw [List.length_replicate]
 have:i % k<(List.replicate k x).length:=by rw [List.length_replicate];exact Nat.mod_lt _ hk
 rw [List.getElem!_eq_getElem?_getD,List.getElem?_eq_getElem this,List.getElem_replicate];rfl
end Go.Ev
namespace Go.Ev
open Go.RowKit
def Vw {α:Type} (sz:Nat) (R:Rq α) (B:Av) (H:AH) (v:Value) (xs:List α):Prop:=
 ∃ b cs,v=.slice (some ⟨b,0,none⟩) xs.length xs.length∧RdA B H b 0 (xs.length*sz) cs∧∀ i (h:i<xs.length),R B H ((cs.drop (i*sz)).take sz) xs[i]
theorem RdA.len {A:Av}{H:AH}{b off n:Nat}{cs:List Value} (h:RdA A H b off n cs):cs.length=n:=h.rd.len
section
variable {α:Type}{e:TypeId}{sz n0:Nat}{R:Rq α}{B:Av}{H H':AH}{v:Value}{xs:List α}{o:Option (Nat×Nat)}
theorem Vw.els (h:Vw sz R B H v xs):Els sz R B H v xs:=by
 obtain ⟨b,cs,rfl,h1,h2⟩:=h
 exact ⟨cs,⟨h1.len,.inr ⟨b,0,xs.length,rfl,fun _=>h1⟩⟩,h2⟩
theorem Vw.frX (hm:MonoF R) (h:Vw sz R B H v xs) (k:FrX B.bs B.gs H H'):Vw sz R B H' v xs:=by
 obtain ⟨b,cs,rfl,h1,h2⟩:=h
 exact ⟨b,cs,rfl,h1.frX k,fun i hi=>hm.frX k (h2 i hi)⟩
theorem Vw.app0 (h:Vw sz R B H v xs) {y:Value} (hy:srcLen y=some 0) {V:Env}{t u:TypeId}{a b a2 b2:Nat}{z z2:Value}{te:TI} (ht:V.E t=some ⟨.slice e,a,b,z⟩) (hu:V.E u=some ⟨.slice e,a2,b2,z2⟩) (he:V.E e=some te) (hs:H.src te.size y 0=some []) {g:Ft}{x w:Operand} (hx:g x=some v) (hw:g w=some y):aopG V g H (.call ⟨.builtin .append,#[x,w],#[t,u]⟩)=some (v,H):=by
 obtain ⟨b,cs,rfl,_,_⟩:=h
 simp only [aopG,gvals,hx,hw,aBuiltin,ht,hu,he,hy,hs]
 simp [AH.app]
theorem Vw.app (hm:MonoF R) (h:Vw sz R B H v xs) (hB:B.Lt H.next) {y:Value}{ys:List α} (hs:Els sz R B H y ys) (h1:∀ {A H cs a},R A H cs a→cs.all Value.oneCell'=true) (hpos:0<ys.length) (hz:0<sz) {bytes:Nat} (hb:(xs.length+ys.length)*bytes≤140737488355328) (hl:xs.length+ys.length<4611686018427387904) (h0:n0≤H.next)
  {V:Env}{t u:TypeId}{a b a2 b2:Nat}{z z2:Value}{te:TI} (ht:V.E t=some ⟨.slice e,a,b,z⟩) (hu:V.E u=some ⟨.slice e,a2,b2,z2⟩) (he:V.E e=some te) (hsz:te.size=sz) (hby:te.bytes=bytes) :
  ∃ v' H',(∀ {g:Ft}{x w:Operand},g x=some v→g w=some y→aopG V g H (.call ⟨.builtin .append,#[x,w],#[t,u]⟩)=some (v',H'))∧OwR e sz R B H' n0 v' (xs++ys) (some (H.next,H.next))∧Fr H H':=by
 subst hsz hby
 obtain ⟨b,cs,rfl,k1,k2⟩:=h
 obtain ⟨ds,m1,m2⟩:=hs
 have hcl:=k1.len
 have hall:=all_chunks m1.1 hz fun i hi=>h1 (m2 i hi)
 have hsrc:H.src te.size y ys.length=some ds∧srcLen y=some ys.length:=by
  obtain ⟨h1,⟨rfl,h2⟩|⟨b,off,cap,rfl,h4⟩⟩:=m1
  ·omega
  ·refine ⟨?_,rfl⟩
   unfold AH.src
   simp only [if_neg (show ¬ ys.length=0 by omega)]
   exact (h4 hpos).rd.rd
 have hrd:H.rd b 0 (xs.length*te.size)=some cs:=k1.rd.rd
 refine ⟨.slice (some ⟨H.next,0,none⟩) (xs.length+ys.length) unk,H.alloc (.row e (cs++ds) .loose H.next (H.ver H.next)),fun {g x w} hx hw=>?_,⟨cs++ds,?_,fun i hi=>?_⟩,Fr.alloc _ _⟩
 ·simp only [aopG,gvals,hx,hw,aBuiltin,ht,hu,he,hsrc.1,hsrc.2,hall,if_true,AH.app]
  rw [if_neg (by omega),if_neg (fun h=>h ⟨hb,hl,hz⟩),if_neg (by unfold unk;omega),if_neg (by omega),hrd]
 ·rw [List.length_append]
  exact ⟨by rw [List.length_append,hcl,m1.1,Nat.add_mul],hl,.inr ⟨H.next,H.next,rfl,h0,h0,by simp,by simp,rfl,by simp,by omega⟩⟩
 ·rw [List.length_append] at hi
  have up:∀ {c a},R B H c a→R (B.and (.of (some (H.next,H.next)))) (H.alloc (.row e (cs++ds) .loose H.next (H.ver H.next))) c a:=fun hr=>
   hm.fr (hm.gr (B:=B.and (.of (some (H.next,H.next)))) ⟨fun b hb=>(List.mem_append.1 hb).elim .inl fun hb=>.inr (by simp [Av.of,obs] at hb;omega),fun b hb=>(List.mem_append.1 hb).elim .inl fun hb=>.inr (by simp [Av.of,ogs] at hb;omega)⟩ hr) (.alloc _ _)
  by_cases hlt:i<xs.length
  ·have hle:(i+1)*te.size≤xs.length*te.size:=Nat.mul_le_mul_right _ hlt
   rw [Nat.add_mul,Nat.one_mul] at hle
   rw [List.drop_append_of_le_length (by omega),List.take_append_of_le_length (by rw [List.length_drop];omega),List.getElem_append_left hlt]
   exact up (k2 i hlt)
  ·have hge:xs.length*te.size≤i*te.size:=Nat.mul_le_mul_right _ (by omega)
   rw [List.drop_append,List.drop_eq_nil_of_le (by omega),List.nil_append,hcl,←Nat.sub_mul,List.getElem_append_right (by omega)]
   exact up (m2 (i-xs.length) (by omega))
theorem chunk_take {cs:List Value}{i k:Nat} (h:i<k):((cs.take (k*sz)).drop (i*sz)).take sz=(cs.drop (i*sz)).take sz:=by
 have hle:(i+1)*sz≤k*sz:=Nat.mul_le_mul_right sz h
 rw [Nat.add_mul,Nat.one_mul] at hle
 rw [List.drop_take,List.take_take,Nat.min_eq_left (by omega)]
theorem chunk_drop {cs:List Value}{i k:Nat}:((cs.drop (k*sz)).drop (i*sz)).take sz=(cs.drop ((k+i)*sz)).take sz:=by
 rw [List.drop_drop,Nat.add_mul]
theorem bound_nat {kd:IntKind}{i y:Nat} (h:i≤y):bound (.int kd (i:Int)) y=some i:=by
 simp only [bound];rw [if_pos ⟨by omega,by omega⟩];rfl
theorem RdA.sub {A:Av}{b off n:Nat}{cs:List Value} (h:RdA A H b off n cs) (i m:Nat) (hm:i+m≤n):RdA A H b (off+i) m ((cs.drop i).take m):=by
 obtain ⟨h0,et,cells,st,g,v,h1,h2,h3,h4,rfl⟩:=h
 refine ⟨h0,et,cells,st,g,v,h1,h2,h3,by omega,?_⟩
 rw [List.drop_take,List.take_take,Nat.min_eq_left (by omega),List.drop_drop]
def Cut (V:Env) (t:TypeId) (sz:Nat) (R:Rq α) (B:Av) (H:AH) (v:Value) (xs:List α) (k:Nat):Prop:=
 ∃ s1 s2,aSlice V.E H t v none (some (.int .i64 k)) (some (.int .i64 k))=some s1∧aSlice V.E H t v (some (.int .i64 ((k:Int)+1))) none none=some s2∧Vw sz R B H s1 (xs.take k)∧Els sz R B H s2 (xs.drop (k+1))∧(xs.length=k+1→srcLen s2=some 0∧∀ m,H.src m s2 0=some [])
theorem OwR.cut (hm:MonoF R) (h:OwR e sz R B H n0 v xs o) (hb:∀ b∈obs o,b∉B.bs) (hg:∀ g∈ogs o,g∉B.gs) {k:Nat} (hk:k<xs.length) (hz:0<sz) {V:Env}{t:TypeId}{a b:Nat}{z:Value}{te:TI} (ht:V.E t=some ⟨.slice e,a,b,z⟩) (he:V.E e=some te) (hsz:te.size=sz):Cut V t sz R B H v xs k:=by
 subst hsz
 have hels:=h.els hm hb hg
 obtain ⟨cs,⟨hc,hlt,⟨_,h0,_⟩|⟨b,g,rfl,h3,h4,h5,h6,rfl,h7,h8⟩⟩,hR⟩:=h
 ·omega
 have hro:H.rowOf b e=some cs:=by
  unfold AH.rowOf
  rw [AH.lo_lt h5,h7]
  simp [AH.alive]
 have hre:xs.length≤reach cs 0 te.size xs.length:=Nat.le_max_left _ _
 have hrd:RdA B H b 0 (xs.length*te.size) cs:=⟨hb b (by simp [obs]),e,cs,.loose,g,_,h5,h7,.inr (.inr ⟨h6,hg g (by simp [ogs]),rfl⟩),by omega,by rw [←hc];simp⟩
 have hle:(k+1)*te.size≤xs.length*te.size:=Nat.mul_le_mul_right _ hk
 have hkk:k*te.size≤(k+1)*te.size:=Nat.mul_le_mul_right _ (by omega)
 have hkp:0<(k+1)*te.size:=Nat.mul_pos (by omega) hz
 have hR':∀ i (h:i<xs.length),R B H ((cs.drop (i*te.size)).take te.size) xs[i]:=fun i hi=>hm.gr .left (hR i hi)
 refine ⟨.slice (some ⟨b,0,none⟩) k k,.slice (some ⟨b,(k+1)*te.size,none⟩) (xs.length-(k+1)) unk,?_,?_,⟨b,cs.take (k*te.size),by rw [List.length_take,Nat.min_eq_left (by omega)],?_,fun i hi=>?_⟩,⟨cs.drop ((k+1)*te.size),⟨by rw [List.length_drop,List.length_drop,hc,←Nat.sub_mul],.inr ⟨b,(k+1)*te.size,unk,by rw [List.length_drop],fun _=>?_⟩⟩,fun i hi=>?_⟩,fun hn=>?_⟩
 ·simp only [aSlice,ht,he,Option.isSome_some,Option.isNone_some,Bool.and_false,Bool.false_eq_true,if_false,if_true]
  rw [if_neg (by omega),hro]
  simp only [bound_nat (kd:=.i64) (Nat.le_trans (Nat.le_of_lt hk) hre)]
  rw [if_neg (by unfold unk;omega)]
  simp only [optBound,bound_nat (kd:=.i64) (Nat.le_refl k),Nat.sub_zero]
  by_cases hk0:k=0
  ·rw [if_pos hk0]
  ·rw [if_neg hk0];simp
 ·have:=slice_unk (n:=xs.length) hro ht he hz (lo:=some (.int .i64 ((k+1:Nat):Int))) (hi:=none) (h:=xs.length) rfl (bound_int (k:=.i64) (by omega)).1
  rw [if_neg (by omega)] at this
  exact this
 ·have:=hrd.sub 0 (k*te.size) (by omega)
  rw [List.length_take,Nat.min_eq_left (by omega)]
  simpa using this
 ·rw [List.length_take] at hi
  rw [List.getElem_take,chunk_take (by omega)]
  exact hR' i (by omega)
 ·have:=hrd.sub ((k+1)*te.size) ((xs.length-(k+1))*te.size) (by rw [Nat.sub_mul];omega)
  rw [Nat.zero_add] at this
  rw [List.length_drop]
  rwa [List.take_of_length_le (by rw [List.length_drop,hc,←Nat.sub_mul];exact Nat.le_refl _)] at this
 ·rw [List.length_drop] at hi
  rw [chunk_drop,List.getElem_drop]
  exact hR' _ (by omega)
 ·have:xs.length-(k+1)=0:=by omega
  rw [this]
  exact ⟨rfl,fun m=>by simp [AH.src]⟩
theorem Vw.cut (h:Vw sz R B H v xs) (hlt:xs.length<4611686018427387904) {k:Nat} (hk:k<xs.length) (hz:0<sz) {V:Env}{t:TypeId}{a b:Nat}{z:Value}{te:TI} (ht:V.E t=some ⟨.slice e,a,b,z⟩) (he:V.E e=some te) (hsz:te.size=sz):Cut V t sz R B H v xs k:=by
 subst hsz
 obtain ⟨b,cs,rfl,hrd,hR'⟩:=h
 have hc:=hrd.len
 have hle:(k+1)*te.size≤xs.length*te.size:=Nat.mul_le_mul_right _ hk
 have hkk:k*te.size≤(k+1)*te.size:=Nat.mul_le_mul_right _ (by omega)
 refine ⟨.slice (some ⟨b,0,none⟩) k k,.slice (some ⟨b,if xs.length=k+1 then 0 else (k+1)*te.size,none⟩) (xs.length-(k+1)) (xs.length-(k+1)),?_,?_,⟨b,cs.take (k*te.size),by rw [List.length_take,Nat.min_eq_left (by omega)],?_,fun i hi=>?_⟩,⟨cs.drop ((k+1)*te.size),⟨by rw [List.length_drop,List.length_drop,hc,←Nat.sub_mul],.inr ⟨b,_,_,by rw [List.length_drop],fun hp=>?_⟩⟩,fun i hi=>?_⟩,fun hn=>?_⟩
 ·simp only [aSlice,ht,he,Option.isSome_some,Option.isNone_some,Bool.and_false,Bool.false_eq_true,if_false]
  rw [if_neg (by unfold unk;omega)]
  simp only [optBound,bound_nat (kd:=.i64) (Nat.le_of_lt hk),bound_nat (kd:=.i64) (Nat.le_refl k),Nat.sub_zero]
  by_cases hk0:k=0
  ·rw [if_pos hk0]
  ·rw [if_neg hk0];simp
 ·simp only [aSlice,ht,he,Option.isSome_none,Bool.false_and,Bool.false_eq_true,if_false]
  rw [if_neg (by unfold unk;omega)]
  have:=bound_nat (kd:=.i64) (i:=k+1) (y:=xs.length) (by omega)
  rw [show ((k+1:Nat):Int)=(k:Int)+1 by omega] at this
  simp only [optBound,this,Nat.zero_add]
 ·have:=hrd.sub 0 (k*te.size) (by omega)
  rw [List.length_take,Nat.min_eq_left (by omega)]
  simpa using this
 ·rw [List.length_take] at hi
  rw [List.getElem_take,chunk_take (by omega)]
  exact hR' i (by omega)
 ·rw [List.length_drop] at hp
  rw [if_neg (by omega)]
  have:=hrd.sub ((k+1)*te.size) ((xs.length-(k+1))*te.size) (by rw [Nat.sub_mul];omega)
  rw [Nat.zero_add] at this
  rw [List.length_drop]
  rwa [List.take_of_length_le (by rw [List.length_drop,hc,←Nat.sub_mul];exact Nat.le_refl _)] at this
 ·rw [List.length_drop] at hi
  rw [chunk_drop,List.getElem_drop]
  exact hR' _ (by omega)
 ·have:xs.length-(k+1)=0:=by omega
  rw [this]
  exact ⟨rfl,fun m=>by simp [AH.src]⟩
end
def Av.old (n:Nat):Av:=⟨List.range n,List.range n⟩
theorem Av.old_lt {n:Nat}:(Av.old n).Lt n:=⟨fun _ h=>List.mem_range.1 h,fun _ h=>List.mem_range.1 h⟩
theorem Av.old_gr {B:Av}{n m:Nat} (h:B.Lt n):(Av.old n).Gr B m:=⟨fun b hb=>.inl (List.mem_range.2 (h.1 b hb)),fun b hb=>.inl (List.mem_range.2 (h.2 b hb))⟩
theorem Sr.isSl {A:Av}{H:AH}{v:Value}{sz n:Nat}{cs:List Value} (h:Sr A H v sz n cs):∃ a n c,v=.slice a n c:=by
 obtain ⟨_,⟨rfl,_⟩|⟨b,off,cap,rfl,_⟩⟩:=h<;>exact ⟨_,_,_,rfl⟩
theorem sameV_sl {a:Option Addr}{n c:Nat}:sameV (.slice a n c) (.slice a n c)=true:=by cases a<;>simp [sameV,same0]
theorem sameV_int {k:IntKind}{n:Int}:sameV (.int k n) (.int k n)=true:=by simp [sameV,same0]
end Go.Ev
namespace Go.Ev
open Go.RowKit Go.Sort Go.Shelf
open Go.Proofs (encStr)
theorem Step.to {P:Program}{B0:Nat}{ι ι':Emb}{H H':AH}{w w1 w2:World} (h:Step P B0 ι H w ι' H' w1) (hs:w1.heap.size≤w2.heap.size) (hh:∀ k,k<w1.heap.size→w2.heap[k]?=w1.heap[k]?) (ho:w2.os=w1.os) (ht:w2.tape=w1.tape) (hp:w2.output=w1.output):Step P B0 ι H w ι' H' w2 where
 le:=h.le
 new:=h.new
 next:=h.next
 rel :=
  {base:=Nat.le_trans h.rel.base hs
   dom:=h.rel.dom
   obj:=fun b l hb ha=>(h.rel.obj b l hb ha).carry (Emb.le_refl _) (hh _ ((h.rel.obj b l hb ha).lt ha))
   sep:=h.rel.sep
   grp:=h.rel.grp }
 size:=Nat.le_trans h.size hs
 frame:=fun c hc hn=>(hh c (Nat.lt_of_lt_of_le hc h.size)).trans (h.frame c hc hn)
 low:=fun c hc=>by
  by_cases e:c<w1.heap.size
  ·exact (hh c e).trans (h.low c hc)
  ·have:=h.rel.base;omega
 fresh:=h.fresh
 old:=h.old
 loc:=h.loc
 os:=ho.trans h.os
 tape:=ht.trans h.tape
 output:=hp.trans h.output
section
variable {α:Type} [Inhabited α] {enc:α→Value}
theorem putCells_get (O:Nat) (d:List α) (cs:Array Value) (j:Nat):(putCells enc O d.toArray cs)[j]?=if O≤j∧j<O+d.length then (if j<cs.size then (d.map enc)[j-O]? else none) else cs[j]?:=by
 unfold putCells
 rw [Array.getElem?_mapIdx]
 by_cases hj:j<cs.size
 ·rw [Array.getElem?_eq_getElem hj,Option.map_some]
  by_cases h:O≤j∧j<O+d.length
  ·have h2:j-O<d.length:=by omega
   rw [if_pos (by simpa using h),if_pos h,if_pos hj,List.getElem?_map,List.getElem?_eq_getElem h2,Option.map_some]
   congr 2
   simp [h2]
  ·rw [if_neg (by simpa using h),if_neg h]
 ·rw [Array.getElem?_eq_none (by omega)]
  simp [hj]
variable {P:Program}{B0:Nat}{ι:Emb}{w:World}{H H':AH}{b off:Nat}{l:ILoc}{et:TypeId}{cells:List Value}{st:RowSt}{g v:Nat}{zs ys:List α}
structure RowHas (enc:α→Value) (H:AH) (b off:Nat) (zs:List α):Prop where
 ex:∃ et cells st g v,H.obj b=.row et cells st g v∧H.alive (H.obj b)=true∧st.writes=true∧off+zs.length≤cells.length∧(cells.drop off).take zs.length=zs.map enc
theorem RowHas.holds (he:∀ x,plain (enc x)=true) (h:RowHas enc H b off zs) (hR:HRel P B0 ι H w) (hb:ι b=some l):Holds enc w l.blk (l.base+off) zs.toArray∧l.blk<w.heap.size:=by
 obtain ⟨et,cells,st,g,v,ho,ha,hst,hfit,hz⟩:=h.ex
 have hO:=hR.obj b l hb ha
 rw [ho] at hO
 have hO':RowOk P B0 ι w l et cells st:=hO
 obtain ⟨cs,t,fr,hc,hs,h3,h4⟩:=hO'.ex
 have hfits:=hO'.fits
 refine ⟨fun j hj=>?_,(Array.getElem?_eq_some_iff.1 hc).1⟩
 have hj':j<zs.length:=by simpa using hj
 have e1:cells[off+j]?=some (enc zs[j]!):=by
  have:=congrArg (·[j]?) hz
  simp only [List.getElem?_take,if_pos hj',List.getElem?_drop,List.getElem?_map] at this
  rw [this,List.getElem?_eq_getElem hj',Option.map_some]
  simp [hj']
 obtain ⟨y,k1,k2⟩:=h3 _ _ e1
 have k2:=k2.plain_eq (he _)
 subst k2
 refine ⟨?_,?_⟩
 ·simp only [World.cell?,hc]
  rw [Nat.add_assoc,k1]
  simp [hj']
 ·have:=h4 hst (l.base+off+j) (by omega)
  simp only [World.frozen?,hc]
  cases hx:(decide (fr.1≤l.base+off+j)&&decide (l.base+off+j<fr.2)) with
  | false=>rfl
  | true=>simp at hx;exact absurd hx this
theorem put_step (he:∀ x,plain (enc x)=true) (he1:∀ x,Value.oneCell' (enc x)=true) (h:RowHas enc H b off zs) (hR:HRel P B0 ι H w) (hb:ι b=some l) (hl:ys.length=zs.length) (hw:H.wr b off (ys.map enc)=some H') (n:Nat) (os:Array Obj) :
  Step P B0 ι H w ι H' (grow (putRow enc (Go.Sort.ahead w n) l.blk (l.base+off) ys.toArray) os):=by
 obtain ⟨et,cells,st,g,v,ho,ha,hst,hfit,hz⟩:=h.ex
 have hO:=hR.obj b l hb ha
 rw [ho] at hO
 have hO':RowOk P B0 ι w l et cells st:=hO
 obtain ⟨cs,t,fr,hc,hs,h3,h4⟩:=hO'.ex
 have hfits:=hO'.fits
 have hone:∀ v,v∈ys.map enc→v.oneCell'=true:=fun v hv=>by
  obtain ⟨z,_,rfl⟩:=List.mem_map.1 hv;exact he1 z
 obtain ⟨w2,hr2,hstep⟩:=hR.storeCells hb (vs:=ys.map enc) (vs':=ys.map enc) (LRel.of_plain fun v hv=>by
  obtain ⟨z,_,rfl⟩:=List.mem_map.1 hv;exact he z) hone hw
 obtain ⟨w3,cs',hr3,k1,k2,k3,k4,k5,k6,k7,k8⟩:=run_storeCells (P:=P) (t:=t) (fr:=fr) (ys.map enc) (l.base+off) 0 w cs hc (by rw [List.length_map,hl,hs];omega) (by rw [hs];exact h4 hst) hone
 rw [hr2] at hr3
 cases hr3
 have hheap:∀ k:Nat,(putRow enc (Go.Sort.ahead w n) l.blk (l.base+off) ys.toArray).heap[k]?=w2.heap[k]?:=fun k=>by
  show (w.heap.modify l.blk (onCells (putCells enc (l.base+off) ys.toArray)))[k]?=w2.heap[k]?
  rw [Array.getElem?_modify]
  by_cases e:l.blk=k
  ·subst e
   rw [if_pos rfl,hc,k1,Option.map_some]
   simp only [onCells]
   congr 2
   apply Array.ext_getElem?
   intro j
   rw [putCells_get,k3]
   simp only [Nat.add_zero,List.length_map]
   by_cases h:l.base+off≤j∧j<l.base+off+ys.length
   ·rw [if_pos h,if_pos h,if_pos (by omega)]
   ·rw [if_neg h,if_neg h]
  ·rw [if_neg e,k4 k (Ne.symm e)]
 have hsize:(putRow enc (Go.Sort.ahead w n) l.blk (l.base+off) ys.toArray).heap.size=w2.heap.size:=by rw [size_putRow,k5];rfl
 refine hstep.to ?_ (fun k hk=>?_) k6.symm k7.symm k8.symm
 ·show _≤(grow _ os).heap.size
  rw [size_grow];omega
 ·show ((putRow enc (Go.Sort.ahead w n) l.blk (l.base+off) ys.toArray).heap++os)[k]?=_
  rw [Array.getElem?_append_left (by omega)]
  exact hheap k
end
theorem slice_cases {ι:Emb}{b off n cap:Nat}{v':Value} (h:VRel ι (.slice (some ⟨b,off,none⟩) n cap) v') :
  (∃ l c,ι b=some l∧v'=.slice (some ⟨l.blk,l.base+off,none⟩) n c∧n≤c∧∀ m,m≤n→VRel ι (.slice (some ⟨b,off,none⟩) m cap) (.slice (some ⟨l.blk,l.base+off,none⟩) m c))∨(n=0∧∃ a,v'=.slice (some a) 0 0∧VRel ι (.slice (some ⟨b,off,none⟩) n cap) v'):=by
 cases h with
 | slice h hc hl=>exact .inl ⟨_,_,h,rfl,hl,fun m hm=>.slice h hc (Nat.le_trans hm hl)⟩
 | sliceUnk h hl hs he=>exact .inl ⟨_,_,h,rfl,hl,fun m hm=>.sliceUnk h (Nat.le_trans hm hl) hs he⟩
 | sliceEnd a h hs=>exact .inr ⟨rfl,a,rfl,.sliceEnd a h hs⟩
 | sliceZ a=>exact .inr ⟨rfl,a,rfl,.sliceZ a⟩
def srt (zs:List (List UInt8)):List (List UInt8):=zs.mergeSort fun x y=>decide (x≤y)
theorem srt_length (zs:List (List UInt8)):(srt zs).length=zs.length:=List.length_mergeSort zs
theorem srt_nil:srt []=[]:=List.length_eq_zero_iff.1 (srt_length [])
def cpt (zs:List (List UInt8)):List (List UInt8):=Lib.compact zs++List.replicate (zs.length-(Lib.compact zs).length) []
theorem cpt_length (zs:List (List UInt8)):(cpt zs).length=zs.length:=by
 have:=Lib.compact_length_le zs
 simp [cpt];omega
theorem cpt_nil:cpt []=[]:=List.length_eq_zero_iff.1 (cpt_length [])
theorem plain_str (z:List UInt8):plain (encStr z)=true:=rfl
theorem one_str (z:List UInt8):Value.oneCell' (encStr z)=true:=rfl
theorem sort_sound {V:Env}{ρ:Ren} (L:Go.Proofs.Lays.n190 V.P ρ) {H H':AH}{b off cap:Nat}{zs:List (List UInt8)} (ho:RowHas encStr H b off zs) (hsz:zs.length<4611686018427387904) (hw:H.wr b off ((srt zs).map encStr)=some H') :
  Sound V (.fn (ρ.f 190)) [.slice (some ⟨b,off,none⟩) zs.length cap] H (.tuple #[]) H':=by
 intro B0 ι w vs' hG hR hL
 cases hL with
 | cons hv ht=>
 cases ht
 rcases slice_cases hv with ⟨l,c,hb,rfl,hc,_⟩|⟨h0,a,rfl,_⟩
 ·obtain ⟨hH,hlt⟩:=ho.holds plain_str hR hb
  refine (calls_of_every_depth fun D=>Go.Proofs.AnyS.slices_Sort_string_alone L D l.blk (l.base+off) c zs w hH hlt hsz).mono fun e w' h=>?_
  obtain ⟨rfl,n,os,rfl⟩:=h
  exact ⟨_,ι,rfl,.tuple rfl (fun i h _=>by simp at h),put_step plain_str one_str ho hR hb (srt_length zs) hw n os⟩
 ·have hnil:zs=[]:=List.length_eq_zero_iff.1 h0
  subst hnil
  rw [srt_nil] at hw
  simp [AH.wr] at hw
  subst hw
  exact (calls_of_every_depth fun D=>Go.Proofs.AnyS.slices_Sort_string_none_alone L D (some a) 0 w).mono fun e w' h=>by
   obtain ⟨rfl,rfl⟩:=h
   exact ⟨_,ι,rfl,.tuple rfl (fun i h _=>by simp at h),Step.refl hR⟩
theorem sort_sound_nil {V:Env}{ρ:Ren} (L:Go.Proofs.Lays.n190 V.P ρ) {H:AH}:Sound V (.fn (ρ.f 190)) [.slice none 0 0] H (.tuple #[]) H:=by
 intro B0 ι w vs' hG hR hL
 cases hL with
 | cons hv ht=>
 cases ht
 cases hv
 exact (calls_of_every_depth fun D=>Go.Proofs.AnyS.slices_Sort_string_none_alone L D none 0 w).mono fun e w' h=>by
  obtain ⟨rfl,rfl⟩:=h
  exact ⟨_,ι,rfl,.tuple rfl (fun i h _=>by simp at h),Step.refl hR⟩
theorem compact_sound {V:Env}{ρ:Ren} (L:Go.Proofs.Lays.n194 V.P ρ) {H H':AH}{b off cap:Nat}{zs:List (List UInt8)} (ho:RowHas encStr H b off zs) (hsz:zs.length<4611686018427387904) (hw:H.wr b off ((cpt zs).map encStr)=some H') :
  Sound V (.fn (ρ.f 194)) [.slice (some ⟨b,off,none⟩) zs.length cap] H (.slice (some ⟨b,off,none⟩) (Lib.compact zs).length cap) H':=by
 intro B0 ι w vs' hG hR hL
 cases hL with
 | cons hv ht=>
 cases ht
 have hle:=Lib.compact_length_le zs
 rcases slice_cases hv with ⟨l,c,hb,rfl,hc,hk⟩|⟨h0,a,rfl,hv0⟩
 ·obtain ⟨hH,hlt⟩:=ho.holds plain_str hR hb
  refine (calls_of_every_depth fun D=>Go.Proofs.AnyS.slices_Compact_string_in L D l.blk (l.base+off) c zs w hH (by omega) hc).mono fun e w' h=>?_
  obtain ⟨rfl,q,rfl⟩:=h
  have:=put_step plain_str one_str ho hR hb (cpt_length zs) hw q #[]
  rw [grow_empty] at this
  exact ⟨_,ι,rfl,hk _ hle,this⟩
 ·have hnil:zs=[]:=List.length_eq_zero_iff.1 h0
  subst hnil
  rw [cpt_nil] at hw
  simp [AH.wr] at hw
  subst hw
  have h1:(Lib.compact ([]:List (List UInt8))).length=0:=by simp only [List.length_nil] at hle;omega
  exact (calls_of_every_depth fun D=>Go.Proofs.AnyS.slices_Compact_string_empty_in L D (some a) 0 w).mono fun e w' h=>by
   obtain ⟨rfl,rfl⟩:=h
   exact ⟨_,ι,rfl,by rw [h1];exact hv0,Step.refl hR⟩
theorem compact_sound_nil {V:Env}{ρ:Ren} (L:Go.Proofs.Lays.n194 V.P ρ) {H:AH}:Sound V (.fn (ρ.f 194)) [.slice none 0 0] H (.slice none 0 0) H:=by
 intro B0 ι w vs' hG hR hL
 cases hL with
 | cons hv ht=>
 cases ht
 cases hv
 exact (calls_of_every_depth fun D=>Go.Proofs.AnyS.slices_Compact_string_empty_in L D none 0 w).mono fun e w' h=>by
  obtain ⟨rfl,rfl⟩:=h
  exact ⟨_,ι,rfl,.sliceNil,Step.refl hR⟩
inductive SortRel:List Value→AH→Value×AH→Prop
 | nil {H:AH}:SortRel [.slice none 0 0] H (.tuple #[],H)
 | made {H H':AH}{b off cap:Nat}{zs:List (List UInt8)} (ho:RowHas encStr H b off zs) (hsz:zs.length<4611686018427387904) (hw:H.wr b off ((srt zs).map encStr)=some H'):SortRel [.slice (some ⟨b,off,none⟩) zs.length cap] H (.tuple #[],H')
inductive CompRel:List Value→AH→Value×AH→Prop
 | nil {H:AH}:CompRel [.slice none 0 0] H (.slice none 0 0,H)
 | made {H H':AH}{b off cap:Nat}{zs:List (List UInt8)} (ho:RowHas encStr H b off zs) (hsz:zs.length<4611686018427387904) (hw:H.wr b off ((cpt zs).map encStr)=some H'):CompRel [.slice (some ⟨b,off,none⟩) zs.length cap] H (.slice (some ⟨b,off,none⟩) (Lib.compact zs).length cap,H')
theorem RowHas.uniq {H:AH}{b off:Nat}{zs ys:List (List UInt8)} (h:RowHas encStr H b off zs) (k:RowHas encStr H b off ys) (hl:zs.length=ys.length):zs=ys:=by
 obtain ⟨et,cells,st,g,v,ho,ha,hst,hfit,hz⟩:=h.ex
 obtain ⟨et',cells',st',g',v',ho',ha',hst',hfit',hz'⟩:=k.ex
 rw [ho] at ho'
 cases ho'
 rw [hl] at hz
 rw [hz] at hz'
 refine (List.map_inj_right fun x y hxy=>?_).1 hz'
 have:x.toArray=y.toArray:=by
  have:=hxy
  simp only [encStr,Value.string.injEq,ByteArray.mk.injEq] at this
  exact this
 simpa using this
theorem sortRel_uniq {vs:List Value}{H:AH}{r s:Value×AH} (h:SortRel vs H r) (k:SortRel vs H s):r=s:=by
 cases h with
 | nil=>
  generalize hvs:[Value.slice none 0 0]=vs at k
  cases k with
  | nil=>rfl
  | made ho' hsz' hw'=>cases hvs
 | made ho hsz hw=>
  rename_i H1 b off cap zs
  generalize hvs:[Value.slice (some ⟨b,off,none⟩) zs.length cap]=vs at k
  cases k with
  | nil=>cases hvs
  | made ho' hsz' hw'=>
   simp only [List.cons.injEq,Value.slice.injEq,Option.some.injEq,Addr.mk.injEq,and_true] at hvs
   obtain ⟨⟨rfl,rfl⟩,hl,rfl⟩:=hvs
   obtain rfl:=ho.uniq ho' hl
   rw [hw] at hw'
   cases hw';rfl
theorem compRel_uniq {vs:List Value}{H:AH}{r s:Value×AH} (h:CompRel vs H r) (k:CompRel vs H s):r=s:=by
 cases h with
 | nil=>
  generalize hvs:[Value.slice none 0 0]=vs at k
  cases k with
  | nil=>rfl
  | made ho' hsz' hw'=>cases hvs
 | made ho hsz hw=>
  rename_i H1 b off cap zs
  generalize hvs:[Value.slice (some ⟨b,off,none⟩) zs.length cap]=vs at k
  cases k with
  | nil=>cases hvs
  | made ho' hsz' hw'=>
   simp only [List.cons.injEq,Value.slice.injEq,Option.some.injEq,Addr.mk.injEq,and_true] at hvs
   obtain ⟨⟨rfl,rfl⟩,hl,rfl⟩:=hvs
   obtain rfl:=ho.uniq ho' hl
   rw [hw] at hw'
   cases hw';rfl
open Classical in
noncomputable def orcRel (f:FuncId) (R:List Value→AH→Value×AH→Prop) (rest:Orc):Orc:=fun g vs H=>if g=f then (if h:∃ r,R vs H r then some (Classical.choose h) else none) else rest g vs H
theorem orcRel_ok {V:Env}{f:FuncId}{R:List Value→AH→Value×AH→Prop}{rest:Orc} (h:∀ vs H r,R vs H r→Sound V (.fn f) vs H r.1 r.2) (hr:OrcOk V rest):OrcOk V (orcRel f R rest):=fun g vs H v H' hu=>by
 unfold orcRel at hu
 split at hu
 ·rename_i e
  subst e
  split at hu
  ·rename_i hx
   have:=Classical.choose_spec hx
   cases hu':Classical.choose hx with
   |mk a b =>
    rw [hu'] at this
    simp only [hu',Option.some.injEq,Prod.mk.injEq] at hu
    obtain ⟨rfl,rfl⟩:=hu
    exact h _ _ _ this
  ·cases hu
 ·exact hr _ _ _ _ _ hu
theorem orcRel_eq {f:FuncId}{R:List Value→AH→Value×AH→Prop}{rest:Orc} (hu:∀ {vs H r s},R vs H r→R vs H s→r=s) {vs:List Value}{H:AH}{r:Value×AH} (h:R vs H r):orcRel f R rest f vs H=some r:=by
 unfold orcRel
 have hx:∃ r,R vs H r:=⟨r,h⟩
 rw [if_pos rfl,dif_pos hx,hu (Classical.choose_spec hx) h]
theorem orcRel_ne {f g:FuncId}{R:List Value→AH→Value×AH→Prop}{rest:Orc} (h:g≠f) (vs:List Value) (H:AH):orcRel f R rest g vs H=rest g vs H:=by
 unfold orcRel;rw [if_neg h]
noncomputable def orcNil:Orc:=fun _ _ _=>none
theorem orcNil_ok {V:Env}:OrcOk V orcNil:=fun _ _ _ _ _ h=>by cases h
def strs (l:List ByteArray):List Value:=l.map fun s=>.string s
def bL (l:List ByteArray):List (List UInt8):=l.map fun s=>s.data.toList
theorem enc_bL (l:List ByteArray):(bL l).map encStr=strs l:=by
 unfold bL strs
 rw [List.map_map]
 apply List.map_congr_left
 intro s _
 simp [encStr]
theorem bL_length (l:List ByteArray):(bL l).length=l.length:=List.length_map _
def lB (l:List (List UInt8)):List ByteArray:=l.map fun z=>⟨z.toArray⟩
theorem strs_lB (l:List (List UInt8)):strs (lB l)=l.map encStr:=by
 unfold strs lB
 rw [List.map_map];rfl
theorem lB_length (l:List (List UInt8)):(lB l).length=l.length:=List.length_map _
section
variable {H:AH}{n0:Nat}{e:TypeId}{v:Value}{l:List ByteArray}{o:Option (Nat×Nat)}
theorem Ow.rowHas (h:Ow H n0 e 1 v l.length (strs l) o) (hl:l≠[]):∃ b g,o=some (b,g)∧v=.slice (some ⟨b,0,none⟩) (bL l).length unk∧RowHas encStr H b 0 (bL l):=by
 obtain ⟨h1,h2,⟨_,h0,_⟩|⟨b,g,rfl,h4,h5,h6,h7,rfl,h9,h10⟩⟩:=h
 ·exact absurd (List.length_eq_zero_iff.1 h0) hl
 ·refine ⟨b,g,rfl,by rw [bL_length],e,strs l,.loose,g,_,h9,by rw [h9];simp [AH.alive],rfl,by rw [bL_length];omega,?_⟩
  rw [enc_bL,bL_length,List.drop_zero,List.take_of_length_le (by omega)]
theorem Ow.rewr (h:Ow H n0 e 1 v l.length (strs l) o) (hl:l≠[]) {ys:List (List UInt8)} (hy:ys.length=l.length):∃ b g H',o=some (b,g)∧H.wr b 0 (ys.map encStr)=some H'∧Ow H' n0 e 1 v l.length (strs (lB ys)) o∧FrX (obs o) (ogs o) H H'∧H'.next=H.next:=by
 have hc:=h.1
 have hpos:0<l.length:=List.length_pos_iff.2 hl
 obtain ⟨b,g,H',k1,k2,k3,k4,k5,k6⟩:=h.wr (off:=0) (vs:=ys.map encStr) (fun e=>by
  have:=congrArg List.length e
  simp at this;rw [this] at hy;simp at hy;omega) (by simp;omega)
 refine ⟨b,g,H',k1,k3,?_,k5,k6⟩
 rw [strs_lB]
 have:splice (strs l) 0 (ys.map encStr)=ys.map encStr:=by
  unfold splice
  rw [List.take_zero,List.nil_append,List.drop_eq_nil_of_le (by simp;omega),List.append_nil]
 rw [this] at k4
 exact k4
theorem Ow.sortRel (h:Ow H n0 e 1 v l.length (strs l) o):∃ H',SortRel [v] H (.tuple #[],H')∧Ow H' n0 e 1 v l.length (strs (lB (srt (bL l)))) o∧FrX (obs o) (ogs o) H H'∧H'.next=H.next:=by
 by_cases hl:l=[]
 ·subst hl
  have:=h.isNil
  subst this
  refine ⟨H,.nil,?_,.refl _ _ _,rfl⟩
  have:lB (srt (bL []))=[]:=List.length_eq_zero_iff.1 (by rw [lB_length,srt_length];rfl)
  rw [this];exact h
 ·obtain ⟨b,g,rfl,rfl,hR⟩:=h.rowHas hl
  obtain ⟨b',g',H',k1,k2,k3,k4,k5⟩:=h.rewr hl (ys:=srt (bL l)) (by rw [srt_length,bL_length])
  cases k1
  exact ⟨H',.made hR (by rw [bL_length];exact h.2.1) k2,k3,k4,k5⟩
theorem Ow.compRel (h:Ow H n0 e 1 v l.length (strs l) o):∃ a c H',CompRel [v] H (.slice a (Lib.compact (bL l)).length c,H')∧FrX (obs o) (ogs o) H H'∧H'.next=H.next:=by
 by_cases hl:l=[]
 ·subst hl
  have:=h.isNil
  subst this
  have h1:(Lib.compact (bL [])).length=0:=by have:=Lib.compact_length_le (bL []);rw [bL_length] at this;simp only [List.length_nil] at this;omega
  rw [h1]
  exact ⟨none,0,H,.nil,.refl _ _ _,rfl⟩
 ·obtain ⟨b,g,rfl,rfl,hR⟩:=h.rowHas hl
  obtain ⟨b',g',H',k1,k2,k3,k4,k5⟩:=h.rewr hl (ys:=cpt (bL l)) (by rw [cpt_length,bL_length])
  cases k1
  exact ⟨_,_,H',.made hR (by rw [bL_length];exact h.2.1) k2,k4,k5⟩
end
end Go.Ev
namespace Go.Ev
open Go.RowKit Go.Sort Go.Shelf
open Go.Proofs (encStr)
def tab116 (P:Program) (t:TypeId):Prop:=(P.info? t).map (fun i=>(i.zero,i.size))=some (some (.agg (Array.replicate 256 (.bool false))),256)
inductive TrimRel:List Value→AH→Value×AH→Prop
 | made {H:AH}{s cs:ByteArray} (hs:s.size≤9223372036854775807) (hcs:cs.size<4294967281) (ha:(cs.data.toList.all fun b=>decide (b.toNat<128))=true):TrimRel [.string s,.string cs] H (.string ⟨(Lib.trimS s.data.toList cs.data.toList).toArray⟩,H)
theorem trimRel_uniq {vs:List Value}{H:AH}{r s:Value×AH} (h:TrimRel vs H r) (k:TrimRel vs H s):r=s:=by
 cases h;cases k;rfl
theorem trim_sound {V:Env}{ρ:Ren} (L:Go.Proofs.Lays.n160 V.P ρ) (h116:tab116 V.P (ρ.t 116)) (vs:List Value) (H:AH) (r:Value×AH) (h:TrimRel vs H r):Sound V (.fn (ρ.f 160)) vs H r.1 r.2:=by
 cases h with
 | made hs hcs ha=>
 rename_i s cs
 intro B0 ι w vs' hG hR hL
 cases hL with
 | cons hv ht=>
 cases hv
 cases ht with
 | cons hv ht=>
 cases hv
 cases ht
 refine (Go.Proofs.Any.strings_Trim_laid L h116 s cs w hs hcs (Go.Proofs.ascii_of_all ha)).mono fun e w' h=>?_
 obtain ⟨rfl,hb⟩:=h
 exact ⟨_,ι,rfl,.string _,(Step.refl hR).to hb.size (fun k hk=>hb.block k hk) hb.os hb.tape hb.output⟩
theorem dropWhile_nil {α:Type}{p:α→Bool}:∀ {l:List α},l.dropWhile p=[]↔l.all p=true
 | []=>by simp
 |a::l=>by
  rw [List.dropWhile_cons]
  by_cases h:p a=true
  ·rw [if_pos h,dropWhile_nil,List.all_cons,h,Bool.true_and]
  ·rw [if_neg h]
   simp [h]
theorem trimS_nil (l cs:List UInt8):Lib.trimS l cs=[]↔l.all (cs.contains ·)=true:=by
 unfold Lib.trimS Lib.trimLeftS
 rw [dropWhile_nil]
 unfold Lib.trimRightS
 constructor
 ·intro h
  rw [List.all_reverse] at h
  by_cases hn:l.reverse.dropWhile (cs.contains ·)=[]
  ·have:=dropWhile_nil.1 hn
   rwa [List.all_reverse] at this
  ·exfalso
   obtain ⟨a,t,ht⟩:=List.exists_cons_of_ne_nil hn
   have h1:=List.head_dropWhile_not (cs.contains ·) (l:=l.reverse) hn
   have h2:cs.contains a=true:=List.all_eq_true.1 h a (by rw [ht];simp)
   simp only [ht,List.head_cons] at h1
   rw [h2] at h1
   cases h1
 ·intro h
  have:l.reverse.dropWhile (cs.contains ·)=[]:=dropWhile_nil.2 (by rwa [List.all_reverse])
  rw [this];rfl
theorem compact_full {zs:List (List UInt8)}:(Lib.compact zs).length=zs.length↔∀ j,j<zs.length→Lib.keeps zs.toArray j=true:=by
 have hl:(Lib.compact zs).length=((List.range zs.length).filter (Lib.keeps zs.toArray)).length:=by
  unfold Lib.compact Lib.compactUpTo
  rw [List.length_map]
 rw [hl]
 constructor
 ·intro h j hj
  have h2:(List.range zs.length).filter (Lib.keeps zs.toArray)=List.range zs.length:=by
   refine (List.filter_sublist).eq_of_length ?_
   rw [h,List.length_range]
  have:j∈(List.range zs.length).filter (Lib.keeps zs.toArray):=by rw [h2];exact List.mem_range.2 hj
  exact (List.mem_filter.1 this).2
 ·intro h
  rw [List.filter_eq_self.2 fun j hj=>h j (List.mem_range.1 hj),List.length_range]
theorem srt_perm (zs:List (List UInt8)):(srt zs).Perm zs:=List.mergeSort_perm _ _
theorem srt_pair (zs:List (List UInt8)):(srt zs).Pairwise fun x y=>x≤y:=by
 have:=List.pairwise_mergeSort (le:=fun x y:List UInt8=>decide (x≤y)) (fun a b c h1 h2=>by
  simp only [decide_eq_true_eq] at *
  exact Std.IsPreorder.le_trans _ _ _ h1 h2) (fun a b=>by
  simp only [Bool.or_eq_true,decide_eq_true_eq]
  exact Std.Total.total a b) zs
 exact this.imp fun h=>by simpa using h
theorem keeps_iff {zs:List (List UInt8)} (hp:zs.Pairwise fun x y=>x≤y):(∀ j,j<zs.length→Lib.keeps zs.toArray j=true)↔zs.Nodup:=by
 constructor
 ·intro h
  rw [List.nodup_iff_pairwise_ne,List.pairwise_iff_getElem]
  intro i j hi hj hij e
  rw [List.pairwise_iff_getElem] at hp
  have hj1:j-1<zs.length:=by omega
  have h1:zs[j-1]=zs[j]:=by
   by_cases e1:i=j-1
   ·subst e1;exact e
   ·have a1:=hp i (j-1) hi hj1 (by omega)
    have a2:=hp (j-1) j hj1 hj (by omega)
    rw [←e] at a2
    have:zs[j-1]=zs[i]:=Std.le_antisymm a2 a1
    rw [this,e]
  have hk:=h j hj
  have:Lib.keeps zs.toArray j=false:=Lib.keeps_neg (by omega) (by simp [hj,hj1,h1])
  rw [this] at hk;cases hk
 ·intro h j hj
  by_cases h0:j=0
  ·subst h0;exact Lib.keeps_lt_one _ 0 (by omega)
  ·refine Lib.keeps_pos ?_
   rw [List.nodup_iff_pairwise_ne,List.pairwise_iff_getElem] at h
   have hj1:j-1<zs.length:=by omega
   have:=h (j-1) j hj1 hj (by omega)
   simp only [List.getElem!_toArray]
   simp [hj,hj1]
   exact fun e=>this e.symm
theorem compact_srt (zs:List (List UInt8)):(Lib.compact (srt zs)).length=zs.length↔zs.Nodup:=by
 have h1:=compact_full (zs:=srt zs)
 rw [srt_length] at h1
 rw [h1]
 have h2:=keeps_iff (srt_pair zs)
 rw [srt_length] at h2
 rw [h2]
 exact (srt_perm zs).nodup_iff
end Go.Ev
namespace Go.Ev
open Go.RowKit
section
variable {V:Env}{O:Orc}{is:List LI}{E:List Value}{l:SL}{H:AH}{Hs0:List AH}{K:List Value→AH→List AH→Prop}{o:Op}{x y z:Operand}{w t:Bool}{u v:Value}
theorem yGet {t:Tmp} (hv:look l t=some v) (h:WH V O is (v::E) l H (Hs0++[H]) K):WH V O (.get t::is) E l H Hs0 K:=.get hv h
theorem yOn (hx:gS V.nG E l x=some (.bool t)) (hb:t=w) (h:WH V O (.run o none::is) E l H Hs0 K):WH V O (.run o (some (x,w))::is) E l H Hs0 K:=.guard hx (fun _=>h) (fun e=>by rw [hb] at e;cases w<;>cases e)
theorem yOff (hx:gS V.nG E l x=some (.bool t)) (hb:t=!w) (h:WH V O is (undef::E) l H (Hs0++[H]) K):WH V O (.run o (some (x,w))::is) E l H Hs0 K:=.guard hx (fun e=>by rw [hb] at e;cases w<;>cases e) (fun _=>h)
theorem yPT (hc:gS V.nG E l x=some (.bool t)) (hb:t=true) (hx:gS V.nG E l y=some v) (h:WH V O is (v::E) l H (Hs0++[H]) K):WH V O (.run (.pick x y z) none::is) E l H Hs0 K:=.op (op_pickT hc hb hx) h
theorem yPF (hc:gS V.nG E l x=some (.bool t)) (hb:t=false) (hx:gS V.nG E l z=some v) (h:WH V O is (v::E) l H (Hs0++[H]) K):WH V O (.run (.pick x y z) none::is) E l H Hs0 K:=.op (op_pickF hc hb hx) h
section
variable {ty ty2:TypeId}{k k':IntKind}{i j:Int} (hx:gS V.nG E l x=some (.int k i)) (hy:gS V.nG E l y=some (.int k j))
include hx hy
theorem yLss (h:WH V O is (.bool (decide (i<j))::E) l H (Hs0++[H]) K):WH V O (.run (.binOp .lss ty x y ty2) none::is) E l H Hs0 K:=.op (op_int hx hy (aInt_lss _ _)) h
theorem yGtr (h:WH V O is (.bool (decide (i>j))::E) l H (Hs0++[H]) K):WH V O (.run (.binOp .gtr ty x y ty2) none::is) E l H Hs0 K:=.op (op_int hx hy (aInt_gtr _ _)) h
theorem yNeq (h:WH V O is (.bool (i != j)::E) l H (Hs0++[H]) K):WH V O (.run (.binOp .neq ty x y ty2) none::is) E l H Hs0 K:=.op (op_int hx hy (aInt_neq _ _)) h
end
theorem yNot {ty:TypeId} (hx:gS V.nG E l x=some (.bool t)) (h:WH V O is (.bool (!t)::E) l H (Hs0++[H]) K):WH V O (.run (.unOp .not ty x) none::is) E l H Hs0 K:=.op (op_not hx) h
theorem yIdx {ty:TypeId}{p:Value} (hx:gS V.nG E l x=some u) (hi:gS V.nG E l y=some v) (h0:aIndex V.E ty u v=some p) (h:WH V O is (p::E) l H (Hs0++[H]) K):WH V O (.run (.indexAddr ty x y) none::is) E l H Hs0 K:=.op (op_indexAddr hx hi h0) h
end
theorem ne14 {op k:Int} (h:14≤op) (hk:k<14):(op==k)=false:=by rw [beq_eq_false_iff_ne];omega
theorem op_cases0 {op:Int} (h:0≤op∧op<14):op=0∨op=1∨op=2∨op=3∨op=4∨op=5∨op=6∨op=7∨op=8∨op=9∨op=10∨op=11∨op=12∨op=13:=by omega
theorem op_cases' {op:Int} (h:1≤op∧op<14):op=1∨op=2∨op=3∨op=4∨op=5∨op=6∨op=7∨op=8∨op=9∨op=10∨op=11∨op=12∨op=13:=by omega
end Go.Ev
namespace Go.Ev
open Go.RowKit
abbrev Os:=List (Nat×Nat)
def Os.bs (os:Os):List Nat:=os.map Prod.fst
def Os.gs (os:Os):List Nat:=os.map Prod.snd
def Os.nd (os:Os):Prop:=os.bs.Nodup∧os.gs.Nodup
def Os.In (os:Os) (n0 n:Nat):Prop:=∀ p∈os,n0≤p.1∧n0≤p.2∧p.1<n∧p.2<n
theorem Os.In.mono {os:Os}{n0 n n0' n':Nat} (h:os.In n0 n) (h0:n0'≤n0) (h1:n≤n'):os.In n0' n':=fun p hp=>by
 have:=h p hp;omega
theorem Os.In.nil {n0 n:Nat}:Os.In [] n0 n:=fun p hp=>by cases hp
theorem Os.In.app {os ps:Os}{n0 n:Nat} (h:os.In n0 n) (k:ps.In n0 n):Os.In (os++ps) n0 n:=fun p hp=>(List.mem_append.1 hp).elim (h p) (k p)
theorem Os.nd.nil:Os.nd []:=⟨List.nodup_nil,List.nodup_nil⟩
theorem Os.nd.app {os ps:Os}{n0 m n:Nat} (h:os.nd) (k:ps.nd) (h1:os.In n0 m) (h2:ps.In m n):Os.nd (os++ps):=by
 unfold Os.nd Os.bs Os.gs at *
 rw [List.map_append,List.map_append,List.nodup_append,List.nodup_append]
 refine ⟨⟨h.1,k.1,fun a ha b hb e=>?_⟩,h.2,k.2,fun a ha b hb e=>?_⟩
 ·obtain ⟨p,hp,rfl⟩:=List.mem_map.1 ha
  obtain ⟨q,hq,rfl⟩:=List.mem_map.1 hb
  have:=h1 p hp;have:=h2 q hq;omega
 ·obtain ⟨p,hp,rfl⟩:=List.mem_map.1 ha
  obtain ⟨q,hq,rfl⟩:=List.mem_map.1 hb
  have:=h1 p hp;have:=h2 q hq;omega
theorem nodup_inj {l:List Nat} (h:l.Nodup) {i j:Nat} (hi:i<l.length) (hj:j<l.length) (e:l[i]=l[j]):i=j:=by
 rw [List.nodup_iff_pairwise_ne,List.pairwise_iff_getElem] at h
 rcases Nat.lt_trichotomy i j with h1|h1|h1
 ·exact absurd e (h i j hi hj h1)
 ·exact h1
 ·exact absurd e.symm (h j i hj hi h1)
theorem Os.mem_uniq {os:Os} (h:os.nd) {p q:Nat×Nat} (hp:p∈os) (hq:q∈os) (e:p.1=q.1∨p.2=q.2):p=q:=by
 obtain ⟨i,hi,rfl⟩:=List.mem_iff_getElem.1 hp
 obtain ⟨j,hj,rfl⟩:=List.mem_iff_getElem.1 hq
 have:i=j:=by
  rcases e with e|e
  ·exact nodup_inj h.1 (i:=i) (j:=j) (by simpa [Os.bs] using hi) (by simpa [Os.bs] using hj) (by simpa [Os.bs] using e)
  ·exact nodup_inj h.2 (i:=i) (j:=j) (by simpa [Os.gs] using hi) (by simpa [Os.gs] using hj) (by simpa [Os.gs] using e)
 subst this;rfl
def isSl:Value→Bool
 | .slice _ _ _=>true
 | _=>false
def Rw (H:AH) (b g:Nat) (e:TypeId) (cells:List Value):Prop:=b<H.next∧g<H.next∧H.obj b=.row e cells .loose g (H.ver g)
def Sim (cs ds:List Value):Prop:=ds.length=cs.length∧∀ (i:Nat) (v:Value),cs[i]?=some v→∃ v',ds[i]?=some v'∧isSl v'=isSl v∧(isSl v=true→v'=v)
theorem Sim.refl (cs:List Value):Sim cs cs:=⟨rfl,fun i v h=>⟨v,h,rfl,fun _=>rfl⟩⟩
theorem Sim.trans {a b c:List Value} (h:Sim a b) (k:Sim b c):Sim a c:=⟨k.1.trans h.1,fun i v hv=>by
 obtain ⟨v1,h1,h2,h3⟩:=h.2 i v hv
 obtain ⟨v2,k1,k2,k3⟩:=k.2 i v1 h1
 exact ⟨v2,k1,k2.trans h2,fun e=>by rw [k3 (h2.trans e),h3 e]⟩⟩
theorem Sim.sl {cs ds:List Value} (h:Sim cs ds) {i:Nat}{v:Value} (hv:cs[i]?=some v) (hs:isSl v=true):ds[i]?=some v:=by
 obtain ⟨v',h1,_,h3⟩:=h.2 i v hv
 rw [h1,h3 hs]
theorem Sim.non {cs ds:List Value} (h:Sim cs ds) {i:Nat} (hv:∃ v,cs[i]?=some v∧isSl v=false):∃ v,ds[i]?=some v∧isSl v=false:=by
 obtain ⟨v,hv,hs⟩:=hv
 obtain ⟨v',h1,h2,_⟩:=h.2 i v hv
 exact ⟨v',h1,h2.trans hs⟩
theorem Sim.chunk {cs ds:List Value} (h:Sim cs ds) (off n:Nat):Sim ((cs.drop off).take n) ((ds.drop off).take n):=by
 refine ⟨by simp [h.1],fun i v hv=>?_⟩
 rw [List.getElem?_take] at hv ⊢
 split at hv
 ·rename_i hi
  rw [if_pos hi,List.getElem?_drop]
  rw [List.getElem?_drop] at hv
  exact h.2 _ _ hv
 ·cases hv
structure Kp (os:Os) (H H':AH):Prop where
 next:H.next≤H'.next
 obj:∀ b,b<H.next→b∉os.bs→H'.obj b=H.obj b
 ver:∀ g,g<H.next→g∉os.gs→H'.ver g=H.ver g
 row:∀ p∈os,∀ e cells,Rw H p.1 p.2 e cells→∃ cells',Rw H' p.1 p.2 e cells'∧Sim cells cells'
theorem Kp.refl (os:Os) (H:AH):Kp os H H:=⟨Nat.le_refl _,fun _ _ _=>rfl,fun _ _ _=>rfl,fun p _ e cells h=>⟨cells,h,.refl _⟩⟩
theorem Kp.trans {os:Os}{A B C:AH} (h:Kp os A B) (k:Kp os B C):Kp os A C:=
 ⟨Nat.le_trans h.next k.next,fun b hb hn=>(k.obj b (Nat.lt_of_lt_of_le hb h.next) hn).trans (h.obj b hb hn),fun g hg hn=>(k.ver g (Nat.lt_of_lt_of_le hg h.next) hn).trans (h.ver g hg hn),fun p hp e cells hr=>by
  obtain ⟨c1,q1,q2⟩:=h.row p hp e cells hr
  obtain ⟨c2,r1,r2⟩:=k.row p hp e c1 q1
  exact ⟨c2,r1,q2.trans r2⟩⟩
theorem Kp.frX {os:Os}{H H':AH} (h:Kp os H H'):FrX os.bs os.gs H H':=⟨h.next,h.obj,h.ver⟩
theorem Kp.of_fr {os:Os}{H H':AH} (h:Fr H H'):Kp os H H':=⟨h.1,fun b hb _=>h.2.1 b hb,fun g hg _=>h.2.2 g hg,fun p hp e cells hr=>⟨cells,⟨Nat.lt_of_lt_of_le hr.1 h.1,Nat.lt_of_lt_of_le hr.2.1 h.1,by rw [h.2.1 _ hr.1,h.2.2 _ hr.2.1];exact hr.2.2⟩,.refl _⟩⟩
theorem Rw.frX {H H':AH}{b g:Nat}{e:TypeId}{cells:List Value} (h:Rw H b g e cells) {bs gs:List Nat} (k:FrX bs gs H H') (hb:b∉bs) (hg:g∉gs):Rw H' b g e cells:=
 ⟨Nat.lt_of_lt_of_le h.1 k.1,Nat.lt_of_lt_of_le h.2.1 k.1,by rw [k.2.1 b h.1 hb,k.2.2 g h.2.1 hg];exact h.2.2⟩
theorem Rw.rd {H:AH}{b g:Nat}{e:TypeId}{cells:List Value} (h:Rw H b g e cells) {n:Nat} (hn:cells.length=n):Rd H b 0 n cells:=⟨e,cells,.loose,g,_,h.1,h.2.2,.inr (.inr ⟨h.2.1,rfl⟩),by omega,by rw [List.drop_zero,List.take_of_length_le (by omega)]⟩
theorem Rw.set {H:AH}{b g:Nat}{e:TypeId}{cells:List Value} (h:Rw H b g e cells) {os:Os} (hm:(b,g)∈os) (hnd:os.nd) {off:Nat} (hc:∃ v,cells[off]?=some v∧isSl v=false) {x:Value} (hx:isSl x=false) :
 ∃ H',H.wr b off [x]=some H'∧Kp os H H'∧H'.next=H.next:=by
 obtain ⟨v,hv,hs⟩:=hc
 have hlt:off<cells.length:=(List.getElem?_eq_some_iff.1 hv).1
 refine ⟨(H.put b (.row e (splice cells off [x]) .loose g (H.ver g+1))).bump g (H.ver g+1),?_,⟨by simp,fun c hc hn=>?_,fun c hc hn=>?_,fun p hp e' cells' hr=>?_⟩,by simp⟩
 ·unfold AH.wr
  rw [if_neg (by simp),h.2.2]
  simp only [beq_self_eq_true,Bool.true_and,decide_eq_true_eq,List.length_cons,List.length_nil]
  rw [if_pos (by omega)]
 ·simp only [AH.obj_bump,AH.obj_put]
  rw [if_neg]
  intro e;subst e
  exact hn (List.mem_map.2 ⟨_,hm,rfl⟩)
 ·simp only [AH.ver_bump,AH.ver_put]
  rw [if_neg]
  intro e;subst e
  exact hn (List.mem_map.2 ⟨_,hm,rfl⟩)
 ·by_cases e:p=(b,g)
  ·subst e
   have:AObj.row e' cells' .loose g (H.ver g)=.row e cells .loose g (H.ver g):=by rw [←hr.2.2];exact h.2.2
   cases this
   refine ⟨splice cells off [x],⟨by simpa using h.1,by simpa using h.2.1,by simp⟩,splice_length (by simp;omega),fun i w hw=>?_⟩
   rw [splice_get (by simp;omega)]
   by_cases hi:i=off
   ·subst hi
    rw [if_pos ⟨Nat.le_refl _,by simp⟩,Nat.sub_self]
    rw [hw] at hv;cases hv
    exact ⟨x,rfl,hx.trans hs.symm,fun e=>by rw [hs] at e;cases e⟩
   ·rw [if_neg (by simp;omega)]
    exact ⟨w,hw,rfl,fun _=>rfl⟩
  ·have h1:p.1≠b:=fun e1=>e (Os.mem_uniq hnd hp hm (.inl e1))
   have h2:p.2≠g:=fun e1=>e (Os.mem_uniq hnd hp hm (.inr e1))
   exact ⟨cells',⟨by simpa using hr.1,by simpa using hr.2.1,by simp [h1,h2];exact hr.2.2⟩,.refl _⟩
abbrev Wq (β:Type):=AH→List Value→β→Os→Prop
structure WM {β:Type} (W:Wq β):Prop where
 kp:∀ {os os1:Os}{H H':AH}{cs ds:List Value}{x:β},Kp os H H'→(∀ p∈os1,p∈os)→Sim cs ds→W H cs x os1→W H' ds x os1
 frX:∀ {bs gs:List Nat}{os1:Os}{H H':AH}{cs:List Value}{x:β},FrX bs gs H H'→(∀ p∈os1,p.1∉bs∧p.2∉gs)→W H cs x os1→W H' cs x os1
def Wl {β:Type} (e:TypeId) (sz:Nat) (W:Wq β) (H:AH) (v:Value) (xs:List β) (os:Os):Prop:=
 (xs=[]∧os=[]∧∃ a c,v=.slice a 0 c)∨∃ b g cells oss,os=(b,g)::List.flatten oss∧v=.slice (some ⟨b,0,none⟩) xs.length unk∧Rw H b g e cells∧cells.length=xs.length*sz∧oss.length=xs.length∧∀ i (h:i<xs.length) (h':i<oss.length),W H ((cells.drop (i*sz)).take sz) xs[i] oss[i]
def WN:Wq Unit:=fun _ cs _ os=>os=[]∧∃ v,cs[0]?=some v∧isSl v=false
theorem WN.m:WM WN:=⟨fun _ _ hs h=>⟨h.1,hs.non h.2⟩,fun _ _ h=>h⟩
section
variable {β:Type}{e:TypeId}{sz:Nat}{W:Wq β}{H H':AH}{v:Value}{xs:List β}{os os1:Os}
theorem mem_flat {oss:List Os}{i:Nat} (h:i<oss.length) {p:Nat×Nat} (hp:p∈oss[i]):p∈List.flatten oss:=List.mem_flatten.2 ⟨_,List.getElem_mem h,hp⟩
theorem Wl.kp (hm:WM W) (h:Wl e sz W H v xs os1) (k:Kp os H H') (hsub:∀ p∈os1,p∈os):Wl e sz W H' v xs os1:=by
 rcases h with h|⟨b,g,cells,oss,rfl,rfl,h1,h2,h3,h4⟩
 ·exact .inl h
 ·obtain ⟨cells',q1,q2⟩:=k.row (b,g) (hsub _ (by simp)) e cells h1
  exact .inr ⟨b,g,cells',oss,rfl,rfl,q1,by rw [q2.1,h2],h3,fun i hi hi'=>hm.kp k (fun p hp=>hsub p (by simp only [List.mem_cons];exact .inr (mem_flat hi' hp))) (q2.chunk _ _) (h4 i hi hi')⟩
theorem Wl.frX (hm:WM W) {bs gs:List Nat} (h:Wl e sz W H v xs os1) (k:FrX bs gs H H') (hd:∀ p∈os1,p.1∉bs∧p.2∉gs):Wl e sz W H' v xs os1:=by
 rcases h with h|⟨b,g,cells,oss,rfl,rfl,h1,h2,h3,h4⟩
 ·exact .inl h
 ·have hbg:=hd (b,g) (by simp)
  exact .inr ⟨b,g,cells,oss,rfl,rfl,h1.frX k hbg.1 hbg.2,h2,h3,fun i hi hi'=>hm.frX k (fun p hp=>hd p (by simp only [List.mem_cons];exact .inr (mem_flat hi' hp))) (h4 i hi hi')⟩
theorem Wl.len (h:Wl e sz W H v xs os1) {V:Env}{H2:AH}{t:TypeId}{s b:Nat}{z:Value} (ht:V.E t=some ⟨.slice e,s,b,z⟩):aLen V.E H2 t v=some (.int .i64 xs.length):=by
 unfold aLen
 rw [ht]
 rcases h with ⟨rfl,_,a,c,rfl⟩|⟨b,g,cells,oss,_,rfl,_⟩
 ·cases a<;>rfl
 ·rfl
theorem Wl.isSl (h:Wl e sz W H v xs os1):isSl v=true:=by
 rcases h with ⟨_,_,a,c,rfl⟩|⟨b,g,cells,oss,_,rfl,_⟩<;>rfl
theorem Wl.at (h:Wl e sz W H v xs os1) {V:Env}{t:TypeId}{s b:Nat}{z:Value} (ht:V.E t=some ⟨.slice e,s,b,z⟩) {te:TI} (he:V.E e=some te) (hz:te.size=sz) {kd:IntKind}{i:Nat} (hi:i<xs.length) :
  ∃ b g cells osi,(b,g)∈os1∧(∀ p∈osi,p∈os1)∧aIndex V.E t v (.int kd i)=some (.pointer (some ⟨b,0+i*sz,none⟩))∧Rw H b g e cells∧cells.length=xs.length*sz∧Rd H b (0+i*sz) sz ((cells.drop (i*sz)).take sz)∧W H ((cells.drop (i*sz)).take sz) xs[i] osi:=by
 rcases h with ⟨rfl,_⟩|⟨b,g,cells,oss,rfl,rfl,h1,h2,h3,h4⟩
 ·simp at hi
 ·have hle:(i+1)*sz≤xs.length*sz:=Nat.mul_le_mul_right sz (by omega)
  rw [Nat.add_mul,Nat.one_mul] at hle
  refine ⟨b,g,cells,oss[i],by simp,fun p hp=>by simp only [List.mem_cons];exact .inr (mem_flat _ hp),?_,h1,h2,(h1.rd h2).sub _ _ (by omega),h4 i hi (by omega)⟩
  simp only [aIndex,ht,he,hz]
  rw [if_pos ⟨by omega,by omega⟩]
  simp
end
abbrev WI (e:TypeId) (H:AH) (v:Value) (n:Nat) (os:Os):Prop:=Wl e 1 WN H v (List.replicate n ()) os
theorem WI.set {e:TypeId}{H:AH}{v:Value}{n:Nat}{os os1:Os} (h:WI e H v n os1) (hsub:∀ p∈os1,p∈os) (hnd:os.nd) {V:Env}{t:TypeId}{s b:Nat}{z:Value} (ht:V.E t=some ⟨.slice e,s,b,z⟩) {te:TI} (he:V.E e=some te) (hz:te.size=1) {kd:IntKind}{i:Nat} (hi:i<n) {x:Value} (hx:isSl x=false) :
  ∃ b off H',aIndex V.E t v (.int kd i)=some (.pointer (some ⟨b,off,none⟩))∧H.wr b off [x]=some H'∧Kp os H H'∧H'.next=H.next:=by
 obtain ⟨b,g,cells,osi,h1,h2,h3,h4,h5,h6,h7⟩:=Wl.at h ht he hz (kd:=kd) (i:=i) (by simpa using hi)
 have hc:=h7.2
 obtain ⟨v0,hv0,hs0⟩:=hc
 have hcell:cells[i]?=some v0:=by
  rw [List.getElem?_take,if_pos (by omega),List.getElem?_drop] at hv0
  simpa using hv0
 obtain ⟨H',k1,k2,k3⟩:=h4.set (hsub _ h1) hnd (off:=i) ⟨v0,hcell,hs0⟩ hx
 exact ⟨b,0+i*1,H',h3,by rw [Nat.zero_add,Nat.mul_one];exact k1,k2,k3⟩
end Go.Ev
namespace Go.Ev
open Go.RowKit
def RW {α:Type} (R:Rq α) (W:Wq α):Rq (α×Os):=fun A H cs x=>R A H cs x.1∧W H cs x.1 x.2∧∀ p∈x.2,p.1∉A.bs∧p.2∉A.gs∧p.1<H.next∧p.2<H.next
theorem RW.m {α:Type}{R:Rq α}{W:Wq α} (hR:MonoF R) (hW:WM W):MonoF (RW R W):=
 ⟨fun k ⟨h1,h2,h3⟩=>⟨hR.frX k h1,hW.frX k (fun p hp=>⟨(h3 p hp).1,(h3 p hp).2.1⟩) h2,fun p hp=>⟨(h3 p hp).1,(h3 p hp).2.1,Nat.lt_of_lt_of_le (h3 p hp).2.2.1 k.1,Nat.lt_of_lt_of_le (h3 p hp).2.2.2 k.1⟩⟩,
  fun k ⟨h1,h2,h3⟩=>⟨hR.gr k h1,h2,fun p hp=>⟨fun hb=>(k.1 _ hb).elim (h3 p hp).1 fun h=>by have:=(h3 p hp).2.2.1;omega,fun hb=>(k.2 _ hb).elim (h3 p hp).2.1 fun h=>by have:=(h3 p hp).2.2.2;omega,(h3 p hp).2.2⟩⟩⟩
def flat {α:Type} (xs:List (α×Os)):Os:=List.flatten (xs.map Prod.snd)
theorem flat_app {α:Type} (xs:List (α×Os)) (x:α) (os:Os):flat (xs++[(x,os)])=flat xs++os:=by simp [flat]
def Bd {α:Type} (e:TypeId) (sz:Nat) (R:Rq α) (W:Wq α) (B:Av) (H:AH) (n0:Nat) (v:Value) (ys:List α) (o:Option (Nat×Nat)):Prop:=
 ∃ xs:List (α×Os),xs.map Prod.fst=ys∧OwR e sz (RW R W) B H n0 v xs o∧(flat xs).nd∧(flat xs).In n0 H.next
section
variable {α:Type}{e:TypeId}{sz:Nat}{R:Rq α}{W:Wq α}{A B:Av}{H H' Hc:AH}{n0:Nat}{v:Value}{ys:List α}{o:Option (Nat×Nat)}
theorem Bd.nil:Bd e sz R W B H n0 (.slice none 0 0) ([]:List α) none:=⟨[],rfl,.nil,.nil,.nil⟩
theorem Bd.young (h:Bd e sz R W B H n0 v ys o):(∀ b∈obs o,n0≤b)∧(∀ g∈ogs o,n0≤g)∧(∀ b∈obs o,b<H.next)∧(∀ g∈ogs o,g<H.next):=let ⟨_,_,h,_⟩:=h;h.young
theorem Bd.lt (h:Bd e sz R W B H n0 v ys o):(Av.of o).Lt H.next:=⟨h.young.2.2.1,h.young.2.2.2⟩
theorem Bd.fr (hR:MonoF R) (hW:WM W) (h:Bd e sz R W B H n0 v ys o) (k:Fr H H'):Bd e sz R W B H' n0 v ys o:=
 let ⟨xs,h1,h2,h3,h4⟩:=h
 ⟨xs,h1,h2.fr (RW.m hR hW) k,h3,h4.mono (Nat.le_refl _) k.1⟩
theorem Bd.frX (hR:MonoF R) (hW:WM W) (h:Bd e sz R W B H n0 v ys o) (k:FrX B.bs B.gs H H') (hb:∀ b∈obs o,b∉B.bs) (hg:∀ g∈ogs o,g∉B.gs):Bd e sz R W B H' n0 v ys o:=
 let ⟨xs,h1,h2,h3,h4⟩:=h
 ⟨xs,h1,h2.frX (RW.m hR hW) k hb hg,h3,h4.mono (Nat.le_refl _) k.1⟩
theorem Bd.oneCell (h:Bd e sz R W B H n0 v ys o):Value.oneCell' v=true∧v.cells.toList=[v]:=by
 obtain ⟨xs,_,⟨cs,⟨_,_,⟨rfl,_⟩|⟨b,g,_,_,_,_,_,rfl,_⟩⟩,_⟩,_⟩:=h<;>exact ⟨rfl,rfl⟩
theorem Bd.isSl (h:Bd e sz R W B H n0 v ys o):∃ a n c,v=.slice a n c:=by
 obtain ⟨xs,_,⟨cs,⟨_,_,⟨rfl,_⟩|⟨b,g,_,_,_,_,_,rfl,_⟩⟩,_⟩,_⟩:=h<;>exact ⟨_,_,_,rfl⟩
theorem Bd.els (hR:MonoF R) (hW:WM W) (h:Bd e sz R W B H n0 v ys o) (hb:∀ b∈obs o,b∉B.bs) (hg:∀ g∈ogs o,g∉B.gs):Els sz R B H v ys:=by
 obtain ⟨xs,rfl,h2,_⟩:=h
 obtain ⟨cs,k1,k2⟩:=h2.els (RW.m hR hW) hb hg
 refine ⟨cs,by rw [List.length_map];exact k1,fun i hi=>?_⟩
 rw [List.length_map] at hi
 rw [List.getElem_map]
 exact (k2 i hi).1
theorem Bd.elsY (hR:MonoF R) (hW:WM W) (h:Bd e sz R W B H n0 v ys o) (hB:B.Lt n0):Els sz R B H v ys:=
 h.els hR hW (fun b hb h2=>by have:=h.young.1 b hb;have:=hB.1 b h2;omega) (fun b hb h2=>by have:=h.young.2.1 b hb;have:=hB.2 b h2;omega)
theorem Bd.wl (hR:MonoF R) (hW:WM W) (h:Bd e sz R W B H n0 v ys o):∃ os:Os,Wl e sz W H v ys os∧os.In n0 H.next∧os.nd:=by
 obtain ⟨xs,rfl,⟨cs,ho,hx⟩,hnd,hin⟩:=h
 obtain ⟨hc,hlt,⟨rfl,hn,rfl⟩|⟨b,g,rfl,h1,h2,h3,h4,rfl,ho,hpos⟩⟩:=ho
 ·have:xs=[]:=List.length_eq_zero_iff.1 hn
  subst this
  exact ⟨[],.inl ⟨rfl,rfl,_,_,rfl⟩,.nil,.nil⟩
 ·have hd:∀ p∈flat xs,p.1≠b∧p.2≠g:=fun p hp=>by
   obtain ⟨os,hos,hp⟩:=List.mem_flatten.1 hp
   obtain ⟨x,hx1,rfl⟩:=List.mem_map.1 hos
   obtain ⟨i,hi,rfl⟩:=List.mem_iff_getElem.1 hx1
   have:=(hx i hi).2.2 p hp
   exact ⟨fun e=>this.1 (List.mem_append_right _ (by rw [e];simp [Av.of,obs])),fun e=>this.2.1 (List.mem_append_right _ (by rw [e];simp [Av.of,ogs]))⟩
  refine ⟨(b,g)::flat xs,.inr ⟨b,g,cs,xs.map Prod.snd,rfl,by rw [List.length_map],⟨h3,h4,ho⟩,by rw [List.length_map];exact hc,by simp,fun i hi hi'=>?_⟩,fun p hp=>?_,?_⟩
  ·rw [List.getElem_map,List.getElem_map]
   exact (hx i (by simpa using hi)).2.1
  ·rcases List.mem_cons.1 hp with rfl|hp
   ·exact ⟨h1,h2,h3,h4⟩
   ·exact hin p hp
  ·refine ⟨List.nodup_cons.2 ⟨fun hm=>?_,hnd.1⟩,List.nodup_cons.2 ⟨fun hm=>?_,hnd.2⟩⟩
   ·obtain ⟨p,hp,e⟩:=List.mem_map.1 hm
    exact (hd p hp).1 e
   ·obtain ⟨p,hp,e⟩:=List.mem_map.1 hm
    exact (hd p hp).2 e
theorem Bd.app1 (hR:MonoF R) (hW:WM W) (h:Bd e sz R W B Hc n0 v ys o) (f:Fr Hc H) (hB:B.Lt Hc.next) {cx:List Value}{x:α}{os:Os} (hx:R (B.and (.of o)) H cx x) (hw:W H cx x os) (hin:os.In Hc.next H.next) (hnd:os.nd)
  (h1:∀ {A H cs a},R A H cs a→cs.all Value.oneCell'=true∧cs.length=sz) (hz:0<sz) {bytes:Nat} (hb:(ys.length+1)*bytes≤140737488355328) (hl:ys.length+1<4611686018427387904) (h0:n0≤Hc.next)
  {V:Env}{t u:TypeId}{a b a2 b2:Nat}{z z2:Value}{te:TI} (ht:V.E t=some ⟨.slice e,a,b,z⟩) (hu:V.E u=some ⟨.slice e,a2,b2,z2⟩) (he:V.E e=some te) (hsz:te.size=sz) (hby:te.bytes=bytes) :
  ∃ v' H' o',(∀ {g:Ft}{y w:Operand},g y=some v→g w=some (.slice (some ⟨H.next,0,none⟩) 1 1)→aopG V g (H.alloc (.row e cx .exact 0 0)) (.call ⟨.builtin .append,#[y,w],#[t,u]⟩)=some (v',H'))∧Bd e sz R W B H' n0 v' (ys++[x]) o'∧FrX (obs o) (ogs o) H H'∧(Av.of o).Gr (.of o') H.next:=by
 have hlt:=h.lt
 obtain ⟨xs,rfl,h2,h3,h4⟩:=h
 rw [List.length_map] at hb hl
 have hlt2:=hB.and hlt
 obtain ⟨v',H',o',k1,k2,k3,k4,_⟩:=(h2.fr (RW.m hR hW) f).app1 (V:=V) (RW.m hR hW) (hB.mono f.1) (cx:=cx) (x:=(x,os)) ⟨hx,hw,fun p hp=>⟨fun hm=>by have:=hlt2.1 _ hm;have:=hin p hp;omega,fun hm=>by have:=hlt2.2 _ hm;have:=hin p hp;omega,(hin p hp).2.2.1,(hin p hp).2.2.2⟩⟩ (fun hr=>h1 hr.1) hz hb hl (Nat.le_trans h0 f.1) ht hu he hsz hby
 refine ⟨v',H',o',k1,⟨xs++[(x,os)],by simp,k2,?_,?_⟩,k3,k4⟩
 ·rw [flat_app]
  exact h3.app hnd h4 hin
 ·rw [flat_app]
  exact (h4.mono (Nat.le_refl _) (Nat.le_trans f.1 k3.1)).app (hin.mono h0 k3.1)
end
theorem OwI.wi {e:TypeId}{H:AH}{n0:Nat}{v:Value}{l:List Int}{o:Option (Nat×Nat)} (h:OwI e H n0 v l o):∃ os:Os,WI e H v l.length os∧os.In n0 H.next∧os.nd:=by
 rcases h with ⟨hc,hlt,⟨rfl,hn,rfl⟩|⟨b,g,rfl,h1,h2,h3,h4,rfl,ho,hpos⟩⟩|⟨hn,_,b,rfl,_,rfl,_⟩
 ·rw [hn]
  exact ⟨[],.inl ⟨rfl,rfl,_,_,rfl⟩,.nil,.nil⟩
 ·refine ⟨[(b,g)],.inr ⟨b,g,ints l,List.replicate l.length [],by simp,by simp,⟨h3,h4,ho⟩,by simpa using hc,by simp,fun i hi hi'=>⟨by simp,?_⟩⟩,fun p hp=>?_,?_⟩
  ·have hi:i<l.length:=by simpa using hi
   rw [ints_at hi]
   exact ⟨_,rfl,rfl⟩
  ·rw [List.mem_singleton] at hp
   subst hp
   exact ⟨h1,h2,h3,h4⟩
  ·exact ⟨by simp [Os.bs],by simp [Os.gs]⟩
 ·rw [hn]
  exact ⟨[],.inl ⟨rfl,rfl,_,_,rfl⟩,.nil,.nil⟩
def WIns (eI:TypeId):Wq Ins:=fun H cs i os=>(∃ v,cs[5]?=some v∧WI eI H v i.args.length os)∧∃ v,cs[0]?=some v∧isSl v=false
def WPhi (eI:TypeId):Wq Phi:=fun H cs p os=>∃ v,cs[1]?=some v∧WI eI H v p.args.length os
section
variable {eI eP eC eB:TypeId}
theorem WIns.m:WM (WIns eI):=⟨fun k hs hsim ⟨⟨v,h1,h2⟩,h3⟩=>⟨⟨v,hsim.sl h1 h2.isSl,h2.kp WN.m k hs⟩,hsim.non h3⟩,fun k hd ⟨⟨v,h1,h2⟩,h3⟩=>⟨⟨v,h1,h2.frX WN.m k hd⟩,h3⟩⟩
theorem WPhi.m:WM (WPhi eI):=⟨fun k hs hsim ⟨v,h1,h2⟩=>⟨v,hsim.sl h1 h2.isSl,h2.kp WN.m k hs⟩,fun k hd ⟨v,h1,h2⟩=>⟨v,h1,h2.frX WN.m k hd⟩⟩
end
theorem Bx.kp {os:Os}{H H':AH}{b:Nat}{et:TypeId}{cs:List Value} (h:Bx H b et cs) (k:Kp os H H') (hb:b∉os.bs):Bx H' b et cs:=h.frX k.frX hb
end Go.Ev
namespace Go.Ev
open Go.RowKit
def Wr {β:Type} (e:TypeId) (sz:Nat) (W:Wq β) (H:AH) (v:Value) (xs:List β) (os:Os):Prop:=
 (xs=[]∧os=[]∧∃ a c,v=.slice a 0 c)∨∃ b g cells oss cap,os=(b,g)::List.flatten oss∧v=.slice (some ⟨b,0,none⟩) xs.length cap∧Rw H b g e cells∧xs.length*sz≤cells.length∧oss.length=xs.length∧∀ i (h:i<xs.length) (h':i<oss.length),W H ((cells.drop (i*sz)).take sz) xs[i] oss[i]
section
variable {β:Type}{e:TypeId}{sz:Nat}{W:Wq β}{H H':AH}{v:Value}{xs:List β}{os os1:Os}
theorem Wl.r (h:Wl e sz W H v xs os):Wr e sz W H v xs os:=by
 rcases h with h|⟨b,g,cells,oss,h1,h2,h3,h4,h5,h6⟩
 ·exact .inl h
 ·exact .inr ⟨b,g,cells,oss,unk,h1,h2,h3,by omega,h5,h6⟩
theorem Wr.kp (hm:WM W) (h:Wr e sz W H v xs os1) (k:Kp os H H') (hsub:∀ p∈os1,p∈os):Wr e sz W H' v xs os1:=by
 rcases h with h|⟨b,g,cells,oss,cap,rfl,rfl,h1,h2,h3,h4⟩
 ·exact .inl h
 ·obtain ⟨cells',q1,q2⟩:=k.row (b,g) (hsub _ (by simp)) e cells h1
  exact .inr ⟨b,g,cells',oss,cap,rfl,rfl,q1,by rw [q2.1];exact h2,h3,fun i hi hi'=>hm.kp k (fun p hp=>hsub p (by simp only [List.mem_cons];exact .inr (mem_flat hi' hp))) (q2.chunk _ _) (h4 i hi hi')⟩
theorem Wr.frX (hm:WM W) {bs gs:List Nat} (h:Wr e sz W H v xs os1) (k:FrX bs gs H H') (hd:∀ p∈os1,p.1∉bs∧p.2∉gs):Wr e sz W H' v xs os1:=by
 rcases h with h|⟨b,g,cells,oss,cap,rfl,rfl,h1,h2,h3,h4⟩
 ·exact .inl h
 ·have hbg:=hd (b,g) (by simp)
  exact .inr ⟨b,g,cells,oss,cap,rfl,rfl,h1.frX k hbg.1 hbg.2,h2,h3,fun i hi hi'=>hm.frX k (fun p hp=>hd p (by simp only [List.mem_cons];exact .inr (mem_flat hi' hp))) (h4 i hi hi')⟩
theorem Wr.len (h:Wr e sz W H v xs os1) {V:Env}{H2:AH}{t:TypeId}{s b:Nat}{z:Value} (ht:V.E t=some ⟨.slice e,s,b,z⟩):aLen V.E H2 t v=some (.int .i64 xs.length):=by
 unfold aLen
 rw [ht]
 rcases h with ⟨rfl,_,a,c,rfl⟩|⟨b,g,cells,oss,cap,_,rfl,_⟩
 ·cases a<;>rfl
 ·rfl
theorem Wr.isSl (h:Wr e sz W H v xs os):isSl v=true:=by
 rcases h with ⟨_,_,a,c,rfl⟩|⟨b,g,cells,oss,cap,_,rfl,_⟩<;>rfl
theorem Wr.at (h:Wr e sz W H v xs os1) {V:Env}{t:TypeId}{s b:Nat}{z:Value} (ht:V.E t=some ⟨.slice e,s,b,z⟩) {te:TI} (he:V.E e=some te) (hz:te.size=sz) {kd:IntKind}{i:Nat} (hi:i<xs.length) :
  ∃ b g cells osi,(b,g)∈os1∧(∀ p∈osi,p∈os1)∧aIndex V.E t v (.int kd i)=some (.pointer (some ⟨b,0+i*sz,none⟩))∧Rw H b g e cells∧xs.length*sz≤cells.length∧Rd H b (0+i*sz) sz ((cells.drop (i*sz)).take sz)∧W H ((cells.drop (i*sz)).take sz) xs[i] osi:=by
 rcases h with ⟨rfl,_⟩|⟨b,g,cells,oss,cap,rfl,rfl,h1,h2,h3,h4⟩
 ·simp at hi
 ·have hle:(i+1)*sz≤xs.length*sz:=Nat.mul_le_mul_right sz (by omega)
  rw [Nat.add_mul,Nat.one_mul] at hle
  refine ⟨b,g,cells,oss[i],by simp,fun p hp=>by simp only [List.mem_cons];exact .inr (mem_flat _ hp),?_,h1,h2,(h1.rd rfl).sub _ _ (by omega),h4 i hi (by omega)⟩
  simp only [aIndex,ht,he,hz]
  rw [if_pos ⟨by omega,by omega⟩]
  simp
end
theorem Os.nd.sub {os ps:Os} (h:os.nd) (k:ps.Sublist os):ps.nd:=⟨h.1.sublist (k.map _),h.2.sublist (k.map _)⟩
theorem Os.In.sub {os ps:Os}{n0 n:Nat} (h:os.In n0 n) (k:ps.Sublist os):ps.In n0 n:=fun p hp=>h p (k.subset hp)
theorem flat_sub {α:Type}{xs ys:List (α×Os)} (h:ys.Sublist xs):(flat ys).Sublist (flat xs):=by
 unfold flat
 induction h with
 | slnil=>exact List.Sublist.refl _
 | cons a _ ih=>simp only [List.map_cons,List.flatten_cons];exact ih.trans (List.sublist_append_right _ _)
 | cons_cons a _ ih=>simp only [List.map_cons,List.flatten_cons];exact (List.Sublist.refl _).append ih
def CutR {α:Type} (e:TypeId) (sz:Nat) (R:Rq α) (W:Wq α) (B:Av) (H:AH) (n0:Nat) (v:Value) (xs:List (α×Os)):Prop:=
 ∃ b g cells,v=.slice (some ⟨b,0,none⟩) xs.length xs.length∧Rw H b g e cells∧xs.length*sz≤cells.length∧b∉B.bs∧g∉B.gs∧n0≤b∧n0≤g∧Os.nd ((b,g)::flat xs)∧(flat xs).In n0 H.next∧∀ i (h:i<xs.length),RW R W B H ((cells.drop (i*sz)).take sz) xs[i]
def BdV {α:Type} (e:TypeId) (sz:Nat) (R:Rq α) (W:Wq α) (B:Av) (H:AH) (n0:Nat) (v:Value) (ys:List α) (o:Option (Nat×Nat)):Prop:=
 (Bd e sz R W B H n0 v ys o∧(∀ b∈obs o,b∉B.bs)∧∀ g∈ogs o,g∉B.gs)∨(o=none∧∃ xs,xs.map Prod.fst=ys∧CutR e sz R W B H n0 v xs)
section
variable {α:Type}{e:TypeId}{sz:Nat}{R:Rq α}{W:Wq α}{A B:Av}{H H' Hc:AH}{n0:Nat}{v:Value}{ys:List α}{xs:List (α×Os)}{o:Option (Nat×Nat)}
theorem CutR.vw (h:CutR e sz R W B H n0 v xs):Vw sz (RW R W) B H v xs:=by
 obtain ⟨b,g,cells,rfl,h1,h2,h3,h4,_,_,_,_,h5⟩:=h
 refine ⟨b,cells.take (xs.length*sz),rfl,⟨h3,e,cells,.loose,g,_,h1.1,h1.2.2,.inr (.inr ⟨h1.2.1,h4,rfl⟩),by omega,by rw [List.drop_zero]⟩,fun i hi=>?_⟩
 rw [chunk_take hi]
 exact h5 i hi
theorem CutR.frX (hR:MonoF R) (hW:WM W) (h:CutR e sz R W B H n0 v xs) (k:FrX B.bs B.gs H H'):CutR e sz R W B H' n0 v xs:=by
 obtain ⟨b,g,cells,h0,h1,h2,h3,h4,h5,h6,h7,h8,h9⟩:=h
 exact ⟨b,g,cells,h0,h1.frX k h3 h4,h2,h3,h4,h5,h6,h7,h8.mono (Nat.le_refl _) k.1,fun i hi=>(RW.m hR hW).frX k (h9 i hi)⟩
theorem BdV.nil:BdV e sz R W B H n0 (.slice none 0 0) ([]:List α) none:=.inl ⟨.nil,by simp [obs],by simp [ogs]⟩
theorem BdV.frX (hR:MonoF R) (hW:WM W) (h:BdV e sz R W B H n0 v ys o) (k:FrX B.bs B.gs H H'):BdV e sz R W B H' n0 v ys o:=by
 rcases h with ⟨h,h1,h2⟩|⟨h0,xs,h1,h2⟩
 ·exact .inl ⟨h.frX hR hW k h1 h2,h1,h2⟩
 ·exact .inr ⟨h0,xs,h1,h2.frX hR hW k⟩
theorem BdV.fr (hR:MonoF R) (hW:WM W) (h:BdV e sz R W B H n0 v ys o) (k:Fr H H'):BdV e sz R W B H' n0 v ys o:=h.frX hR hW (k.x _ _)
theorem BdV.young (h:BdV e sz R W B H n0 v ys o):(∀ b∈obs o,n0≤b)∧(∀ g∈ogs o,n0≤g)∧(∀ b∈obs o,b<H.next)∧(∀ g∈ogs o,g<H.next):=by
 rcases h with ⟨h,_⟩|⟨rfl,_⟩
 ·exact h.young
 ·simp [obs,ogs]
theorem BdV.lt (h:BdV e sz R W B H n0 v ys o):(Av.of o).Lt H.next:=⟨h.young.2.2.1,h.young.2.2.2⟩
theorem BdV.isSl (h:BdV e sz R W B H n0 v ys o):∃ a n c,v=.slice a n c:=by
 rcases h with ⟨h,_⟩|⟨_,_,_,b,g,cells,rfl,_⟩
 ·exact h.isSl
 ·exact ⟨_,_,_,rfl⟩
theorem BdV.oneCell (h:BdV e sz R W B H n0 v ys o):Value.oneCell' v=true∧v.cells.toList=[v]:=by obtain ⟨a,n,c,rfl⟩:=h.isSl;exact ⟨rfl,rfl⟩
theorem Els.fsts {A:Av} (h:Els sz (RW R W) A H v xs):Els sz R A H v (xs.map Prod.fst):=by
 obtain ⟨cs,k1,k2⟩:=h
 refine ⟨cs,by rw [List.length_map];exact k1,fun i hi=>?_⟩
 rw [List.length_map] at hi
 rw [List.getElem_map]
 exact (k2 i hi).1
theorem BdV.els (hR:MonoF R) (hW:WM W) (h:BdV e sz R W B H n0 v ys o):Els sz R B H v ys:=by
 rcases h with ⟨h,h1,h2⟩|⟨_,xs,rfl,h⟩
 ·exact h.els hR hW h1 h2
 ·exact h.vw.els.fsts
theorem BdV.wr (hR:MonoF R) (hW:WM W) (h:BdV e sz R W B H n0 v ys o):∃ os:Os,Wr e sz W H v ys os∧os.In n0 H.next∧os.nd:=by
 rcases h with ⟨h,_,_⟩|⟨_,xs,rfl,b,g,cells,rfl,h1,h2,h3,h4,h5,h6,h7,h8,h9⟩
 ·obtain ⟨os,h1,h2⟩:=h.wl hR hW
  exact ⟨os,h1.r,h2⟩
 ·refine ⟨(b,g)::flat xs,.inr ⟨b,g,cells,xs.map Prod.snd,xs.length,rfl,by rw [List.length_map],h1,by rw [List.length_map];exact h2,by simp,fun i hi hi'=>?_⟩,fun p hp=>?_,h7⟩
  ·rw [List.getElem_map,List.getElem_map]
   exact (h9 i (by simpa using hi)).2.1
  ·rcases List.mem_cons.1 hp with rfl|hp
   ·exact ⟨h5,h6,h1.1,h1.2.1⟩
   ·exact h8 p hp
theorem BdV.app1 (hR:MonoF R) (hW:WM W) (h:BdV e sz R W B Hc n0 v ys o) (f:Fr Hc H) (hB:B.Lt Hc.next) {cx:List Value}{x:α}{os:Os} (hx:R (B.and (.of o)) H cx x) (hw:W H cx x os) (hin:os.In Hc.next H.next) (hnd:os.nd)
  (h1:∀ {A H cs a},R A H cs a→cs.all Value.oneCell'=true∧cs.length=sz) (hz:0<sz) {bytes:Nat} (hb:(ys.length+1)*bytes≤140737488355328) (hl:ys.length+1<4611686018427387904) (h0:n0≤Hc.next)
  {V:Env}{t u:TypeId}{a b a2 b2:Nat}{z z2:Value}{te:TI} (ht:V.E t=some ⟨.slice e,a,b,z⟩) (hu:V.E u=some ⟨.slice e,a2,b2,z2⟩) (he:V.E e=some te) (hsz:te.size=sz) (hby:te.bytes=bytes) :
  ∃ v' H' o',(∀ {g:Ft}{y w:Operand},g y=some v→g w=some (.slice (some ⟨H.next,0,none⟩) 1 1)→aopG V g (H.alloc (.row e cx .exact 0 0)) (.call ⟨.builtin .append,#[y,w],#[t,u]⟩)=some (v',H'))∧BdV e sz R W B H' n0 v' (ys++[x]) o'∧FrX (obs o) (ogs o) H H'∧(Av.of o).Gr (.of o') H.next:=by
 rcases h with ⟨h,q1,q2⟩|⟨rfl,xs,rfl,h⟩
 ·obtain ⟨v',H',o',k1,k2,k3,k4⟩:=h.app1 (V:=V) hR hW f hB hx hw hin hnd h1 hz hb hl h0 ht hu he hsz hby
  have hH:=f.1
  refine ⟨v',H',o',k1,.inl ⟨k2,fun b hb hbB=>(k4.1 b hb).elim (fun h=>q1 b h hbB) (fun h=>by have:=hB.1 b hbB;omega),fun g hg hgB=>(k4.2 g hg).elim (fun h=>q2 g h hgB) (fun h=>by have:=hB.2 g hgB;omega)⟩,k3,k4⟩
 ·have hm:=RW.m hR hW
  obtain ⟨b0,g0,cells,hv,_,_,_,_,_,_,p7,p8,_⟩:=id h
  rw [List.length_map] at hb hl
  have hfa:=Fr.alloc H (.row e cx .exact 0 0)
  have hr:R B H cx x:=hR.gr .left hx
  have hcx:=(h1 hr).2
  have hrw:RW R W B H cx (x,os):=⟨hr,hw,fun p hp=>⟨fun hm=>by have:=hB.1 _ hm;have:=hin p hp;omega,fun hm=>by have:=hB.2 _ hm;have:=hin p hp;omega,(hin p hp).2.2.1,(hin p hp).2.2.2⟩⟩
  have hs:Els sz (RW R W) B (H.alloc (.row e cx .exact 0 0)) (.slice (some ⟨H.next,0,none⟩) 1 1) [(x,os)]:=⟨cx,⟨by simpa using hcx,.inr ⟨H.next,0,1,rfl,fun _=>Rd.aLt (H0:=H) (hB.mono f.1) (et:=e) (cells:=cx) (st:=.exact) (g:=0) (v:=0) (Nat.le_refl _) (by simp) (by simp) (.inl rfl) (by simp;omega) (by simp only [List.length_cons,List.length_nil,List.drop_zero];rw [List.take_of_length_le (by omega)])⟩⟩,fun i hi=>by
   have:i=0:=by simp at hi;omega
   subst this
   simp only [Nat.zero_mul,List.drop_zero,List.getElem_cons_zero]
   rw [List.take_of_length_le (by omega)]
   exact hm.fr hrw hfa⟩
  have hcH:CutR e sz R W B H n0 v xs:=h.frX hR hW (f.x _ _)
  obtain ⟨v',H',k1,k2,k3⟩:=(hcH.vw.frX hm (hfa.x _ _)).app (n0:=n0) (V:=V) hm (hB.mono (Nat.le_trans f.1 hfa.1)) hs (fun hr=>(h1 hr.1).1) (by simp) hz hb hl (Nat.le_trans (Nat.le_trans h0 f.1) hfa.1) ht hu he hsz hby
  have hp7:(flat xs).nd:=p7.sub (List.sublist_cons_self _ _)
  refine ⟨v',H',_,k1,.inl ⟨⟨xs++[(x,os)],by simp,k2,?_,?_⟩,fun b hb hbB=>?_,fun g hg hgB=>?_⟩,(hfa.trans k3).x _ _,⟨fun b hb=>.inr ?_,fun b hb=>.inr ?_⟩⟩
  ·rw [flat_app]
   exact hp7.app hnd p8 hin
  ·rw [flat_app]
   exact (p8.mono (Nat.le_refl _) (Nat.le_trans f.1 (hfa.trans k3).1)).app (hin.mono h0 (hfa.trans k3).1)
  ·have:=hB.1 b hbB;have:=f.1;simp [obs] at hb;omega
  ·have:=hB.2 g hgB;have:=f.1;simp [ogs] at hg;omega
  ·simp [Av.of,obs] at hb;omega
  ·simp [Av.of,ogs] at hb;omega
theorem OwR.cutAt {β:Type}{S:Rq β}{xs:List β} (h:OwR e sz S B H n0 v xs o) {k:Nat} (hk:k<xs.length) {V:Env}{t:TypeId}{a b:Nat}{z:Value}{te:TI} (ht:V.E t=some ⟨.slice e,a,b,z⟩) (he:V.E e=some te) (hsz:te.size=sz) (hz:0<sz) :
  ∃ b g cs,o=some (b,g)∧v=.slice (some ⟨b,0,none⟩) xs.length unk∧Rw H b g e cs∧cs.length=xs.length*sz∧n0≤b∧n0≤g∧aSlice V.E H t v none (some (.int .i64 k)) (some (.int .i64 k))=some (.slice (some ⟨b,0,none⟩) k k)∧∀ i (h:i<xs.length),S (B.and (.of o)) H ((cs.drop (i*sz)).take sz) xs[i]:=by
 obtain ⟨cs,⟨hc,hlt,⟨_,h0,_⟩|⟨b,g,rfl,h3,h4,h5,h6,rfl,h7,h8⟩⟩,hR⟩:=h
 ·omega
 have hro:H.rowOf b e=some cs:=by
  unfold AH.rowOf
  rw [AH.lo_lt h5,h7]
  simp [AH.alive]
 refine ⟨b,g,cs,rfl,rfl,⟨h5,h6,h7⟩,hc,h3,h4,?_,hR⟩
 have hre:xs.length≤reach cs 0 te.size xs.length:=Nat.le_max_left _ _
 simp only [aSlice,ht,he,Option.isSome_some,Option.isNone_some,Bool.and_false,Bool.false_eq_true,if_false,if_true]
 subst hsz
 rw [if_neg (by omega),hro]
 simp only [bound_nat (kd:=.i64) (Nat.le_trans (Nat.le_of_lt hk) hre)]
 rw [if_neg (by unfold unk;omega)]
 simp only [optBound,bound_nat (kd:=.i64) (Nat.le_refl k),Nat.sub_zero]
 by_cases hk0:k=0
 ·rw [if_pos hk0]
 ·rw [if_neg hk0];simp
theorem CutR.cutAt (h:CutR e sz R W B H n0 v xs) (hl:xs.length<4611686018427387904) {k:Nat} (hk:k<xs.length) {V:Env}{t:TypeId}{a b:Nat}{z:Value}{te:TI} (ht:V.E t=some ⟨.slice e,a,b,z⟩) (he:V.E e=some te) :
  ∃ s1,aSlice V.E H t v none (some (.int .i64 k)) (some (.int .i64 k))=some s1∧CutR e sz R W B H n0 s1 (xs.take k):=by
 obtain ⟨b,g,cells,rfl,h1,h2,h3,h4,h5,h6,h7,h8,h9⟩:=h
 have hsub:(flat (xs.take k)).Sublist (flat xs):=flat_sub (List.take_sublist _ _)
 have hle:k*sz≤xs.length*sz:=Nat.mul_le_mul_right _ (by omega)
 refine ⟨.slice (some ⟨b,0,none⟩) k k,?_,b,g,cells,by rw [List.length_take,Nat.min_eq_left (by omega)],h1,by rw [List.length_take,Nat.min_eq_left (by omega)];omega,h3,h4,h5,h6,h7.sub (hsub.cons_cons _),h8.sub hsub,fun i hi=>?_⟩
 ·simp only [aSlice,ht,he,Option.isSome_some,Option.isNone_some,Bool.and_false,Bool.false_eq_true,if_false]
  rw [if_neg (by unfold unk;omega)]
  simp only [optBound,bound_nat (kd:=.i64) (Nat.le_of_lt hk),bound_nat (kd:=.i64) (Nat.le_refl k),Nat.sub_zero]
  by_cases hk0:k=0
  ·rw [if_pos hk0]
  ·rw [if_neg hk0];simp
 ·rw [List.length_take] at hi
  rw [List.getElem_take]
  exact h9 i (by omega)
theorem BdV.erase (hR:MonoF R) (hW:WM W) (h:BdV e sz R W B H n0 v ys o) (hB:B.Lt H.next) (h1:∀ {A H cs a},R A H cs a→cs.all Value.oneCell'=true) {k:Nat} (hk:k<ys.length) (hz:0<sz) {bytes:Nat} (hb:ys.length*bytes≤140737488355328) (hl:ys.length<4611686018427387904) (h0:n0≤H.next)
 {V:Env}{t:TypeId}{a b:Nat}{z:Value}{te:TI} (ht:V.E t=some ⟨.slice e,a,b,z⟩) (he:V.E e=some te) (hsz:te.size=sz) (hby:te.bytes=bytes) :
 ∃ s1 s2 v' H' o',aSlice V.E H t v none (some (.int .i64 k)) (some (.int .i64 k))=some s1∧aSlice V.E H t v (some (.int .i64 ((k:Int)+1))) none none=some s2∧(∀ {g:Ft}{x w:Operand},g x=some s1→g w=some s2→aopG V g H (.call ⟨.builtin .append,#[x,w],#[t,t]⟩)=some (v',H'))∧BdV e sz R W B H' n0 v' (ys.eraseIdx k) o'∧Fr H H':=by
 have hm:=RW.m hR hW
 have key:∃ xs:List (α×Os),xs.map Prod.fst=ys∧Cut V t sz (RW R W) B H v xs k∧(flat xs).nd∧(flat xs).In n0 H.next∧∃ s1,aSlice V.E H t v none (some (.int .i64 k)) (some (.int .i64 k))=some s1∧CutR e sz R W B H n0 s1 (xs.take k):=by
  rcases h with ⟨⟨xs,rfl,h2,h3,h4⟩,q1,q2⟩|⟨_,xs,rfl,h2⟩
  ·rw [List.length_map] at hk
   refine ⟨xs,rfl,h2.cut hm q1 q2 hk hz ht he hsz,h3,h4,?_⟩
   obtain ⟨b,g,cs,rfl,hv,k1,k2,k3,k4,k5,k6⟩:=h2.cutAt hk ht he hsz hz
   have hsub:(flat (xs.take k)).Sublist (flat xs):=flat_sub (List.take_sublist _ _)
   have hle:k*sz≤xs.length*sz:=Nat.mul_le_mul_right _ (by omega)
   have hd:∀ p∈flat xs,p.1≠b∧p.2≠g:=fun p hp=>by
    obtain ⟨os,hos,hp⟩:=List.mem_flatten.1 hp
    obtain ⟨x,hx1,rfl⟩:=List.mem_map.1 hos
    obtain ⟨i,hi,rfl⟩:=List.mem_iff_getElem.1 hx1
    have:=(k6 i hi).2.2 p hp
    exact ⟨fun e=>this.1 (List.mem_append_right _ (by rw [e];simp [Av.of,obs])),fun e=>this.2.1 (List.mem_append_right _ (by rw [e];simp [Av.of,ogs]))⟩
   refine ⟨_,k5,b,g,cs,by rw [List.length_take,Nat.min_eq_left (by omega)],k1,by rw [List.length_take,Nat.min_eq_left (by omega)];omega,q1 b (by simp [obs]),q2 g (by simp [ogs]),k3,k4,Os.nd.sub (os:=(b,g)::flat xs) ?_ (hsub.cons_cons _),h4.sub hsub,fun i hi=>?_⟩
   ·refine ⟨List.nodup_cons.2 ⟨fun hm=>?_,h3.1⟩,List.nodup_cons.2 ⟨fun hm=>?_,h3.2⟩⟩
    ·obtain ⟨p,hp,e⟩:=List.mem_map.1 hm
     exact (hd p hp).1 e
    ·obtain ⟨p,hp,e⟩:=List.mem_map.1 hm
     exact (hd p hp).2 e
   ·rw [List.length_take] at hi
    rw [List.getElem_take]
    exact hm.gr .left (k6 i (by omega))
  ·rw [List.length_map] at hk hl
   obtain ⟨b,g,cells,hv,p1,p2,p3,p4,p5,p6,p7,p8,p9⟩:=id h2
   exact ⟨xs,rfl,h2.vw.cut hl hk hz ht he hsz,p7.sub (List.sublist_cons_self _ _),p8,h2.cutAt hl hk ht he⟩
 obtain ⟨xs,rfl,⟨s1,s2,q1,q2,q3,q4,q5⟩,hnd,hin,s1',e1,hcr⟩:=key
 cases q1.symm.trans e1
 rw [List.length_map] at hk hb hl
 have hee:(xs.map Prod.fst).eraseIdx k=(xs.take k++xs.drop (k+1)).map Prod.fst:=by
  rw [List.eraseIdx_eq_take_drop_succ,List.map_append,List.map_take,List.map_drop]
 rw [hee]
 by_cases hlast:xs.length=k+1
 ·obtain ⟨r1,r2⟩:=q5 hlast
  refine ⟨s1,s2,s1,H,none,q1,q2,fun hx hw=>q3.app0 r1 ht ht he (r2 _) hx hw,.inr ⟨rfl,xs.take k,?_,hcr⟩,.refl _⟩
  have:xs.drop (k+1)=[]:=List.drop_eq_nil_of_le (by omega)
  rw [this,List.append_nil]
 ·obtain ⟨v',H',k1,k2,k3⟩:=q3.app (n0:=n0) hm hB q4 (fun hr=>h1 hr.1) (by rw [List.length_drop];omega) hz (bytes:=bytes) (by
   rw [List.length_take,List.length_drop]
   exact Nat.le_trans (Nat.mul_le_mul_right _ (by omega)) hb) (by rw [List.length_take,List.length_drop];omega) h0 ht ht he hsz hby
  have hsub:(flat (xs.take k++xs.drop (k+1))).Sublist (flat xs):=flat_sub (by rw [←List.eraseIdx_eq_take_drop_succ];exact List.eraseIdx_sublist _ _)
  refine ⟨s1,s2,v',H',_,q1,q2,k1,.inl ⟨⟨_,rfl,k2,hnd.sub hsub,(hin.sub hsub).mono (Nat.le_refl _) k3.1⟩,fun b hb hbB=>?_,fun g hg hgB=>?_⟩,k3⟩
  ·have:=hB.1 b hbB;simp [obs] at hb;omega
  ·have:=hB.2 g hgB;simp [ogs] at hg;omega
end
def WPhiN (eI:TypeId):Wq Phi:=fun H cs p os=>WPhi eI H cs p os∧∃ v,cs[0]?=some v∧isSl v=false
theorem WPhiN.m {eI:TypeId}:WM (WPhiN eI):=⟨fun k hs hsim h=>⟨WPhi.m.kp k hs hsim h.1,hsim.non h.2⟩,fun k hd h=>⟨WPhi.m.frX k hd h.1,h.2⟩⟩
theorem chunkG {cells:List Value}{i sz j:Nat}{v:Value} (h:((cells.drop (i*sz)).take sz)[j]?=some v):cells[0+i*sz+j]?=some v:=by
 rw [List.getElem?_take] at h
 split at h
 ·rw [List.getElem?_drop] at h
  rw [Nat.zero_add];exact h
 ·cases h
def WBlkR (eI eP eC:TypeId):Wq Block:=fun H cs b os=>∃ vp vc vt op oc ot,cs[0]?=some vp∧cs[1]?=some vc∧cs[3]?=some vt∧os=ot++(op++oc)∧(∃ vf,cs[2]?=some vf∧isSl vf=true)∧Wl eP 2 (WPhiN eI) H vp b.phis op∧Wr eC 6 (WIns eI) H vc b.code oc∧WI eI H vt b.to.length ot
def WGrR (eI eP eC eB:TypeId):Wq Graph:=fun H cs g os=>∃ v,cs[4]?=some v∧Wl eB 4 (WBlkR eI eP eC) H v g.blocks os
section
variable {eI eP eC eB:TypeId}
theorem WBlkR.m:WM (WBlkR eI eP eC):=
 ⟨fun k hs hsim ⟨vp,vc,vt,op,oc,ot,h1,h2,h3,h4,hv,h5,h6,h7⟩=>by
  subst h4
  exact ⟨vp,vc,vt,op,oc,ot,hsim.sl h1 h5.isSl,hsim.sl h2 h6.isSl,hsim.sl h3 h7.isSl,rfl,hv.imp fun v h=>⟨hsim.sl h.1 h.2,h.2⟩,h5.kp WPhiN.m k fun p hp=>hs p (List.mem_append_right _ (List.mem_append_left _ hp)),h6.kp WIns.m k fun p hp=>hs p (List.mem_append_right _ (List.mem_append_right _ hp)),h7.kp WN.m k fun p hp=>hs p (List.mem_append_left _ hp)⟩,
  fun k hd ⟨vp,vc,vt,op,oc,ot,h1,h2,h3,h4,hv,h5,h6,h7⟩=>by
  subst h4
  exact ⟨vp,vc,vt,op,oc,ot,h1,h2,h3,rfl,hv,h5.frX WPhiN.m k fun p hp=>hd p (List.mem_append_right _ (List.mem_append_left _ hp)),h6.frX WIns.m k fun p hp=>hd p (List.mem_append_right _ (List.mem_append_right _ hp)),h7.frX WN.m k fun p hp=>hd p (List.mem_append_left _ hp)⟩⟩
end
end Go.Ev
namespace Go.Ev.Wt
open Go.RowKit
open Go.RowKit Go.ChangeShapes Go.WideShapes Go.ChangeAt
variable {P:Program}{W w:World}{H:AH}{ι:Emb}
def Ent {α:Type} (P:Program) (R:Rp α) (t:TypeId):Prop :=
 ∀ {Hd:Type} (enc:TypeId×Value→Hd) (w:World) (fuel:Nat) (cs:List Value) (d:DataW Hd) (ps:List MemPlace),DataW.trod enc P w 0 (fun _=>true) true fuel t cs=some (d,ps)→(d.weights P t).all (·≤reachBytes)=true →
   ∀ (H:AH) (ι:Emb),HRel P w.heap.size ι H w→Ro H→∃ H' ι' azs,∃ a:α,HRel P w.heap.size ι' H' w∧Ro H'∧Kro H H'∧ι.le ι'∧LRel ι' azs cs∧R H' azs a
theorem Ent.of {α:Type}{R:Rp α}{t:TypeId} (h:Go.Ev.Ent P R t):Ent P R t:=fun enc w fuel cs d ps ht _=>h enc w fuel cs d ps ht
def RSliceW {α:Type} (n bytes:Nat) (R:Rp α):Rp (List α):=fun H cs xs=>RSlice n R H cs xs∧xs.length*bytes≤reachBytes
theorem weightsAll_all {Hd:Type}{e:TypeId}{p:Nat→Bool}:∀ {ds:List (DataW Hd)},(DataW.weightsAll P e ds).all p=true→∀ d∈ds,(d.weights P e).all p=true
 | [],_,d,hd=>by cases hd
 | x::ds,h,d,hd=>by
  rw [DataW.weightsAll,List.all_append,Bool.and_eq_true] at h
  rcases List.mem_cons.1 hd with rfl|hd
  ·exact h.1
  ·exact weightsAll_all h.2 d hd
theorem weightsEach_all {Hd:Type}{p:Nat→Bool}:∀ {ts:List TypeId}{ds:List (DataW Hd)},(DataW.weightsEach P ts ds).all p=true→∀ (i:Nat) t d,ts[i]?=some t→ds[i]?=some d→(d.weights P t).all p=true
 | [],_,_,i,t,d,ht,_=>by simp at ht
 | _::_,[],_,i,t,d,_,hd=>by simp at hd
 | t0::ts,d0::ds,h,i,t,d,ht,hd=>by
  rw [DataW.weightsEach,List.all_append,Bool.and_eq_true] at h
  cases i with
  | zero=>simp at ht hd;subst ht;subst hd;exact h.1
  | succ i=>exact weightsEach_all h.2 i t d (by simpa using ht) (by simpa using hd)
theorem weights_slice {Hd:Type}{t e:TypeId} (hu:P.underlying t=some (.slice e)) {elems rest:List (DataW Hd×List MemPlace)}{d:DataW Hd}{ps qs:List MemPlace} (h:(DataW.slice (elems.map (·.1)) (rest.map (·.1)),qs)=(d,ps)) (hw:(d.weights P t).all (·≤reachBytes)=true) :
  elems.length*P.bytesOf e≤reachBytes∧∀ y∈elems,(y.1.weights P e).all (·≤reachBytes)=true:=by
 cases h
 rw [DataW.weights] at hw
 simp only [hu,List.all_cons,List.all_append,Bool.and_eq_true,decide_eq_true_eq,List.length_map] at hw
 refine ⟨Nat.le_trans (Nat.mul_le_mul_right _ (Nat.le_add_right _ _)) hw.1,fun y hy=>weightsAll_all hw.2.1 _ (List.mem_map.2 ⟨y,hy,rfl⟩)⟩
theorem weights_struct {Hd:Type}{t:TypeId}{fs:Array Field} (hu:P.underlying t=some (.struct fs)) {xs:List (DataW Hd×List MemPlace)}{d:DataW Hd}{ps qs:List MemPlace} (h:(DataW.agg (xs.map (·.1)),qs)=(d,ps)) (hw:(d.weights P t).all (·≤reachBytes)=true) (i:Nat) (f:Field) (y:DataW Hd×List MemPlace) (hf:fs.toList[i]?=some f) (hy:xs[i]?=some y):(y.1.weights P f.type).all (·≤reachBytes)=true:=by
 cases h
 rw [DataW.weights] at hw
 simp only [hu] at hw
 exact weightsEach_all hw i f.type y.1 (by rw [List.getElem?_map,hf];rfl) (by rw [List.getElem?_map,hy];rfl)
theorem Ent.elems {α:Type}{R:Rp α}{e:TypeId} (hR:Ent P R e) (hm:Mono R) {Hd:Type} (enc:TypeId×Value→Hd) (w:World) (fuel:Nat) (a:Addr) (n:Nat) (hn:P.cellsOf e=n) :
 ∀ (len:Nat),(∀ i,i<len→∃ y,((w.cells? 0 (a.add (i*n)) n).bind (DataW.trod enc P w 0 (fun _=>true) true fuel e))=some y∧(y.1.weights P e).all (·≤reachBytes)=true) →
 ∀ (H:AH) (ι:Emb),HRel P w.heap.size ι H w→Ro H→∃ H' ι',∃ azs:List Value,∃ xs:List α,HRel P w.heap.size ι' H' w∧Ro H'∧Kro H H'∧ι.le ι'∧xs.length=len∧azs.length=len*n ∧
   (∀ (i:Nat) (x:Value),azs[i]?=some x→∃ y,w.cell? (a.add i)=some y∧VRel ι' x y)∧∀ (i:Nat) (x:α),xs[i]?=some x→R H' ((azs.drop (i*n)).take n) x
 | 0,_,H,ι,hr,hro=>⟨H,ι,[],[],hr,hro,.refl _,Emb.le_refl _,rfl,by simp,fun i x h=>by simp at h,fun i x h=>by simp at h⟩
 |len+1,hel,H,ι,hr,hro=>by
  obtain ⟨H1,ι1,azs,xs,h1,h2,h3,h4,h5,h6,h7,h8⟩:=Ent.elems hR hm enc w fuel a n hn len (fun i hi=>hel i (by omega)) H ι hr hro
  obtain ⟨y,hy,hyw⟩:=hel len (by omega)
  obtain ⟨cs,hc,ht⟩:=Option.bind_eq_some_iff.1 hy
  obtain ⟨H2,ι2,bs,x,k1,k2,k3,k4,k5,k6⟩:=hR enc w fuel cs y.1 y.2 ht hyw H1 ι1 h1 h2
  obtain ⟨c1,c2⟩:=cells?_at hc
  have hbl:bs.length=n:=by rw [k5.length,c1]
  refine ⟨H2,ι2,azs++bs,xs++[x],k1,k2,h3.trans k3,Emb.le_trans h4 k4,by simp [h5],by simp [h6,hbl,Nat.add_mul],fun i z hz=>?_,fun i z hz=>?_⟩
  ·by_cases hi:i<len*n
   ·rw [List.getElem?_append_left (by omega)] at hz
    obtain ⟨y,q1,q2⟩:=h7 i z hz
    exact ⟨y,q1,q2.mono k4⟩
   ·rw [List.getElem?_append_right (by omega),h6] at hz
    obtain ⟨y,q1,q2⟩:=k5.get hz
    have hlt:i-len*n<n:=by have:=(List.getElem?_eq_some_iff.1 hz).1;omega
    obtain ⟨y',q3,q4⟩:=c2 _ hlt
    rw [q1] at q3;cases q3
    refine ⟨y,?_,q2⟩
    rw [add_add] at q4
    rwa [show len*n+(i-len*n)=i by omega] at q4
  ·by_cases hi:i<len
   ·rw [List.getElem?_append_left (by omega)] at hz
    have hle:i*n+n≤len*n:=by
     have:(i+1)*n≤len*n:=Nat.mul_le_mul_right n hi
     rwa [Nat.add_mul,Nat.one_mul] at this
    have:((azs++bs).drop (i*n)).take n=(azs.drop (i*n)).take n:=by
     rw [List.drop_append_of_le_length (by omega),List.take_append_of_le_length (by simp;omega)]
    rw [this]
    exact hm k3 (h8 i z hz)
   ·have:i=len:=by
     have:=(List.getElem?_eq_some_iff.1 hz).1
     simp at this;omega
    subst this
    rw [List.getElem?_append_right (by omega),h5] at hz
    simp at hz
    subst hz
    rw [←h6,List.drop_left,List.take_of_length_le (by omega)]
    exact k6
theorem Ent.slice {α:Type}{R:Rp α}{t e:TypeId}{n:Nat} (hu:P.underlying t=some (.slice e)) (hn:P.cellsOf e=n) (h0:0<n) (hR:Ent P R e) (hm:Mono R):Ent P (RSliceW n (P.bytesOf e) R) t:=fun {Hd} enc w fuel cs d ps h hw0 H ι hr hro=>by
 cases fuel with
 | zero=>simp [DataW.trod] at h
 |succ fuel =>
  simp only [DataW.trod,hu] at h
  split at h<;>first|(exfalso;simp_all;done)|skip
  ·exact ⟨H,ι,_,[],hr,hro,.refl _,Emb.le_refl _,.cons .sliceNil .nil,⟨_,rfl,Nat.zero_le _,.inl ⟨rfl,rfl⟩⟩,by simp⟩
  ·rename_i e' a len cap he
   cases he
   split at h
   ·rename_i hc
    obtain ⟨_,hlc,hcm⟩:=hc
    obtain ⟨elems,hel,h⟩:=Option.bind_eq_some_iff.1 h
    obtain ⟨rest,hrest,h⟩:=Option.map_eq_some_iff.1 h
    obtain ⟨hwl,hwe⟩:=weights_slice hu h hw0
    have hlen0:elems.length=len:=by simpa using Lib.mapM_length hel
    rw [hlen0] at hwl
    have hat:∀ i,i<len→∃ y,((w.cells? 0 (a.add (i*n)) n).bind (DataW.trod enc P w 0 (fun _=>true) true fuel e))=some y∧(y.1.weights P e).all (·≤reachBytes)=true:=fun i hi=>by
     obtain ⟨y,hy1,hy⟩:=Lib.mapM_at hel i i (by simp [hi])
     rw [hn] at hy
     exact ⟨y,hy,hwe y (List.mem_of_getElem? hy1)⟩
    have hunk:cap<unk:=Nat.lt_of_le_of_lt hcm (by decide)
    by_cases hl0:len=0
    ·subst hl0
     by_cases hc0:cap=0
     ·subst hc0
      exact ⟨H,ι,[.slice (some ⟨H.next,0,none⟩) 0 0],[],hr,hro,.refl _,Emb.le_refl _,.cons (.sliceZ a) .nil,⟨_,rfl,Nat.zero_le _,.inr (.inl ⟨_,_,by decide,rfl,rfl⟩)⟩,by simp⟩
     ·obtain ⟨y,_,hy⟩:=Lib.mapM_at hrest 0 0 (List.getElem?_range (by omega))
      obtain ⟨cs0,hc0',_⟩:=Option.bind_eq_some_iff.1 hy
      rw [hn] at hc0'
      obtain ⟨z,_,hz⟩:=(cells?_at hc0').2 0 h0
      simp only [Nat.zero_mul,Nat.add_zero,add_add] at hz
      have hsp:a.spot=none:=by
       unfold World.cell? at hz
       split at hz
       ·split at hz
        ·cases hz
        ·rename_i hs;simpa [Addr.add] using hs
       ·cases hz
      have hd:OOk P w.heap.size ι w ⟨a.block,a.off,0,1⟩ .dead:=trivial
      obtain ⟨q1,q2⟩:=HRel.row_ro hr hro (.inr rfl) hd
      have ha:a=⟨a.block,a.off+0,none⟩:=by cases a;simp at hsp;subst hsp;rfl
      refine ⟨_,_,[.slice (some ⟨H.next,0,none⟩) 0 cap],[],q2,hro.alloc (.inr rfl),.alloc _ _,Emb.le_put q1,.cons ?_ .nil,⟨_,rfl,Nat.zero_le _,.inr (.inl ⟨_,_,hunk,rfl,rfl⟩)⟩,by simp⟩
      rw [ha]
      exact .slice (l:=⟨a.block,a.off,0,1⟩) (by simp [Emb.put]) hunk (Nat.zero_le _)
    ·obtain ⟨H1,ι1,azs,xs,h1,h2,h3,h4,h5,h6,h7,h8⟩:=Ent.elems hR hm enc w fuel a n hn len hat H ι hr hro
     have hpos:0<len*n:=Nat.mul_pos (by omega) h0
     obtain ⟨z,hz,_⟩:=h7 0 azs[0] (by simp [List.getElem?_eq_getElem (show 0<azs.length by omega)])
     have ⟨hsp,c,tt,fr,hw⟩:a.spot=none∧∃ c t fr,w.heap[a.block]?=some (.cells c t fr):=by
      unfold World.cell? at hz
      split at hz
      ·rename_i c t fr hw
       split at hz
       ·cases hz
       ·rename_i hs;exact ⟨by simpa [Addr.add] using hs,c,t,fr,by simpa [Addr.add] using hw⟩
      ·cases hz
     have hcell:∀ (i:Nat) (x:Value),azs[i]?=some x→∃ y,c[a.off+i]?=some y∧VRel ι1 x y:=fun i x hx=>by
      obtain ⟨y,hy,hv⟩:=h7 i x hx
      refine ⟨y,?_,hv⟩
      unfold World.cell? at hy
      have hb:(a.add i).block=a.block:=by unfold Addr.add;split<;>rfl
      have ho:(a.add i).off=a.off+i:=by unfold Addr.add;split<;>simp_all
      rw [hb,hw] at hy
      simp only at hy
      split at hy
      ·cases hy
      ·rw [←ho];exact hy
     have hfit:a.off+azs.length≤c.size:=by
      obtain ⟨y,hy,_⟩:=hcell (azs.length-1) azs[azs.length-1] (by simp [List.getElem?_eq_getElem (show azs.length-1<azs.length by omega)])
      have:=(Array.getElem?_eq_some_iff.1 hy).1
      omega
     have hd:OOk P w.heap.size ι1 w ⟨a.block,a.off,c.size,P.cellsOf e⟩ (.row e azs .ro 0 0) :=
      ⟨⟨c,tt,fr,hw,rfl,hcell,fun e=>(nomatch e)⟩,hfit,rfl,fun e=>absurd rfl e,fun _=>(Array.getElem?_eq_some_iff.1 hw).1,fun e=>(nomatch e)⟩
     obtain ⟨q1,q2⟩:=HRel.row_ro h1 h2 (.inl ⟨_,_,rfl⟩) hd
     have ha:a=⟨a.block,a.off+0,none⟩:=by cases a;simp at hsp;subst hsp;rfl
     refine ⟨_,_,[.slice (some ⟨H1.next,0,none⟩) xs.length cap],xs,q2,h2.alloc (.inl ⟨_,_,rfl⟩),h3.trans (.alloc _ _),Emb.le_trans h4 (Emb.le_put q1),.cons ?_ .nil,⟨_,rfl,by omega,.inr (.inr ⟨H1.next,0,cap,e,azs,0,0,rfl,by omega,hcm,by simp,by simp,by rw [h5,h6];omega,fun i x hx=>?_⟩)⟩,by rw [h5];exact hwl⟩
     ·rw [h5,ha]
      exact .slice (l:=⟨a.block,a.off,c.size,P.cellsOf e⟩) (by simp [Emb.put]) hunk hlc
     ·rw [Nat.zero_add]
      exact hm (.alloc _ _) (h8 i x hx)
   ·cases h
def EntF {β:Type} (P:Program) (S:Rp β) (fs:List Field) (off size:Nat):Prop :=
 ∀ {Hd:Type} (enc:TypeId×Value→Hd) (w:World) (fuel:Nat) (cs:List Value),cs.length=size →
   (∀ f,f∈fs→∃ y,DataW.trod enc P w 0 (fun _=>true) true fuel f.type ((cs.drop f.offset).take (P.cellsOf f.type))=some y∧(y.1.weights P f.type).all (·≤reachBytes)=true) →
   ∀ (H:AH) (ι:Emb),HRel P w.heap.size ι H w→Ro H→∃ H' ι' azs,∃ b:β,HRel P w.heap.size ι' H' w∧Ro H'∧Kro H H'∧ι.le ι'∧LRel ι' azs (cs.drop off)∧S H' azs b
theorem EntF.nil {off size:Nat} (h:size≤off):EntF P REnd [] off size:=fun enc w fuel cs hl _ H ι hr hro=>
 ⟨H,ι,[],(),hr,hro,.refl _,Emb.le_refl _,by rw [List.drop_eq_nil_iff.2 (by omega)];exact .nil,rfl⟩
theorem EntF.cons {α β:Type}{R:Rp α}{S:Rp β}{f:Field}{fs:List Field}{off n size:Nat} (ho:f.offset=off) (hn:P.cellsOf f.type=n) (hs:off+n≤size) (hR:Ent P R f.type) (hm:Mono R) (hS:EntF P S fs (off+n) size) :
  EntF P (RCons n R S) (f::fs) off size:=fun enc w fuel cs hl hf H ι hr hro=>by
 obtain ⟨y,hy,hyw⟩:=hf f (by simp)
 rw [ho,hn] at hy
 obtain ⟨H1,ι1,azs,x,h1,h2,h3,h4,h5,h6⟩:=hR enc w fuel _ y.1 y.2 hy hyw H ι hr hro
 obtain ⟨H2,ι2,bs,z,k1,k2,k3,k4,k5,k6⟩:=hS enc w fuel cs hl (fun g hg=>hf g (by simp [hg])) H1 ι1 h1 h2
 have hlen:azs.length=n:=by rw [h5.length];simp;omega
 refine ⟨H2,ι2,azs++bs,(x,z),k1,k2,h3.trans k3,Emb.le_trans h4 k4,?_,?_,?_⟩
 ·have:=(h5.mono k4).append k5
  rwa [←List.drop_drop,List.take_append_drop] at this
 ·simp only [←hlen,List.take_left];exact hm k3 h6
 ·simp only [←hlen,List.drop_left];exact k6
theorem Ent.struct {β:Type}{S:Rp β}{t:TypeId}{fs:Array Field}{l:List Field}{size:Nat} (hu:P.underlying t=some (.struct fs)) (hl:fs.toList=l) (hs:P.cellsOf t=size) (h:EntF P S l 0 size):Ent P S t:=fun {Hd} enc w fuel cs d ps ht hw0 H ι hr hro=>by
 cases fuel with
 | zero=>simp [DataW.trod] at ht
 |succ fuel =>
  simp only [DataW.trod,hu] at ht
  split at ht
  ·rename_i hlen
   obtain ⟨xs,hm,hd⟩:=Option.map_eq_some_iff.1 ht
   obtain ⟨H',ι',azs,b,h1,h2,h3,h4,h5,h6⟩:=h enc w fuel cs (by omega) (fun f hf=>by
    rw [←hl] at hf
    obtain ⟨i,hi⟩:=List.mem_iff_getElem?.1 hf
    obtain ⟨y,hy1,hy⟩:=Lib.mapM_at hm i f hi
    exact ⟨y,hy,weights_struct hu hd hw0 i f y hi hy1⟩) H ι hr hro
   exact ⟨H',ι',azs,b,h1,h2,h3,h4,by simpa using h5,h6⟩
  ·cases ht
theorem Ent.agg {α:Type}{R:Rp α}{t:TypeId}{fs:Array Field} (hu:P.underlying t=some (.struct fs)) (hR:Ent P R t) {Hd:Type} (enc:TypeId×Value→Hd) {base:Nat}{v:Value}{d:DataW Hd}{ps:List MemPlace} (hok:Value.okWide P w .any base t v) (ht:DataW.Trod enc P w 0 (fun _=>true) true t v d ps) (hw0:(d.weights P t).all (·≤reachBytes)=true)
  (hr:HRel P w.heap.size ι H w) (hro:Ro H):∃ H' ι' azs,∃ a:α,HRel P w.heap.size ι' H' w∧Ro H'∧Kro H H'∧ι.le ι'∧VRel ι' (.agg azs) v∧R H' azs.toList a:=by
 obtain ⟨fuel,ht⟩:=ht
 obtain ⟨H',ι',azs,a,h1,h2,h3,h4,h5,h6⟩:=hR enc w fuel _ d ps ht hw0 H ι hr hro
 unfold Value.okWide at hok
 rw [hu] at hok
 obtain ⟨cs,rfl,_⟩:=hok
 refine ⟨H',ι',azs.toArray,a,h1,h2,h3,h4,?_,by simpa using h6⟩
 have:VRel ι' (.agg azs.toArray) (.agg cs.toList.toArray):=VRel.agg' h5
 simpa using this
def EntA {β:Type} (P:Program) (S:Rp β) (ts:List TypeId):Prop :=
 ∀ {Hd:Type} (enc:TypeId×Value→Hd) (w:World) (base:Nat) (vs:List Value) (ds:List (DataW Hd)) (ps:List MemPlace),DataW.TrodAll enc P w 0 (fun _=>true) true ts vs ds ps→(DataW.weightsEach P ts ds).all (·≤reachBytes)=true →
   (∀ (j:Nat) t v,ts[j]?=some t→vs[j]?=some v→Value.okWide P w .any base t v) →
   ∀ (H:AH) (ι:Emb),HRel P w.heap.size ι H w→Ro H→∃ H' ι' avs,∃ b:β,HRel P w.heap.size ι' H' w∧Ro H'∧Kro H H'∧ι.le ι'∧LRel ι' avs vs∧S H' avs b
theorem EntA.nil:EntA P AEnd []:=fun enc w base vs ds ps h _ _ H ι hr hro=>by
 cases vs with
 | nil=>exact ⟨H,ι,[],(),hr,hro,.refl _,Emb.le_refl _,.nil,rfl⟩
 | cons v vs=>exact h.elim
theorem EntA.agg {α β:Type}{R:Rp α}{S:Rp β}{t:TypeId}{ts:List TypeId}{fs:Array Field} (hu:P.underlying t=some (.struct fs)) (hR:Ent P R t) (hmo:Mono R) (hS:EntA P S ts):EntA P (AAgg R S) (t::ts):=fun enc w base vs ds ps h hw0 hok H ι hr hro=>by
 cases vs with
 | nil=>exact h.elim
 | cons v vs=>
  cases ds with
  | nil=>exact h.elim
  | cons d ds=>
   obtain ⟨p,q,h1,h2,_⟩:=h
   rw [show DataW.weightsEach P (t::ts) (d::ds)=d.weights P t++DataW.weightsEach P ts ds by rw [DataW.weightsEach],List.all_append,Bool.and_eq_true] at hw0
   obtain ⟨H1,ι1,azs,a,k1,k2,k3,k4,k5,k6⟩:=Ent.agg hu hR enc (hok 0 t v rfl rfl) h1 hw0.1 hr hro
   obtain ⟨H2,ι2,avs,b,l1,l2,l3,l4,l5,l6⟩:=hS enc w base vs ds q h2 hw0.2 (fun j t v ht hv=>hok (j+1) t v (by simpa using ht) (by simpa using hv)) H1 ι1 k1 k2
   exact ⟨H2,ι2,.agg azs::avs,(a,b),l1,l2,k3.trans l3,Emb.le_trans k4 l4,.cons (k5.mono l4) l5,azs,avs,rfl,hmo l3 k6,l6⟩
theorem law_calls {β:Type} (hn:(P.funcs.toList.all fun fn=>!(fn.name == "runtime.NumGoroutine"))=true) (hm:P.follows .mixedOrders=true) {rows:List AObj} (hr:∀ g o,rows[g]?=some o→RowIn w g o)
  {S:Rp β}{ts:List TypeId} (hS:EntA P S ts) {Hd:Type}{enc:TypeId×Value→Hd}{base:Nat}{args:Array Value}{ds:List (DataW Hd)}{ps:List MemPlace} (ht:DataW.TrodAll enc P w 0 (fun _=>true) true ts args.toList ds ps) (hw0:(DataW.weightsEach P ts ds).all (·≤reachBytes)=true)
  (hok:∀ (j:Nat) t v,ts[j]?=some t→args[j]?=some v→Value.okWide P w .any base t v) {f:FuncId}{v:Value} (hv:plain v=true) {O:Orc} (hO:OrcOk (envOf P rows.length) O)
  (hL:∀ H avs b,Kro (startH rows) H→S H avs b→∃ H',Lc (envOf P rows.length) O f avs H v H'):Calls P f args w fun e w'=>e=.returned v∧Below w.heap.size w w':=by
 obtain ⟨H',ι',avs,b,h1,h2,h3,h4,h5,h6⟩:=hS enc w base args.toList ds ps ht hw0 (fun j t v a c=>hok j t v a (by simpa using c)) (startH rows) (startE P rows) (HRel.laid P w rows hr) (Ro.laid hr)
 obtain ⟨H'',hl⟩:=hL H' avs b h3 h6
 have hG:GOk (startE P rows) (envOf P rows.length).nG:=fun g hg=>by
  have hg':g<rows.length:=hg
  cases hs:startE P rows g with
  | some l=>exact ⟨l,rfl,(startE_blk hs).2⟩
  | none=>
   unfold startE at hs
   rw [show rows[g]?=some rows[g] by simp [hg']] at hs
   split at hs<;>simp_all
 have:=Lc.sound (V:=envOf P rows.length) hO (fun t ti h=>h) (fnOf_ok hn) hm hl w.heap.size ι' w args.toList (hG.mono h4) h1 h5
 exact this.mono fun e w' ⟨v',ι'',he,hr,hs⟩=>⟨by rw [he,hr.plain_eq hv],hs.below⟩
theorem law_contract {β:Type} (hn:(P.funcs.toList.all fun fn=>!(fn.name == "runtime.NumGoroutine"))=true) (hm:P.follows .mixedOrders=true) (hl:laidOutB P=true) {rows:List AObj} (hr:∀ g o,rows[g]?=some o→RowIn W g o)
  {S:Rp β}{f:FuncId}{fn:Func}{ts:List TypeId} (hp:fn.params.toList=ts) (hS:EntA P S ts) (hts:(ts.all fun t=>P.readableRec t&&decide (t<P.types.size))=true)
  {tb:TypeId} (hres:fn.resultTypes=#[tb]) (hbool:P.underlying tb=some .bool) {s:ChangeSpec} (hvars:s.vars=[])
  {H:Type}{enc:TypeId×Value→H}{base:Nat}{args:Array Value}{ds gs:List (DataW H)}{before:List MemPlace} (hfn:gs=[]→ds.length=ts.length→s.fn H (ds++gs)={ results:=[.lit (.bool true)],args:=ds })
  (hval:∀ (j:Nat) t v,fn.params[j]?=some t→args[j]?=some v→Value.okWide P W .any base t v)
  (hW:DataW.Whole enc P fn.params.toList s.vars false W args.toList ds gs before) (hw0:(DataW.weightsEach P ts ds).all (·≤reachBytes)=true) {fresh handsOn again:Bool}{O:Orc} (hO:OrcOk (envOf P rows.length) O)
  (hL:∀ H avs b,Kro (startH rows) H→S H avs b→∃ H',Lc (envOf P rows.length) O f avs H (.bool true) H') :
  Calls P f args W fun e W'=>∃ v,e=.returned v∧s.post enc P fn false fresh handsOn again W args v W':=by
 have hW':=hW
 obtain ⟨p,q,hA,hV,rfl,_,_⟩:=hW
 rw [hvars] at hV
 obtain ⟨rfl,rfl⟩:=trodVars_none hV
 rw [hp] at hA
 have hlen:=trodAll_len hA
 have hf:=hfn rfl hlen.2
 have hlt:∀ x∈p,x.block<W.heap.size:=fun x hx=>hW'.lt x (by simp [hx])
 refine (law_calls hn hm hr hS hA hw0 (base:=base) (fun j t v ht hv=>hval j t v (by rw [←hp] at ht;simpa using ht) hv) rfl hO hL).mono fun e W' ⟨he,hb⟩=>?_
 subst he
 have hts':∀ t∈ts,P.readableRec t=true∧t<P.types.size:=fun t ht=>by
  have:=List.all_eq_true.1 hts t ht
  simpa using this
 refine ⟨_,rfl,post_below (pa:=p) (pv:=[]) hW' hb (fun _ _ _=>?_) (fun sp hsp=>?_) (fun sp _=>?_) rfl (ok_one hres rfl (okWide_bool_mk hbool _))⟩
 ·rw [hf,hres]
  exact trodAll_cons_mk (shut_bool hbool _) trodAll_mk0
 ·rw [hf,hp]
  exact trodAll_stays hl hb hts' hA hlt (fun x hx=>hsp x (by simp [hx]))
 ·rw [hf,hvars];exact rfl
end Go.Ev.Wt
namespace Go.Ev
open Go.RowKit
def OwN {α:Type} (e:TypeId) (sz:Nat) (R:Rq α) (B:Av) (H:AH) (n0:Nat) (v:Value) (xs:List α) (o:Option (Nat×Nat)):Prop:=
 ∃ cs,OwE H n0 e sz v xs.length cs o∧∀ i (h:i<xs.length),R (B.and (.of o)) H ((cs.drop (i*sz)).take sz) xs[i]
section
variable {α:Type}{e:TypeId}{sz:Nat}{R:Rq α}{A B:Av}{H H':AH}{n0:Nat}{v:Value}{xs:List α}{o:Option (Nat×Nat)}
theorem OwR.n (h:OwR e sz R B H n0 v xs o):OwN e sz R B H n0 v xs o:=let ⟨cs,h1,h2⟩:=h;⟨cs,.inl h1,h2⟩
theorem OwN.young (h:OwN e sz R B H n0 v xs o):(∀ b∈obs o,n0≤b)∧(∀ g∈ogs o,n0≤g)∧(∀ b∈obs o,b<H.next)∧(∀ g∈ogs o,g<H.next):=let ⟨_,h,_⟩:=h;h.young
theorem OwN.lt (h:OwN e sz R B H n0 v xs o):(Av.of o).Lt H.next:=⟨h.young.2.2.1,h.young.2.2.2⟩
theorem OwN.fr (hm:MonoF R) (h:OwN e sz R B H n0 v xs o) (k:Fr H H'):OwN e sz R B H' n0 v xs o:=
 let ⟨cs,h1,h2⟩:=h
 ⟨cs,h1.fr k,fun i hi=>hm.fr (h2 i hi) k⟩
theorem OwN.frX (hm:MonoF R) (h:OwN e sz R B H n0 v xs o) (k:FrX B.bs B.gs H H') (hb:∀ b∈obs o,b∉B.bs) (hg:∀ g∈ogs o,g∉B.gs):OwN e sz R B H' n0 v xs o:=
 let ⟨cs,h1,h2⟩:=h
 ⟨cs,h1.frX k hb hg,fun i hi=>hm.frX (k.sub (fun b hb=>List.mem_append_left _ hb) (fun b hb=>List.mem_append_left _ hb)) (h2 i hi)⟩
theorem OwN.gr (hm:MonoF R) (h:OwN e sz R A H n0 v xs o) (k:A.Gr B H.next):OwN e sz R B H n0 v xs o:=
 let ⟨cs,h1,h2⟩:=h
 ⟨cs,h1,fun i hi=>hm.gr (k.and .refl) (h2 i hi)⟩
theorem OwN.els (hm:MonoF R) (h:OwN e sz R B H n0 v xs o) (hb:∀ b∈obs o,b∉B.bs) (hg:∀ g∈ogs o,g∉B.gs):Els sz R B H v xs:=by
 obtain ⟨cs,h1|⟨h1,rfl,b,rfl,h2,rfl,h3⟩,hx⟩:=h
 ·exact OwR.els hm ⟨cs,h1,hx⟩ hb hg
 ·refine ⟨[],⟨by rw [h1];simp,.inr ⟨b,0,0,by rw [h1],fun h=>by omega⟩⟩,fun i hi=>by omega⟩
theorem OwN.isSl (h:OwN e sz R B H n0 v xs o):∃ a n c,v=.slice a n c:=by
 obtain ⟨cs,⟨_,_,⟨rfl,_⟩|⟨b,g,_,_,_,_,_,rfl,_⟩⟩|⟨_,_,b,_,_,rfl,_⟩,_⟩:=h<;>exact ⟨_,_,_,rfl⟩
theorem OwN.app (hm:MonoF R) (h:OwN e sz R B H n0 v xs o) {y:Value}{ys:List α} (hs:Els sz R (B.and (.of o)) H y ys) (h1:∀ {A H cs a},R A H cs a→cs.all Value.oneCell'=true) (hz:0<sz) {bytes:Nat} (hb:(xs.length+ys.length)*bytes≤140737488355328) (hl:xs.length+ys.length<4611686018427387904) (h0:n0≤H.next)
  {V:Env}{t u:TypeId}{a b a2 b2:Nat}{z z2:Value}{te:TI} (ht:V.E t=some ⟨.slice e,a,b,z⟩) (hu:V.E u=some ⟨.slice e,a2,b2,z2⟩) (he:V.E e=some te) (hsz:te.size=sz) (hby:te.bytes=bytes) :
  ∃ v' H' o',(∀ {g:Ft}{x w:Operand},g x=some v→g w=some y→aopG V g H (.call ⟨.builtin .append,#[x,w],#[t,u]⟩)=some (v',H'))∧OwN e sz R B H' n0 v' (xs++ys) o'∧FrX (obs o) (ogs o) H H'∧(Av.of o).Gr (.of o') H.next:=by
 obtain ⟨cs,k1,k2⟩:=h
 obtain ⟨ds,m1,m2⟩:=hs
 obtain ⟨v',H',o',q1,q2,q3,q4,q5⟩:=k1.appSl (V:=V) (m1.sl (by omega)) hz hb hl h0 (all_chunks m1.1 hz fun i hi=>h1 (m2 i hi)) ht hu he hsz hby
 have hc:cs.length=xs.length*sz:=by
  rcases k1 with k1|⟨k1,rfl,_⟩
  ·exact k1.1
  ·rw [k1];simp
 have hgr:(B.and (.of o)).Gr (B.and (.of o')) H.next:=Av.Gr.refl.and ⟨q4,q5⟩
 refine ⟨v',H',o',q1,⟨cs++ds,by rw [List.length_append];exact q2,fun i hi=>?_⟩,q3,q4,q5⟩
 rw [List.length_append] at hi
 have up:∀ {c a},R (B.and (.of o)) H c a→R (B.and (.of o')) H' c a:=fun hr=>by
  have r2:R ((B.and (.of o)).and (.of o')) H _ _:=hm.gr (B:=(B.and (.of o)).and (.of o')) ⟨fun b hb=>(List.mem_append.1 hb).elim .inl fun hb=>(q4 b hb).imp (fun h=>List.mem_append_right _ h) id,fun b hb=>(List.mem_append.1 hb).elim .inl fun hb=>(q5 b hb).imp (fun h=>List.mem_append_right _ h) id⟩ hr
  have r3:=hm.frX (H':=H') (q3.sub (fun b hb=>List.mem_append_left _ (List.mem_append_right _ hb)) (fun b hb=>List.mem_append_left _ (List.mem_append_right _ hb))) r2
  exact hm.gr (B:=B.and (.of o')) ⟨fun b hb=>.inl ((List.mem_append.1 hb).elim (fun h=>List.mem_append_left _ (List.mem_append_left _ h)) (fun h=>List.mem_append_right _ h)),fun b hb=>.inl ((List.mem_append.1 hb).elim (fun h=>List.mem_append_left _ (List.mem_append_left _ h)) (fun h=>List.mem_append_right _ h))⟩ r3
 by_cases hlt:i<xs.length
 ·have hle:(i+1)*sz≤xs.length*sz:=Nat.mul_le_mul_right sz hlt
  rw [Nat.add_mul,Nat.one_mul] at hle
  rw [List.drop_append_of_le_length (by omega),List.take_append_of_le_length (by rw [List.length_drop];omega),List.getElem_append_left hlt]
  exact up (k2 i hlt)
 ·have hge:xs.length*sz≤i*sz:=Nat.mul_le_mul_right sz (by omega)
  rw [List.drop_append,List.drop_eq_nil_of_le (by omega),List.nil_append,hc,←Nat.sub_mul,List.getElem_append_right (by omega)]
  exact up (m2 (i-xs.length) (by omega))
theorem OwN.slice (hm:MonoF R) (h:OwN e sz R B H n0 v xs o) (hb:∀ b∈obs o,b∉B.bs) (hg:∀ g∈ogs o,g∉B.gs) {V:Env}{t:TypeId}{a b:Nat}{z:Value}{te:TI} (ht:V.E t=some ⟨.slice e,a,b,z⟩) (he:V.E e=some te) (hsz:te.size=sz) (hz:0<sz) {l u:Nat} (hlu:l≤u) (hu:u≤xs.length) (hp:0<xs.length) {lo hi:Option Value}
  (hhi:∀ y,xs.length≤y→optBound hi xs.length y=some u) (hlo:optBound lo 0 u=some l):∃ s,aSlice V.E H t v lo hi none=some s∧Els sz R B H s ((xs.take u).drop l):=by
 subst hsz
 obtain ⟨cs,h1,hx⟩:=h
 obtain ⟨hc,hlt,⟨_,h0,_⟩|⟨bb,g,rfl,h3,h4,h5,h6,rfl,h7,h8⟩⟩:=h1.ow hp
 ·omega
 have hro:H.rowOf bb e=some cs:=by
  unfold AH.rowOf
  rw [AH.lo_lt h5,h7]
  simp [AH.alive]
 have hre:xs.length≤reach cs 0 te.size xs.length:=Nat.le_max_left _ _
 have hrd:RdA B H bb 0 (xs.length*te.size) cs:=⟨hb bb (by simp [obs]),e,cs,.loose,g,_,h5,h7,.inr (.inr ⟨h6,hg g (by simp [ogs]),rfl⟩),by omega,by rw [←hc];simp⟩
 have hl1:l*te.size≤u*te.size:=Nat.mul_le_mul_right _ hlu
 have hu1:u*te.size≤xs.length*te.size:=Nat.mul_le_mul_right _ hu
 have hlen:((xs.take u).drop l).length=u-l:=by rw [List.length_drop,List.length_take];omega
 refine ⟨_,slice_unk (n:=xs.length) hro ht he hz (hhi _ hre) hlo,?_⟩
 have hels:∀ off,off=l*te.size→Els te.size R B H (.slice (some ⟨bb,off,none⟩) (u-l) unk) ((xs.take u).drop l):=fun off ho=>by
  refine ⟨(cs.drop (l*te.size)).take ((u-l)*te.size),⟨by rw [hlen,List.length_take,List.length_drop,hc,Nat.sub_mul];omega,.inr ⟨bb,off,unk,by rw [hlen],fun _=>?_⟩⟩,fun i hi=>?_⟩
  ·have:=hrd.sub (l*te.size) ((u-l)*te.size) (by rw [Nat.sub_mul];omega)
   rw [Nat.zero_add] at this
   rw [hlen,ho];exact this
  ·rw [hlen] at hi
   rw [chunk_take hi,chunk_drop,List.getElem_drop,List.getElem_take]
   exact hm.gr .left (hx _ (by omega))
 by_cases hl0:l=0
 ·subst hl0
  rw [if_pos rfl]
  exact hels 0 (by simp)
 ·rw [if_neg hl0]
  exact hels _ rfl
end
theorem Ow.older {n1:Nat}{e:TypeId}{sz:Nat}{H:AH}{n0 n:Nat}{v:Value}{cs:List Value}{o:Option (Nat×Nat)} (h:Ow H n0 e sz v n cs o) (hn:n1≤n0):Ow H n1 e sz v n cs o:=by
 obtain ⟨h1,h2,h3|⟨b,g,h3,h4,h5,h6⟩⟩:=h
 ·exact ⟨h1,h2,.inl h3⟩
 ·exact ⟨h1,h2,.inr ⟨b,g,h3,by omega,by omega,h6⟩⟩
theorem OwN.old {α:Type}{e:TypeId}{sz:Nat}{R:Rq α}{B:Av}{H:AH}{n0 n1:Nat}{v:Value}{xs:List α}{o:Option (Nat×Nat)} (h:OwN e sz R B H n0 v xs o) (hn:n1≤n0):OwN e sz R B H n1 v xs o:=by
 obtain ⟨cs,h1|⟨h1,h2,b,h3,h4,h5⟩,hx⟩:=h
 ·exact ⟨cs,.inl (h1.older hn),hx⟩
 ·exact ⟨cs,.inr ⟨h1,h2,b,h3,by omega,h5⟩,hx⟩
theorem OwR.isSl' {α:Type}{e:TypeId}{sz:Nat}{R:Rq α}{B:Av}{H:AH}{n0:Nat}{v:Value}{xs:List α}{o:Option (Nat×Nat)} (h:OwR e sz R B H n0 v xs o):∃ a n c,v=.slice a n c:=h.n.isSl
theorem fill0 {te:TI}:afill (fun i=>some (i*te.size,te.size)) (azeros te.zv.cells.toList 0) []=some []:=by simp [afill,azeros]
section
variable {V:Env}{O:Orc}{is:List LI}{E:List Value}{l:SL}{H:AH}{Hs0:List AH}{t e:TypeId}{sa sb:Nat}{z:Value}{te:TI}
theorem yNew {K:List Value→AH→List AH→Prop} (ht:V.E t=some ⟨.slice e,sa,sb,z⟩) (he:V.E e=some te)
  (h:∀ H1,Fr H H1→H1.next=H.next+1→(∀ sz n0,n0≤H.next→OwE H1 n0 e sz (.slice (some ⟨H.next,0,none⟩) 0 0) 0 [] (some (H.next,H.next)))→WH V O is (.slice (some ⟨H.next,0,none⟩) 0 0::E) l H1 (Hs0++[H]) K):WH V O (.run (.buildSlice t 0 #[]) none::is) E l H Hs0 K:=
 .op (op_buildSlice (ps:=#[]) rfl ht he (by rw [Nat.zero_mul];exact Nat.zero_le _) fill0) (h _ (.alloc _ _) (by simp) fun _ _ h0=>.new h0)
theorem zNew {K:List Value→AH→Prop} (ht:V.E t=some ⟨.slice e,sa,sb,z⟩) (he:V.E e=some te)
  (h:∀ H1,Fr H H1→H1.next=H.next+1→(∀ sz n0,n0≤H.next→OwE H1 n0 e sz (.slice (some ⟨H.next,0,none⟩) 0 0) 0 [] (some (H.next,H.next)))→WL V O is (.slice (some ⟨H.next,0,none⟩) 0 0::E) l H1 K):WL V O (.run (.buildSlice t 0 #[]) none::is) E l H K:=
 .op (op_buildSlice (ps:=#[]) rfl ht he (by rw [Nat.zero_mul];exact Nat.zero_le _) fill0) (h _ (.alloc _ _) (by simp) fun _ _ h0=>.new h0)
end
end Go.Ev
