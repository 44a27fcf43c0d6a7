/-
  EV, kernel, part Lf: prepared regions, code and functions, each handing on to the next; the whole is the abstract run.
-/
import Derived.Test.YtikjlppcnmalnaaGreatDoorEvKd
import Derived.Test.YtikjlppcnmalnaaGreatDoorEvLg
namespace Go.Ev
open Go.RowKit

noncomputable section

abbrev CallK := Tgt → List Value → AH → (Value → AH → KR) → KR
abbrev StK := PTree Value → AH → KR

/-! ### Fetching -/
def ovalK (V : Env) (T : PTree Value) (x : Operand) (k : Value → KR) : KR :=
  Operand.rec (motive := fun _ => KR) (fun t => getK none k T t) (fun v => ifK (constOk v) (k v) none) (fun g => ifK (Nat.blt g V.nG) (k (.pointer (some ⟨g, 0, none⟩))) none) (fun f => k (.func (.func f) #[] #[])) x
theorem ovalK_eq (V : Env) (T : PTree Value) (x : Operand) (k : Value → KR) : ovalK V T x k = (oval V.nG T x).bind k := by
  cases x with
  | tmp t => show getK none k T t = _; simp only [getK_eq, oval]; cases T.get t <;> rfl
  | const v => show ifK (constOk v) (k v) none = _; simp only [ifK_eq, oval]; split <;> rfl
  | global g => show ifK (Nat.blt g V.nG) (k (.pointer (some ⟨g, 0, none⟩))) none = _; simp only [ifK_eq, oval, Nat.blt_eq]; split <;> rfl
  | func f => rfl

def fetK (V : Env) (E : List Value) (T : PTree Value) : FtK := fun x k =>
  Operand.rec (motive := fun _ => KR) (fun t => ifK (Nat.blt t far) (nthK E t k) (getK none k T (t - far))) (fun v => ifK (constOk v) (k v) none) (fun g => ifK (Nat.blt g V.nG) (k (.pointer (some ⟨g, 0, none⟩))) none) (fun f => k (.func (.func f) #[] #[])) x
theorem fetK_eq (V : Env) (E : List Value) (T : PTree Value) : IsF (fetK V E T) (gL V.nG E T) := fun x k => by
  cases x with
  | tmp t =>
    show ifK (Nat.blt t far) (nthK E t k) (getK none k T (t - far)) = _
    simp only [ifK_eq, Nat.blt_eq, nthK_eq, getK_eq, gL]
    split
    · cases E[t]? <;> rfl
    · cases T.get (t - far) <;> rfl
  | const v => show ifK (constOk v) (k v) none = _; simp only [ifK_eq, gL, oval]; split <;> rfl
  | global g => show ifK (Nat.blt g V.nG) (k (.pointer (some ⟨g, 0, none⟩))) none = _; simp only [ifK_eq, gL, oval, Nat.blt_eq]; split <;> rfl
  | func f => rfl

variable (V : Env)

def noK : KOp := fun _ _ _ => none

def extK (g : FuncId) (vs : List Value) (H : AH) (k : Value → AH → KR) : KR :=
  match vs with
  | [.iface t (.map (some b))] => match V.P.funcs[g]? with
    | some fn => ifK (cloneFn fn) (objK H b fun o => match o with
        | .map es bs ck => allocK H (.map es bs ck) fun b H => k (.iface t (.map (some b))) H
        | _ => none) none
    | none => none
  | _ => none
theorem extK_eq (g : FuncId) (vs : List Value) (H : AH) (k : Value → AH → KR) : extK V g vs H k = bk (aExt V.P g vs H) k := by
  unfold extK aExt
  split
  · rename_i t b
    cases V.P.funcs[g]? with
    | none => rfl
    | some fn =>
      simp only [ifK_eq, objK_eq]
      split
      · cases H.obj b with
        | map es bs ck => simp only [allocK_eq]; rfl
        | _ => rfl
      · rfl
  · rename_i h
    split
    · exact absurd rfl (h _ _)
    · rfl

def callOpK (call : CallK) (c : Call) : KOp := fun F H k =>
  Callee.rec (motive := fun _ => KR)
    (fun f => F f fun fv => fsK F c.args.toList fun vs => match fv with
      | .func (.func g) first cap => match V.F g with
        | some _ => forceL (first.toList ++ vs ++ cap.toList) fun vs => call (.fn g) vs H k
        | none => forceL (first.toList ++ vs ++ cap.toList) fun vs => extK V g vs H k
      | .func (.yield b) _ _ => call (.yld b) vs H k
      | _ => none)
    (fun _ _ => none)
    (fun b => fsK F c.args.toList fun vs => bltK V b c.argTypes.toList vs H k)
    c.callee

def evOpK (call : CallK) (o : Op) : KOp :=
  Op.rec (motive := fun _ => KOp) kMove kMove kPick (kAlloc V) (kBox) (kBuild V) (kBuildSlice V) (kMapUpdate V) (kLoad V) (kStore V)
    (fun _ => noK) (fun _ => noK) kNil (kBin V) (kUn V) (kConvert V) (fun _ _ => noK) (kIface V) kFunc kMakeMap (fun _ _ => noK) (kMakeSlice V) (kSlice V) (kFieldAddr V) (kField V)
    (kIndexAddr V) (kIndex V) (kLookup V) (kMapUpdate V) (fun _ _ _ => noK) (fun _ _ _ _ => noK) (kRange V) (kNext) (kEntry) (kAssert V) kExtract
    (callOpK V call) (fun _ => noK) (fun _ => noK) (fun _ => noK) (fun _ _ => noK) (fun _ _ _ => noK) (fun _ _ => noK) o

/-- The handing-on form stands for a plain one. -/
def IsK (ck : CallK) (c : CallFn) : Prop := ∀ t vs H k, ck t vs H k = bk (c t vs H) k

variable {V} {ck : CallK} {call : CallFn} {F : FtK} {g : Ft}

theorem evOpK_eq (hc : IsK ck call) (hF : IsF F g) (o : Op) (H : AH) (k : Value → AH → KR) : evOpK V ck o F H k = bk (evOpG V call g H o) k := by
  cases o with
  | move x => exact kMove_eq V x hF H k
  | assign x => exact kMove_eq V x hF H k
  | pick c a b => exact kPick_eq V c a b hF H k
  | alloc t => exact kAlloc_eq V t hF H k
  | box t x => exact kBox_eq V t x hF H k
  | build t ps => exact kBuild_eq V t ps hF H k
  | buildSlice t n ps => exact kBuildSlice_eq V t n ps hF H k
  | insert t m i x => exact kInsert_eq V t m i x hF H k
  | load t a => exact kLoad_eq V t a hF H k
  | store t a x => exact kStore_eq V t a x hF H k
  | nilCheck x => exact kNil_eq V x hF H k
  | binOp op t x y yt => exact kBin_eq V op t x y yt hF H k
  | unOp op t x => exact kUn_eq V op t x hF H k
  | convert s d x => exact kConvert_eq V s d x hF H k
  | makeInterface t x => exact kIface_eq V t x hF H k
  | makeFunc fn first cap => exact kFunc_eq V fn first cap hF H k
  | makeMap t r => exact kMakeMap_eq V t r hF H k
  | makeSlice t l c => exact kMakeSlice_eq V t l c hF H k
  | slice t x lo hi mx => exact kSlice_eq V t x lo hi mx hF H k
  | fieldAddr s x f => exact kFieldAddr_eq V s x f hF H k
  | field t x f => exact kField_eq V t x f hF H k
  | indexAddr t x i => exact kIndexAddr_eq V t x i hF H k
  | index t x i => exact kIndex_eq V t x i hF H k
  | lookup t m i ok => exact kLookup_eq V t m i ok hF H k
  | mapUpdate t m i x => exact kMapUpdate_eq V t m i x hF H k
  | range t x => exact kRange_eq V t x hF H k
  | next x b => exact kNext_eq V x b hF H k
  | entry x => exact kEntry_eq V x hF H k
  | typeAssert x xt t ok => exact kAssert_eq V x xt t ok hF H k
  | extract x i => exact kExtract_eq V x i hF H k
  | call c =>
    obtain ⟨cal, args, ts⟩ := c
    cases cal with
    | value f =>
      show (F f fun fv => fsK F args.toList fun vs => match fv with
      | .func (.func g) first cap => match V.F g with
        | some _ => forceL (first.toList ++ vs ++ cap.toList) fun vs => ck (.fn g) vs H k
        | none => forceL (first.toList ++ vs ++ cap.toList) fun vs => extK V g vs H k
      | .func (.yield b) _ _ => ck (.yld b) vs H k
      | _ => none) = _
      simp only [hF _, fsK_eq hF, evOpG]
      cases g f with
      | none => rfl
      | some fv =>
        cases gvals g args.toList with
        | none =>
          cases fv with
          | func fn a b => cases fn <;> rfl
          | _ => rfl
        | some vs =>
          simp only [Option.bind_some]
          cases fv with
          | func fn a b =>
            cases fn with
            | func g =>
              simp only
              cases V.F g with
              | none => simp only [forceL_eq]; exact extK_eq V _ _ _ _
              | some _ => simp only [forceL_eq]; exact hc _ _ _ _
            | yield b => exact hc _ _ _ _
            | _ => rfl
          | _ => rfl
    | builtin b =>
      show (fsK F args.toList fun vs => bltK V b ts.toList vs H k) = _
      simp only [fsK_eq hF, evOpG, aopG]
      cases gvals g args.toList with
      | none => rfl
      | some vs => exact bltK_eq V b ts.toList vs H k
    | invoke r m => rfl
  | _ => rfl

/-! ### Prepared regions -/
def wantK (F : FtK) (gd : Option (Operand × Bool)) (y n : KR) : KR :=
  Option.rec (motive := fun _ => KR) y (fun p => F p.1 fun v => match v with
    | .bool b => ifK b (ifK p.2 y n) (ifK p.2 n y)
    | _ => n) gd
theorem wantK_eq (hF : IsF F g) (gd : Option (Operand × Bool)) (y n : KR) : wantK F gd y n = match wantL g gd with
    | some true => y
    | some false => n
    | none => none := by
  cases gd with
  | none => rfl
  | some p =>
    obtain ⟨x, w⟩ := p
    show F x (fun v => match v with
    | .bool b => ifK b (ifK w y n) (ifK w n y)
    | _ => n) = _
    rw [hF]
    simp only [wantL]
    cases g x with
    | none => rfl
    | some v =>
      cases v with
      | bool b => simp only [Option.bind_some, ifK_eq]; cases b <;> cases w <;> rfl
      | _ => rfl

def runLIK (V : Env) (ck : CallK) (is : List LI) : List Value → PTree Value → AH → (List Value → AH → KR) → KR :=
  List.rec (motive := fun _ => List Value → PTree Value → AH → (List Value → AH → KR) → KR) (fun E _ H k => k E H) (fun i _ ih E T H k =>
    LI.rec (motive := fun _ => KR) (fun t => getK none (fun v => ih (v :: E) T H k) T t)
      (fun o gd => wantK (fetK V E T) gd (evOpK V ck o (fetK V E T) H fun v H => ih (v :: E) T H k) (ih (undef :: E) T H k)) i) is
theorem runLIK_eq (hc : IsK ck call) : ∀ (is : List LI) (E : List Value) (T : PTree Value) (H : AH) (k : List Value → AH → KR), runLIK V ck is E T H k = (runLI V call is E T H).bind fun p => k p.1 p.2
  | [], E, T, H, k => rfl
  | .get t :: is, E, T, H, k => by
    show getK none (fun v => runLIK V ck is (v :: E) T H k) T t = _
    simp only [getK_eq, runLI]
    cases T.get t with
    | none => rfl
    | some v => exact runLIK_eq hc is (v :: E) T H k
  | .run o gd :: is, E, T, H, k => by
    show wantK (fetK V E T) gd (evOpK V ck o (fetK V E T) H fun v H => runLIK V ck is (v :: E) T H k) (runLIK V ck is (undef :: E) T H k) = _
    simp only [wantK_eq (fetK_eq V E T), evOpK_eq hc (fetK_eq V E T), runLI]
    cases wantL (gL V.nG E T) gd with
    | none => rfl
    | some b =>
      cases b with
      | true =>
        simp only
        cases evOpG V call (gL V.nG E T) H o with
        | none => rfl
        | some p => exact runLIK_eq hc is (p.1 :: E) T p.2 k
      | false => exact runLIK_eq hc is (undef :: E) T H k

def setOutsK (E : List Value) (os : List (Tmp × Nat)) : PTree Value → (PTree Value → KR) → KR :=
  List.rec (motive := fun _ => PTree Value → (PTree Value → KR) → KR) (fun T k => k T) (fun p _ ih T k => nthK E p.2 fun v => setTK T p.1 v fun T => ih T k) os
theorem setOutsK_eq (E : List Value) : ∀ (os : List (Tmp × Nat)) (T : PTree Value) (k : PTree Value → KR), setOutsK E os T k = (setOuts E os T).bind k
  | [], T, k => rfl
  | (d, i) :: os, T, k => by
    show nthK E i (fun v => setTK T d v fun T => setOutsK E os T k) = _
    simp only [nthK_eq, setTK_eq, setOutsK_eq E os, setOuts]
    cases E[i]? <;> rfl

def bT (r : Option (PTree Value × AH)) (k : StK) : KR := r.bind fun p => k p.1 p.2

def putT (n : Nat) (T : PTree Value) (d : Option Tmp) (v : Value) (k : PTree Value → KR) : KR :=
  match d with
  | none => k T
  | some d => ifK (Nat.blt d n) (setTK T d v k) none
theorem putT_eq (n : Nat) (T : PTree Value) (d : Option Tmp) (v : Value) (k : PTree Value → KR) : putT n T d v k = (put n T d v).bind k := by
  unfold putT put
  cases d with
  | none => rfl
  | some d => simp only [ifK_eq, Nat.blt_eq, setTK_eq]; split <;> rfl

/-- The run with the heaps. -/
def heapsLIK (V : Env) (ck : CallK) (is : List LI) : List Value → PTree Value → AH → (List Value → AH → List AH → KR) → KR :=
  List.rec (motive := fun _ => List Value → PTree Value → AH → (List Value → AH → List AH → KR) → KR) (fun E _ H k => k E H [H]) (fun i _ ih E T H k =>
    LI.rec (motive := fun _ => KR) (fun t => getK none (fun v => ih (v :: E) T H fun E' H' Hs => k E' H' (H :: Hs)) T t)
      (fun o gd => wantK (fetK V E T) gd (evOpK V ck o (fetK V E T) H fun v H1 => ih (v :: E) T H1 fun E' H' Hs => k E' H' (H :: Hs)) (ih (undef :: E) T H fun E' H' Hs => k E' H' (H :: Hs))) i) is
theorem heapsLIK_eq (hc : IsK ck call) : ∀ (is : List LI) (E : List Value) (T : PTree Value) (H : AH) (k : List Value → AH → List AH → KR), heapsLIK V ck is E T H k = (heapsLI V call is E T H).bind fun p => k p.1 p.2.1 p.2.2
  | [], E, T, H, k => rfl
  | .get t :: is, E, T, H, k => by
    show getK none (fun v => heapsLIK V ck is (v :: E) T H fun E' H' Hs => k E' H' (H :: Hs)) T t = _
    simp only [getK_eq, heapsLI]
    cases T.get t with
    | none => rfl
    | some v =>
      simp only [heapsLIK_eq hc is]
      cases heapsLI V call is (v :: E) T H <;> rfl
  | .run o gd :: is, E, T, H, k => by
    show wantK (fetK V E T) gd (evOpK V ck o (fetK V E T) H fun v H1 => heapsLIK V ck is (v :: E) T H1 fun E' H' Hs => k E' H' (H :: Hs)) (heapsLIK V ck is (undef :: E) T H fun E' H' Hs => k E' H' (H :: Hs)) = _
    simp only [wantK_eq (fetK_eq V E T), evOpK_eq hc (fetK_eq V E T), heapsLI, heapsLIK_eq hc is]
    cases wantL (gL V.nG E T) gd with
    | none => rfl
    | some b =>
      cases b with
      | true =>
        simp only
        cases evOpG V call (gL V.nG E T) H o with
        | none => rfl
        | some p =>
          simp only [bk, Option.bind_some]
          cases heapsLI V call is (p.1 :: E) T p.2 <;> rfl
      | false =>
        simp only
        cases heapsLI V call is (undef :: E) T H <;> rfl

def regionK (V : Env) (ck : CallK) (n : Nat) (live : Option Nat) (ops : Array Oper) (d : Bool) (T : PTree Value) (H : AH) (k : StK) : KR :=
  match planN V n live ops d with
  | some (.fast is outs) => runLIK V ck is [] T H fun E H' => setOutsK E outs T fun T' => k T' H'
  | some (.again is outs c chks) => heapsLIK V ck is [] T H fun E H' Hs => ifK (chks.all (chkOk V T E c Hs)) (setOutsK E outs T fun T' => k T' H') none
  | none => none
theorem regionK_eq (hc : IsK ck call) (n : Nat) (live : Option Nat) (ops : Array Oper) (d : Bool) (T : PTree Value) (H : AH) (k : StK) : regionK V ck n live ops d T H k = bT (regionL V call n live ops d T H) k := by
  unfold regionK regionL
  rw [planN_eq]
  rcases planL V n live ops d with _ | p
  · rfl
  · cases p with
    | fast is outs =>
      simp only [runLIK_eq hc, setOutsK_eq]
      cases runLI V call is [] T H with
      | none => rfl
      | some p =>
        obtain ⟨E, H'⟩ := p
        simp only [Option.bind_some]
        cases setOuts E outs T <;> rfl
    | again is outs c chks =>
      simp only [heapsLIK_eq hc, setOutsK_eq, ifK_eq]
      cases heapsLI V call is [] T H with
      | none => rfl
      | some p =>
        obtain ⟨E, H', Hs⟩ := p
        simp only [Option.bind_some]
        split
        · cases setOuts E outs T <;> rfl
        · rfl

/-! ### Code -/
def exK (kn : StK) (kx : Nat → StK) (kr : StK) (e : Ex) : StK :=
  match e with
  | .normal => kn
  | .exit id => kx id
  | .ret => kr
def bE (r : Option (Ex × PTree Value × AH)) (kn : StK) (kx : Nat → StK) (kr : StK) : KR := r.bind fun p => exK kn kx kr p.1 p.2.1 p.2.2

def loopEndK (b : Nat) (T : PTree Value) (H : AH) (kn : StK) (kx : Nat → StK) (kr : StK) : KR :=
  objK H b fun o => match o with
    | .loop st pend _ _ _ _ _ => match st with
      | .busy => none
      | _ => match ofJump pend with
        | some e => putK H b .dead fun H => exK kn kx kr e T H
        | none => none
    | _ => none
theorem loopEndK_eq (b : Nat) (T : PTree Value) (H : AH) (kn : StK) (kx : Nat → StK) (kr : StK) : loopEndK b T H kn kx kr = bE (loopEnd b T H) kn kx kr := by
  unfold loopEndK loopEnd
  rw [objK_eq]
  cases H.obj b with
  | loop st pend n T' ps x y =>
    simp only [putK_eq]
    cases st <;> (try rfl) <;> simp only [reduceCtorEq, if_false] <;> cases ofJump pend <;> rfl
  | _ => rfl

abbrev CodeK := PTree Value → AH → StK → (Nat → StK) → StK → KR

def codeK (V : Env) (ck : CallK) (live : Option Nat) (ro : Option Nat) (n lf : Nat) (c : Code) : CodeK :=
  Code.rec (motive := fun _ => CodeK)
    (fun T H kn _ _ => kn T H)
    (fun _ ops d T H kn _ _ => regionK V ck n live ops d T H kn)
    (fun _ _ iha ihb T H kn kx kr => iha T H (fun T H => ihb T H kn kx kr) kx kr)
    (fun x _ _ iha ihb T H kn kx kr => ovalK V T x fun v => match v with
      | .bool b => ifK b (iha T H kn kx kr) (ihb T H kn kx kr)
      | _ => none)
    (fun id _ ih T H kn kx kr => ih T H kn (fun id' T H => ifK (Nat.beq id' id) (kn T H) (kx id' T H)) kr)
    (fun _ ih T H _ kx kr => Nat.rec (motive := fun _ => StK) (fun _ _ => none) (fun _ rest T H => ih T H rest kx kr) lf T H)
    (fun f ps x y _ _ T H kn kx kr => ifK (roAlive H ro) (ovalK V T f fun v => match v with
      | .func (.func g) first cap => match V.F g with
        | some _ => allocK H (.loop .ready none n T ps x y) fun b H => forceL (first.toList ++ [.func (.yield b) #[] #[]] ++ cap.toList) fun vs => ck (.fn g) vs H fun _ H => loopEndK b T H kn kx kr
        | none => none
      | _ => none) none)
    (fun id T H _ kx _ => kx id T H)
    (fun _ _ _ _ _ _ _ => none)
    (fun _ T H kn _ _ => kn T H)
    (fun _ _ _ _ _ _ => none)
    (fun T H _ _ kr => kr T H)
    (fun _ _ _ _ _ _ => none)
    c

theorem loopK_eq {f : CodeK} {g : PTree Value → AH → Option (Ex × PTree Value × AH)} (hf : ∀ T H kn kx kr, f T H kn kx kr = bE (g T H) kn kx kr) (kn : StK) (kx : Nat → StK) (kr : StK) : ∀ (lf : Nat) (T : PTree Value) (H : AH),
    Nat.rec (motive := fun _ => StK) (fun _ _ => none) (fun _ rest T H => f T H rest kx kr) lf T H = bE (loopN g lf T H) kn kx kr
  | 0, T, H => rfl
  | lf + 1, T, H => by
    show f T H (Nat.rec (motive := fun _ => StK) (fun _ _ => none) (fun _ rest T H => f T H rest kx kr) lf) kx kr = _
    rw [hf]
    simp only [loopN]
    cases hg : g T H with
    | none => rfl
    | some p =>
      obtain ⟨e, T', H'⟩ := p
      cases e with
      | normal => exact loopK_eq hf kn kx kr lf T' H'
      | exit id => rfl
      | ret => rfl

theorem codeK_eq (hc : IsK ck call) (live : Option Nat) (ro : Option Nat) (n lf : Nat) : ∀ (c : Code) (T : PTree Value) (H : AH) (kn : StK) (kx : Nat → StK) (kr : StK), codeK V ck live ro n lf c T H kn kx kr = bE (codeL V call live ro n lf c T H) kn kx kr := by
  intro c
  induction c with
  | skip => intros; simp only [codeL]; rfl
  | region id ops d =>
    intro T H kn kx kr
    show regionK V ck n live ops d T H kn = _
    rw [regionK_eq hc]
    simp only [codeL]
    cases regionL V call n live ops d T H <;> rfl
  | seq a b iha ihb =>
    intro T H kn kx kr
    show codeK V ck live ro n lf a T H (fun T H => codeK V ck live ro n lf b T H kn kx kr) kx kr = _
    rw [iha]
    simp only [codeL]
    cases codeL V call live ro n lf a T H with
    | none => rfl
    | some p =>
      obtain ⟨e, T', H'⟩ := p
      cases e with
      | normal => exact ihb T' H' kn kx kr
      | exit id => rfl
      | ret => rfl
  | cond x a b iha ihb =>
    intro T H kn kx kr
    show (ovalK V T x fun v => match v with
      | .bool b' => ifK b' (codeK V ck live ro n lf a T H kn kx kr) (codeK V ck live ro n lf b T H kn kx kr)
      | _ => none) = _
    rw [ovalK_eq]
    simp only [codeL]
    cases oval V.nG T x with
    | none => rfl
    | some v =>
      cases v with
      | bool t =>
        simp only [Option.bind_some, ifK_eq]
        cases t with
        | true => simp only [if_true]; exact iha T H kn kx kr
        | false => simp only [Bool.false_eq_true, if_false]; exact ihb T H kn kx kr
      | _ => rfl
  | block id c ih =>
    intro T H kn kx kr
    show codeK V ck live ro n lf c T H kn (fun id' T H => ifK (Nat.beq id' id) (kn T H) (kx id' T H)) kr = _
    rw [ih]
    simp only [codeL]
    cases codeL V call live ro n lf c T H with
    | none => rfl
    | some p =>
      obtain ⟨e, T', H'⟩ := p
      cases e with
      | normal => rfl
      | exit id' =>
        show ifK (Nat.beq id' id) (kn T' H') (kx id' T' H') = _
        simp only [ifK_eq, Nat.beq_eq]
        split <;> rfl
      | ret => rfl
  | loop c ih =>
    intro T H kn kx kr
    show Nat.rec (motive := fun _ => StK) (fun _ _ => none) (fun _ rest T H => codeK V ck live ro n lf c T H rest kx kr) lf T H = _
    simp only [codeL]
    exact loopK_eq ih kn kx kr lf T H
  | rangeFunc f ps x y ihx ihy =>
    intro T H kn kx kr
    show ifK (roAlive H ro) (ovalK V T f fun v => match v with
      | .func (.func g) first cap => match V.F g with
        | some _ => allocK H (.loop .ready none n T ps x y) fun b H => forceL (first.toList ++ [.func (.yield b) #[] #[]] ++ cap.toList) fun vs => ck (.fn g) vs H fun _ H => loopEndK b T H kn kx kr
        | none => none
      | _ => none) none = _
    simp only [codeL, evC, ifK_eq, ovalK_eq]
    cases roAlive H ro with
    | false => rfl
    | true =>
      simp only [if_true]
      cases oval V.nG T f with
      | none => rfl
      | some v =>
        cases v with
        | func fn first cap =>
          cases fn with
          | func g =>
            simp only [Option.bind_some]
            cases V.F g with
            | none => rfl
            | some _ =>
              simp only [allocK_eq, forceL_eq]
              rw [hc]
              cases call (.fn g) (first.toList ++ [.func (.yield H.next) #[] #[]] ++ cap.toList) (H.alloc (.loop .ready none n T ps x y)) with
              | none => rfl
              | some p => exact loopEndK_eq _ _ _ _ _ _
          | _ => rfl
        | _ => rfl
  | exit id => intros; simp only [codeL]; rfl
  | scope c ih => intros; simp only [codeL]; rfl
  | label l => intros; simp only [codeL]; rfl
  | goto l => intros; simp only [codeL]; rfl
  | ret => intros; simp only [codeL]; rfl
  | refuse w => intros; simp only [codeL]; rfl

/-! ### Functions -/
def initK (vs : List Value) : Nat → PTree Value → (PTree Value → KR) → KR :=
  List.rec (motive := fun _ => Nat → PTree Value → (PTree Value → KR) → KR) (fun _ T k => k T) (fun v _ ih i T k => setTK T i v fun T => forceN (Nat.succ i) fun i => ih i T k) vs
theorem initK_eq : ∀ (vs : List Value) (i : Nat) (T : PTree Value) (k : PTree Value → KR), initK vs i T k = k (initT vs i T)
  | [], i, T, k => rfl
  | v :: vs, i, T, k => by
    show setTK T i v (fun T => forceN (Nat.succ i) fun i => initK vs i T k) = _
    rw [setTK_eq, forceN_eq, initK_eq vs]; rfl

def resK (V : Env) (T : PTree Value) (H : AH) (rs : List ResultVar) : (List Value → KR) → KR :=
  List.rec (motive := fun _ => (List Value → KR) → KR) (fun k => k []) (fun r _ ih k => match r with
    | .tmp t => getK none (fun v => ih fun vs => k (v :: vs)) T t
    | .cell a t => getK none (fun p => match aLoad V.E H t p with
      | some v => forceV v fun v => ih fun vs => k (v :: vs)
      | none => none) T a) rs
theorem resK_eq (T : PTree Value) (H : AH) : ∀ (rs : List ResultVar) (k : List Value → KR), resK V T H rs k = (aResults V T H rs).bind k
  | [], k => rfl
  | .tmp t :: rs, k => by
    show getK none (fun v => resK V T H rs fun vs => k (v :: vs)) T t = _
    rw [getK_eq]
    simp only [aResults, resK_eq T H rs]
    cases T.get t with
    | none => cases aResults V T H rs <;> rfl
    | some v => cases aResults V T H rs <;> rfl
  | .cell a t :: rs, k => by
    show getK none (fun p => match aLoad V.E H t p with
      | some v => forceV v fun v => resK V T H rs fun vs => k (v :: vs)
      | none => none) T a = _
    rw [getK_eq]
    simp only [aResults]
    cases T.get a with
    | none => rfl
    | some p =>
      simp only
      cases aLoad V.E H t p with
      | none => rfl
      | some v =>
        simp only [forceV_eq, resK_eq T H rs]
        cases aResults V T H rs <;> rfl

def setPsK (n : Nat) (ts : List Tmp) : List Value → PTree Value → (PTree Value → KR) → KR :=
  List.rec (motive := fun _ => List Value → PTree Value → (PTree Value → KR) → KR) (fun vs T k => match vs with
    | [] => k T
    | _ => none) (fun t _ ih vs T k => match vs with
    | v :: vs => ifK (Nat.blt t n) (setTK T t v fun T => ih vs T k) none
    | [] => none) ts
theorem setPsK_eq (n : Nat) : ∀ (ts : List Tmp) (vs : List Value) (T : PTree Value) (k : PTree Value → KR), setPsK n ts vs T k = (setPs n ts vs T).bind k
  | [], [], T, k => rfl
  | [], _ :: _, T, k => rfl
  | _ :: _, [], T, k => rfl
  | t :: ts, v :: vs, T, k => by
    show ifK (Nat.blt t n) (setTK T t v fun T => setPsK n ts vs T k) none = _
    simp only [ifK_eq, Nat.blt_eq, setTK_eq, setPsK_eq n ts, setPs]
    split <;> rfl

def jumpOf (e : Ex) : Option Code := e.jump

def roundK (V : Env) (ck : CallK) (lf : Nat) (b : Nat) (vs : List Value) (H : AH) (k : Value → AH → KR) : KR :=
  objK H b fun o => match o with
    | .loop _ _ n T ps x y => setPsK n ps.toList vs T fun T1 => codeK V ck none (some b) n lf x T1 H (fun T2 H2 => objK H2 b fun o2 => match o2 with
        | .loop .ready pe n' T' ps' x' y' => putK H2 b (.loop .busy pe n' T' ps' x' y') fun H3 =>
          let out : Bool → Option Code → StK := fun go j _ H4 => objK H4 b fun o4 => match o4 with
            | .loop _ _ n'' T'' ps'' x'' y'' => putK H4 b (.loop (if go then .ready else .done) j n'' T'' ps'' x'' y'') fun H5 => k (.bool go) H5
            | _ => none
          codeK V ck none (some b) n lf y T2 H3 (out true none) (fun id => out false (some (.exit id))) (out false (some .ret))
        | _ => none) (fun _ _ _ => none) (fun _ _ => none)
    | _ => none
theorem roundK_eq (hc : IsK ck call) (lf b : Nat) (vs : List Value) (H : AH) (k : Value → AH → KR) : roundK V ck lf b vs H k = bk (roundL V call lf b vs H) k := by
  unfold roundK roundL
  rw [objK_eq]
  cases H.obj b with
  | loop st pe n T ps x y =>
    simp only [setPsK_eq]
    cases setPs n ps.toList vs T with
    | none => rfl
    | some T1 =>
      simp only [Option.bind_some, codeK_eq hc]
      cases codeL V call none (some b) n lf x T1 H with
      | none => rfl
      | some p =>
        obtain ⟨e, T2, H2⟩ := p
        cases e with
        | normal =>
          simp only [bE, Option.bind_some, exK, objK_eq]
          cases H2.obj b with
          | loop st2 pe2 n2 T' ps2 x2 y2 =>
            cases st2 with
            | ready =>
              simp only [putK_eq]
              cases codeL V call none (some b) n lf y T2 (H2.put b (.loop .busy pe2 n2 T' ps2 x2 y2)) with
              | none => rfl
              | some q =>
                obtain ⟨e, T4, H4⟩ := q
                simp only [Option.bind_some]
                cases e with
                | normal =>
                  simp only [exK]
                  cases H4.obj b <;> rfl
                | exit id =>
                  simp only [exK]
                  cases H4.obj b <;> rfl
                | ret =>
                  simp only [exK]
                  cases H4.obj b <;> rfl
            | _ => rfl
          | _ => rfl
        | exit id => rfl
        | ret => rfl
  | _ => rfl

def outR (vs : List Value) (H : AH) (k : Value → AH → KR) : KR :=
  match vs with
  | [v] => k v H
  | vs => k (.tuple ⟨vs⟩) H
theorem outR_eq (vs : List Value) (H : AH) (k : Value → AH → KR) : outR vs H k = k (resOf vs) H := by
  rcases vs with _ | ⟨v, _ | ⟨u, vs⟩⟩ <;> rfl

def fnK (V : Env) (lf : Nat) (d : Nat) : CallK :=
  Nat.rec (motive := fun _ => CallK) (fun _ _ _ _ => none) (fun _ ih t vs H k => match t with
    | .fn f => match V.F f with
      | some fn => match fn.body with
        | some c => ifK (Nat.ble vs.length fn.ntmps && (List.range vs.length).all (isLive (some (liveOf fn c)))) (initK vs 0 .leaf fun T => codeK V ih (some (liveOf fn c)) none fn.ntmps lf c T H (fun T H => resK V T H fn.results.toList fun vs => outR vs H k) (fun _ _ _ => none) (fun T H => resK V T H fn.results.toList fun vs => outR vs H k)) none
        | none => none
      | none => none
    | .yld b => roundK V ih lf b vs H k) d
theorem fnK_eq (lf : Nat) : ∀ d, IsK (fnK V lf d) (fL V lf d)
  | 0 => fun t vs H k => by simp only [fL]; rfl
  | d + 1 => fun t vs H k => by
    have ih := fnK_eq lf d
    cases t with
    | fn f =>
      show (match V.F f with
      | some fn => match fn.body with
        | some c => ifK (Nat.ble vs.length fn.ntmps && (List.range vs.length).all (isLive (some (liveOf fn c)))) (initK vs 0 .leaf fun T => codeK V (fnK V lf d) (some (liveOf fn c)) none fn.ntmps lf c T H (fun T H => resK V T H fn.results.toList fun vs => outR vs H k) (fun _ _ _ => none) (fun T H => resK V T H fn.results.toList fun vs => outR vs H k)) none
        | none => none
      | none => none) = _
      simp only [fL]
      cases V.F f with
      | none => rfl
      | some fn =>
        simp only
        cases fn.body with
        | none => rfl
        | some c =>
          simp only [ifK_eq, Bool.and_eq_true, Nat.ble_eq, initK_eq, codeK_eq ih, resK_eq, outR_eq]
          split
          · cases codeL V (fL V lf d) (some (liveOf fn c)) none fn.ntmps lf c (initT vs 0 .leaf) H with
            | none => rfl
            | some p =>
              obtain ⟨e, T', H'⟩ := p
              cases e with
              | normal => simp only [bE, Option.bind_some, exK]; cases aResults V T' H' fn.results.toList <;> rfl
              | exit id => rfl
              | ret => simp only [bE, Option.bind_some, exK]; cases aResults V T' H' fn.results.toList <;> rfl
          · rfl
    | yld b =>
      show roundK V (fnK V lf d) lf b vs H k = _
      rw [roundK_eq ih]
      simp only [fL]

/-! ### Closed calls -/
def startK (rows : List AObj) : Nat → PTree AObj → (PTree AObj → KR) → KR :=
  List.rec (motive := fun _ => Nat → PTree AObj → (PTree AObj → KR) → KR) (fun _ t k => k t) (fun o _ ih i t k => setTK t i o fun t => forceN (Nat.succ i) fun i => ih i t k) rows
theorem startK_eq : ∀ (rows : List AObj) (i : Nat) (t : PTree AObj) (k : PTree AObj → KR), startK rows i t k = k (startT rows i t)
  | [], i, t, k => rfl
  | o :: rows, i, t, k => by
    show setTK t i o (fun t => forceN (Nat.succ i) fun i => startK rows i t k) = _
    rw [setTK_eq, forceN_eq, startK_eq rows]; rfl

/-- A closed call, run for the kernel. -/
def runK (V : Env) (rows : List AObj) (lf d : Nat) (f : FuncId) : KR :=
  startK rows 0 .leaf fun t => forceN rows.length fun n => fnK V lf d (.fn f) [] ⟨t, n, .leaf⟩ fun v _ => some v

theorem runK_eq (rows : List AObj) (lf d : Nat) (f : FuncId) : runK V rows lf d f = (fL V lf d (.fn f) [] (startH rows)).map (·.1) := by
  unfold runK
  rw [startK_eq, forceN_eq, fnK_eq]
  show bk (fL V lf d (.fn f) [] (startH rows)) _ = _
  cases fL V lf d (.fn f) [] (startH rows) <;> rfl

/-- A closed call, the package-level variables laid. -/
theorem laid_callsK {P : Program} (hn : (P.funcs.toList.all fun fn => !(fn.name == "runtime.NumGoroutine")) = true) (hm : P.follows .mixedOrders = true) {rows : List AObj} {w : World} (hr : ∀ g o, rows[g]? = some o → RowIn w g o) {lf d : Nat} {f : FuncId} {v : Value} (hv : plain v = true)
    (h : runK (envOf P rows.length) rows lf d f = some v) : Calls P f #[] w fun e w' => e = .returned v ∧ Below w.heap.size w w' := by
  rw [runK_eq] at h
  obtain ⟨⟨v0, H'⟩, h1, h2⟩ := map_some h
  simp only at h2
  subst h2
  have hG : GOk (startE P rows) (envOf P rows.length).nG := fun g hg => by
    have hg' : g < rows.length := hg
    cases hs : startE P rows g with
    | some l => exact ⟨l, rfl, (startE_blk hs).2⟩
    | none =>
      unfold startE at hs
      rw [show rows[g]? = some rows[g] by simp [hg']] at hs
      split at hs <;> simp_all
  have := (fL_ok (V := envOf P rows.length) (fun t ti h => h) (fnOf_ok hn) hm lf d).fn f [] (startH rows) _ H' h1 w.heap.size (startE P rows) w [] hG (HRel.laid P w rows hr) .nil
  exact this.mono fun e w' ⟨v', ι', he, hr, hs⟩ => ⟨by rw [he, hr.plain_eq hv], hs.below⟩
end
end Go.Ev
