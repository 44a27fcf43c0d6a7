/-
  Contracts of lex.
-/
import Derived.Test.YtdkfcpadbahohaaDoorEv5
import Derived.Test.YtdkfcpadbahohaaDoorProg
import Derived.KernelRfl
set_option linter.all false
namespace Go.Proofs.YtdkfcpadbahohaaDoor.U
open Go Go.Ev
noncomputable def V : Ev.Env := envOf Tryd.prog 1
def P33 : PC :=
.seq (
.reg [.run (.assign (.const (.bool false))) none] [(2, 0)]) (
.seq (
.reg [.get 0,
  .run (.binOp .geq 5 (.tmp 0) (.const (.int .u8 48)) 5) none,
  .run (.move (.tmp (far + 0))) (some ((.tmp 0), true)),
  .run (.binOp .leq 5 (.tmp 0) (.const (.int .u8 57)) 5) (some ((.tmp 1), true)),
  .run (.pick (.tmp 2) (.tmp 0) (.const (.bool false))) none] [(2, 0)]) (
.ret))
/- bobbin/lex.blank$1 -/
theorem fn33 : V.F 33 = some Tryd.f33 := by kernel_rfl
noncomputable def c33 : Code := match Tryd.f33.body with
  | some c => c
  | none => .skip
theorem b33 : Tryd.f33.body = some c33 := rfl
theorem pc33 : pcOf V Tryd.f33.ntmps (some (liveOf Tryd.f33 c33)) c33 = some P33 := by kernel_rfl
def P30 : PC :=
.seq (
.reg [.run (.assign (.const (.bool false))) none] [(2, 0)]) (
.seq (
.reg [.get 0,
  .run (.binOp .geq 5 (.tmp 0) (.const (.int .u8 97)) 5) none,
  .run (.move (.tmp (far + 0))) (some ((.tmp 0), true)),
  .run (.binOp .leq 5 (.tmp 0) (.const (.int .u8 122)) 5) (some ((.tmp 1), true)),
  .run (.pick (.tmp 2) (.tmp 0) (.const (.bool false))) none,
  .run (.move (.tmp (far + 0))) (some ((.tmp 0), false)),
  .run (.binOp .geq 5 (.tmp 0) (.const (.int .u8 65)) 5) (some ((.tmp 1), false)),
  .run (.move (.tmp 0)) (some ((.tmp 2), false)),
  .run (.move (.tmp (far + 0))) (some ((.tmp 0), true)),
  .run (.binOp .leq 5 (.tmp 0) (.const (.int .u8 90)) 5) (some ((.tmp 1), true)),
  .run (.pick (.tmp 2) (.tmp 0) (.const (.bool false))) (some ((.tmp 5), false)),
  .run (.pick (.tmp 6) (.const (.bool true)) (.tmp 0)) none,
  .run (.move (.tmp (far + 0))) (some ((.tmp 0), false)),
  .run (.binOp .eql 5 (.tmp 0) (.const (.int .u8 95)) 5) (some ((.tmp 1), false)),
  .run (.pick (.tmp 2) (.const (.bool true)) (.tmp 0)) none] [(2, 0)]) (
.ret))
/- bobbin/lex.run -/
theorem fn30 : V.F 30 = some Tryd.f30 := by kernel_rfl
noncomputable def c30 : Code := match Tryd.f30.body with
  | some c => c
  | none => .skip
theorem b30 : Tryd.f30.body = some c30 := rfl
theorem pc30 : pcOf V Tryd.f30.ntmps (some (liveOf Tryd.f30 c30)) c30 = some P30 := by kernel_rfl
def P32 : PC :=
.seq (
.reg [.run (.assign (.const (.bool false))) none] [(2, 0)]) (
.seq (
.reg [.get 0,
  .run (.call ⟨.value (.func 30), #[(.tmp 0)], #[5]⟩) none,
  .run (.move (.tmp (far + 0))) (some ((.tmp 0), false)),
  .run (.call ⟨.value (.func 33), #[(.tmp 0)], #[5]⟩) (some ((.tmp 1), false)),
  .run (.pick (.tmp 2) (.const (.bool true)) (.tmp 0)) none] [(2, 0)]) (
.ret))
/- bobbin/lex.digit -/
theorem fn32 : V.F 32 = some Tryd.f32 := by kernel_rfl
noncomputable def c32 : Code := match Tryd.f32.body with
  | some c => c
  | none => .skip
theorem b32 : Tryd.f32.body = some c32 := rfl
theorem pc32 : pcOf V Tryd.f32.ntmps (some (liveOf Tryd.f32 c32)) c32 = some P32 := by kernel_rfl
def P31 : PC :=
.seq (
.reg [.run (.assign (.const (.int .i64 0))) none] [(4, 0)]) (
.seq (
.reg [.run (.assign (.const (.int .i64 0))) none] [(5, 0)]) (
.seq (
.block 0 (
 .loop (
  .seq (
  .seq (
  .reg [.get 5,
    .get 0,
    .run (.call ⟨.builtin .len, #[(.tmp 0)], #[9]⟩) none,
    .run (.binOp .lss 3 (.tmp 2) (.tmp 0) 3) none,
    .run (.move (.tmp (far + 1))) (some ((.tmp 0), true)),
    .run (.move (.tmp (far + 0))) (some ((.tmp 1), true)),
    .run (.move (.tmp (far + 5))) (some ((.tmp 2), true)),
    .run (.index 9 (.tmp 1) (.tmp 0)) (some ((.tmp 3), true)),
    .run (.call ⟨.value (.tmp 3), #[(.tmp 0)], #[5]⟩) (some ((.tmp 4), true)),
    .run (.pick (.tmp 5) (.tmp 0) (.const (.bool false))) none] [(16, 0)]) (
  .cond (.tmp 16) (
    .skip) (
    .exit 0))) (
  .block 1 (
   .reg [.get 5,
     .run (.binOp .add 3 (.tmp 0) (.const (.int .i64 1)) 3) none] [(5, 0)]))))) (
.seq (
.reg [.get 5] [(4, 0)]) (
.ret))))
/- bobbin/lex.word$1 -/
theorem fn31 : V.F 31 = some Tryd.f31 := by kernel_rfl
noncomputable def c31 : Code := match Tryd.f31.body with
  | some c => c
  | none => .skip
theorem b31 : Tryd.f31.body = some c31 := rfl
theorem pc31 : pcOf V Tryd.f31.ntmps (some (liveOf Tryd.f31 c31)) c31 = some P31 := by kernel_rfl
def P34 : PC :=
.seq (
.reg [.run (.assign (.const (.bool false))) none] [(2, 0)]) (
.seq (
.reg [.get 0,
  .run (.binOp .neq 5 (.tmp 0) (.const (.int .u8 10)) 5) none] [(2, 0)]) (
.ret))
/- bobbin/lex.blank$2 -/
theorem fn34 : V.F 34 = some Tryd.f34 := by kernel_rfl
noncomputable def c34 : Code := match Tryd.f34.body with
  | some c => c
  | none => .skip
theorem b34 : Tryd.f34.body = some c34 := rfl
theorem pc34 : pcOf V Tryd.f34.ntmps (some (liveOf Tryd.f34 c34)) c34 = some P34 := by kernel_rfl
def P35 : PC :=
.seq (
.reg [.run (.assign (.const (.bool false))) none] [(2, 0)]) (
.seq (
.reg [.get 0,
  .run (.binOp .eql 5 (.tmp 0) (.const (.int .u8 32)) 5) none,
  .run (.move (.tmp (far + 0))) (some ((.tmp 0), false)),
  .run (.binOp .eql 5 (.tmp 0) (.const (.int .u8 9)) 5) (some ((.tmp 1), false)),
  .run (.pick (.tmp 2) (.const (.bool true)) (.tmp 0)) none,
  .run (.move (.tmp (far + 0))) (some ((.tmp 0), false)),
  .run (.binOp .eql 5 (.tmp 0) (.const (.int .u8 10)) 5) (some ((.tmp 1), false)),
  .run (.pick (.tmp 2) (.const (.bool true)) (.tmp 0)) none] [(2, 0)]) (
.ret))
/- bobbin/bobbinlaw01.works -/
theorem fn35 : V.F 35 = some Tryd.f35 := by kernel_rfl
noncomputable def c35 : Code := match Tryd.f35.body with
  | some c => c
  | none => .skip
theorem b35 : Tryd.f35.body = some c35 := rfl
theorem pc35 : pcOf V Tryd.f35.ntmps (some (liveOf Tryd.f35 c35)) c35 = some P35 := by kernel_rfl
def P21 : PC :=
.seq (
.reg [.run (.assign (.const (.int .i64 0))) none] [(2, 0)]) (
.seq (
.seq (
.reg [.get 0,
  .run (.binOp .eql 9 (.tmp 0) (.const (.string ⟨⟨[]⟩⟩)) 9) none,
  .run (.move (.tmp (far + 0))) (some ((.tmp 0), false)),
  .run (.index 9 (.tmp 0) (.const (.int .i64 0))) (some ((.tmp 1), false)),
  .run (.call ⟨.value (.func 30), #[(.tmp 0)], #[5]⟩) (some ((.tmp 2), false)),
  .run (.unOp .not 4 (.tmp 0)) (some ((.tmp 3), false)),
  .run (.pick (.tmp 4) (.const (.bool true)) (.tmp 0)) none] [(10, 0)]) (
.cond (.tmp 10) (
  .seq (
  .reg [.run (.assign (.const (.int .i64 0))) none] [(2, 0)]) (
  .ret)) (
  .skip))) (
.seq (
.reg [.get 0,
  .run (.call ⟨.value (.func 31), #[(.tmp 0), (.func 32)], #[9, 46]⟩) none] [(2, 0)]) (
.ret)))
/- bobbin/lex.blank -/
theorem fn21 : V.F 21 = some Tryd.f21 := by kernel_rfl
noncomputable def c21 : Code := match Tryd.f21.body with
  | some c => c
  | none => .skip
theorem b21 : Tryd.f21.body = some c21 := rfl
theorem pc21 : pcOf V Tryd.f21.ntmps (some (liveOf Tryd.f21 c21)) c21 = some P21 := by kernel_rfl
def P22 : PC :=
.seq (
.reg [.run (.assign (.const (.int .i64 0))) none] [(2, 0)]) (
.seq (
.seq (
.reg [.get 0,
  .run (.index 9 (.tmp 0) (.const (.int .i64 0))) none,
  .run (.binOp .eql 5 (.tmp 0) (.const (.int .u8 35)) 5) none] [(5, 0)]) (
.cond (.tmp 5) (
  .seq (
  .reg [.get 0,
    .run (.call ⟨.value (.func 31), #[(.tmp 0), (.func 34)], #[9, 46]⟩) none] [(2, 0)]) (
  .ret)) (
  .skip))) (
.seq (
.reg [.get 0,
  .run (.call ⟨.value (.func 31), #[(.tmp 0), (.func 35)], #[9, 46]⟩) none] [(2, 0)]) (
.ret)))
/- bobbin/lex.token -/
theorem fn22 : V.F 22 = some Tryd.f22 := by kernel_rfl
noncomputable def c22 : Code := match Tryd.f22.body with
  | some c => c
  | none => .skip
theorem b22 : Tryd.f22.body = some c22 := rfl
theorem pc22 : pcOf V Tryd.f22.ntmps (some (liveOf Tryd.f22 c22)) c22 = some P22 := by kernel_rfl
def P12 : PC :=
.seq (
.reg [.run (.assign (.const (.bool false))) none] [(2, 0)]) (
.seq (
.reg [.run (.buildSlice 28 15 #[(0, (.const (.string ⟨⟨[103, 108, 111, 98, 97, 108]⟩⟩))), (1, (.const (.string ⟨⟨[97, 114, 114, 97, 121]⟩⟩))), (2, (.const (.string ⟨⟨[108, 111, 99, 107]⟩⟩))), (3, (.const (.string ⟨⟨[102, 117, 110, 99]⟩⟩))), (4, (.const (.string ⟨⟨[116, 104, 114, 101, 97, 100]⟩⟩))), (5, (.const (.string ⟨⟨[118, 97, 114]⟩⟩))), (6, (.const (.string ⟨⟨[105, 102]⟩⟩))), (7, (.const (.string ⟨⟨[101, 108, 115, 101]⟩⟩))), (8, (.const (.string ⟨⟨[119, 104, 105, 108, 101]⟩⟩))), (9, (.const (.string ⟨⟨[119, 105, 116, 104]⟩⟩))), (10, (.const (.string ⟨⟨[112, 114, 105, 110, 116]⟩⟩))), (11, (.const (.string ⟨⟨[99, 97, 108, 108]⟩⟩))), (12, (.const (.string ⟨⟨[114, 101, 116, 117, 114, 110]⟩⟩))), (13, (.const (.string ⟨⟨[116, 114, 117, 101]⟩⟩))), (14, (.const (.string ⟨⟨[102, 97, 108, 115, 101]⟩⟩)))]) none,
  .get 0,
  .run (.call ⟨.value (.func 20), #[(.tmp 1), (.tmp 0)], #[28, 9]⟩) none] [(2, 0)]) (
.ret))
/- bobbin/lex.Tokens -/
theorem fn12 : V.F 12 = some Tryd.f12 := by kernel_rfl
noncomputable def c12 : Code := match Tryd.f12.body with
  | some c => c
  | none => .skip
theorem b12 : Tryd.f12.body = some c12 := rfl
theorem pc12 : pcOf V Tryd.f12.ntmps (some (liveOf Tryd.f12 c12)) c12 = some P12 := by kernel_rfl
def P20 : PC :=
.seq (
.reg [.run (.assign (.const (.bool false))) none] [(4, 0)]) (
.seq (
.reg [.get 0,
  .get 1,
  .run (.call ⟨.value (.func 29), #[(.tmp 1), (.tmp 0)], #[28, 9]⟩) none,
  .run (.binOp .geq 3 (.tmp 0) (.const (.int .i64 0)) 3) none] [(4, 0)]) (
.ret))
/- bobbin/lex.word -/
theorem fn20 : V.F 20 = some Tryd.f20 := by kernel_rfl
noncomputable def c20 : Code := match Tryd.f20.body with
  | some c => c
  | none => .skip
theorem b20 : Tryd.f20.body = some c20 := rfl
theorem pc20 : pcOf V Tryd.f20.ntmps (some (liveOf Tryd.f20 c20)) c20 = some P20 := by kernel_rfl
def P29 : PC :=
.seq (
.reg [.run (.assign (.const (.int .i64 0))) none] [(4, 0)]) (
.seq (
.seq (
.reg [.get 0,
  .run (.call ⟨.builtin .len, #[(.tmp 0)], #[28]⟩) none,
  .run (.move (.const (.int .i64 0))) none] [(8, 0), (7, 1)]) (
.block 0 (
 .loop (
  .seq (
  .reg [.run (.binOp .lss 3 (.tmp (far + 8)) (.tmp (far + 7)) 3) none] [(9, 0)]) (
  .seq (
  .cond (.tmp 9) (
    .skip) (
    .exit 0)) (
  .seq (
  .block 1 (
   .seq (
   .reg [.get 8] [(5, 0)]) (
   .seq (
   .reg [.get 1,
     .get 0,
     .get 5,
     .run (.indexAddr 28 (.tmp 1) (.tmp 0)) none,
     .run (.load 9 (.tmp 0)) none,
     .run (.binOp .eql 9 (.tmp 4) (.tmp 0) 9) none] [(16, 0)]) (
   .cond (.tmp 16) (
     .seq (
     .reg [.get 5] [(4, 0)]) (
     .ret)) (
     .skip))))) (
  .reg [.run (.binOp .add 3 (.tmp (far + 8)) (.const (.int .i64 1)) 3) none] [(8, 0)]))))))) (
.seq (
.reg [.run (.assign (.const (.int .i64 (-1)))) none] [(4, 0)]) (
.ret)))
/- bobbin/lex.letter -/
theorem fn29 : V.F 29 = some Tryd.f29 := by kernel_rfl
noncomputable def c29 : Code := match Tryd.f29.body with
  | some c => c
  | none => .skip
theorem b29 : Tryd.f29.body = some c29 := rfl
theorem pc29 : pcOf V Tryd.f29.ntmps (some (liveOf Tryd.f29 c29)) c29 = some P29 := by kernel_rfl
def P13 : PC :=
.seq (
.reg [.run (.assign (.const (.bool false))) none] [(2, 0)]) (
.seq (
.reg [.get 0,
  .run (.call ⟨.builtin .len, #[(.tmp 0)], #[9]⟩) none,
  .run (.binOp .gtr 3 (.tmp 0) (.const (.int .i64 0)) 3) none,
  .run (.move (.tmp (far + 0))) (some ((.tmp 0), true)),
  .run (.call ⟨.builtin .len, #[(.tmp 0)], #[9]⟩) (some ((.tmp 1), true)),
  .run (.binOp .leq 3 (.tmp 0) (.const (.int .i64 32)) 3) (some ((.tmp 2), true)),
  .run (.pick (.tmp 3) (.tmp 0) (.const (.bool false))) none,
  .run (.move (.tmp (far + 0))) (some ((.tmp 0), true)),
  .run (.call ⟨.value (.func 21), #[(.tmp 0)], #[9]⟩) (some ((.tmp 1), true)),
  .run (.move (.tmp (far + 0))) (some ((.tmp 2), true)),
  .run (.call ⟨.builtin .len, #[(.tmp 0)], #[9]⟩) (some ((.tmp 3), true)),
  .run (.binOp .eql 3 (.tmp 2) (.tmp 0) 3) (some ((.tmp 4), true)),
  .run (.pick (.tmp 5) (.tmp 0) (.const (.bool false))) none,
  .run (.move (.tmp (far + 0))) (some ((.tmp 0), true)),
  .run (.call ⟨.value (.func 12), #[(.tmp 0)], #[9]⟩) (some ((.tmp 1), true)),
  .run (.unOp .not 4 (.tmp 0)) (some ((.tmp 2), true)),
  .run (.pick (.tmp 3) (.tmp 0) (.const (.bool false))) none] [(2, 0)]) (
.ret))
/- bobbin/lex.Reserved -/
theorem fn13 : V.F 13 = some Tryd.f13 := by kernel_rfl
noncomputable def c13 : Code := match Tryd.f13.body with
  | some c => c
  | none => .skip
theorem b13 : Tryd.f13.body = some c13 := rfl
theorem pc13 : pcOf V Tryd.f13.ntmps (some (liveOf Tryd.f13 c13)) c13 = some P13 := by kernel_rfl
def P23 : PC :=
.seq (
.reg [.run (.box 9 (.tmp (far + 0))) none,
  .run (.assign (.const (.int .u8 0))) none,
  .run (.assign (.const (.int .i64 0))) none,
  .run (.assign (.const (.bool false))) none] [(4, 0), (3, 1), (2, 2), (1, 3)]) (
.seq (
.seq (
.reg [.run (.load 9 (.tmp (far + 1))) none,
  .run (.call ⟨.value (.func 21), #[(.tmp 0)], #[9]⟩) none] [(5, 0)]) (
.seq (
.reg [.get 5,
  .run (.binOp .gtr 3 (.tmp 0) (.const (.int .i64 0)) 3) none] [(11, 0)]) (
.cond (.tmp 11) (
  .seq (
  .reg [.get 5,
    .get 5,
    .run (.binOp .leq 3 (.tmp 0) (.const (.int .i64 32)) 3) none,
    .run (.assign (.const (.int .u8 1))) none] [(4, 1), (3, 3), (2, 0)]) (
  .ret)) (
  .skip)))) (
.seq (
.seq (
.reg [.run (.load 9 (.tmp (far + 1))) none,
  .run (.call ⟨.value (.func 31), #[(.tmp 0), (.func 33)], #[9, 46]⟩) none] [(6, 0)]) (
.seq (
.reg [.get 6,
  .run (.binOp .gtr 3 (.tmp 0) (.const (.int .i64 0)) 3) none] [(18, 0)]) (
.cond (.tmp 18) (
  .seq (
  .reg [.get 6,
    .run (.load 9 (.tmp (far + 1))) none,
    .get 6,
    .run (.slice 9 (.tmp 1) none (some (.tmp 0)) none) none,
    .run (.call ⟨.value (.func 36), #[(.tmp 0)], #[9]⟩) none,
    .run (.move (.tmp (far + 6))) (some ((.tmp 0), true)),
    .run (.load 9 (.tmp (far + 1))) (some ((.tmp 1), true)),
    .run (.call ⟨.builtin .len, #[(.tmp 0)], #[9]⟩) (some ((.tmp 2), true)),
    .run (.binOp .eql 3 (.tmp 2) (.tmp 0) 3) (some ((.tmp 3), true)),
    .run (.move (.tmp 0)) (some ((.tmp 4), true)),
    .run (.load 9 (.tmp (far + 1))) (some ((.tmp 0), false)),
    .run (.move (.tmp (far + 6))) (some ((.tmp 1), false)),
    .run (.index 9 (.tmp 1) (.tmp 0)) (some ((.tmp 2), false)),
    .run (.call ⟨.value (.func 30), #[(.tmp 0)], #[5]⟩) (some ((.tmp 3), false)),
    .run (.unOp .not 4 (.tmp 0)) (some ((.tmp 4), false)),
    .run (.pick (.tmp 5) (.const (.bool true)) (.tmp 0)) (some ((.tmp 10), true)),
    .run (.pick (.tmp 11) (.tmp 0) (.const (.bool false))) none,
    .run (.assign (.const (.int .u8 2))) none] [(4, 1), (3, 17), (2, 0)]) (
  .ret)) (
  .skip)))) (
.seq (
.reg [.run (.slice 51 (.global 0) none none none) none,
  .run (.makeFunc (.func 38) #[] #[(.tmp (far + 1))]) none,
  .run (.call ⟨.value (.func 37), #[(.tmp 1), (.tmp 0)], #[28, 29]⟩) none] [(7, 0)]) (
.seq (
.seq (
.reg [.get 7,
  .run (.binOp .lss 3 (.tmp 0) (.const (.int .i64 0)) 3) none] [(41, 0)]) (
.cond (.tmp 41) (
  .seq (
  .reg [.run (.assign (.const (.int .u8 0))) none,
    .run (.assign (.const (.int .i64 0))) none,
    .run (.assign (.const (.bool false))) none] [(4, 0), (3, 1), (2, 2)]) (
  .ret)) (
  .skip))) (
.seq (
.reg [.get 7,
  .run (.indexAddr 51 (.global 0) (.tmp 0)) none,
  .run (.load 9 (.tmp 0)) none,
  .run (.call ⟨.builtin .len, #[(.tmp 0)], #[9]⟩) none,
  .run (.assign (.const (.int .u8 3))) none,
  .run (.assign (.const (.bool true))) none] [(4, 0), (3, 2), (2, 1)]) (
.ret))))))
/- slices.Index[[]string,string] -/
theorem fn23 : V.F 23 = some Tryd.f23 := by kernel_rfl
noncomputable def c23 : Code := match Tryd.f23.body with
  | some c => c
  | none => .skip
theorem b23 : Tryd.f23.body = some c23 := rfl
theorem pc23 : pcOf V Tryd.f23.ntmps (some (liveOf Tryd.f23 c23)) c23 = some P23 := by kernel_rfl
def P14 : PC :=
.seq (
.reg [.run (.assign (.const (.slice none 0 0))) none,
  .run (.assign (.const (.int .i64 0))) none,
  .run (.assign (.const (.int .i64 0))) none] [(4, 0), (3, 1), (2, 2)]) (
.seq (
.seq (
.reg [.get 0,
  .run (.call ⟨.builtin .len, #[(.tmp 0)], #[9]⟩) none,
  .run (.binOp .gtr 3 (.tmp 0) (.const (.int .i64 65536)) 3) none] [(13, 0)]) (
.cond (.tmp 13) (
  .seq (
  .reg [.run (.assign (.const (.slice none 0 0))) none,
    .run (.assign (.const (.int .i64 0))) none,
    .run (.assign (.const (.int .i64 40))) none] [(4, 0), (3, 1), (2, 2)]) (
  .ret)) (
  .skip))) (
.seq (
.reg [.run (.assign (.const (.slice none 0 0))) none] [(5, 0)]) (
.seq (
.seq (
.reg [.run (.assign (.const (.int .i64 0))) none] [(6, 0)]) (
.block 0 (
 .loop (
  .seq (
  .seq (
  .reg [.get 6,
    .get 0,
    .run (.call ⟨.builtin .len, #[(.tmp 0)], #[9]⟩) none,
    .run (.binOp .lss 3 (.tmp 2) (.tmp 0) 3) none] [(17, 0)]) (
  .cond (.tmp 17) (
    .skip) (
    .exit 0))) (
  .block 1 (
   .seq (
   .seq (
   .reg [.get 0,
     .get 6,
     .run (.slice 9 (.tmp 1) (some (.tmp 0)) none none) none,
     .run (.call ⟨.value (.func 22), #[(.tmp 0)], #[9]⟩) none] [(7, 0)]) (
   .seq (
   .reg [.get 7,
     .run (.binOp .gtr 3 (.tmp 0) (.const (.int .i64 0)) 3) none] [(23, 0)]) (
   .cond (.tmp 23) (
     .seq (
     .reg [.get 6,
       .get 7,
       .run (.binOp .add 3 (.tmp 1) (.tmp 0) 3) none] [(6, 0)]) (
     .exit 1)) (
     .skip)))) (
   .seq (
   .reg [.get 0,
     .get 6,
     .run (.slice 9 (.tmp 1) (some (.tmp 0)) none none) none,
     .run (.call ⟨.value (.func 23), #[(.tmp 0)], #[9]⟩) none,
     .run (.extract (.tmp 0) 0) none,
     .run (.extract (.tmp 1) 1) none,
     .run (.extract (.tmp 2) 2) none] [(10, 0), (9, 1), (8, 2)]) (
   .seq (
   .seq (
   .reg [.get 10,
     .run (.unOp .not 4 (.tmp 0)) none] [(36, 0)]) (
   .cond (.tmp 36) (
     .seq (
     .reg [.get 6,
       .run (.assign (.const (.slice none 0 0))) none,
       .run (.assign (.const (.int .i64 63))) none] [(4, 0), (3, 2), (2, 1)]) (
     .ret)) (
     .skip))) (
   .seq (
   .reg [.get 5,
     .get 8,
     .get 0,
     .get 6,
     .get 6,
     .get 9,
     .run (.binOp .add 3 (.tmp 1) (.tmp 0) 3) none,
     .run (.slice 9 (.tmp 4) (some (.tmp 3)) (some (.tmp 0)) none) none,
     .get 6,
     .run (.build 36 #[(0, (.tmp 7)), (1, (.tmp 1)), (2, (.tmp 0))]) none,
     .run (.buildSlice 30 1 #[(0, (.tmp 0))]) none,
     .run (.call ⟨.builtin .append, #[(.tmp 10), (.tmp 0)], #[30, 30]⟩) none] [(5, 0)]) (
   .reg [.get 6,
     .get 9,
     .run (.binOp .add 3 (.tmp 1) (.tmp 0) 3) none] [(6, 0)])))))))))) (
.seq (
.reg [.get 5,
  .run (.assign (.const (.int .i64 0))) none,
  .run (.assign (.const (.int .i64 0))) none] [(4, 0), (3, 1), (2, 2)]) (
.ret)))))
/- slices.Contains[[]string,string] -/
theorem fn14 : V.F 14 = some Tryd.f14 := by kernel_rfl
noncomputable def c14 : Code := match Tryd.f14.body with
  | some c => c
  | none => .skip
theorem b14 : Tryd.f14.body = some c14 := rfl
theorem pc14 : pcOf V Tryd.f14.ntmps (some (liveOf Tryd.f14 c14)) c14 = some P14 := by kernel_rfl
def P7 : PC :=
.seq (
.reg [.run (.assign (.const (.bool false))) none] [(4, 0)]) (
.seq (
.seq (
.reg [.run (.call ⟨.value (.func 8), #[], #[]⟩) none,
  .run (.unOp .not 4 (.tmp 0)) none,
  .run (.move (.tmp (far + 0))) (some ((.tmp 0), false)),
  .run (.call ⟨.builtin .len, #[(.tmp 0)], #[9]⟩) (some ((.tmp 1), false)),
  .run (.binOp .gtr 3 (.tmp 0) (.const (.int .i64 1000)) 3) (some ((.tmp 2), false)),
  .run (.pick (.tmp 3) (.const (.bool true)) (.tmp 0)) none] [(17, 0)]) (
.cond (.tmp 17) (
  .seq (
  .reg [.run (.call ⟨.value (.func 8), #[], #[]⟩) none] [(4, 0)]) (
  .ret)) (
  .skip))) (
.seq (
.reg [.get 0,
  .run (.call ⟨.value (.func 13), #[(.tmp 0)], #[9]⟩) none] [(5, 0)]) (
.seq (
.reg [.get 0,
  .run (.call ⟨.value (.func 12), #[(.tmp 0)], #[9]⟩) none] [(6, 0)]) (
.seq (
.seq (
.reg [.get 5,
  .run (.move (.tmp (far + 6))) (some ((.tmp 0), true)),
  .run (.pick (.tmp 1) (.tmp 0) (.const (.bool false))) none] [(26, 0)]) (
.cond (.tmp 26) (
  .seq (
  .reg [.run (.assign (.const (.bool false))) none] [(4, 0)]) (
  .ret)) (
  .skip))) (
.seq (
.seq (
.reg [.get 5,
  .run (.unOp .not 4 (.tmp 0)) none,
  .run (.move (.tmp (far + 6))) (some ((.tmp 0), true)),
  .run (.unOp .not 4 (.tmp 0)) (some ((.tmp 1), true)),
  .run (.pick (.tmp 2) (.tmp 0) (.const (.bool false))) none] [(32, 0)]) (
.cond (.tmp 32) (
  .seq (
  .reg [.run (.assign (.const (.bool true))) none] [(4, 0)]) (
  .ret)) (
  .skip))) (
.seq (
.reg [.get 0,
  .run (.call ⟨.value (.func 14), #[(.tmp 0)], #[9]⟩) none,
  .run (.extract (.tmp 0) 0) none,
  .run (.extract (.tmp 1) 1) none,
  .run (.extract (.tmp 2) 2) none] [(9, 0), (7, 2)]) (
.seq (
.seq (
.reg [.get 9,
  .run (.binOp .neq 31 (.tmp 0) (.const (.int .i64 0)) 31) none,
  .run (.move (.tmp (far + 7))) (some ((.tmp 0), false)),
  .run (.call ⟨.builtin .len, #[(.tmp 0)], #[30]⟩) (some ((.tmp 1), false)),
  .run (.binOp .neq 3 (.tmp 0) (.const (.int .i64 1)) 3) (some ((.tmp 2), false)),
  .run (.pick (.tmp 3) (.const (.bool true)) (.tmp 0)) none,
  .run (.move (.tmp (far + 7))) (some ((.tmp 0), false)),
  .run (.indexAddr 30 (.tmp 0) (.const (.int .i64 0))) (some ((.tmp 1), false)),
  .run (.fieldAddr 36 (.tmp 0) 1) (some ((.tmp 2), false)),
  .run (.load 9 (.tmp 0)) (some ((.tmp 3), false)),
  .run (.move (.tmp (far + 0))) (some ((.tmp 4), false)),
  .run (.binOp .neq 9 (.tmp 1) (.tmp 0) 9) (some ((.tmp 5), false)),
  .run (.pick (.tmp 6) (.const (.bool true)) (.tmp 0)) none,
  .run (.move (.tmp (far + 7))) (some ((.tmp 0), false)),
  .run (.indexAddr 30 (.tmp 0) (.const (.int .i64 0))) (some ((.tmp 1), false)),
  .run (.fieldAddr 36 (.tmp 0) 0) (some ((.tmp 2), false)),
  .run (.load 5 (.tmp 0)) (some ((.tmp 3), false)),
  .run (.binOp .neq 5 (.tmp 0) (.const (.int .u8 1)) 5) (some ((.tmp 4), false)),
  .run (.pick (.tmp 5) (.const (.bool true)) (.tmp 0)) none,
  .run (.move (.tmp (far + 7))) (some ((.tmp 0), false)),
  .run (.indexAddr 30 (.tmp 0) (.const (.int .i64 0))) (some ((.tmp 1), false)),
  .run (.fieldAddr 36 (.tmp 0) 2) (some ((.tmp 2), false)),
  .run (.load 3 (.tmp 0)) (some ((.tmp 3), false)),
  .run (.binOp .neq 3 (.tmp 0) (.const (.int .i64 0)) 3) (some ((.tmp 4), false)),
  .run (.pick (.tmp 5) (.const (.bool true)) (.tmp 0)) none,
  .run (.move (.tmp (far + 0))) (some ((.tmp 0), false)),
  .run (.call ⟨.builtin .len, #[(.tmp 0)], #[9]⟩) (some ((.tmp 1), false)),
  .run (.binOp .gtr 3 (.tmp 0) (.const (.int .i64 32)) 3) (some ((.tmp 2), false)),
  .run (.pick (.tmp 3) (.const (.bool true)) (.tmp 0)) none] [(72, 0)]) (
.cond (.tmp 72) (
  .seq (
  .reg [.run (.assign (.const (.bool false))) none] [(4, 0)]) (
  .ret)) (
  .skip))) (
.seq (
.seq (
.reg [.get 1,
  .run (.binOp .geq 5 (.tmp 0) (.const (.int .u8 97)) 5) none,
  .run (.move (.tmp (far + 1))) (some ((.tmp 0), true)),
  .run (.binOp .leq 5 (.tmp 0) (.const (.int .u8 122)) 5) (some ((.tmp 1), true)),
  .run (.pick (.tmp 2) (.tmp 0) (.const (.bool false))) none,
  .run (.move (.tmp (far + 1))) (some ((.tmp 0), false)),
  .run (.binOp .geq 5 (.tmp 0) (.const (.int .u8 65)) 5) (some ((.tmp 1), false)),
  .run (.move (.tmp 0)) (some ((.tmp 2), false)),
  .run (.move (.tmp (far + 1))) (some ((.tmp 0), true)),
  .run (.binOp .leq 5 (.tmp 0) (.const (.int .u8 90)) 5) (some ((.tmp 1), true)),
  .run (.pick (.tmp 2) (.tmp 0) (.const (.bool false))) (some ((.tmp 5), false)),
  .run (.pick (.tmp 6) (.const (.bool true)) (.tmp 0)) none,
  .run (.move (.tmp (far + 1))) (some ((.tmp 0), false)),
  .run (.binOp .geq 5 (.tmp 0) (.const (.int .u8 48)) 5) (some ((.tmp 1), false)),
  .run (.move (.tmp 0)) (some ((.tmp 2), false)),
  .run (.move (.tmp (far + 1))) (some ((.tmp 0), true)),
  .run (.binOp .leq 5 (.tmp 0) (.const (.int .u8 57)) 5) (some ((.tmp 1), true)),
  .run (.pick (.tmp 2) (.tmp 0) (.const (.bool false))) (some ((.tmp 5), false)),
  .run (.pick (.tmp 6) (.const (.bool true)) (.tmp 0)) none,
  .run (.move (.tmp (far + 1))) (some ((.tmp 0), false)),
  .run (.binOp .eql 5 (.tmp 0) (.const (.int .u8 95)) 5) (some ((.tmp 1), false)),
  .run (.pick (.tmp 2) (.const (.bool true)) (.tmp 0)) none] [(98, 0)]) (
.cond (.tmp 98) (
  .seq (
  .reg [.get 0,
    .get 1,
    .run (.buildSlice 40 1 #[(0, (.tmp 0))]) none,
    .run (.convert 40 9 (.tmp 0)) none,
    .run (.binOp .add 9 (.tmp 3) (.tmp 0) 9) none] [(10, 0)]) (
  .seq (
  .reg [.get 10,
    .run (.call ⟨.builtin .len, #[(.tmp 0)], #[9]⟩) none,
    .run (.binOp .gtr 3 (.tmp 0) (.const (.int .i64 32)) 3) none,
    .run (.move (.tmp (far + 10))) (some ((.tmp 0), false)),
    .run (.call ⟨.value (.func 13), #[(.tmp 0)], #[9]⟩) (some ((.tmp 1), false)),
    .run (.pick (.tmp 2) (.const (.bool true)) (.tmp 0)) none,
    .run (.move (.tmp (far + 10))) (some ((.tmp 0), false)),
    .run (.call ⟨.value (.func 12), #[(.tmp 0)], #[9]⟩) (some ((.tmp 1), false)),
    .run (.pick (.tmp 2) (.const (.bool true)) (.tmp 0)) none] [(4, 0)]) (
  .ret))) (
  .skip))) (
.seq (
.reg [.get 0,
  .get 1,
  .run (.buildSlice 40 1 #[(0, (.tmp 0))]) none,
  .run (.convert 40 9 (.tmp 0)) none,
  .run (.binOp .add 9 (.tmp 3) (.tmp 0) 9) none,
  .run (.call ⟨.value (.func 13), #[(.tmp 0)], #[9]⟩) none,
  .run (.unOp .not 4 (.tmp 0)) none] [(4, 0)]) (
.ret))))))))))
/- bobbin/lex.Name -/
theorem fn7 : V.F 7 = some Tryd.f7 := by kernel_rfl
noncomputable def c7 : Code := match Tryd.f7.body with
  | some c => c
  | none => .skip
theorem b7 : Tryd.f7.body = some c7 := rfl
theorem pc7 : pcOf V Tryd.f7.ntmps (some (liveOf Tryd.f7 c7)) c7 = some P7 := by kernel_rfl
variable {O : Orc} {H : AH}
def dig (c : Int) : Bool := decide (c ≥ 48) && decide (c ≤ 57)
theorem digit_c (hO : ∀ vs H, O 33 vs H = none) {c : Int} : Lc V O 33 [.int .u8 c] H (.bool (dig c)) H := by
  have key : ∃ v H', Lc V O 33 [.int .u8 c] H v H' ∧ (v = .bool (dig c) ∧ H' = H) := by
    refine Lc.fnP (R := fun v H' => v = .bool (dig c) ∧ H' = H) (hO _ _) fn33 b33 pc33 (Nat.le_of_ble_eq_true rfl) (by kernel_rfl) ?_
    unfold P33
    refine .seq (.reg (.op rfl (.nil ⟨_, rfl, ?_⟩)))
    refine .seq (.reg (.get rfl (.op (op_int rfl rfl (aInt_geq _ _)) (.guard rfl (fun h1 => ?_) (fun h1 => ?_)))))
    · refine .op rfl (.guard rfl (fun _ => ?_) (fun h => absurd (h1.symm.trans h) (by simp)))
      refine .op (op_int rfl rfl (aInt_leq _ _)) (.op (op_pickT rfl h1 rfl) (.nil ⟨_, rfl, ?_⟩))
      refine .ret ⟨.inr rfl, _, rfl, ?_, rfl⟩
      show Value.bool _ = _
      rw [dig, h1]; rfl
    · refine .guard rfl (fun h => absurd (h1.symm.trans h) (by simp)) (fun _ => ?_)
      refine .op (op_pickF rfl h1 rfl) (.nil ⟨_, rfl, ?_⟩)
      refine .ret ⟨.inr rfl, _, rfl, ?_, rfl⟩
      show Value.bool _ = _
      rw [dig, h1]; rfl
  obtain ⟨v, H', h, rfl, rfl⟩ := key
  exact h
theorem E9 : V.E 9 = some ⟨.string, 1, 16, .string ⟨#[]⟩⟩ := by kernel_rfl
theorem run_c (hO : ∀ vs H, O 31 vs H = none) {f : FuncId} (hf : (V.F f).isSome = true) {p : UInt8 → Bool} (hp : ∀ c : UInt8, Lc V O f [.int .u8 c.toNat] H (.bool (p c)) H) {s : ByteArray} (hs : s.size ≤ maxLen) :
    Lc V O 31 [.string s, .func (.func f) #[] #[]] H (.int .i64 (s.data.toList.takeWhile p).length) H := by
  have hsz : s.size = s.data.toList.length := rfl
  have hmx : maxLen = 9223372036854775807 := rfl
  generalize hl : s.data.toList = l at hsz
  have key : ∃ v H', Lc V O 31 [.string s, .func (.func f) #[] #[]] H v H' ∧ (v = .int .i64 (l.takeWhile p).length ∧ H' = H) := by
    refine Lc.fnP (R := fun v H' => v = .int .i64 (l.takeWhile p).length ∧ H' = H) (hO _ _) fn31 b31 pc31 (Nat.le_of_ble_eq_true rfl) (by kernel_rfl) ?_
    unfold P31
    refine .seq (.reg (.op rfl (.nil ⟨_, rfl, ?_⟩)))
    refine .seq (.reg (.op rfl (.nil ⟨_, rfl, ?_⟩)))
    refine .seq (.block (.loopS (σ := Nat) (fun i => [(0, .string s), (1, .func (.func f) #[] #[]), (5, .int .i64 i)]) (fun _ => H) (fun i => i ≤ l.length ∧ l.takeWhile p = l.take i ++ (l.drop i).takeWhile p) (fun i => l.length - i) 0 ⟨by simp, by simp⟩ ⟨rfl, rfl, rfl, trivial⟩ rfl fun i hi => ?_))
    have hout : ∀ E, (l.drop i).takeWhile p = [] → E = (i : Int) → Value.int .i64 E = .int .i64 ((l.takeWhile p).length : Int) := fun E h e => by
      rw [hi.2, h, e]; simp; omega
    refine .seq (.seq (.reg (.get rfl (.get rfl (.op (op_lenS rfl E9) (.op (op_int rfl rfl (aInt_lss _ _)) (.guard rfl (fun h1 => ?_) (fun h1 => ?_))))))))
    · have hlt : i < l.length := by simp at h1; omega
      refine .op rfl (.guard rfl (fun _ => ?_) (fun h => absurd (h1.symm.trans h) (by simp)))
      refine .op rfl (.guard rfl (fun _ => ?_) (fun h => absurd (h1.symm.trans h) (by simp)))
      refine .op rfl (.guard rfl (fun _ => ?_) (fun h => absurd (h1.symm.trans h) (by simp)))
      refine .op (op_indexS rfl rfl E9 (by omega) (c := l[i]) (by rw [hl]; simp [hlt])) (.guard rfl (fun _ => ?_) (fun h => absurd (h1.symm.trans h) (by simp)))
      refine .call rfl rfl hf (hp _) (.op (op_pickT rfl h1 rfl) (.nil ⟨_, rfl, ?_⟩))
      have hd : l.drop i = l[i] :: l.drop (i + 1) := List.drop_eq_getElem_cons hlt
      refine .cond rfl (fun hc => ?_) (fun hc => ?_)
      · refine .skip ?_
        refine .block (.reg (.get rfl (.op (op_int rfl rfl (aInt_add _ _ (by omega) (by omega))) (.nil ⟨_, rfl, ?_⟩))))
        refine ⟨i + 1, ⟨by omega, ?_⟩, by omega, ⟨rfl, rfl, rfl, trivial⟩, rfl⟩
        rw [hi.2, hd, List.takeWhile_cons, hc, if_pos rfl, List.take_add_one, List.getElem?_eq_getElem hlt, Option.toList_some, List.append_assoc]
        rfl
      · refine .exit ?_
        refine .seq (.reg (.get rfl (.nil ⟨_, rfl, ?_⟩)))
        refine .ret ⟨.inr rfl, _, rfl, hout _ ?_ rfl, rfl⟩
        rw [hd, List.takeWhile_cons, hc]; simp
    · refine .guard rfl (fun h => absurd (h1.symm.trans h) (by simp)) (fun _ => ?_)
      refine .guard rfl (fun h => absurd (h1.symm.trans h) (by simp)) (fun _ => ?_)
      refine .guard rfl (fun h => absurd (h1.symm.trans h) (by simp)) (fun _ => ?_)
      refine .guard rfl (fun h => absurd (h1.symm.trans h) (by simp)) (fun _ => ?_)
      refine .op (op_pickF rfl h1 rfl) (.nil ⟨_, rfl, ?_⟩)
      refine .cond rfl (fun hc => by cases hc) (fun hc => ?_)
      refine .exit ?_
      refine .seq (.reg (.get rfl (.nil ⟨_, rfl, ?_⟩)))
      refine .ret ⟨.inr rfl, _, rfl, hout _ ?_ rfl, rfl⟩
      have : l.length ≤ i := by simp at h1; omega
      rw [List.drop_eq_nil_iff.2 this]; rfl
  obtain ⟨v, H', h, rfl, rfl⟩ := key
  exact h
def let_ (c : Int) : Bool := (decide (c ≥ 97) && decide (c ≤ 122)) || (decide (c ≥ 65) && decide (c ≤ 90)) || (c == 95)
theorem letter_c (hO : ∀ vs H, O 30 vs H = none) {c : Int} : Lc V O 30 [.int .u8 c] H (.bool (let_ c)) H := by
  have key : ∃ v H', Lc V O 30 [.int .u8 c] H v H' ∧ (v = .bool (let_ c) ∧ H' = H) := by
    refine Lc.fnP (R := fun v H' => v = .bool (let_ c) ∧ H' = H) (hO _ _) fn30 b30 pc30 (Nat.le_of_ble_eq_true rfl) (by kernel_rfl) ?_
    unfold P30
    refine .seq (.reg (.op rfl (.nil ⟨_, rfl, ?_⟩)))
    refine .seq (.reg (.get rfl (.op (op_int rfl rfl (aInt_geq _ _)) ?_)))
    cases hA : decide (c ≥ 97)
    · refine .off rfl rfl (.off rfl rfl (.op (op_pickF rfl rfl rfl) ?_))
      refine .on rfl rfl (.op rfl (.on rfl rfl (.op (op_int rfl rfl (aInt_geq _ _)) (.on rfl rfl (.op rfl ?_)))))
      cases hC : decide (c ≥ 65)
      · refine .off rfl rfl (.off rfl rfl (.on rfl rfl (.op (op_pickF rfl rfl rfl) (.op (op_pickF rfl rfl rfl) ?_))))
        refine .on rfl rfl (.op rfl (.on rfl rfl (.op (op_int rfl rfl (aInt_eql _ _)) (.op (op_pickF rfl rfl rfl) (.nil ⟨_, rfl, ?_⟩)))))
        exact .ret ⟨.inr rfl, _, rfl, by simp [resOf, let_, *], rfl⟩
      · refine .on rfl rfl (.op rfl (.on rfl rfl (.op (op_int rfl rfl (aInt_leq _ _)) (.on rfl rfl (.op (op_pickT rfl rfl rfl) (.op (op_pickF rfl rfl rfl) ?_))))))
        cases hD : decide (c ≤ 90)
        · refine .on rfl rfl (.op rfl (.on rfl rfl (.op (op_int rfl rfl (aInt_eql _ _)) (.op (op_pickF rfl rfl rfl) (.nil ⟨_, rfl, ?_⟩)))))
          exact .ret ⟨.inr rfl, _, rfl, by simp [resOf, let_, *], rfl⟩
        · refine .off rfl rfl (.off rfl rfl (.op (op_pickT rfl rfl rfl) (.nil ⟨_, rfl, ?_⟩)))
          exact .ret ⟨.inr rfl, _, rfl, by simp [resOf, let_, *], rfl⟩
    · refine .on rfl rfl (.op rfl (.on rfl rfl (.op (op_int rfl rfl (aInt_leq _ _)) (.op (op_pickT rfl rfl rfl) ?_))))
      cases hB : decide (c ≤ 122)
      · skip
        refine .on rfl rfl (.op rfl (.on rfl rfl (.op (op_int rfl rfl (aInt_geq _ _)) (.on rfl rfl (.op rfl ?_)))))
        cases hC : decide (c ≥ 65)
        · refine .off rfl rfl (.off rfl rfl (.on rfl rfl (.op (op_pickF rfl rfl rfl) (.op (op_pickF rfl rfl rfl) ?_))))
          refine .on rfl rfl (.op rfl (.on rfl rfl (.op (op_int rfl rfl (aInt_eql _ _)) (.op (op_pickF rfl rfl rfl) (.nil ⟨_, rfl, ?_⟩)))))
          exact .ret ⟨.inr rfl, _, rfl, by simp [resOf, let_, *], rfl⟩
        · refine .on rfl rfl (.op rfl (.on rfl rfl (.op (op_int rfl rfl (aInt_leq _ _)) (.on rfl rfl (.op (op_pickT rfl rfl rfl) (.op (op_pickF rfl rfl rfl) ?_))))))
          cases hD : decide (c ≤ 90)
          · refine .on rfl rfl (.op rfl (.on rfl rfl (.op (op_int rfl rfl (aInt_eql _ _)) (.op (op_pickF rfl rfl rfl) (.nil ⟨_, rfl, ?_⟩)))))
            exact .ret ⟨.inr rfl, _, rfl, by simp [resOf, let_, *], rfl⟩
          · refine .off rfl rfl (.off rfl rfl (.op (op_pickT rfl rfl rfl) (.nil ⟨_, rfl, ?_⟩)))
            exact .ret ⟨.inr rfl, _, rfl, by simp [resOf, let_, *], rfl⟩
      · refine .off rfl rfl (.off rfl rfl (.off rfl rfl (.offU rfl (.offU rfl (.off rfl rfl (.op (op_pickT rfl rfl rfl) ?_))))))
        refine .off rfl rfl (.off rfl rfl (.op (op_pickT rfl rfl rfl) (.nil ⟨_, rfl, ?_⟩)))
        exact .ret ⟨.inr rfl, _, rfl, by simp [resOf, let_, *], rfl⟩
  obtain ⟨v, H', h, rfl, rfl⟩ := key
  exact h
def wd (c : Int) : Bool := let_ c || dig c
theorem word1_c (hO : ∀ f vs H, f ≠ 8 → O f vs H = none) {c : Int} : Lc V O 32 [.int .u8 c] H (.bool (wd c)) H := by
  have key : ∃ v H', Lc V O 32 [.int .u8 c] H v H' ∧ (v = .bool (wd c) ∧ H' = H) := by
    refine Lc.fnP (R := fun v H' => v = .bool (wd c) ∧ H' = H) (hO _ _ _ (by decide)) fn32 b32 pc32 (Nat.le_of_ble_eq_true rfl) (by kernel_rfl) ?_
    unfold P32
    refine .seq (.reg (.op rfl (.nil ⟨_, rfl, ?_⟩)))
    refine .seq (.reg (.get rfl (.call rfl rfl (by rw [fn30]; rfl) (letter_c (fun _ _ => hO _ _ _ (by decide))) ?_)))
    cases hA : let_ c
    · refine .on rfl rfl (.op rfl (.on rfl rfl (.call rfl rfl (by rw [fn33]; rfl) (digit_c (fun _ _ => hO _ _ _ (by decide))) (.op (op_pickF rfl rfl rfl) (.nil ⟨_, rfl, ?_⟩)))))
      exact .ret ⟨.inr rfl, _, rfl, by simp [resOf, wd, *], rfl⟩
    · refine .off rfl rfl (.off rfl rfl (.op (op_pickT rfl rfl rfl) (.nil ⟨_, rfl, ?_⟩)))
      exact .ret ⟨.inr rfl, _, rfl, by simp [resOf, wd, *], rfl⟩
  obtain ⟨v, H', h, rfl, rfl⟩ := key
  exact h
theorem blank1_c (hO : ∀ f vs H, f ≠ 8 → O f vs H = none) {c : Int} : Lc V O 34 [.int .u8 c] H (.bool (c != 10)) H := by
  have key : ∃ v H', Lc V O 34 [.int .u8 c] H v H' ∧ (v = .bool (c != 10) ∧ H' = H) := by
    refine Lc.fnP (R := fun v H' => v = .bool (c != 10) ∧ H' = H) (hO _ _ _ (by decide)) fn34 b34 pc34 (Nat.le_of_ble_eq_true rfl) (by kernel_rfl) ?_
    unfold P34
    refine .seq (.reg (.op rfl (.nil ⟨_, rfl, ?_⟩)))
    refine .seq (.reg (.get rfl (.op (op_int rfl rfl (aInt_neq _ _)) (.nil ⟨_, rfl, ?_⟩))))
    exact .ret ⟨.inr rfl, _, rfl, rfl, rfl⟩
  obtain ⟨v, H', h, rfl, rfl⟩ := key
  exact h
def sp_ (c : Int) : Bool := c == 32 || c == 9 || c == 10
theorem blank2_c (hO : ∀ f vs H, f ≠ 8 → O f vs H = none) {c : Int} : Lc V O 35 [.int .u8 c] H (.bool (sp_ c)) H := by
  have key : ∃ v H', Lc V O 35 [.int .u8 c] H v H' ∧ (v = .bool (sp_ c) ∧ H' = H) := by
    refine Lc.fnP (R := fun v H' => v = .bool (sp_ c) ∧ H' = H) (hO _ _ _ (by decide)) fn35 b35 pc35 (Nat.le_of_ble_eq_true rfl) (by kernel_rfl) ?_
    unfold P35
    refine .seq (.reg (.op rfl (.nil ⟨_, rfl, ?_⟩)))
    refine .seq (.reg (.get rfl (.op (op_int rfl rfl (aInt_eql _ _)) ?_)))
    cases hA : (c == 32)
    · refine .on rfl rfl (.op rfl (.on rfl rfl (.op (op_int rfl rfl (aInt_eql _ _)) (.op (op_pickF rfl rfl rfl) ?_))))
      cases hB : (c == 9)
      · refine .on rfl rfl (.op rfl (.on rfl rfl (.op (op_int rfl rfl (aInt_eql _ _)) (.op (op_pickF rfl rfl rfl) (.nil ⟨_, rfl, ?_⟩)))))
        exact .ret ⟨.inr rfl, _, rfl, by simp only [resOf, sp_, hA, hB, Bool.false_or], rfl⟩
      · refine .off rfl rfl (.off rfl rfl (.op (op_pickT rfl rfl rfl) (.nil ⟨_, rfl, ?_⟩)))
        exact .ret ⟨.inr rfl, _, rfl, by simp only [resOf, sp_, hA, hB, Bool.false_or, Bool.true_or], rfl⟩
    · refine .off rfl rfl (.off rfl rfl (.op (op_pickT rfl rfl rfl) ?_))
      refine .off rfl rfl (.off rfl rfl (.op (op_pickT rfl rfl rfl) (.nil ⟨_, rfl, ?_⟩)))
      exact .ret ⟨.inr rfl, _, rfl, by simp only [resOf, sp_, hA, Bool.true_or], rfl⟩
  obtain ⟨v, H', h, rfl, rfl⟩ := key
  exact h
def wordL (l : List UInt8) : Nat := match l with
  | [] => 0
  | c :: l => if let_ c.toNat then ((c :: l).takeWhile fun b => wd b.toNat).length else 0
theorem word_c (hO : ∀ f vs H, f ≠ 8 → O f vs H = none) {s : ByteArray} (hs : s.size ≤ maxLen) : Lc V O 21 [.string s] H (.int .i64 (wordL s.data.toList)) H := by
  have key : ∃ v H', Lc V O 21 [.string s] H v H' ∧ (v = .int .i64 (wordL s.data.toList) ∧ H' = H) := by
    refine Lc.fnP (R := fun v H' => v = .int .i64 (wordL s.data.toList) ∧ H' = H) (hO _ _ _ (by decide)) fn21 b21 pc21 (Nat.le_of_ble_eq_true rfl) (by kernel_rfl) ?_
    unfold P21
    refine .seq (.reg (.op rfl (.nil ⟨_, rfl, ?_⟩)))
    refine .seq (.seq (.reg (.get rfl (.op (op_eqS rfl rfl) ?_))))
    cases hl : s.data.toList with
    | nil =>
      refine .off rfl rfl (.off rfl rfl (.off rfl rfl (.off rfl rfl (.op (op_pickT rfl rfl rfl) (.nil ⟨_, rfl, ?_⟩)))))
      refine .cond rfl (fun _ => ?_) (fun h => nomatch h)
      refine .seq (.reg (.op rfl (.nil ⟨_, rfl, ?_⟩)))
      exact .ret ⟨.inr rfl, _, rfl, rfl, rfl⟩
    | cons c l =>
      refine .on rfl rfl (.op rfl (.on rfl rfl (.op (op_indexS rfl rfl E9 (by decide) (c := c) (by rw [hl]; rfl)) (.on rfl rfl (.call rfl rfl (by rw [fn30]; rfl) (letter_c (fun _ _ => hO _ _ _ (by decide))) (.on rfl rfl (.op (op_not rfl) (.op (op_pickF rfl rfl rfl) (.nil ⟨_, rfl, ?_⟩)))))))))
      cases hc : let_ c.toNat
      · refine .cond rfl (fun _ => ?_) (fun h => nomatch h)
        refine .seq (.reg (.op rfl (.nil ⟨_, rfl, ?_⟩)))
        exact .ret ⟨.inr rfl, _, rfl, by simp [resOf, wordL, hc], rfl⟩
      · refine .cond rfl (fun h => nomatch h) (fun _ => ?_)
        refine .skip ?_
        refine .seq (.reg (.get rfl (.call rfl rfl (by rw [fn31]; rfl) (run_c (p := fun b => wd b.toNat) (fun _ _ => hO _ _ _ (by decide)) (by rw [fn32]; rfl) (fun c => word1_c hO) hs) (.nil ⟨_, rfl, ?_⟩))))
        exact .ret ⟨.inr rfl, _, rfl, by rw [hl]; simp [resOf, wordL, hc], rfl⟩
  obtain ⟨v, H', h, rfl, rfl⟩ := key
  exact h
def blankL (l : List UInt8) : Nat := match l with
  | [] => 0
  | c :: l => if (c.toNat : Int) == 35 then ((c :: l).takeWhile fun b => (b.toNat : Int) != 10).length else ((c :: l).takeWhile fun b => sp_ b.toNat).length
theorem blank_c (hO : ∀ f vs H, f ≠ 8 → O f vs H = none) {s : ByteArray} (hs : s.size ≤ maxLen) (hne : s.data.toList ≠ []) : Lc V O 22 [.string s] H (.int .i64 (blankL s.data.toList)) H := by
  have key : ∃ v H', Lc V O 22 [.string s] H v H' ∧ (v = .int .i64 (blankL s.data.toList) ∧ H' = H) := by
    refine Lc.fnP (R := fun v H' => v = .int .i64 (blankL s.data.toList) ∧ H' = H) (hO _ _ _ (by decide)) fn22 b22 pc22 (Nat.le_of_ble_eq_true rfl) (by kernel_rfl) ?_
    unfold P22
    refine .seq (.reg (.op rfl (.nil ⟨_, rfl, ?_⟩)))
    cases hl : s.data.toList with
    | nil => exact absurd hl hne
    | cons c l =>
      refine .seq (.seq (.reg (.get rfl (.op (op_indexS rfl rfl E9 (by decide) (c := c) (by rw [hl]; rfl)) (.op (op_int rfl rfl (aInt_eql _ _)) (.nil ⟨_, rfl, ?_⟩))))))
      cases hc : ((c.toNat : Int) == 35)
      · refine .cond rfl (fun h => nomatch h) (fun _ => ?_)
        refine .skip ?_
        refine .seq (.reg (.get rfl (.call rfl rfl (by rw [fn31]; rfl) (run_c (p := fun b => sp_ b.toNat) (fun _ _ => hO _ _ _ (by decide)) (by rw [fn35]; rfl) (fun c => blank2_c hO) hs) (.nil ⟨_, rfl, ?_⟩))))
        exact .ret ⟨.inr rfl, _, rfl, by rw [hl]; simp [resOf, blankL, hc], rfl⟩
      · refine .cond rfl (fun _ => ?_) (fun h => nomatch h)
        refine .seq (.reg (.get rfl (.call rfl rfl (by rw [fn31]; rfl) (run_c (p := fun b => (b.toNat : Int) != 10) (fun _ _ => hO _ _ _ (by decide)) (by rw [fn34]; rfl) (fun c => blank1_c hO) hs) (.nil ⟨_, rfl, ?_⟩))))
        exact .ret ⟨.inr rfl, _, rfl, by rw [hl]; simp [resOf, blankL, hc], rfl⟩
  obtain ⟨v, H', h, rfl, rfl⟩ := key
  exact h
theorem E28 : V.E 28 = some ⟨.slice 9, 1, 24, .slice none 0 0⟩ := by kernel_rfl
theorem index_c (hO : ∀ f vs H, f ≠ 8 → O f vs H = none) {v : Value} {strs : List ByteArray} (hv : OneAt H v (strs.map .string)) {s : ByteArray} :
    ∃ r : Int, Lc V O 29 [v, .string s] H (.int .i64 r) H ∧ decide (r ≥ 0) = strs.any fun b => s.data.toList == b.data.toList := by
  have key : ∃ u H', Lc V O 29 [v, .string s] H u H' ∧ (∃ r : Int, u = .int .i64 r ∧ H' = H ∧ decide (r ≥ 0) = strs.any fun b => s.data.toList == b.data.toList) := by
    refine Lc.fnP (R := fun u H' => ∃ r : Int, u = .int .i64 r ∧ H' = H ∧ decide (r ≥ 0) = strs.any fun b => s.data.toList == b.data.toList) (hO _ _ _ (by decide)) fn29 b29 pc29 (Nat.le_of_ble_eq_true rfl) (by kernel_rfl) ?_
    unfold P29
    have lv := hv.1
    simp only [List.length_map] at lv
    refine .seq (.reg (.op rfl (.nil ⟨_, rfl, ?_⟩)))
    refine .seq (.seq (.reg (.get rfl (.op (op_len rfl (hv.len E28)) (.op rfl (.nil ⟨_, rfl, ?_⟩))))))
    refine .block (.loopS (σ := Nat) (fun i => [(0, v), (1, .string s), (8, .int .i64 i), (7, .int .i64 ((strs.map Value.string).length : Nat))]) (fun _ => H) (fun i => i ≤ strs.length ∧ ((strs.take i).any fun b => s.data.toList == b.data.toList) = false) (fun i => strs.length - i) 0 ⟨by simp, by simp⟩ ⟨rfl, rfl, rfl, rfl, trivial⟩ rfl fun i hi => ?_)
    refine .seq (.reg (.op (op_int rfl rfl (aInt_lss _ _)) (.nil ⟨_, rfl, ?_⟩)))
    refine .seq (.cond rfl (fun hc => ?_) (fun hc => ?_))
    · have hlt : i < strs.length := by simp at hc; omega
      refine .skip ?_
      refine .seq (.block (.seq (.reg (.get rfl (.nil ⟨_, rfl, ?_⟩)))))
      obtain ⟨p, hp1, hp2⟩ := hv.idx E28 E9 rfl rfl (kd := .i64) (i := (i : Int)) (c := .string strs[i]) (by omega) (by simp [hlt])
      refine .seq (.reg (.get rfl (.get rfl (.get rfl (.op (op_indexAddr rfl rfl hp1) (.op (op_load rfl hp2) (.op (op_eqS rfl rfl) (.nil ⟨_, rfl, ?_⟩))))))))
      refine .cond rfl (fun he => ?_) (fun he => ?_)
      · refine .seq (.reg (.get rfl (.nil ⟨_, rfl, ?_⟩)))
        refine .ret ⟨.inr rfl, _, rfl, i, rfl, rfl, ?_⟩
        rw [show decide ((i : Int) ≥ 0) = true by simp]
        exact (List.any_eq_true.2 ⟨strs[i], by simp, he⟩).symm
      · refine .skip ?_
        refine .reg (.op (op_int rfl rfl (aInt_add _ _ (by omega) (by omega))) (.nil ⟨_, rfl, ?_⟩))
        refine ⟨i + 1, ⟨by omega, ?_⟩, by omega, ⟨rfl, rfl, rfl, rfl, trivial⟩, rfl⟩
        rw [List.take_add_one, List.any_append, hi.2, List.getElem?_eq_getElem hlt, Option.toList_some]
        simp only [List.any_cons, List.any_nil, he, Bool.or_false]
    · refine .exit ?_
      refine .seq (.reg (.op rfl (.nil ⟨_, rfl, ?_⟩)))
      refine .ret ⟨.inr rfl, _, rfl, -1, rfl, rfl, ?_⟩
      have h1 : strs.length ≤ i := by simp at hc; omega
      have := hi.2
      rw [List.take_of_length_le h1] at this
      rw [this]; rfl
  obtain ⟨u, H', h, r, rfl, rfl, hr⟩ := key
  exact ⟨r, h, hr⟩
theorem contains_c (hO : ∀ f vs H, f ≠ 8 → O f vs H = none) {v : Value} {strs : List ByteArray} (hv : OneAt H v (strs.map .string)) {s : ByteArray} :
    Lc V O 20 [v, .string s] H (.bool (strs.any fun b => s.data.toList == b.data.toList)) H := by
  have key : ∃ u H', Lc V O 20 [v, .string s] H u H' ∧ (u = .bool (strs.any fun b => s.data.toList == b.data.toList) ∧ H' = H) := by
    refine Lc.fnP (R := fun u H' => u = .bool (strs.any fun b => s.data.toList == b.data.toList) ∧ H' = H) (hO _ _ _ (by decide)) fn20 b20 pc20 (Nat.le_of_ble_eq_true rfl) (by kernel_rfl) ?_
    unfold P20
    obtain ⟨r, hr, hd⟩ := index_c hO hv (s := s)
    refine .seq (.reg (.op rfl (.nil ⟨_, rfl, ?_⟩)))
    refine .seq (.reg (.get rfl (.get rfl (.call rfl rfl (by rw [fn29]; rfl) hr (.op (op_int rfl rfl (aInt_geq _ _)) (.nil ⟨_, rfl, ?_⟩))))))
    exact .ret ⟨.inr rfl, _, rfl, by rw [← hd]; rfl, rfl⟩
  obtain ⟨u, H', h, rfl, rfl⟩ := key
  exact h
def words : List ByteArray := [⟨⟨[103, 108, 111, 98, 97, 108]⟩⟩, ⟨⟨[97, 114, 114, 97, 121]⟩⟩, ⟨⟨[108, 111, 99, 107]⟩⟩, ⟨⟨[102, 117, 110, 99]⟩⟩, ⟨⟨[116, 104, 114, 101, 97, 100]⟩⟩, ⟨⟨[118, 97, 114]⟩⟩, ⟨⟨[105, 102]⟩⟩, ⟨⟨[101, 108, 115, 101]⟩⟩, ⟨⟨[119, 104, 105, 108, 101]⟩⟩, ⟨⟨[119, 105, 116, 104]⟩⟩, ⟨⟨[112, 114, 105, 110, 116]⟩⟩, ⟨⟨[99, 97, 108, 108]⟩⟩, ⟨⟨[114, 101, 116, 117, 114, 110]⟩⟩, ⟨⟨[116, 114, 117, 101]⟩⟩, ⟨⟨[102, 97, 108, 115, 101]⟩⟩]
def resv (s : ByteArray) : Bool := words.any fun b => s.data.toList == b.data.toList
theorem reserved_c (hO : ∀ f vs H, f ≠ 8 → O f vs H = none) {s : ByteArray} : Lc V O 12 [.string s] H (.bool (resv s)) (H.alloc (.row 9 (words.map .string) .exact 0 0)) := by
  have key : ∃ u H', Lc V O 12 [.string s] H u H' ∧ (u = .bool (resv s) ∧ H' = H.alloc (.row 9 (words.map .string) .exact 0 0)) := by
    refine Lc.fnP (R := fun u H' => u = .bool (resv s) ∧ H' = H.alloc (.row 9 (words.map .string) .exact 0 0)) (hO _ _ _ (by decide)) fn12 b12 pc12 (Nat.le_of_ble_eq_true rfl) (by kernel_rfl) ?_
    unfold P12
    refine .seq (.reg (.op rfl (.nil ⟨_, rfl, ?_⟩)))
    have hw : OneAt (H.alloc (.row 9 (words.map .string) .exact 0 0)) (.slice (some ⟨H.next, 0, none⟩) 15 15) (words.map .string) := OneAt.alloc (cs := words.map .string) (by decide)
    refine .seq (.reg (.op (op_buildSlice (cs := words.map .string) rfl E28 E9 (by decide) (by rfl)) (.get rfl (.call rfl rfl (by rw [fn20]; rfl) (contains_c hO hw) (.nil ⟨_, rfl, ?_⟩)))))
    exact .ret ⟨.inr rfl, _, rfl, rfl, rfl⟩
  obtain ⟨u, H', h, rfl, rfl⟩ := key
  exact h
def nameB (s : ByteArray) : Bool := decide (0 < s.size) && decide (s.size ≤ 32) && (wordL s.data.toList == s.size) && !resv s
theorem name_c (hO : ∀ f vs H, f ≠ 8 → O f vs H = none) {s : ByteArray} (hs : s.size ≤ maxLen) : ∃ H', Lc V O 13 [.string s] H (.bool (nameB s)) H' ∧ Kro H H' := by
  have key : ∃ u H', Lc V O 13 [.string s] H u H' ∧ (u = .bool (nameB s) ∧ Kro H H') := by
    refine Lc.fnP (R := fun u H' => u = .bool (nameB s) ∧ Kro H H') (hO _ _ _ (by decide)) fn13 b13 pc13 (Nat.le_of_ble_eq_true rfl) (by kernel_rfl) ?_
    unfold P13
    refine .seq (.reg (.op rfl (.nil ⟨_, rfl, ?_⟩)))
    refine .seq (.reg (.get rfl (.op (op_lenS rfl E9) (.op (op_int rfl rfl (aInt_gtr _ _)) ?_))))
    have e1 : decide ((s.size : Int) > 0) = decide (0 < s.size) := by simp
    have e2 : decide ((s.size : Int) ≤ 32) = decide (s.size ≤ 32) := by simp; omega
    have e3 : ((wordL s.data.toList : Int) == (s.size : Int)) = (wordL s.data.toList == s.size) := by
      rw [Bool.eq_iff_iff]; simp; omega
    rw [e1]
    cases hA : decide (0 < s.size)
    · refine .off rfl rfl (.off rfl rfl (.off rfl rfl (.op (op_pickF rfl rfl rfl) ?_)))
      refine .off rfl rfl (.off rfl rfl (.off rfl rfl (.off rfl rfl (.off rfl rfl (.op (op_pickF rfl rfl rfl) ?_)))))
      refine .off rfl rfl (.off rfl rfl (.off rfl rfl (.op (op_pickF rfl rfl rfl) (.nil ⟨_, rfl, ?_⟩))))
      exact .ret ⟨.inr rfl, _, rfl, by simp only [resOf, nameB, hA, Bool.false_and], .refl _⟩
    · refine .on rfl rfl (.op rfl (.on rfl rfl (.op (op_lenS rfl E9) (.on rfl rfl (.op (op_int rfl rfl (aInt_leq _ _)) (.op (op_pickT rfl rfl rfl) ?_))))))
      rw [e2]
      cases hB : decide (s.size ≤ 32)
      · refine .off rfl rfl (.off rfl rfl (.off rfl rfl (.off rfl rfl (.off rfl rfl (.op (op_pickF rfl rfl rfl) ?_)))))
        refine .off rfl rfl (.off rfl rfl (.off rfl rfl (.op (op_pickF rfl rfl rfl) (.nil ⟨_, rfl, ?_⟩))))
        exact .ret ⟨.inr rfl, _, rfl, by simp only [resOf, nameB, hA, hB, Bool.false_and, Bool.and_false], .refl _⟩
      · refine .on rfl rfl (.op rfl (.on rfl rfl (.call rfl rfl (by rw [fn21]; rfl) (word_c hO hs) (.on rfl rfl (.op rfl (.on rfl rfl (.op (op_lenS rfl E9) (.on rfl rfl (.op (op_int rfl rfl (aInt_eql _ _)) (.op (op_pickT rfl rfl rfl) ?_))))))))))
        rw [e3]
        cases hC : (wordL s.data.toList == s.size)
        · refine .off rfl rfl (.off rfl rfl (.off rfl rfl (.op (op_pickF rfl rfl rfl) (.nil ⟨_, rfl, ?_⟩))))
          exact .ret ⟨.inr rfl, _, rfl, by simp only [resOf, nameB, hA, hB, hC, Bool.false_and, Bool.and_false], .refl _⟩
        · refine .on rfl rfl (.op rfl (.on rfl rfl (.call rfl rfl (by rw [fn12]; rfl) (reserved_c hO) (.on rfl rfl (.op (op_not rfl) (.op (op_pickT rfl rfl rfl) (.nil ⟨_, rfl, ?_⟩)))))))
          exact .ret ⟨.inr rfl, _, rfl, by simp only [resOf, nameB, hA, hB, hC, Bool.true_and], .alloc _ _⟩
  obtain ⟨u, H', h, rfl, hk⟩ := key
  exact ⟨H', h, hk⟩
theorem load_box {s : ByteArray} : aLoad V.E (H.alloc (.row 9 [.string s] .exact 0 0)) 9 (.pointer (some ⟨H.next, 0, none⟩)) = some (.string s) := by
  simp only [aLoad, E9]
  have : (H.alloc (.row 9 [.string s] .exact 0 0)).rd H.next 0 1 = some [.string s] := by
    unfold AH.rd
    simp [AH.lo, AH.alive]
  rw [this]; rfl
theorem token_word (hO : ∀ f vs H, f ≠ 8 → O f vs H = none) {s : ByteArray} (hs : s.size ≤ maxLen) (hw : 0 < wordL s.data.toList) :
    ∃ H', Lc V O 23 [.string s] H (.tuple #[.int .u8 1, .int .i64 (wordL s.data.toList), .bool (decide (wordL s.data.toList ≤ 32))]) H' ∧ Kro H H' := by
  have key : ∃ u H', Lc V O 23 [.string s] H u H' ∧ (u = .tuple #[.int .u8 1, .int .i64 (wordL s.data.toList), .bool (decide (wordL s.data.toList ≤ 32))] ∧ Kro H H') := by
    refine Lc.fnP (R := fun u H' => u = .tuple #[.int .u8 1, .int .i64 (wordL s.data.toList), .bool (decide (wordL s.data.toList ≤ 32))] ∧ Kro H H') (hO _ _ _ (by decide)) fn23 b23 pc23 (Nat.le_of_ble_eq_true rfl) (by kernel_rfl) ?_
    unfold P23
    refine .seq (.reg (.op rfl (.op rfl (.op rfl (.op rfl (.nil ⟨_, rfl, ?_⟩))))))
    refine .seq (.seq (.reg (.op (op_load rfl load_box) (.call rfl rfl (by rw [fn21]; rfl) (word_c hO hs) (.nil ⟨_, rfl, ?_⟩)))))
    refine .seq (.reg (.get rfl (.op (op_int rfl rfl (aInt_gtr _ _)) (.nil ⟨_, rfl, ?_⟩))))
    refine .cond rfl (fun _ => ?_) (fun h => absurd h (by simp; omega))
    refine .seq (.reg (.get rfl (.get rfl (.op (op_int rfl rfl (aInt_leq _ _)) (.op rfl (.nil ⟨_, rfl, ?_⟩))))))
    refine .ret ⟨.inr rfl, _, rfl, ?_, .alloc _ _⟩
    have e : decide ((wordL s.data.toList : Int) ≤ 32) = decide (wordL s.data.toList ≤ 32) := by simp; omega
    rw [e]; rfl
  obtain ⟨u, H', h, rfl, hk⟩ := key
  exact ⟨H', h, hk⟩
theorem E30 : V.E 30 = some ⟨.slice 36, 1, 24, .slice none 0 0⟩ := by kernel_rfl
noncomputable def te36 : TI := match V.E 36 with
  | some t => t
  | none => ⟨.bool, 0, 0, .nilFunc⟩
theorem E36 : V.E 36 = some te36 := by kernel_rfl
theorem te36_size : te36.size = 3 := by kernel_rfl
theorem te36_bytes : te36.bytes = 32 := by kernel_rfl
theorem build36 {a c : Int} {s : ByteArray} : aBuild V.E 36 [(0, .int .u8 a), (1, .string s), (2, .int .i64 c)] = some (.agg #[.int .u8 a, .string s, .int .i64 c]) := by kernel_rfl
theorem fill36 {a c : Int} {s : ByteArray} : afill (fun i => some (i * te36.size, te36.size)) (azeros te36.zv.cells.toList 1) [(0, .agg #[.int .u8 a, .string s, .int .i64 c])] = some [.int .u8 a, .string s, .int .i64 c] := by kernel_rfl
theorem wordL_first {l : List UInt8} (h : 0 < wordL l) : ∃ c r, l = c :: r ∧ let_ c.toNat = true := by
  cases l with
  | nil => exact absurd h (by simp [wordL])
  | cons c r =>
    refine ⟨c, r, rfl, ?_⟩
    cases e : let_ c.toNat
    · simp [wordL, e] at h
    · rfl
theorem blank0 {l : List UInt8} (h : 0 < wordL l) : blankL l = 0 := by
  obtain ⟨c, r, rfl, hc⟩ := wordL_first h
  have h35 : ((c.toNat : Int) == 35) = false := by
    simp only [let_] at hc
    by_cases e : (c.toNat : Int) = 35
    · rw [e] at hc; exact absurd hc (by decide)
    · simpa using e
  have hsp : sp_ c.toNat = false := by
    cases e : sp_ c.toNat
    · rfl
    · exfalso
      simp only [sp_, Bool.or_eq_true, beq_iff_eq] at e
      rcases e with (e | e) | e <;> (rw [e] at hc; exact absurd hc (by decide))
  simp [blankL, h35, hsp]
theorem tokens_word (hO : ∀ f vs H, f ≠ 8 → O f vs H = none) {s : ByteArray} (h0 : 0 < wordL s.data.toList) (h1 : wordL s.data.toList = s.size) (h2 : s.size ≤ 32) :
    ∃ H' v, Lc V O 14 [.string s] H (.tuple #[v, .int .i64 0, .int .i64 0]) H' ∧ Own H' 36 3 v 1 [.int .u8 1, .string s, .int .i64 0] ∧ Kro H H' := by
  have hmx : maxLen = 9223372036854775807 := rfl
  have hs : s.size ≤ maxLen := by omega
  have hne : s.data.toList ≠ [] := by obtain ⟨c, r, e, _⟩ := wordL_first h0; rw [e]; simp
  have hb := blank_c (H := H) hO hs hne
  rw [blank0 h0] at hb
  obtain ⟨H1, ht, hk1⟩ := token_word (H := H) hO hs h0
  obtain ⟨v', H2, ha, hown, hk2⟩ := (Own.nil (H := H1.alloc (.row 36 [.int .u8 1, .string s, .int .i64 0] .exact 0 0)) (e := 36) (sz := 3)).app (bytes := 32) (m := 1) (new := [.int .u8 1, .string s, .int .i64 0]) (by decide) (by decide) rfl (by decide) (by decide)
  have hex : s.extract 0 s.size = s := by simp
  have hk : Kro H H2 := hk1.trans ((Kro.alloc _ _).trans hk2)
  have key : ∃ u H', Lc V O 14 [.string s] H u H' ∧ (u = .tuple #[v', .int .i64 0, .int .i64 0] ∧ H' = H2) := by
    refine Lc.fnP (R := fun u H' => u = .tuple #[v', .int .i64 0, .int .i64 0] ∧ H' = H2) (hO _ _ _ (by decide)) fn14 b14 pc14 (Nat.le_of_ble_eq_true rfl) (by kernel_rfl) ?_
    unfold P14
    refine .seq (.reg (.op rfl (.op rfl (.op rfl (.nil ⟨_, rfl, ?_⟩)))))
    refine .seq (.seq (.reg (.get rfl (.op (op_lenS rfl E9) (.op (op_int rfl rfl (aInt_gtr _ _)) (.nil ⟨_, rfl, ?_⟩))))))
    refine .cond rfl (fun h => absurd h (by simp; omega)) (fun _ => ?_)
    refine .skip ?_
    refine .seq (.reg (.op rfl (.nil ⟨_, rfl, ?_⟩)))
    refine .seq (.seq (.reg (.op rfl (.nil ⟨_, rfl, ?_⟩))))
    refine .block (.loopS (σ := Bool) (fun b => [(0, .string s), (5, if b then v' else .slice none 0 0), (6, .int .i64 (if b then (s.size : Int) else 0))]) (fun b => if b then H2 else H) (fun _ => True) (fun b => if b then 0 else 1) false trivial ⟨rfl, rfl, rfl, trivial⟩ rfl fun b _ => ?_)
    cases b with
    | true =>
      refine .seq (.seq (.reg (.get rfl (.get rfl (.op (op_lenS rfl E9) (.op (op_int rfl rfl (aInt_lss _ _)) (.nil ⟨_, rfl, ?_⟩)))))))
      refine .cond rfl (fun h => absurd h (by simp)) (fun _ => ?_)
      refine .exit ?_
      refine .seq (.reg (.get rfl (.op rfl (.op rfl (.nil ⟨_, rfl, ?_⟩)))))
      exact .ret ⟨.inr rfl, _, rfl, rfl, rfl⟩
    | false =>
      refine .seq (.seq (.reg (.get rfl (.get rfl (.op (op_lenS rfl E9) (.op (op_int rfl rfl (aInt_lss _ _)) (.nil ⟨_, rfl, ?_⟩)))))))
      have hpos : decide ((if false = true then (s.size : Int) else 0) < s.size) = true := by show decide ((0 : Int) < s.size) = true; exact decide_eq_true (by omega)
      refine .cond rfl (fun _ => ?_) (fun h => absurd (hpos.symm.trans h) (by decide))
      refine .skip ?_
      refine .block (.seq (.seq (.reg (.get rfl (.get rfl (.op (op_sliceS rfl rfl E9 (Int.le_refl 0) (by simp)) ?_))))))
      rw [show (if false = true then (s.size : Int) else 0).toNat = 0 from rfl, hex]
      refine .call rfl rfl (by rw [fn22]; rfl) hb (.nil ⟨_, rfl, ?_⟩)
      refine .seq (.reg (.get rfl (.op (op_int rfl rfl (aInt_gtr _ _)) (.nil ⟨_, rfl, ?_⟩))))
      refine .cond rfl (fun h => absurd h (by decide)) (fun _ => ?_)
      refine .skip ?_
      refine .seq (.reg (.get rfl (.get rfl (.op (op_sliceS rfl rfl E9 (Int.le_refl 0) (by simp)) ?_))))
      rw [show (if false = true then (s.size : Int) else 0).toNat = 0 from rfl, hex]
      refine .call rfl rfl (by rw [fn23]; rfl) ht (.op rfl (.op rfl (.op rfl (.nil ⟨_, rfl, ?_⟩))))
      have h32 : decide (wordL s.data.toList ≤ 32) = true := decide_eq_true (by omega)
      have e6 : (if false = true then (s.size : Int) else 0) + (wordL s.data.toList : Int) = s.size := by simp; omega
      refine .seq (.seq (.reg (.get rfl (.op (op_not rfl) (.nil ⟨_, rfl, ?_⟩)))))
      refine .cond rfl (fun h => absurd h (by rw [h32]; decide)) (fun _ => ?_)
      refine .skip ?_
      refine .seq (.reg (.get rfl (.get rfl (.get rfl (.get rfl (.get rfl (.get rfl (.op (op_int rfl rfl (aInt_add _ _ (by rw [e6]; omega) (by rw [e6]; omega))) ?_))))))))
      rw [e6]
      refine .op (op_sliceS2 rfl rfl rfl E9 (Int.le_refl 0) (by simp) (Int.le_refl _)) ?_
      rw [show (if false = true then (s.size : Int) else 0).toNat = 0 from rfl, show ((s.size : Int)).toNat = s.size by simp, hex]
      refine .get rfl (.op (op_build rfl build36) (.op (op_buildSlice rfl E30 E36 (by rw [te36_size]; decide) fill36) (.op (op_append rfl rfl E30 E30 E36 (by decide) (by rw [te36_size]; exact rd_alloc rfl) rfl (by rw [te36_size, te36_bytes]; exact ha)) (.nil ⟨_, rfl, ?_⟩))))
      refine .reg (.get rfl (.get rfl (.op (op_int rfl rfl (aInt_add _ _ (by rw [e6]; omega) (by rw [e6]; omega))) (.nil ⟨_, rfl, ?_⟩))))
      exact ⟨true, trivial, by decide, ⟨rfl, rfl, congrArg (fun z => some (Value.int .i64 z)) e6, trivial⟩, rfl⟩
  obtain ⟨u, H', h, rfl, rfl⟩ := key
  exact ⟨_, _, h, hown, hk⟩
theorem words_ok : ∀ b ∈ words, 0 < wordL b.data.toList ∧ wordL b.data.toList = b.size ∧ b.size ≤ 32 := by decide
theorem resv_ok {s : ByteArray} (h : resv s = true) : 0 < wordL s.data.toList ∧ wordL s.data.toList = s.size ∧ s.size ≤ 32 := by
  obtain ⟨b, hb, he⟩ := List.any_eq_true.1 h
  have e : s.data.toList = b.data.toList := by simpa using he
  have := words_ok b hb
  have es : s.size = b.size := by
    have h1 : s.size = s.data.toList.length := rfl
    have h2 : b.size = b.data.toList.length := rfl
    rw [h1, h2, e]
  rw [e, es]; exact this
theorem nameB_ok {s : ByteArray} (h : nameB s = true) : 0 < wordL s.data.toList ∧ wordL s.data.toList = s.size ∧ s.size ≤ 32 := by
  simp only [nameB, Bool.and_eq_true, decide_eq_true_eq, beq_iff_eq, Bool.not_eq_true'] at h
  obtain ⟨⟨⟨h1, h2⟩, h3⟩, _⟩ := h
  exact ⟨by omega, h3, h2⟩
theorem wordL_all {l : List UInt8} (h0 : 0 < wordL l) (h : wordL l = l.length) : ∀ b ∈ l, wd b.toNat = true := by
  obtain ⟨c, r, rfl, hc⟩ := wordL_first h0
  simp only [wordL, hc, if_true] at h
  intro b hb
  have hp : (List.takeWhile (fun b : UInt8 => wd b.toNat) (c :: r)) = c :: r := (List.takeWhile_sublist _).eq_of_length h
  rw [← hp] at hb
  exact List.all_eq_true.1 (List.all_takeWhile (p := fun b : UInt8 => wd b.toNat)) b hb
theorem wordL_more {l : List UInt8} {c : UInt8} (h0 : 0 < wordL l) (h : wordL l = l.length) : wordL (l ++ [c]) = if wd c.toNat then l.length + 1 else l.length := by
  have ha := wordL_all h0 h
  obtain ⟨d, r, rfl, hd⟩ := wordL_first h0
  have e : wordL (d :: r ++ [c]) = ((d :: r ++ [c]).takeWhile fun b : UInt8 => wd b.toNat).length := by simp [wordL, hd]
  rw [e, List.takeWhile_append_of_pos ha]
  cases hc : wd c.toNat <;> simp [hc]
theorem E5 : V.E 5 = some ⟨.int .u8, 1, 1, .int .u8 0⟩ := by kernel_rfl
theorem E3 : V.E 3 = some ⟨.int .i64, 1, 8, .int .i64 0⟩ := by kernel_rfl
theorem fld36 {b : Nat} : aField V.E 36 0 (.pointer (some ⟨b, 0, none⟩)) = some (.pointer (some ⟨b, 0, none⟩)) ∧ aField V.E 36 1 (.pointer (some ⟨b, 0, none⟩)) = some (.pointer (some ⟨b, 1, none⟩)) ∧ aField V.E 36 2 (.pointer (some ⟨b, 0, none⟩)) = some (.pointer (some ⟨b, 2, none⟩)) :=
  ⟨by kernel_rfl, by kernel_rfl, by kernel_rfl⟩
theorem tok_fields {H : AH} {v : Value} {s : ByteArray} (h : Own H 36 3 v 1 [.int .u8 1, .string s, .int .i64 0]) :
    aLen V.E H 30 v = some (.int .i64 1) ∧ ∃ b, aIndex V.E 30 v (.int .i64 0) = some (.pointer (some ⟨b, 0, none⟩)) ∧
      aLoad V.E H 5 (.pointer (some ⟨b, 0, none⟩)) = some (.int .u8 1) ∧ aLoad V.E H 9 (.pointer (some ⟨b, 1, none⟩)) = some (.string s) ∧ aLoad V.E H 3 (.pointer (some ⟨b, 2, none⟩)) = some (.int .i64 0) := by
  obtain ⟨_, ⟨_, h0⟩ | ⟨b, g, k, rfl, hlt, ho, hv⟩⟩ := h
  · exact absurd h0 (by decide)
  · have hrd : H.rd b 0 3 = some [.int .u8 1, .string s, .int .i64 0] := by
      unfold AH.rd
      simp only [AH.lo, if_pos hlt, ho, AH.alive, hv]
      simp
    refine ⟨by simp only [aLen, E30]; rfl, b, ?_, ?_, ?_, ?_⟩
    · simp only [aIndex, E30, E36]
      rw [if_pos ⟨by decide, by decide⟩]; simp
    · have := rd_get hrd (i := 0) (c := .int .u8 1) rfl
      simp only [aLoad, E5]; simp only [Nat.zero_add, Nat.add_zero] at this; rw [this]; rfl
    · have := rd_get hrd (i := 1) (c := .string s) rfl
      simp only [aLoad, E9]; simp only [Nat.zero_add] at this; rw [this]; rfl
    · have := rd_get hrd (i := 2) (c := .int .i64 0) rfl
      simp only [aLoad, E3]; simp only [Nat.zero_add] at this; rw [this]; rfl
theorem E40 : V.E 40 = some ⟨.slice 5, 1, 24, .slice none 0 0⟩ := by kernel_rfl
theorem byte_text {g : Ft} {H : AH} {x : Operand} {c : UInt8} (hx : g x = some (.slice (some ⟨H.next, 0, none⟩) 1 1)) :
    aopG V g (H.alloc (.row 5 [.int .u8 c.toNat] .exact 0 0)) (.convert 40 9 x) = some (.string ⟨#[c]⟩, H.alloc (.row 5 [.int .u8 c.toNat] .exact 0 0)) := by
  simp only [aopG, hx, aConvert, E40, E9, E5]
  rw [if_neg (by decide), rd_alloc (n := 1) rfl]
  simp only [intsOf, Option.map_some]
  have : bytesOfInts [(c.toNat : Int)] = ⟨#[c]⟩ := by
    simp [bytesOfInts]; rfl
  rw [this]
end Go.Proofs.YtdkfcpadbahohaaDoor.U

/-
  The seat's functions, prepared.
-/
namespace Go.Proofs.YtdkfcpadbahohaaDoor.U
open Go Go.Ev
abbrev T_ : TypeId := 0
abbrev T_func : TypeId := 1
abbrev T_int64 : TypeId := 2
theorem E_int64 : V.E 2 = some ⟨.int .i64, 1, 8, (.int .i64 0)⟩ := by kernel_rfl
abbrev T_int : TypeId := 3
theorem E_int : V.E 3 = some ⟨.int .i64, 1, 8, (.int .i64 0)⟩ := by kernel_rfl
abbrev T_bool : TypeId := 4
theorem E_bool : V.E 4 = some ⟨.bool, 1, 1, (.bool false)⟩ := by kernel_rfl
abbrev T_uint8 : TypeId := 5
theorem E_uint8 : V.E 5 = some ⟨.int .u8, 1, 1, (.int .u8 0)⟩ := by kernel_rfl
abbrev T_abi_BoundsErrorCode : TypeId := 6
abbrev T_struct7 : TypeId := 7
abbrev T_runtime_boundsError : TypeId := 8
abbrev T_string : TypeId := 9
theorem E_string : V.E 9 = some ⟨.string, 1, 16, (.string ⟨⟨[]⟩⟩)⟩ := by kernel_rfl
abbrev T_runtime_errorString : TypeId := 10
abbrev T_runtime_plainError : TypeId := 11
abbrev T_uintptr : TypeId := 12
theorem E_uintptr : V.E 12 = some ⟨.int .u64, 1, 8, (.int .u64 0)⟩ := by kernel_rfl
abbrev T_struct13 : TypeId := 13
abbrev T_runtime_errorAddressString : TypeId := 14
abbrev T_p_runtime_TypeAssertionError : TypeId := 15
abbrev T_p_runtime_PanicNilError : TypeId := 16
abbrev T_p_abi_Type : TypeId := 17
abbrev T_struct18 : TypeId := 18
abbrev T_maps_unhashableTypeError : TypeId := 19
abbrev T_interface : TypeId := 20
abbrev T_int32 : TypeId := 21
theorem E_int32 : V.E 21 = some ⟨.int .i32, 1, 4, (.int .i32 0)⟩ := by kernel_rfl
abbrev T_func_bool : TypeId := 22
abbrev T_func_string_string_string_bool : TypeId := 23
abbrev T_func_int_uint8_string : TypeId := 24
abbrev T_struct25 : TypeId := 25
abbrev T_s_struct_s_string_at_int : TypeId := 26
theorem E_s_struct_s_string_at_int : V.E 26 = some ⟨.slice 25, 1, 24, (.slice none 0 0)⟩ := by kernel_rfl
abbrev T_func_string_int_bool : TypeId := 27
abbrev T_s_string : TypeId := 28
theorem E_s_string : V.E 28 = some ⟨.slice 9, 1, 24, (.slice none 0 0)⟩ := by kernel_rfl
abbrev T_func_string_bool : TypeId := 29
abbrev T_s_api_Token : TypeId := 30
theorem E_s_api_Token : V.E 30 = some ⟨.slice 36, 1, 24, (.slice none 0 0)⟩ := by kernel_rfl
abbrev T_api_Errno : TypeId := 31
theorem E_api_Errno : V.E 31 = some ⟨.int .i64, 1, 8, (.int .i64 0)⟩ := by kernel_rfl
abbrev T_s_api_Token_int_api_Errno : TypeId := 32
abbrev T_func_string_s_api_Token_int_api_Errno : TypeId := 33
abbrev T_func_s_api_Token_s_api_Token_bool : TypeId := 34
abbrev T_struct35 : TypeId := 35
abbrev T_api_Token : TypeId := 36
noncomputable def te_api_Token : TI := match V.E 36 with
  | some t => t
  | none => ⟨.bool, 0, 0, .nilFunc⟩
theorem E_api_Token : V.E 36 = some te_api_Token := by kernel_rfl
theorem te_api_Token_size : te_api_Token.size = 3 := by kernel_rfl
theorem te_api_Token_bytes : te_api_Token.bytes = 32 := by kernel_rfl
theorem te_api_Token_agg : Desc.agg te_api_Token.desc = true := by kernel_rfl
theorem te_api_Token_zero : te_api_Token.zv = (.agg #[(.int .u8 0), (.string ⟨⟨[]⟩⟩), (.int .i64 0)]) := by kernel_rfl
theorem O_api_Token_Kind {b o : Nat} : aField V.E 36 0 (.pointer (some ⟨b, o, none⟩)) = some (.pointer (some ⟨b, o + 0, none⟩)) := by kernel_rfl
theorem O_api_Token_Text {b o : Nat} : aField V.E 36 1 (.pointer (some ⟨b, o, none⟩)) = some (.pointer (some ⟨b, o + 1, none⟩)) := by kernel_rfl
theorem O_api_Token_At {b o : Nat} : aField V.E 36 2 (.pointer (some ⟨b, o, none⟩)) = some (.pointer (some ⟨b, o + 2, none⟩)) := by kernel_rfl
abbrev T_func_string_string_bool : TypeId := 37
abbrev T_uint : TypeId := 38
theorem E_uint : V.E 38 = some ⟨.int .u64, 1, 8, (.int .u64 0)⟩ := by kernel_rfl
abbrev T_func_string_int_string_bool : TypeId := 39
abbrev T_s_uint8 : TypeId := 40
theorem E_s_uint8 : V.E 40 = some ⟨.slice 5, 1, 24, (.slice none 0 0)⟩ := by kernel_rfl
abbrev T_func_string_uint8_bool : TypeId := 41
abbrev T_func_s_string_string_bool : TypeId := 42
abbrev T_func_string_int : TypeId := 43
abbrev T_uint8_int_bool : TypeId := 44
abbrev T_func_string_uint8_int_bool : TypeId := 45
abbrev T_func_uint8_bool : TypeId := 46
abbrev T_func_string_s_string_bool : TypeId := 47
abbrev T_func_s_string_string_int : TypeId := 48
abbrev T_func_string_func_uint8_bool_int : TypeId := 49
abbrev T_func_s_string_func_string_bool_int : TypeId := 50
abbrev T_23_string : TypeId := 51
theorem E_23_string : V.E 51 = some ⟨.array 23 9, 23, 368, (.agg #[(.string ⟨⟨[]⟩⟩), (.string ⟨⟨[]⟩⟩), (.string ⟨⟨[]⟩⟩), (.string ⟨⟨[]⟩⟩), (.string ⟨⟨[]⟩⟩), (.string ⟨⟨[]⟩⟩), (.string ⟨⟨[]⟩⟩), (.string ⟨⟨[]⟩⟩), (.string ⟨⟨[]⟩⟩), (.string ⟨⟨[]⟩⟩), (.string ⟨⟨[]⟩⟩), (.string ⟨⟨[]⟩⟩), (.string ⟨⟨[]⟩⟩), (.string ⟨⟨[]⟩⟩), (.string ⟨⟨[]⟩⟩), (.string ⟨⟨[]⟩⟩), (.string ⟨⟨[]⟩⟩), (.string ⟨⟨[]⟩⟩), (.string ⟨⟨[]⟩⟩), (.string ⟨⟨[]⟩⟩), (.string ⟨⟨[]⟩⟩), (.string ⟨⟨[]⟩⟩), (.string ⟨⟨[]⟩⟩)])⟩ := by kernel_rfl
abbrev T_uint64 : TypeId := 52
theorem E_uint64 : V.E 52 = some ⟨.int .u64, 1, 8, (.int .u64 0)⟩ := by kernel_rfl
abbrev T_func_string : TypeId := 53
abbrev T_struct54 : TypeId := 54
abbrev T_runtime_TypeAssertionError : TypeId := 55
abbrev T_0_p_runtime_PanicNilError : TypeId := 56
theorem E_0_p_runtime_PanicNilError : V.E 56 = some ⟨.array 0 16, 0, 0, (.agg #[])⟩ := by kernel_rfl
abbrev T_struct57 : TypeId := 57
abbrev T_runtime_PanicNilError : TypeId := 58
abbrev T_func_int : TypeId := 59
abbrev T_uint32 : TypeId := 60
theorem E_uint32 : V.E 60 = some ⟨.int .u32, 1, 4, (.int .u32 0)⟩ := by kernel_rfl
abbrev T_abi_TFlag : TypeId := 61
abbrev T_abi_Kind : TypeId := 62
abbrev T_func_unsafe_Pointer_unsafe_Pointer_bool : TypeId := 63
abbrev T_p_uint8 : TypeId := 64
theorem E_p_uint8 : V.E 64 = some ⟨.pointer 5, 1, 8, (.pointer none)⟩ := by kernel_rfl
abbrev T_abi_NameOff : TypeId := 65
abbrev T_abi_TypeOff : TypeId := 66
abbrev T_struct67 : TypeId := 67
abbrev T_abi_Type : TypeId := 68
abbrev T_unsafe_Pointer : TypeId := 69
/- bobbin/bobbinlaw01.LexTokens -/
abbrev F_law01_LexTokens : FuncId := 4
def P_law01_LexTokens : PC :=
.seq (
.reg [.run (.assign (.const (.bool false))) none] [(2, 0)]) (
.seq (
.seq (
.reg [.get 0,
  .run (.call ⟨.builtin .len, #[(.tmp 0)], #[9]⟩) none,
  .run (.binOp .gtr 3 (.tmp 0) (.const (.int .i64 70000)) 3) none] [(13, 0)]) (
.cond (.tmp 13) (
  .seq (
  .reg [.run (.assign (.const (.bool true))) none] [(2, 0)]) (
  .ret)) (
  .skip))) (
.seq (
.reg [.get 0,
  .run (.call ⟨.value (.func 15), #[(.tmp 0)], #[9]⟩) none,
  .run (.extract (.tmp 0) 0) none,
  .run (.extract (.tmp 1) 1) none,
  .run (.extract (.tmp 2) 2) none] [(5, 0), (4, 1), (3, 2)]) (
.seq (
.seq (
.reg [.run (.assign (.const (.int .i64 0))) none] [(6, 0)]) (
.block 0 (
 .loop (
  .seq (
  .seq (
  .reg [.get 6,
    .run (.binOp .lss 3 (.tmp 0) (.const (.int .i64 2)) 3) none] [(21, 0)]) (
  .cond (.tmp 21) (
    .skip) (
    .exit 0))) (
  .seq (
  .block 1 (
   .seq (
   .reg [.get 0,
     .run (.call ⟨.value (.func 14), #[(.tmp 0)], #[9]⟩) none,
     .run (.extract (.tmp 0) 0) none,
     .run (.extract (.tmp 1) 1) none,
     .run (.extract (.tmp 2) 2) none] [(9, 0), (8, 1), (7, 2)]) (
   .seq (
   .seq (
   .reg [.get 7,
     .get 3,
     .run (.call ⟨.value (.func 16), #[(.tmp 1), (.tmp 0)], #[30, 30]⟩) none,
     .run (.unOp .not 4 (.tmp 0)) none,
     .run (.move (.tmp (far + 8))) (some ((.tmp 0), false)),
     .run (.move (.tmp (far + 4))) (some ((.tmp 1), false)),
     .run (.binOp .neq 3 (.tmp 1) (.tmp 0) 3) (some ((.tmp 2), false)),
     .run (.pick (.tmp 3) (.const (.bool true)) (.tmp 0)) none,
     .run (.move (.tmp (far + 9))) (some ((.tmp 0), false)),
     .run (.move (.tmp (far + 5))) (some ((.tmp 1), false)),
     .run (.binOp .neq 31 (.tmp 1) (.tmp 0) 31) (some ((.tmp 2), false)),
     .run (.pick (.tmp 3) (.const (.bool true)) (.tmp 0)) none] [(43, 0)]) (
   .cond (.tmp 43) (
     .seq (
     .reg [.run (.assign (.const (.bool false))) none] [(2, 0)]) (
     .ret)) (
     .skip))) (
   .seq (
   .reg [.run (.assign (.const (.int .i64 0))) none] [(10, 0)]) (
   .block 2 (
    .loop (
     .seq (
     .seq (
     .reg [.get 10,
       .get 7,
       .run (.call ⟨.builtin .len, #[(.tmp 0)], #[30]⟩) none,
       .run (.binOp .lss 3 (.tmp 2) (.tmp 0) 3) none] [(47, 0)]) (
     .cond (.tmp 47) (
       .skip) (
       .exit 2))) (
     .seq (
     .block 3 (
      .reg [.get 7,
        .get 10,
        .run (.build 36 #[(1, (.const (.string ⟨⟨[63]⟩⟩)))]) none,
        .run (.indexAddr 30 (.tmp 2) (.tmp 1)) none,
        .run (.store 36 (.tmp 0) (.tmp 1)) none] [])) (
     .reg [.get 10,
       .run (.binOp .add 3 (.tmp 0) (.const (.int .i64 1)) 3) none] [(10, 0)]))))))))) (
  .reg [.get 6,
    .run (.binOp .add 3 (.tmp 0) (.const (.int .i64 1)) 3) none] [(6, 0)])))))) (
.seq (
.reg [.get 0,
  .run (.call ⟨.value (.func 13), #[(.tmp 0)], #[9]⟩) none,
  .get 0,
  .run (.call ⟨.value (.func 17), #[(.tmp 0)], #[9]⟩) none,
  .run (.binOp .eql 4 (.tmp 2) (.tmp 0) 4) none,
  .run (.move (.tmp (far + 0))) (some ((.tmp 0), true)),
  .run (.call ⟨.value (.func 12), #[(.tmp 0)], #[9]⟩) (some ((.tmp 1), true)),
  .run (.move (.tmp (far + 0))) (some ((.tmp 2), true)),
  .run (.call ⟨.value (.func 18), #[(.tmp 0)], #[9]⟩) (some ((.tmp 3), true)),
  .run (.binOp .eql 4 (.tmp 2) (.tmp 0) 4) (some ((.tmp 4), true)),
  .run (.pick (.tmp 5) (.tmp 0) (.const (.bool false))) none] [(2, 0)]) (
.ret)))))
theorem fn_law01_LexTokens : V.F 4 = some Tryd.f4 := by kernel_rfl
theorem is_law01_LexTokens : (V.F 4).isSome = true := by rw [fn_law01_LexTokens]; rfl
noncomputable def c_law01_LexTokens : Code := match Tryd.f4.body with
  | some c => c
  | none => .skip
theorem b_law01_LexTokens : Tryd.f4.body = some c_law01_LexTokens := rfl
theorem pc_law01_LexTokens : pcOf V Tryd.f4.ntmps (some (liveOf Tryd.f4 c_law01_LexTokens)) c_law01_LexTokens = some P_law01_LexTokens := by kernel_rfl
theorem Lc.law01_LexTokens {O : Orc} {vs : List Value} {H : AH} {R : Value → AH → Prop} (ho : O 4 vs H = none) (hlen : vs.length ≤ Tryd.f4.ntmps) (hlive : (List.range vs.length).all (isLive (some (liveOf Tryd.f4 c_law01_LexTokens))) = true)
    (h : WP V O (some (liveOf Tryd.f4 c_law01_LexTokens)) Tryd.f4.ntmps P_law01_LexTokens (initL vs 0) H fun e l H' => (e = .normal ∨ e = .ret) ∧ ∃ rs, resL V l H' Tryd.f4.results.toList = some rs ∧ R (resOf rs) H') : ∃ v H', Lc V O 4 vs H v H' ∧ R v H' :=
  Lc.fnP ho fn_law01_LexTokens b_law01_LexTokens pc_law01_LexTokens hlen hlive h
/- bobbin/bobbinlaw01.LexCovers -/
abbrev F_law01_LexCovers : FuncId := 5
def P_law01_LexCovers : PC :=
.seq (
.reg [.run (.assign (.const (.bool false))) none] [(4, 0)]) (
.seq (
.seq (
.reg [.run (.call ⟨.value (.func 8), #[], #[]⟩) none,
  .run (.unOp .not 4 (.tmp 0)) none,
  .run (.move (.tmp (far + 0))) (some ((.tmp 0), false)),
  .run (.call ⟨.builtin .len, #[(.tmp 0)], #[9]⟩) (some ((.tmp 1), false)),
  .run (.binOp .gtr 3 (.tmp 0) (.const (.int .i64 20000)) 3) (some ((.tmp 2), false)),
  .run (.pick (.tmp 3) (.const (.bool true)) (.tmp 0)) none,
  .run (.move (.tmp (far + 1))) (some ((.tmp 0), false)),
  .run (.call ⟨.builtin .len, #[(.tmp 0)], #[9]⟩) (some ((.tmp 1), false)),
  .run (.binOp .gtr 3 (.tmp 0) (.const (.int .i64 20000)) 3) (some ((.tmp 2), false)),
  .run (.pick (.tmp 3) (.const (.bool true)) (.tmp 0)) none] [(33, 0)]) (
.cond (.tmp 33) (
  .seq (
  .reg [.run (.call ⟨.value (.func 8), #[], #[]⟩) none] [(4, 0)]) (
  .ret)) (
  .skip))) (
.seq (
.reg [.get 0,
  .run (.call ⟨.value (.func 14), #[(.tmp 0)], #[9]⟩) none,
  .run (.extract (.tmp 0) 0) none,
  .run (.extract (.tmp 1) 1) none,
  .run (.extract (.tmp 2) 2) none] [(7, 0), (5, 2)]) (
.seq (
.reg [.get 1,
  .run (.call ⟨.value (.func 14), #[(.tmp 0)], #[9]⟩) none,
  .run (.extract (.tmp 0) 0) none,
  .run (.extract (.tmp 1) 1) none,
  .run (.extract (.tmp 2) 2) none] [(10, 0), (9, 1), (8, 2)]) (
.seq (
.seq (
.reg [.get 7,
  .run (.binOp .neq 31 (.tmp 0) (.const (.int .i64 0)) 31) none] [(48, 0)]) (
.cond (.tmp 48) (
  .seq (
  .reg [.run (.assign (.const (.bool true))) none] [(4, 0)]) (
  .ret)) (
  .skip))) (
.seq (
.reg [.run (.assign (.const (.int .i64 0))) none] [(11, 0)]) (
.seq (
.reg [.run (.assign (.const (.string ⟨⟨[]⟩⟩))) none] [(12, 0)]) (
.seq (
.seq (
.reg [.run (.assign (.const (.int .i64 0))) none] [(13, 0)]) (
.block 0 (
 .loop (
  .seq (
  .seq (
  .reg [.get 13,
    .get 5,
    .run (.call ⟨.builtin .len, #[(.tmp 0)], #[30]⟩) none,
    .run (.binOp .lss 3 (.tmp 2) (.tmp 0) 3) none] [(52, 0)]) (
  .cond (.tmp 52) (
    .skip) (
    .exit 0))) (
  .seq (
  .block 1 (
   .seq (
   .seq (
   .reg [.get 5,
     .get 13,
     .run (.indexAddr 30 (.tmp 1) (.tmp 0)) none,
     .run (.fieldAddr 36 (.tmp 0) 2) none,
     .run (.load 3 (.tmp 0)) none,
     .get 11,
     .run (.binOp .lss 3 (.tmp 1) (.tmp 0) 3) none,
     .run (.move (.tmp (far + 0))) (some ((.tmp 0), false)),
     .run (.move (.tmp (far + 11))) (some ((.tmp 1), false)),
     .run (.move (.tmp (far + 5))) (some ((.tmp 2), false)),
     .run (.move (.tmp (far + 13))) (some ((.tmp 3), false)),
     .run (.indexAddr 30 (.tmp 1) (.tmp 0)) (some ((.tmp 4), false)),
     .run (.fieldAddr 36 (.tmp 0) 2) (some ((.tmp 5), false)),
     .run (.load 3 (.tmp 0)) (some ((.tmp 6), false)),
     .run (.slice 9 (.tmp 6) (some (.tmp 5)) (some (.tmp 0)) none) (some ((.tmp 7), false)),
     .run (.call ⟨.value (.func 19), #[(.tmp 0)], #[9]⟩) (some ((.tmp 8), false)),
     .run (.unOp .not 4 (.tmp 0)) (some ((.tmp 9), false)),
     .run (.pick (.tmp 10) (.const (.bool true)) (.tmp 0)) none,
     .run (.move (.tmp (far + 5))) (some ((.tmp 0), false)),
     .run (.move (.tmp (far + 13))) (some ((.tmp 1), false)),
     .run (.indexAddr 30 (.tmp 1) (.tmp 0)) (some ((.tmp 2), false)),
     .run (.fieldAddr 36 (.tmp 0) 1) (some ((.tmp 3), false)),
     .run (.load 9 (.tmp 0)) (some ((.tmp 4), false)),
     .run (.binOp .eql 9 (.tmp 0) (.const (.string ⟨⟨[]⟩⟩)) 9) (some ((.tmp 5), false)),
     .run (.pick (.tmp 6) (.const (.bool true)) (.tmp 0)) none,
     .run (.move (.tmp (far + 0))) (some ((.tmp 0), false)),
     .run (.move (.tmp (far + 5))) (some ((.tmp 1), false)),
     .run (.move (.tmp (far + 13))) (some ((.tmp 2), false)),
     .run (.indexAddr 30 (.tmp 1) (.tmp 0)) (some ((.tmp 3), false)),
     .run (.fieldAddr 36 (.tmp 0) 2) (some ((.tmp 4), false)),
     .run (.load 3 (.tmp 0)) (some ((.tmp 5), false)),
     .run (.move (.tmp (far + 5))) (some ((.tmp 6), false)),
     .run (.move (.tmp (far + 13))) (some ((.tmp 7), false)),
     .run (.indexAddr 30 (.tmp 1) (.tmp 0)) (some ((.tmp 8), false)),
     .run (.fieldAddr 36 (.tmp 0) 2) (some ((.tmp 9), false)),
     .run (.load 3 (.tmp 0)) (some ((.tmp 10), false)),
     .run (.move (.tmp (far + 5))) (some ((.tmp 11), false)),
     .run (.move (.tmp (far + 13))) (some ((.tmp 12), false)),
     .run (.indexAddr 30 (.tmp 1) (.tmp 0)) (some ((.tmp 13), false)),
     .run (.fieldAddr 36 (.tmp 0) 1) (some ((.tmp 14), false)),
     .run (.load 9 (.tmp 0)) (some ((.tmp 15), false)),
     .run (.call ⟨.builtin .len, #[(.tmp 0)], #[9]⟩) (some ((.tmp 16), false)),
     .run (.binOp .add 3 (.tmp 6) (.tmp 0) 3) (some ((.tmp 17), false)),
     .run (.slice 9 (.tmp 17) (some (.tmp 12)) (some (.tmp 0)) none) (some ((.tmp 18), false)),
     .run (.move (.tmp (far + 5))) (some ((.tmp 19), false)),
     .run (.move (.tmp (far + 13))) (some ((.tmp 20), false)),
     .run (.indexAddr 30 (.tmp 1) (.tmp 0)) (some ((.tmp 21), false)),
     .run (.fieldAddr 36 (.tmp 0) 1) (some ((.tmp 22), false)),
     .run (.load 9 (.tmp 0)) (some ((.tmp 23), false)),
     .run (.binOp .neq 9 (.tmp 5) (.tmp 0) 9) (some ((.tmp 24), false)),
     .run (.pick (.tmp 25) (.const (.bool true)) (.tmp 0)) none] [(108, 0)]) (
   .cond (.tmp 108) (
     .seq (
     .reg [.run (.assign (.const (.bool false))) none] [(4, 0)]) (
     .ret)) (
     .skip))) (
   .seq (
   .reg [.get 5,
     .get 13,
     .run (.indexAddr 30 (.tmp 1) (.tmp 0)) none,
     .run (.fieldAddr 36 (.tmp 0) 2) none,
     .run (.load 3 (.tmp 0)) none,
     .get 5,
     .get 13,
     .run (.indexAddr 30 (.tmp 1) (.tmp 0)) none,
     .run (.fieldAddr 36 (.tmp 0) 1) none,
     .run (.load 9 (.tmp 0)) none,
     .run (.call ⟨.builtin .len, #[(.tmp 0)], #[9]⟩) none,
     .run (.binOp .add 3 (.tmp 6) (.tmp 0) 3) none] [(11, 0)]) (
   .reg [.get 12,
     .get 5,
     .get 13,
     .run (.indexAddr 30 (.tmp 1) (.tmp 0)) none,
     .run (.fieldAddr 36 (.tmp 0) 1) none,
     .run (.load 9 (.tmp 0)) none,
     .run (.binOp .add 9 (.tmp 5) (.tmp 0) 9) none,
     .run (.binOp .add 9 (.tmp 0) (.const (.string ⟨⟨[32]⟩⟩)) 9) none] [(12, 0)])))) (
  .reg [.get 13,
    .run (.binOp .add 3 (.tmp 0) (.const (.int .i64 1)) 3) none] [(13, 0)])))))) (
.seq (
.seq (
.reg [.get 0,
  .get 11,
  .run (.slice 9 (.tmp 1) (some (.tmp 0)) none none) none,
  .run (.call ⟨.value (.func 19), #[(.tmp 0)], #[9]⟩) none,
  .run (.unOp .not 4 (.tmp 0)) none] [(133, 0)]) (
.cond (.tmp 133) (
  .seq (
  .reg [.run (.assign (.const (.bool false))) none] [(4, 0)]) (
  .ret)) (
  .skip))) (
.seq (
.reg [.get 12,
  .run (.call ⟨.value (.func 14), #[(.tmp 0)], #[9]⟩) none,
  .run (.extract (.tmp 0) 0) none,
  .run (.extract (.tmp 1) 1) none,
  .run (.extract (.tmp 2) 2) none] [(16, 0), (14, 2)]) (
.seq (
.seq (
.reg [.get 16,
  .run (.binOp .neq 31 (.tmp 0) (.const (.int .i64 0)) 31) none,
  .run (.move (.tmp (far + 14))) (some ((.tmp 0), false)),
  .run (.call ⟨.builtin .len, #[(.tmp 0)], #[30]⟩) (some ((.tmp 1), false)),
  .run (.move (.tmp (far + 5))) (some ((.tmp 2), false)),
  .run (.call ⟨.builtin .len, #[(.tmp 0)], #[30]⟩) (some ((.tmp 3), false)),
  .run (.binOp .neq 3 (.tmp 2) (.tmp 0) 3) (some ((.tmp 4), false)),
  .run (.pick (.tmp 5) (.const (.bool true)) (.tmp 0)) none] [(148, 0)]) (
.cond (.tmp 148) (
  .seq (
  .reg [.run (.assign (.const (.bool false))) none] [(4, 0)]) (
  .ret)) (
  .skip))) (
.seq (
.seq (
.reg [.run (.assign (.const (.int .i64 0))) none] [(17, 0)]) (
.block 2 (
 .loop (
  .seq (
  .seq (
  .reg [.get 17,
    .get 5,
    .run (.call ⟨.builtin .len, #[(.tmp 0)], #[30]⟩) none,
    .run (.binOp .lss 3 (.tmp 2) (.tmp 0) 3) none] [(152, 0)]) (
  .cond (.tmp 152) (
    .skip) (
    .exit 2))) (
  .seq (
  .block 3 (
   .seq (
   .reg [.get 14,
     .get 17,
     .run (.indexAddr 30 (.tmp 1) (.tmp 0)) none,
     .run (.fieldAddr 36 (.tmp 0) 0) none,
     .run (.load 5 (.tmp 0)) none,
     .get 5,
     .get 17,
     .run (.indexAddr 30 (.tmp 1) (.tmp 0)) none,
     .run (.fieldAddr 36 (.tmp 0) 0) none,
     .run (.load 5 (.tmp 0)) none,
     .run (.binOp .neq 5 (.tmp 5) (.tmp 0) 5) none,
     .run (.move (.tmp (far + 14))) (some ((.tmp 0), false)),
     .run (.move (.tmp (far + 17))) (some ((.tmp 1), false)),
     .run (.indexAddr 30 (.tmp 1) (.tmp 0)) (some ((.tmp 2), false)),
     .run (.fieldAddr 36 (.tmp 0) 1) (some ((.tmp 3), false)),
     .run (.load 9 (.tmp 0)) (some ((.tmp 4), false)),
     .run (.move (.tmp (far + 5))) (some ((.tmp 5), false)),
     .run (.move (.tmp (far + 17))) (some ((.tmp 6), false)),
     .run (.indexAddr 30 (.tmp 1) (.tmp 0)) (some ((.tmp 7), false)),
     .run (.fieldAddr 36 (.tmp 0) 1) (some ((.tmp 8), false)),
     .run (.load 9 (.tmp 0)) (some ((.tmp 9), false)),
     .run (.binOp .neq 9 (.tmp 5) (.tmp 0) 9) (some ((.tmp 10), false)),
     .run (.pick (.tmp 11) (.const (.bool true)) (.tmp 0)) none] [(178, 0)]) (
   .cond (.tmp 178) (
     .seq (
     .reg [.run (.assign (.const (.bool false))) none] [(4, 0)]) (
     .ret)) (
     .skip)))) (
  .reg [.get 17,
    .run (.binOp .add 3 (.tmp 0) (.const (.int .i64 1)) 3) none] [(17, 0)])))))) (
.seq (
.reg [.get 0,
  .run (.binOp .add 9 (.tmp 0) (.const (.string ⟨⟨[10]⟩⟩)) 9) none,
  .get 1,
  .run (.binOp .add 9 (.tmp 1) (.tmp 0) 9) none,
  .run (.call ⟨.value (.func 14), #[(.tmp 0)], #[9]⟩) none,
  .run (.extract (.tmp 0) 0) none,
  .run (.extract (.tmp 1) 1) none,
  .run (.extract (.tmp 2) 2) none] [(20, 0), (19, 1), (18, 2)]) (
.seq (
.seq (
.reg [.get 10,
  .run (.binOp .neq 31 (.tmp 0) (.const (.int .i64 0)) 31) none] [(189, 0)]) (
.cond (.tmp 189) (
  .seq (
  .reg [.get 20,
    .get 10,
    .run (.binOp .eql 31 (.tmp 1) (.tmp 0) 31) none,
    .run (.move (.tmp (far + 19))) (some ((.tmp 0), true)),
    .run (.move (.tmp (far + 0))) (some ((.tmp 1), true)),
    .run (.call ⟨.builtin .len, #[(.tmp 0)], #[9]⟩) (some ((.tmp 2), true)),
    .run (.binOp .add 3 (.tmp 0) (.const (.int .i64 1)) 3) (some ((.tmp 3), true)),
    .run (.move (.tmp (far + 9))) (some ((.tmp 4), true)),
    .run (.binOp .add 3 (.tmp 1) (.tmp 0) 3) (some ((.tmp 5), true)),
    .run (.binOp .eql 3 (.tmp 5) (.tmp 0) 3) (some ((.tmp 6), true)),
    .run (.pick (.tmp 7) (.tmp 0) (.const (.bool false))) none] [(4, 0)]) (
  .ret)) (
  .skip))) (
.seq (
.seq (
.reg [.run (.assign (.const (.int .i64 0))) none] [(21, 0)]) (
.block 4 (
 .loop (
  .seq (
  .seq (
  .reg [.get 21,
    .get 8,
    .run (.call ⟨.builtin .len, #[(.tmp 0)], #[30]⟩) none,
    .run (.binOp .lss 3 (.tmp 2) (.tmp 0) 3) none] [(205, 0)]) (
  .cond (.tmp 205) (
    .skip) (
    .exit 4))) (
  .seq (
  .block 5 (
   .reg [.get 8,
     .get 21,
     .get 8,
     .get 21,
     .run (.indexAddr 30 (.tmp 1) (.tmp 0)) none,
     .run (.fieldAddr 36 (.tmp 0) 2) none,
     .run (.load 3 (.tmp 0)) none,
     .get 0,
     .run (.call ⟨.builtin .len, #[(.tmp 0)], #[9]⟩) none,
     .run (.binOp .add 3 (.tmp 2) (.tmp 0) 3) none,
     .run (.binOp .add 3 (.tmp 0) (.const (.int .i64 1)) 3) none,
     .run (.indexAddr 30 (.tmp 10) (.tmp 9)) none,
     .run (.fieldAddr 36 (.tmp 0) 2) none,
     .run (.store 3 (.tmp 0) (.tmp 2)) none] [])) (
  .reg [.get 21,
    .run (.binOp .add 3 (.tmp 0) (.const (.int .i64 1)) 3) none] [(21, 0)])))))) (
.seq (
.reg [.get 20,
  .run (.binOp .eql 31 (.tmp 0) (.const (.int .i64 0)) 31) none,
  .run (.move (.tmp (far + 18))) (some ((.tmp 0), true)),
  .run (.move (.tmp (far + 5))) (some ((.tmp 1), true)),
  .run (.move (.tmp (far + 8))) (some ((.tmp 2), true)),
  .run (.call ⟨.builtin .append, #[(.tmp 1), (.tmp 0)], #[30, 30]⟩) (some ((.tmp 3), true)),
  .run (.call ⟨.value (.func 16), #[(.tmp 3), (.tmp 0)], #[30, 30]⟩) (some ((.tmp 4), true)),
  .run (.pick (.tmp 5) (.tmp 0) (.const (.bool false))) none] [(4, 0)]) (
.ret))))))))))))))))
theorem fn_law01_LexCovers : V.F 5 = some Tryd.f5 := by kernel_rfl
theorem is_law01_LexCovers : (V.F 5).isSome = true := by rw [fn_law01_LexCovers]; rfl
noncomputable def c_law01_LexCovers : Code := match Tryd.f5.body with
  | some c => c
  | none => .skip
theorem b_law01_LexCovers : Tryd.f5.body = some c_law01_LexCovers := rfl
theorem pc_law01_LexCovers : pcOf V Tryd.f5.ntmps (some (liveOf Tryd.f5 c_law01_LexCovers)) c_law01_LexCovers = some P_law01_LexCovers := by kernel_rfl
theorem Lc.law01_LexCovers {O : Orc} {vs : List Value} {H : AH} {R : Value → AH → Prop} (ho : O 5 vs H = none) (hlen : vs.length ≤ Tryd.f5.ntmps) (hlive : (List.range vs.length).all (isLive (some (liveOf Tryd.f5 c_law01_LexCovers))) = true)
    (h : WP V O (some (liveOf Tryd.f5 c_law01_LexCovers)) Tryd.f5.ntmps P_law01_LexCovers (initL vs 0) H fun e l H' => (e = .normal ∨ e = .ret) ∧ ∃ rs, resL V l H' Tryd.f5.results.toList = some rs ∧ R (resOf rs) H') : ∃ v H', Lc V O 5 vs H v H' ∧ R v H' :=
  Lc.fnP ho fn_law01_LexCovers b_law01_LexCovers pc_law01_LexCovers hlen hlive h
/- bobbin/bobbinlaw01.many -/
abbrev F_law01_many : FuncId := 10
def P_law01_many : PC :=
.seq (
.reg [.run (.assign (.const (.string ⟨⟨[]⟩⟩))) none] [(4, 0)]) (
.seq (
.reg [.get 0,
  .run (.makeSlice 40 (.tmp 0) (.tmp 0)) none] [(5, 0)]) (
.seq (
.seq (
.reg [.run (.assign (.const (.int .i64 0))) none] [(6, 0)]) (
.block 0 (
 .loop (
  .seq (
  .seq (
  .reg [.get 6,
    .get 0,
    .run (.binOp .lss 3 (.tmp 1) (.tmp 0) 3) none] [(11, 0)]) (
  .cond (.tmp 11) (
    .skip) (
    .exit 0))) (
  .seq (
  .block 1 (
   .reg [.get 5,
     .get 6,
     .get 1,
     .run (.indexAddr 40 (.tmp 2) (.tmp 1)) none,
     .run (.store 5 (.tmp 0) (.tmp 1)) none] [])) (
  .reg [.get 6,
    .run (.binOp .add 3 (.tmp 0) (.const (.int .i64 1)) 3) none] [(6, 0)])))))) (
.seq (
.reg [.get 5,
  .run (.convert 40 9 (.tmp 0)) none] [(4, 0)]) (
.ret))))
theorem fn_law01_many : V.F 10 = some Tryd.f10 := by kernel_rfl
theorem is_law01_many : (V.F 10).isSome = true := by rw [fn_law01_many]; rfl
noncomputable def c_law01_many : Code := match Tryd.f10.body with
  | some c => c
  | none => .skip
theorem b_law01_many : Tryd.f10.body = some c_law01_many := rfl
theorem pc_law01_many : pcOf V Tryd.f10.ntmps (some (liveOf Tryd.f10 c_law01_many)) c_law01_many = some P_law01_many := by kernel_rfl
theorem Lc.law01_many {O : Orc} {vs : List Value} {H : AH} {R : Value → AH → Prop} (ho : O 10 vs H = none) (hlen : vs.length ≤ Tryd.f10.ntmps) (hlive : (List.range vs.length).all (isLive (some (liveOf Tryd.f10 c_law01_many))) = true)
    (h : WP V O (some (liveOf Tryd.f10 c_law01_many)) Tryd.f10.ntmps P_law01_many (initL vs 0) H fun e l H' => (e = .normal ∨ e = .ret) ∧ ∃ rs, resL V l H' Tryd.f10.results.toList = some rs ∧ R (resOf rs) H') : ∃ v H', Lc V O 10 vs H v H' ∧ R v H' :=
  Lc.fnP ho fn_law01_many b_law01_many pc_law01_many hlen hlive h
/- bobbin/lex.Reserved -/
abbrev F_lex_Reserved : FuncId := 12
def P_lex_Reserved : PC :=
.seq (
.reg [.run (.assign (.const (.bool false))) none] [(2, 0)]) (
.seq (
.reg [.run (.buildSlice 28 15 #[(0, (.const (.string ⟨⟨[103, 108, 111, 98, 97, 108]⟩⟩))), (1, (.const (.string ⟨⟨[97, 114, 114, 97, 121]⟩⟩))), (2, (.const (.string ⟨⟨[108, 111, 99, 107]⟩⟩))), (3, (.const (.string ⟨⟨[102, 117, 110, 99]⟩⟩))), (4, (.const (.string ⟨⟨[116, 104, 114, 101, 97, 100]⟩⟩))), (5, (.const (.string ⟨⟨[118, 97, 114]⟩⟩))), (6, (.const (.string ⟨⟨[105, 102]⟩⟩))), (7, (.const (.string ⟨⟨[101, 108, 115, 101]⟩⟩))), (8, (.const (.string ⟨⟨[119, 104, 105, 108, 101]⟩⟩))), (9, (.const (.string ⟨⟨[119, 105, 116, 104]⟩⟩))), (10, (.const (.string ⟨⟨[112, 114, 105, 110, 116]⟩⟩))), (11, (.const (.string ⟨⟨[99, 97, 108, 108]⟩⟩))), (12, (.const (.string ⟨⟨[114, 101, 116, 117, 114, 110]⟩⟩))), (13, (.const (.string ⟨⟨[116, 114, 117, 101]⟩⟩))), (14, (.const (.string ⟨⟨[102, 97, 108, 115, 101]⟩⟩)))]) none,
  .get 0,
  .run (.call ⟨.value (.func 20), #[(.tmp 1), (.tmp 0)], #[28, 9]⟩) none] [(2, 0)]) (
.ret))
theorem fn_lex_Reserved : V.F 12 = some Tryd.f12 := by kernel_rfl
theorem is_lex_Reserved : (V.F 12).isSome = true := by rw [fn_lex_Reserved]; rfl
noncomputable def c_lex_Reserved : Code := match Tryd.f12.body with
  | some c => c
  | none => .skip
theorem b_lex_Reserved : Tryd.f12.body = some c_lex_Reserved := rfl
theorem pc_lex_Reserved : pcOf V Tryd.f12.ntmps (some (liveOf Tryd.f12 c_lex_Reserved)) c_lex_Reserved = some P_lex_Reserved := by kernel_rfl
theorem Lc.lex_Reserved {O : Orc} {vs : List Value} {H : AH} {R : Value → AH → Prop} (ho : O 12 vs H = none) (hlen : vs.length ≤ Tryd.f12.ntmps) (hlive : (List.range vs.length).all (isLive (some (liveOf Tryd.f12 c_lex_Reserved))) = true)
    (h : WP V O (some (liveOf Tryd.f12 c_lex_Reserved)) Tryd.f12.ntmps P_lex_Reserved (initL vs 0) H fun e l H' => (e = .normal ∨ e = .ret) ∧ ∃ rs, resL V l H' Tryd.f12.results.toList = some rs ∧ R (resOf rs) H') : ∃ v H', Lc V O 12 vs H v H' ∧ R v H' :=
  Lc.fnP ho fn_lex_Reserved b_lex_Reserved pc_lex_Reserved hlen hlive h
/- bobbin/lex.Name -/
abbrev F_lex_Name : FuncId := 13
def P_lex_Name : PC :=
.seq (
.reg [.run (.assign (.const (.bool false))) none] [(2, 0)]) (
.seq (
.reg [.get 0,
  .run (.call ⟨.builtin .len, #[(.tmp 0)], #[9]⟩) none,
  .run (.binOp .gtr 3 (.tmp 0) (.const (.int .i64 0)) 3) none,
  .run (.move (.tmp (far + 0))) (some ((.tmp 0), true)),
  .run (.call ⟨.builtin .len, #[(.tmp 0)], #[9]⟩) (some ((.tmp 1), true)),
  .run (.binOp .leq 3 (.tmp 0) (.const (.int .i64 32)) 3) (some ((.tmp 2), true)),
  .run (.pick (.tmp 3) (.tmp 0) (.const (.bool false))) none,
  .run (.move (.tmp (far + 0))) (some ((.tmp 0), true)),
  .run (.call ⟨.value (.func 21), #[(.tmp 0)], #[9]⟩) (some ((.tmp 1), true)),
  .run (.move (.tmp (far + 0))) (some ((.tmp 2), true)),
  .run (.call ⟨.builtin .len, #[(.tmp 0)], #[9]⟩) (some ((.tmp 3), true)),
  .run (.binOp .eql 3 (.tmp 2) (.tmp 0) 3) (some ((.tmp 4), true)),
  .run (.pick (.tmp 5) (.tmp 0) (.const (.bool false))) none,
  .run (.move (.tmp (far + 0))) (some ((.tmp 0), true)),
  .run (.call ⟨.value (.func 12), #[(.tmp 0)], #[9]⟩) (some ((.tmp 1), true)),
  .run (.unOp .not 4 (.tmp 0)) (some ((.tmp 2), true)),
  .run (.pick (.tmp 3) (.tmp 0) (.const (.bool false))) none] [(2, 0)]) (
.ret))
theorem fn_lex_Name : V.F 13 = some Tryd.f13 := by kernel_rfl
theorem is_lex_Name : (V.F 13).isSome = true := by rw [fn_lex_Name]; rfl
noncomputable def c_lex_Name : Code := match Tryd.f13.body with
  | some c => c
  | none => .skip
theorem b_lex_Name : Tryd.f13.body = some c_lex_Name := rfl
theorem pc_lex_Name : pcOf V Tryd.f13.ntmps (some (liveOf Tryd.f13 c_lex_Name)) c_lex_Name = some P_lex_Name := by kernel_rfl
theorem Lc.lex_Name {O : Orc} {vs : List Value} {H : AH} {R : Value → AH → Prop} (ho : O 13 vs H = none) (hlen : vs.length ≤ Tryd.f13.ntmps) (hlive : (List.range vs.length).all (isLive (some (liveOf Tryd.f13 c_lex_Name))) = true)
    (h : WP V O (some (liveOf Tryd.f13 c_lex_Name)) Tryd.f13.ntmps P_lex_Name (initL vs 0) H fun e l H' => (e = .normal ∨ e = .ret) ∧ ∃ rs, resL V l H' Tryd.f13.results.toList = some rs ∧ R (resOf rs) H') : ∃ v H', Lc V O 13 vs H v H' ∧ R v H' :=
  Lc.fnP ho fn_lex_Name b_lex_Name pc_lex_Name hlen hlive h
/- bobbin/lex.Tokens -/
abbrev F_lex_Tokens : FuncId := 14
def P_lex_Tokens : PC :=
.seq (
.reg [.run (.assign (.const (.slice none 0 0))) none,
  .run (.assign (.const (.int .i64 0))) none,
  .run (.assign (.const (.int .i64 0))) none] [(4, 0), (3, 1), (2, 2)]) (
.seq (
.seq (
.reg [.get 0,
  .run (.call ⟨.builtin .len, #[(.tmp 0)], #[9]⟩) none,
  .run (.binOp .gtr 3 (.tmp 0) (.const (.int .i64 65536)) 3) none] [(13, 0)]) (
.cond (.tmp 13) (
  .seq (
  .reg [.run (.assign (.const (.slice none 0 0))) none,
    .run (.assign (.const (.int .i64 0))) none,
    .run (.assign (.const (.int .i64 40))) none] [(4, 0), (3, 1), (2, 2)]) (
  .ret)) (
  .skip))) (
.seq (
.reg [.run (.assign (.const (.slice none 0 0))) none] [(5, 0)]) (
.seq (
.seq (
.reg [.run (.assign (.const (.int .i64 0))) none] [(6, 0)]) (
.block 0 (
 .loop (
  .seq (
  .seq (
  .reg [.get 6,
    .get 0,
    .run (.call ⟨.builtin .len, #[(.tmp 0)], #[9]⟩) none,
    .run (.binOp .lss 3 (.tmp 2) (.tmp 0) 3) none] [(17, 0)]) (
  .cond (.tmp 17) (
    .skip) (
    .exit 0))) (
  .block 1 (
   .seq (
   .seq (
   .reg [.get 0,
     .get 6,
     .run (.slice 9 (.tmp 1) (some (.tmp 0)) none none) none,
     .run (.call ⟨.value (.func 22), #[(.tmp 0)], #[9]⟩) none] [(7, 0)]) (
   .seq (
   .reg [.get 7,
     .run (.binOp .gtr 3 (.tmp 0) (.const (.int .i64 0)) 3) none] [(23, 0)]) (
   .cond (.tmp 23) (
     .seq (
     .reg [.get 6,
       .get 7,
       .run (.binOp .add 3 (.tmp 1) (.tmp 0) 3) none] [(6, 0)]) (
     .exit 1)) (
     .skip)))) (
   .seq (
   .reg [.get 0,
     .get 6,
     .run (.slice 9 (.tmp 1) (some (.tmp 0)) none none) none,
     .run (.call ⟨.value (.func 23), #[(.tmp 0)], #[9]⟩) none,
     .run (.extract (.tmp 0) 0) none,
     .run (.extract (.tmp 1) 1) none,
     .run (.extract (.tmp 2) 2) none] [(10, 0), (9, 1), (8, 2)]) (
   .seq (
   .seq (
   .reg [.get 10,
     .run (.unOp .not 4 (.tmp 0)) none] [(36, 0)]) (
   .cond (.tmp 36) (
     .seq (
     .reg [.get 6,
       .run (.assign (.const (.slice none 0 0))) none,
       .run (.assign (.const (.int .i64 63))) none] [(4, 0), (3, 2), (2, 1)]) (
     .ret)) (
     .skip))) (
   .seq (
   .reg [.get 5,
     .get 8,
     .get 0,
     .get 6,
     .get 6,
     .get 9,
     .run (.binOp .add 3 (.tmp 1) (.tmp 0) 3) none,
     .run (.slice 9 (.tmp 4) (some (.tmp 3)) (some (.tmp 0)) none) none,
     .get 6,
     .run (.build 36 #[(0, (.tmp 7)), (1, (.tmp 1)), (2, (.tmp 0))]) none,
     .run (.buildSlice 30 1 #[(0, (.tmp 0))]) none,
     .run (.call ⟨.builtin .append, #[(.tmp 10), (.tmp 0)], #[30, 30]⟩) none] [(5, 0)]) (
   .reg [.get 6,
     .get 9,
     .run (.binOp .add 3 (.tmp 1) (.tmp 0) 3) none] [(6, 0)])))))))))) (
.seq (
.reg [.get 5,
  .run (.assign (.const (.int .i64 0))) none,
  .run (.assign (.const (.int .i64 0))) none] [(4, 0), (3, 1), (2, 2)]) (
.ret)))))
theorem fn_lex_Tokens : V.F 14 = some Tryd.f14 := by kernel_rfl
theorem is_lex_Tokens : (V.F 14).isSome = true := by rw [fn_lex_Tokens]; rfl
noncomputable def c_lex_Tokens : Code := match Tryd.f14.body with
  | some c => c
  | none => .skip
theorem b_lex_Tokens : Tryd.f14.body = some c_lex_Tokens := rfl
theorem pc_lex_Tokens : pcOf V Tryd.f14.ntmps (some (liveOf Tryd.f14 c_lex_Tokens)) c_lex_Tokens = some P_lex_Tokens := by kernel_rfl
theorem Lc.lex_Tokens {O : Orc} {vs : List Value} {H : AH} {R : Value → AH → Prop} (ho : O 14 vs H = none) (hlen : vs.length ≤ Tryd.f14.ntmps) (hlive : (List.range vs.length).all (isLive (some (liveOf Tryd.f14 c_lex_Tokens))) = true)
    (h : WP V O (some (liveOf Tryd.f14 c_lex_Tokens)) Tryd.f14.ntmps P_lex_Tokens (initL vs 0) H fun e l H' => (e = .normal ∨ e = .ret) ∧ ∃ rs, resL V l H' Tryd.f14.results.toList = some rs ∧ R (resOf rs) H') : ∃ v H', Lc V O 14 vs H v H' ∧ R v H' :=
  Lc.fnP ho fn_lex_Tokens b_lex_Tokens pc_lex_Tokens hlen hlive h
/- bobbin/bobbinref01.Tokens -/
abbrev F_ref01_Tokens : FuncId := 15
def P_ref01_Tokens : PC :=
.seq (
.reg [.run (.assign (.const (.slice none 0 0))) none,
  .run (.assign (.const (.int .i64 0))) none,
  .run (.assign (.const (.int .i64 0))) none] [(4, 0), (3, 1), (2, 2)]) (
.seq (
.seq (
.reg [.get 0,
  .run (.call ⟨.builtin .len, #[(.tmp 0)], #[9]⟩) none,
  .run (.binOp .gtr 3 (.tmp 0) (.const (.int .i64 65536)) 3) none] [(14, 0)]) (
.cond (.tmp 14) (
  .seq (
  .reg [.run (.assign (.const (.slice none 0 0))) none,
    .run (.assign (.const (.int .i64 0))) none,
    .run (.assign (.const (.int .i64 40))) none] [(4, 0), (3, 1), (2, 2)]) (
  .ret)) (
  .skip))) (
.seq (
.reg [.run (.assign (.const (.slice none 0 0))) none] [(5, 0)]) (
.seq (
.reg [.run (.assign (.const (.bool false))) none] [(6, 0)]) (
.seq (
.reg [.run (.assign (.const (.int .i64 0))) none] [(7, 0)]) (
.seq (
.block 0 (
 .loop (
  .seq (
  .seq (
  .reg [.get 7,
    .get 0,
    .run (.call ⟨.builtin .len, #[(.tmp 0)], #[9]⟩) none,
    .run (.binOp .lss 3 (.tmp 2) (.tmp 0) 3) none] [(18, 0)]) (
  .cond (.tmp 18) (
    .skip) (
    .exit 0))) (
  .block 1 (
   .seq (
   .reg [.get 0,
     .get 7,
     .run (.index 9 (.tmp 1) (.tmp 0)) none] [(8, 0)]) (
   .seq (
   .seq (
   .reg [.get 6,
     .run (.move (.tmp (far + 8))) (some ((.tmp 0), false)),
     .run (.binOp .eql 5 (.tmp 0) (.const (.int .u8 35)) 5) (some ((.tmp 1), false)),
     .run (.pick (.tmp 2) (.const (.bool true)) (.tmp 0)) none,
     .run (.move (.tmp (far + 8))) (some ((.tmp 0), false)),
     .run (.binOp .eql 5 (.tmp 0) (.const (.int .u8 32)) 5) (some ((.tmp 1), false)),
     .run (.pick (.tmp 2) (.const (.bool true)) (.tmp 0)) none,
     .run (.move (.tmp (far + 8))) (some ((.tmp 0), false)),
     .run (.binOp .eql 5 (.tmp 0) (.const (.int .u8 9)) 5) (some ((.tmp 1), false)),
     .run (.pick (.tmp 2) (.const (.bool true)) (.tmp 0)) none,
     .run (.move (.tmp (far + 8))) (some ((.tmp 0), false)),
     .run (.binOp .eql 5 (.tmp 0) (.const (.int .u8 10)) 5) (some ((.tmp 1), false)),
     .run (.pick (.tmp 2) (.const (.bool true)) (.tmp 0)) none] [(38, 0)]) (
   .cond (.tmp 38) (
     .seq (
     .reg [.get 6,
       .run (.move (.tmp (far + 8))) (some ((.tmp 0), false)),
       .run (.binOp .eql 5 (.tmp 0) (.const (.int .u8 35)) 5) (some ((.tmp 1), false)),
       .run (.pick (.tmp 2) (.const (.bool true)) (.tmp 0)) none,
       .run (.move (.tmp (far + 8))) (some ((.tmp 0), true)),
       .run (.binOp .neq 5 (.tmp 0) (.const (.int .u8 10)) 5) (some ((.tmp 1), true)),
       .run (.pick (.tmp 2) (.tmp 0) (.const (.bool false))) none] [(6, 0)]) (
     .seq (
     .reg [.get 7,
       .run (.binOp .add 3 (.tmp 0) (.const (.int .i64 1)) 3) none] [(7, 0)]) (
     .exit 1))) (
     .skip))) (
   .seq (
   .reg [.get 7,
     .run (.build 36 #[(0, (.const (.int .u8 3))), (2, (.tmp 0))]) none,
     .run (.alloc 36) none,
     .run (.store 36 (.tmp 0) (.tmp 1)) none] [(9, 1)]) (
   .seq (
   .reg [.get 7] [(10, 0)]) (
   .seq (
   .reg [.run (.assign (.const (.bool true))) none] [(11, 0)]) (
   .seq (
   .seq (
   .reg [.get 8,
     .run (.call ⟨.value (.func 24), #[(.tmp 0)], #[5]⟩) none] [(54, 0)]) (
   .cond (.tmp 54) (
     .seq (
     .reg [.run (.fieldAddr 36 (.tmp (far + 9)) 0) none,
       .run (.store 5 (.tmp 0) (.const (.int .u8 1))) none] []) (
     .seq (
     .block 2 (
      .loop (
       .seq (
       .seq (
       .reg [.get 10,
         .get 0,
         .run (.call ⟨.builtin .len, #[(.tmp 0)], #[9]⟩) none,
         .run (.binOp .lss 3 (.tmp 2) (.tmp 0) 3) none,
         .run (.move (.tmp (far + 0))) (some ((.tmp 0), true)),
         .run (.move (.tmp (far + 10))) (some ((.tmp 1), true)),
         .run (.index 9 (.tmp 1) (.tmp 0)) (some ((.tmp 2), true)),
         .run (.call ⟨.value (.func 24), #[(.tmp 0)], #[5]⟩) (some ((.tmp 3), true)),
         .run (.move (.tmp 0)) (some ((.tmp 4), true)),
         .run (.move (.tmp (far + 0))) (some ((.tmp 0), false)),
         .run (.move (.tmp (far + 10))) (some ((.tmp 1), false)),
         .run (.index 9 (.tmp 1) (.tmp 0)) (some ((.tmp 2), false)),
         .run (.call ⟨.value (.func 25), #[(.tmp 0)], #[5]⟩) (some ((.tmp 3), false)),
         .run (.pick (.tmp 4) (.const (.bool true)) (.tmp 0)) (some ((.tmp 9), true)),
         .run (.pick (.tmp 10) (.tmp 0) (.const (.bool false))) none] [(71, 0)]) (
       .cond (.tmp 71) (
         .skip) (
         .exit 2))) (
       .block 3 (
        .reg [.get 10,
          .run (.binOp .add 3 (.tmp 0) (.const (.int .i64 1)) 3) none] [(10, 0)]))))) (
     .reg [.get 10,
       .get 7,
       .run (.binOp .sub 3 (.tmp 1) (.tmp 0) 3) none,
       .run (.binOp .leq 3 (.tmp 0) (.const (.int .i64 32)) 3) none] [(11, 0)]))) (
     .seq (
     .reg [.get 8,
       .run (.call ⟨.value (.func 25), #[(.tmp 0)], #[5]⟩) none] [(79, 0)]) (
     .cond (.tmp 79) (
       .seq (
       .reg [.run (.fieldAddr 36 (.tmp (far + 9)) 0) none,
         .run (.store 5 (.tmp 0) (.const (.int .u8 2))) none] []) (
       .seq (
       .block 4 (
        .loop (
         .seq (
         .seq (
         .reg [.get 10,
           .get 0,
           .run (.call ⟨.builtin .len, #[(.tmp 0)], #[9]⟩) none,
           .run (.binOp .lss 3 (.tmp 2) (.tmp 0) 3) none,
           .run (.move (.tmp (far + 0))) (some ((.tmp 0), true)),
           .run (.move (.tmp (far + 10))) (some ((.tmp 1), true)),
           .run (.index 9 (.tmp 1) (.tmp 0)) (some ((.tmp 2), true)),
           .run (.call ⟨.value (.func 25), #[(.tmp 0)], #[5]⟩) (some ((.tmp 3), true)),
           .run (.pick (.tmp 4) (.tmp 0) (.const (.bool false))) none] [(90, 0)]) (
         .cond (.tmp 90) (
           .skip) (
           .exit 4))) (
         .block 5 (
          .reg [.get 10,
            .run (.binOp .add 3 (.tmp 0) (.const (.int .i64 1)) 3) none] [(10, 0)]))))) (
       .reg [.get 0,
         .get 7,
         .get 10,
         .run (.slice 9 (.tmp 2) (some (.tmp 1)) (some (.tmp 0)) none) none,
         .run (.call ⟨.value (.func 26), #[(.tmp 0)], #[9]⟩) none,
         .run (.move (.tmp (far + 10))) (some ((.tmp 0), true)),
         .run (.move (.tmp (far + 0))) (some ((.tmp 1), true)),
         .run (.call ⟨.builtin .len, #[(.tmp 0)], #[9]⟩) (some ((.tmp 2), true)),
         .run (.binOp .lss 3 (.tmp 2) (.tmp 0) 3) (some ((.tmp 3), true)),
         .run (.move (.tmp 0)) (some ((.tmp 4), true)),
         .run (.move (.tmp (far + 0))) (some ((.tmp 0), true)),
         .run (.move (.tmp (far + 10))) (some ((.tmp 1), true)),
         .run (.index 9 (.tmp 1) (.tmp 0)) (some ((.tmp 2), true)),
         .run (.call ⟨.value (.func 24), #[(.tmp 0)], #[5]⟩) (some ((.tmp 3), true)),
         .run (.pick (.tmp 4) (.tmp 0) (.const (.bool false))) (some ((.tmp 9), true)),
         .run (.unOp .not 4 (.tmp 0)) (some ((.tmp 10), true)),
         .run (.pick (.tmp 11) (.tmp 0) (.const (.bool false))) none] [(11, 0)]))) (
       .seq (
       .reg [.get 7,
         .get 0,
         .get 7,
         .run (.slice 9 (.tmp 1) (some (.tmp 0)) none none) none,
         .run (.call ⟨.value (.func 27), #[(.tmp 0)], #[9]⟩) none,
         .run (.binOp .add 3 (.tmp 4) (.tmp 0) 3) none] [(10, 0)]) (
       .reg [.get 10,
         .get 7,
         .run (.binOp .gtr 3 (.tmp 1) (.tmp 0) 3) none] [(11, 0)])))))) (
   .seq (
   .seq (
   .reg [.get 11,
     .run (.unOp .not 4 (.tmp 0)) none] [(121, 0)]) (
   .cond (.tmp 121) (
     .seq (
     .reg [.get 7,
       .run (.assign (.const (.slice none 0 0))) none,
       .run (.assign (.const (.int .i64 63))) none] [(4, 0), (3, 2), (2, 1)]) (
     .ret)) (
     .skip))) (
   .seq (
   .reg [.get 0,
     .get 7,
     .get 10,
     .run (.slice 9 (.tmp 2) (some (.tmp 1)) (some (.tmp 0)) none) none,
     .run (.fieldAddr 36 (.tmp (far + 9)) 1) none,
     .run (.store 9 (.tmp 0) (.tmp 1)) none] []) (
   .seq (
   .reg [.get 5,
     .run (.load 36 (.tmp (far + 9))) none,
     .run (.buildSlice 30 1 #[(0, (.tmp 0))]) none,
     .run (.call ⟨.builtin .append, #[(.tmp 2), (.tmp 0)], #[30, 30]⟩) none] [(5, 0)]) (
   .reg [.get 10] [(7, 0)])))))))))))))) (
.seq (
.reg [.get 5,
  .run (.assign (.const (.int .i64 0))) none,
  .run (.assign (.const (.int .i64 0))) none] [(4, 0), (3, 1), (2, 2)]) (
.ret)))))))
theorem fn_ref01_Tokens : V.F 15 = some Tryd.f15 := by kernel_rfl
theorem is_ref01_Tokens : (V.F 15).isSome = true := by rw [fn_ref01_Tokens]; rfl
noncomputable def c_ref01_Tokens : Code := match Tryd.f15.body with
  | some c => c
  | none => .skip
theorem b_ref01_Tokens : Tryd.f15.body = some c_ref01_Tokens := rfl
theorem pc_ref01_Tokens : pcOf V Tryd.f15.ntmps (some (liveOf Tryd.f15 c_ref01_Tokens)) c_ref01_Tokens = some P_ref01_Tokens := by kernel_rfl
theorem Lc.ref01_Tokens {O : Orc} {vs : List Value} {H : AH} {R : Value → AH → Prop} (ho : O 15 vs H = none) (hlen : vs.length ≤ Tryd.f15.ntmps) (hlive : (List.range vs.length).all (isLive (some (liveOf Tryd.f15 c_ref01_Tokens))) = true)
    (h : WP V O (some (liveOf Tryd.f15 c_ref01_Tokens)) Tryd.f15.ntmps P_ref01_Tokens (initL vs 0) H fun e l H' => (e = .normal ∨ e = .ret) ∧ ∃ rs, resL V l H' Tryd.f15.results.toList = some rs ∧ R (resOf rs) H') : ∃ v H', Lc V O 15 vs H v H' ∧ R v H' :=
  Lc.fnP ho fn_ref01_Tokens b_ref01_Tokens pc_ref01_Tokens hlen hlive h
/- bobbin/bobbinref01.Same -/
abbrev F_ref01_Same : FuncId := 16
def P_ref01_Same : PC :=
.seq (
.reg [.run (.assign (.const (.bool false))) none] [(4, 0)]) (
.seq (
.seq (
.reg [.get 0,
  .run (.call ⟨.builtin .len, #[(.tmp 0)], #[30]⟩) none,
  .get 1,
  .run (.call ⟨.builtin .len, #[(.tmp 0)], #[30]⟩) none,
  .run (.binOp .neq 3 (.tmp 2) (.tmp 0) 3) none] [(10, 0)]) (
.cond (.tmp 10) (
  .seq (
  .reg [.run (.assign (.const (.bool false))) none] [(4, 0)]) (
  .ret)) (
  .skip))) (
.seq (
.seq (
.reg [.run (.assign (.const (.int .i64 0))) none] [(5, 0)]) (
.block 0 (
 .loop (
  .seq (
  .seq (
  .reg [.get 5,
    .get 0,
    .run (.call ⟨.builtin .len, #[(.tmp 0)], #[30]⟩) none,
    .run (.binOp .lss 3 (.tmp 2) (.tmp 0) 3) none] [(14, 0)]) (
  .cond (.tmp 14) (
    .skip) (
    .exit 0))) (
  .seq (
  .block 1 (
   .seq (
   .reg [.get 0,
     .get 5,
     .run (.indexAddr 30 (.tmp 1) (.tmp 0)) none,
     .run (.load 36 (.tmp 0)) none,
     .get 1,
     .get 5,
     .run (.indexAddr 30 (.tmp 1) (.tmp 0)) none,
     .run (.load 36 (.tmp 0)) none,
     .run (.binOp .neq 36 (.tmp 4) (.tmp 0) 36) none] [(25, 0)]) (
   .cond (.tmp 25) (
     .seq (
     .reg [.run (.assign (.const (.bool false))) none] [(4, 0)]) (
     .ret)) (
     .skip)))) (
  .reg [.get 5,
    .run (.binOp .add 3 (.tmp 0) (.const (.int .i64 1)) 3) none] [(5, 0)])))))) (
.seq (
.reg [.run (.assign (.const (.bool true))) none] [(4, 0)]) (
.ret))))
theorem fn_ref01_Same : V.F 16 = some Tryd.f16 := by kernel_rfl
theorem is_ref01_Same : (V.F 16).isSome = true := by rw [fn_ref01_Same]; rfl
noncomputable def c_ref01_Same : Code := match Tryd.f16.body with
  | some c => c
  | none => .skip
theorem b_ref01_Same : Tryd.f16.body = some c_ref01_Same := rfl
theorem pc_ref01_Same : pcOf V Tryd.f16.ntmps (some (liveOf Tryd.f16 c_ref01_Same)) c_ref01_Same = some P_ref01_Same := by kernel_rfl
theorem Lc.ref01_Same {O : Orc} {vs : List Value} {H : AH} {R : Value → AH → Prop} (ho : O 16 vs H = none) (hlen : vs.length ≤ Tryd.f16.ntmps) (hlive : (List.range vs.length).all (isLive (some (liveOf Tryd.f16 c_ref01_Same))) = true)
    (h : WP V O (some (liveOf Tryd.f16 c_ref01_Same)) Tryd.f16.ntmps P_ref01_Same (initL vs 0) H fun e l H' => (e = .normal ∨ e = .ret) ∧ ∃ rs, resL V l H' Tryd.f16.results.toList = some rs ∧ R (resOf rs) H') : ∃ v H', Lc V O 16 vs H v H' ∧ R v H' :=
  Lc.fnP ho fn_ref01_Same b_ref01_Same pc_ref01_Same hlen hlive h
/- bobbin/bobbinref01.Name -/
abbrev F_ref01_Name : FuncId := 17
def P_ref01_Name : PC :=
.seq (
.reg [.run (.assign (.const (.bool false))) none] [(2, 0)]) (
.seq (
.seq (
.reg [.get 0,
  .run (.call ⟨.builtin .len, #[(.tmp 0)], #[9]⟩) none,
  .run (.binOp .lss 3 (.tmp 0) (.const (.int .i64 1)) 3) none,
  .run (.move (.tmp (far + 0))) (some ((.tmp 0), false)),
  .run (.call ⟨.builtin .len, #[(.tmp 0)], #[9]⟩) (some ((.tmp 1), false)),
  .run (.binOp .gtr 3 (.tmp 0) (.const (.int .i64 32)) 3) (some ((.tmp 2), false)),
  .run (.pick (.tmp 3) (.const (.bool true)) (.tmp 0)) none,
  .run (.move (.tmp (far + 0))) (some ((.tmp 0), false)),
  .run (.index 9 (.tmp 0) (.const (.int .i64 0))) (some ((.tmp 1), false)),
  .run (.call ⟨.value (.func 25), #[(.tmp 0)], #[5]⟩) (some ((.tmp 2), false)),
  .run (.pick (.tmp 3) (.const (.bool true)) (.tmp 0)) none] [(16, 0)]) (
.cond (.tmp 16) (
  .seq (
  .reg [.run (.assign (.const (.bool false))) none] [(2, 0)]) (
  .ret)) (
  .skip))) (
.seq (
.seq (
.reg [.run (.assign (.const (.int .i64 0))) none] [(3, 0)]) (
.block 0 (
 .loop (
  .seq (
  .seq (
  .reg [.get 3,
    .get 0,
    .run (.call ⟨.builtin .len, #[(.tmp 0)], #[9]⟩) none,
    .run (.binOp .lss 3 (.tmp 2) (.tmp 0) 3) none] [(20, 0)]) (
  .cond (.tmp 20) (
    .skip) (
    .exit 0))) (
  .seq (
  .block 1 (
   .seq (
   .reg [.get 0,
     .get 3,
     .run (.index 9 (.tmp 1) (.tmp 0)) none,
     .run (.call ⟨.value (.func 24), #[(.tmp 0)], #[5]⟩) none,
     .run (.unOp .not 4 (.tmp 0)) none,
     .run (.move (.tmp (far + 0))) (some ((.tmp 0), true)),
     .run (.move (.tmp (far + 3))) (some ((.tmp 1), true)),
     .run (.index 9 (.tmp 1) (.tmp 0)) (some ((.tmp 2), true)),
     .run (.call ⟨.value (.func 25), #[(.tmp 0)], #[5]⟩) (some ((.tmp 3), true)),
     .run (.unOp .not 4 (.tmp 0)) (some ((.tmp 4), true)),
     .run (.pick (.tmp 5) (.tmp 0) (.const (.bool false))) none] [(34, 0)]) (
   .cond (.tmp 34) (
     .seq (
     .reg [.run (.assign (.const (.bool false))) none] [(2, 0)]) (
     .ret)) (
     .skip)))) (
  .reg [.get 3,
    .run (.binOp .add 3 (.tmp 0) (.const (.int .i64 1)) 3) none] [(3, 0)])))))) (
.seq (
.reg [.get 0,
  .run (.call ⟨.value (.func 18), #[(.tmp 0)], #[9]⟩) none,
  .run (.unOp .not 4 (.tmp 0)) none] [(2, 0)]) (
.ret))))
theorem fn_ref01_Name : V.F 17 = some Tryd.f17 := by kernel_rfl
theorem is_ref01_Name : (V.F 17).isSome = true := by rw [fn_ref01_Name]; rfl
noncomputable def c_ref01_Name : Code := match Tryd.f17.body with
  | some c => c
  | none => .skip
theorem b_ref01_Name : Tryd.f17.body = some c_ref01_Name := rfl
theorem pc_ref01_Name : pcOf V Tryd.f17.ntmps (some (liveOf Tryd.f17 c_ref01_Name)) c_ref01_Name = some P_ref01_Name := by kernel_rfl
theorem Lc.ref01_Name {O : Orc} {vs : List Value} {H : AH} {R : Value → AH → Prop} (ho : O 17 vs H = none) (hlen : vs.length ≤ Tryd.f17.ntmps) (hlive : (List.range vs.length).all (isLive (some (liveOf Tryd.f17 c_ref01_Name))) = true)
    (h : WP V O (some (liveOf Tryd.f17 c_ref01_Name)) Tryd.f17.ntmps P_ref01_Name (initL vs 0) H fun e l H' => (e = .normal ∨ e = .ret) ∧ ∃ rs, resL V l H' Tryd.f17.results.toList = some rs ∧ R (resOf rs) H') : ∃ v H', Lc V O 17 vs H v H' ∧ R v H' :=
  Lc.fnP ho fn_ref01_Name b_ref01_Name pc_ref01_Name hlen hlive h
/- bobbin/bobbinref01.Reserved -/
abbrev F_ref01_Reserved : FuncId := 18
def P_ref01_Reserved : PC :=
.seq (
.reg [.run (.assign (.const (.bool false))) none] [(2, 0)]) (
.seq (
.reg [.get 0,
  .run (.buildSlice 28 15 #[(0, (.const (.string ⟨⟨[103, 108, 111, 98, 97, 108]⟩⟩))), (1, (.const (.string ⟨⟨[97, 114, 114, 97, 121]⟩⟩))), (2, (.const (.string ⟨⟨[108, 111, 99, 107]⟩⟩))), (3, (.const (.string ⟨⟨[102, 117, 110, 99]⟩⟩))), (4, (.const (.string ⟨⟨[116, 104, 114, 101, 97, 100]⟩⟩))), (5, (.const (.string ⟨⟨[118, 97, 114]⟩⟩))), (6, (.const (.string ⟨⟨[105, 102]⟩⟩))), (7, (.const (.string ⟨⟨[101, 108, 115, 101]⟩⟩))), (8, (.const (.string ⟨⟨[119, 104, 105, 108, 101]⟩⟩))), (9, (.const (.string ⟨⟨[119, 105, 116, 104]⟩⟩))), (10, (.const (.string ⟨⟨[112, 114, 105, 110, 116]⟩⟩))), (11, (.const (.string ⟨⟨[99, 97, 108, 108]⟩⟩))), (12, (.const (.string ⟨⟨[114, 101, 116, 117, 114, 110]⟩⟩))), (13, (.const (.string ⟨⟨[116, 114, 117, 101]⟩⟩))), (14, (.const (.string ⟨⟨[102, 97, 108, 115, 101]⟩⟩)))]) none,
  .run (.call ⟨.value (.func 28), #[(.tmp 1), (.tmp 0)], #[9, 28]⟩) none] [(2, 0)]) (
.ret))
theorem fn_ref01_Reserved : V.F 18 = some Tryd.f18 := by kernel_rfl
theorem is_ref01_Reserved : (V.F 18).isSome = true := by rw [fn_ref01_Reserved]; rfl
noncomputable def c_ref01_Reserved : Code := match Tryd.f18.body with
  | some c => c
  | none => .skip
theorem b_ref01_Reserved : Tryd.f18.body = some c_ref01_Reserved := rfl
theorem pc_ref01_Reserved : pcOf V Tryd.f18.ntmps (some (liveOf Tryd.f18 c_ref01_Reserved)) c_ref01_Reserved = some P_ref01_Reserved := by kernel_rfl
theorem Lc.ref01_Reserved {O : Orc} {vs : List Value} {H : AH} {R : Value → AH → Prop} (ho : O 18 vs H = none) (hlen : vs.length ≤ Tryd.f18.ntmps) (hlive : (List.range vs.length).all (isLive (some (liveOf Tryd.f18 c_ref01_Reserved))) = true)
    (h : WP V O (some (liveOf Tryd.f18 c_ref01_Reserved)) Tryd.f18.ntmps P_ref01_Reserved (initL vs 0) H fun e l H' => (e = .normal ∨ e = .ret) ∧ ∃ rs, resL V l H' Tryd.f18.results.toList = some rs ∧ R (resOf rs) H') : ∃ v H', Lc V O 18 vs H v H' ∧ R v H' :=
  Lc.fnP ho fn_ref01_Reserved b_ref01_Reserved pc_ref01_Reserved hlen hlive h
/- bobbin/bobbinref01.Idle -/
abbrev F_ref01_Idle : FuncId := 19
def P_ref01_Idle : PC :=
.seq (
.reg [.run (.assign (.const (.bool false))) none] [(2, 0)]) (
.seq (
.reg [.run (.assign (.const (.bool false))) none] [(3, 0)]) (
.seq (
.seq (
.reg [.run (.assign (.const (.int .i64 0))) none] [(4, 0)]) (
.block 0 (
 .loop (
  .seq (
  .seq (
  .reg [.get 4,
    .get 0,
    .run (.call ⟨.builtin .len, #[(.tmp 0)], #[9]⟩) none,
    .run (.binOp .lss 3 (.tmp 2) (.tmp 0) 3) none] [(8, 0)]) (
  .cond (.tmp 8) (
    .skip) (
    .exit 0))) (
  .seq (
  .block 1 (
   .seq (
   .reg [.get 3,
     .run (.move (.tmp (far + 0))) (some ((.tmp 0), false)),
     .run (.move (.tmp (far + 4))) (some ((.tmp 1), false)),
     .run (.index 9 (.tmp 1) (.tmp 0)) (some ((.tmp 2), false)),
     .run (.binOp .eql 5 (.tmp 0) (.const (.int .u8 35)) 5) (some ((.tmp 3), false)),
     .run (.pick (.tmp 4) (.const (.bool true)) (.tmp 0)) none,
     .run (.move (.tmp (far + 0))) (some ((.tmp 0), true)),
     .run (.move (.tmp (far + 4))) (some ((.tmp 1), true)),
     .run (.index 9 (.tmp 1) (.tmp 0)) (some ((.tmp 2), true)),
     .run (.binOp .neq 5 (.tmp 0) (.const (.int .u8 10)) 5) (some ((.tmp 3), true)),
     .run (.pick (.tmp 4) (.tmp 0) (.const (.bool false))) none] [(3, 0)]) (
   .seq (
   .reg [.get 3,
     .run (.unOp .not 4 (.tmp 0)) none,
     .run (.move (.tmp (far + 0))) (some ((.tmp 0), true)),
     .run (.move (.tmp (far + 4))) (some ((.tmp 1), true)),
     .run (.index 9 (.tmp 1) (.tmp 0)) (some ((.tmp 2), true)),
     .run (.binOp .neq 5 (.tmp 0) (.const (.int .u8 32)) 5) (some ((.tmp 3), true)),
     .run (.pick (.tmp 4) (.tmp 0) (.const (.bool false))) none,
     .run (.move (.tmp (far + 0))) (some ((.tmp 0), true)),
     .run (.move (.tmp (far + 4))) (some ((.tmp 1), true)),
     .run (.index 9 (.tmp 1) (.tmp 0)) (some ((.tmp 2), true)),
     .run (.binOp .neq 5 (.tmp 0) (.const (.int .u8 9)) 5) (some ((.tmp 3), true)),
     .run (.pick (.tmp 4) (.tmp 0) (.const (.bool false))) none,
     .run (.move (.tmp (far + 0))) (some ((.tmp 0), true)),
     .run (.move (.tmp (far + 4))) (some ((.tmp 1), true)),
     .run (.index 9 (.tmp 1) (.tmp 0)) (some ((.tmp 2), true)),
     .run (.binOp .neq 5 (.tmp 0) (.const (.int .u8 10)) 5) (some ((.tmp 3), true)),
     .run (.pick (.tmp 4) (.tmp 0) (.const (.bool false))) none] [(43, 0)]) (
   .cond (.tmp 43) (
     .seq (
     .reg [.run (.assign (.const (.bool false))) none] [(2, 0)]) (
     .ret)) (
     .skip))))) (
  .reg [.get 4,
    .run (.binOp .add 3 (.tmp 0) (.const (.int .i64 1)) 3) none] [(4, 0)])))))) (
.seq (
.reg [.run (.assign (.const (.bool true))) none] [(2, 0)]) (
.ret))))
theorem fn_ref01_Idle : V.F 19 = some Tryd.f19 := by kernel_rfl
theorem is_ref01_Idle : (V.F 19).isSome = true := by rw [fn_ref01_Idle]; rfl
noncomputable def c_ref01_Idle : Code := match Tryd.f19.body with
  | some c => c
  | none => .skip
theorem b_ref01_Idle : Tryd.f19.body = some c_ref01_Idle := rfl
theorem pc_ref01_Idle : pcOf V Tryd.f19.ntmps (some (liveOf Tryd.f19 c_ref01_Idle)) c_ref01_Idle = some P_ref01_Idle := by kernel_rfl
theorem Lc.ref01_Idle {O : Orc} {vs : List Value} {H : AH} {R : Value → AH → Prop} (ho : O 19 vs H = none) (hlen : vs.length ≤ Tryd.f19.ntmps) (hlive : (List.range vs.length).all (isLive (some (liveOf Tryd.f19 c_ref01_Idle))) = true)
    (h : WP V O (some (liveOf Tryd.f19 c_ref01_Idle)) Tryd.f19.ntmps P_ref01_Idle (initL vs 0) H fun e l H' => (e = .normal ∨ e = .ret) ∧ ∃ rs, resL V l H' Tryd.f19.results.toList = some rs ∧ R (resOf rs) H') : ∃ v H', Lc V O 19 vs H v H' ∧ R v H' :=
  Lc.fnP ho fn_ref01_Idle b_ref01_Idle pc_ref01_Idle hlen hlive h
/- slices.Contains[[]string,string] -/
abbrev F_slices_Contains_s_string_string : FuncId := 20
def P_slices_Contains_s_string_string : PC :=
.seq (
.reg [.run (.assign (.const (.bool false))) none] [(4, 0)]) (
.seq (
.reg [.get 0,
  .get 1,
  .run (.call ⟨.value (.func 29), #[(.tmp 1), (.tmp 0)], #[28, 9]⟩) none,
  .run (.binOp .geq 3 (.tmp 0) (.const (.int .i64 0)) 3) none] [(4, 0)]) (
.ret))
theorem fn_slices_Contains_s_string_string : V.F 20 = some Tryd.f20 := by kernel_rfl
theorem is_slices_Contains_s_string_string : (V.F 20).isSome = true := by rw [fn_slices_Contains_s_string_string]; rfl
noncomputable def c_slices_Contains_s_string_string : Code := match Tryd.f20.body with
  | some c => c
  | none => .skip
theorem b_slices_Contains_s_string_string : Tryd.f20.body = some c_slices_Contains_s_string_string := rfl
theorem pc_slices_Contains_s_string_string : pcOf V Tryd.f20.ntmps (some (liveOf Tryd.f20 c_slices_Contains_s_string_string)) c_slices_Contains_s_string_string = some P_slices_Contains_s_string_string := by kernel_rfl
theorem Lc.slices_Contains_s_string_string {O : Orc} {vs : List Value} {H : AH} {R : Value → AH → Prop} (ho : O 20 vs H = none) (hlen : vs.length ≤ Tryd.f20.ntmps) (hlive : (List.range vs.length).all (isLive (some (liveOf Tryd.f20 c_slices_Contains_s_string_string))) = true)
    (h : WP V O (some (liveOf Tryd.f20 c_slices_Contains_s_string_string)) Tryd.f20.ntmps P_slices_Contains_s_string_string (initL vs 0) H fun e l H' => (e = .normal ∨ e = .ret) ∧ ∃ rs, resL V l H' Tryd.f20.results.toList = some rs ∧ R (resOf rs) H') : ∃ v H', Lc V O 20 vs H v H' ∧ R v H' :=
  Lc.fnP ho fn_slices_Contains_s_string_string b_slices_Contains_s_string_string pc_slices_Contains_s_string_string hlen hlive h
/- bobbin/lex.word -/
abbrev F_lex_word : FuncId := 21
def P_lex_word : PC :=
.seq (
.reg [.run (.assign (.const (.int .i64 0))) none] [(2, 0)]) (
.seq (
.seq (
.reg [.get 0,
  .run (.binOp .eql 9 (.tmp 0) (.const (.string ⟨⟨[]⟩⟩)) 9) none,
  .run (.move (.tmp (far + 0))) (some ((.tmp 0), false)),
  .run (.index 9 (.tmp 0) (.const (.int .i64 0))) (some ((.tmp 1), false)),
  .run (.call ⟨.value (.func 30), #[(.tmp 0)], #[5]⟩) (some ((.tmp 2), false)),
  .run (.unOp .not 4 (.tmp 0)) (some ((.tmp 3), false)),
  .run (.pick (.tmp 4) (.const (.bool true)) (.tmp 0)) none] [(10, 0)]) (
.cond (.tmp 10) (
  .seq (
  .reg [.run (.assign (.const (.int .i64 0))) none] [(2, 0)]) (
  .ret)) (
  .skip))) (
.seq (
.reg [.get 0,
  .run (.call ⟨.value (.func 31), #[(.tmp 0), (.func 32)], #[9, 46]⟩) none] [(2, 0)]) (
.ret)))
theorem fn_lex_word : V.F 21 = some Tryd.f21 := by kernel_rfl
theorem is_lex_word : (V.F 21).isSome = true := by rw [fn_lex_word]; rfl
noncomputable def c_lex_word : Code := match Tryd.f21.body with
  | some c => c
  | none => .skip
theorem b_lex_word : Tryd.f21.body = some c_lex_word := rfl
theorem pc_lex_word : pcOf V Tryd.f21.ntmps (some (liveOf Tryd.f21 c_lex_word)) c_lex_word = some P_lex_word := by kernel_rfl
theorem Lc.lex_word {O : Orc} {vs : List Value} {H : AH} {R : Value → AH → Prop} (ho : O 21 vs H = none) (hlen : vs.length ≤ Tryd.f21.ntmps) (hlive : (List.range vs.length).all (isLive (some (liveOf Tryd.f21 c_lex_word))) = true)
    (h : WP V O (some (liveOf Tryd.f21 c_lex_word)) Tryd.f21.ntmps P_lex_word (initL vs 0) H fun e l H' => (e = .normal ∨ e = .ret) ∧ ∃ rs, resL V l H' Tryd.f21.results.toList = some rs ∧ R (resOf rs) H') : ∃ v H', Lc V O 21 vs H v H' ∧ R v H' :=
  Lc.fnP ho fn_lex_word b_lex_word pc_lex_word hlen hlive h
/- bobbin/lex.blank -/
abbrev F_lex_blank : FuncId := 22
def P_lex_blank : PC :=
.seq (
.reg [.run (.assign (.const (.int .i64 0))) none] [(2, 0)]) (
.seq (
.seq (
.reg [.get 0,
  .run (.index 9 (.tmp 0) (.const (.int .i64 0))) none,
  .run (.binOp .eql 5 (.tmp 0) (.const (.int .u8 35)) 5) none] [(5, 0)]) (
.cond (.tmp 5) (
  .seq (
  .reg [.get 0,
    .run (.call ⟨.value (.func 31), #[(.tmp 0), (.func 34)], #[9, 46]⟩) none] [(2, 0)]) (
  .ret)) (
  .skip))) (
.seq (
.reg [.get 0,
  .run (.call ⟨.value (.func 31), #[(.tmp 0), (.func 35)], #[9, 46]⟩) none] [(2, 0)]) (
.ret)))
theorem fn_lex_blank : V.F 22 = some Tryd.f22 := by kernel_rfl
theorem is_lex_blank : (V.F 22).isSome = true := by rw [fn_lex_blank]; rfl
noncomputable def c_lex_blank : Code := match Tryd.f22.body with
  | some c => c
  | none => .skip
theorem b_lex_blank : Tryd.f22.body = some c_lex_blank := rfl
theorem pc_lex_blank : pcOf V Tryd.f22.ntmps (some (liveOf Tryd.f22 c_lex_blank)) c_lex_blank = some P_lex_blank := by kernel_rfl
theorem Lc.lex_blank {O : Orc} {vs : List Value} {H : AH} {R : Value → AH → Prop} (ho : O 22 vs H = none) (hlen : vs.length ≤ Tryd.f22.ntmps) (hlive : (List.range vs.length).all (isLive (some (liveOf Tryd.f22 c_lex_blank))) = true)
    (h : WP V O (some (liveOf Tryd.f22 c_lex_blank)) Tryd.f22.ntmps P_lex_blank (initL vs 0) H fun e l H' => (e = .normal ∨ e = .ret) ∧ ∃ rs, resL V l H' Tryd.f22.results.toList = some rs ∧ R (resOf rs) H') : ∃ v H', Lc V O 22 vs H v H' ∧ R v H' :=
  Lc.fnP ho fn_lex_blank b_lex_blank pc_lex_blank hlen hlive h
/- bobbin/lex.token -/
abbrev F_lex_token : FuncId := 23
def P_lex_token : PC :=
.seq (
.reg [.run (.box 9 (.tmp (far + 0))) none,
  .run (.assign (.const (.int .u8 0))) none,
  .run (.assign (.const (.int .i64 0))) none,
  .run (.assign (.const (.bool false))) none] [(4, 0), (3, 1), (2, 2), (1, 3)]) (
.seq (
.seq (
.reg [.run (.load 9 (.tmp (far + 1))) none,
  .run (.call ⟨.value (.func 21), #[(.tmp 0)], #[9]⟩) none] [(5, 0)]) (
.seq (
.reg [.get 5,
  .run (.binOp .gtr 3 (.tmp 0) (.const (.int .i64 0)) 3) none] [(11, 0)]) (
.cond (.tmp 11) (
  .seq (
  .reg [.get 5,
    .get 5,
    .run (.binOp .leq 3 (.tmp 0) (.const (.int .i64 32)) 3) none,
    .run (.assign (.const (.int .u8 1))) none] [(4, 1), (3, 3), (2, 0)]) (
  .ret)) (
  .skip)))) (
.seq (
.seq (
.reg [.run (.load 9 (.tmp (far + 1))) none,
  .run (.call ⟨.value (.func 31), #[(.tmp 0), (.func 33)], #[9, 46]⟩) none] [(6, 0)]) (
.seq (
.reg [.get 6,
  .run (.binOp .gtr 3 (.tmp 0) (.const (.int .i64 0)) 3) none] [(18, 0)]) (
.cond (.tmp 18) (
  .seq (
  .reg [.get 6,
    .run (.load 9 (.tmp (far + 1))) none,
    .get 6,
    .run (.slice 9 (.tmp 1) none (some (.tmp 0)) none) none,
    .run (.call ⟨.value (.func 36), #[(.tmp 0)], #[9]⟩) none,
    .run (.move (.tmp (far + 6))) (some ((.tmp 0), true)),
    .run (.load 9 (.tmp (far + 1))) (some ((.tmp 1), true)),
    .run (.call ⟨.builtin .len, #[(.tmp 0)], #[9]⟩) (some ((.tmp 2), true)),
    .run (.binOp .eql 3 (.tmp 2) (.tmp 0) 3) (some ((.tmp 3), true)),
    .run (.move (.tmp 0)) (some ((.tmp 4), true)),
    .run (.load 9 (.tmp (far + 1))) (some ((.tmp 0), false)),
    .run (.move (.tmp (far + 6))) (some ((.tmp 1), false)),
    .run (.index 9 (.tmp 1) (.tmp 0)) (some ((.tmp 2), false)),
    .run (.call ⟨.value (.func 30), #[(.tmp 0)], #[5]⟩) (some ((.tmp 3), false)),
    .run (.unOp .not 4 (.tmp 0)) (some ((.tmp 4), false)),
    .run (.pick (.tmp 5) (.const (.bool true)) (.tmp 0)) (some ((.tmp 10), true)),
    .run (.pick (.tmp 11) (.tmp 0) (.const (.bool false))) none,
    .run (.assign (.const (.int .u8 2))) none] [(4, 1), (3, 17), (2, 0)]) (
  .ret)) (
  .skip)))) (
.seq (
.reg [.run (.slice 51 (.global 0) none none none) none,
  .run (.makeFunc (.func 38) #[] #[(.tmp (far + 1))]) none,
  .run (.call ⟨.value (.func 37), #[(.tmp 1), (.tmp 0)], #[28, 29]⟩) none] [(7, 0)]) (
.seq (
.seq (
.reg [.get 7,
  .run (.binOp .lss 3 (.tmp 0) (.const (.int .i64 0)) 3) none] [(41, 0)]) (
.cond (.tmp 41) (
  .seq (
  .reg [.run (.assign (.const (.int .u8 0))) none,
    .run (.assign (.const (.int .i64 0))) none,
    .run (.assign (.const (.bool false))) none] [(4, 0), (3, 1), (2, 2)]) (
  .ret)) (
  .skip))) (
.seq (
.reg [.get 7,
  .run (.indexAddr 51 (.global 0) (.tmp 0)) none,
  .run (.load 9 (.tmp 0)) none,
  .run (.call ⟨.builtin .len, #[(.tmp 0)], #[9]⟩) none,
  .run (.assign (.const (.int .u8 3))) none,
  .run (.assign (.const (.bool true))) none] [(4, 0), (3, 2), (2, 1)]) (
.ret))))))
theorem fn_lex_token : V.F 23 = some Tryd.f23 := by kernel_rfl
theorem is_lex_token : (V.F 23).isSome = true := by rw [fn_lex_token]; rfl
noncomputable def c_lex_token : Code := match Tryd.f23.body with
  | some c => c
  | none => .skip
theorem b_lex_token : Tryd.f23.body = some c_lex_token := rfl
theorem pc_lex_token : pcOf V Tryd.f23.ntmps (some (liveOf Tryd.f23 c_lex_token)) c_lex_token = some P_lex_token := by kernel_rfl
theorem Lc.lex_token {O : Orc} {vs : List Value} {H : AH} {R : Value → AH → Prop} (ho : O 23 vs H = none) (hlen : vs.length ≤ Tryd.f23.ntmps) (hlive : (List.range vs.length).all (isLive (some (liveOf Tryd.f23 c_lex_token))) = true)
    (h : WP V O (some (liveOf Tryd.f23 c_lex_token)) Tryd.f23.ntmps P_lex_token (initL vs 0) H fun e l H' => (e = .normal ∨ e = .ret) ∧ ∃ rs, resL V l H' Tryd.f23.results.toList = some rs ∧ R (resOf rs) H') : ∃ v H', Lc V O 23 vs H v H' ∧ R v H' :=
  Lc.fnP ho fn_lex_token b_lex_token pc_lex_token hlen hlive h
/- bobbin/bobbinref01.letter -/
abbrev F_ref01_letter : FuncId := 24
def P_ref01_letter : PC :=
.seq (
.reg [.run (.assign (.const (.bool false))) none] [(2, 0)]) (
.seq (
.reg [.get 0,
  .run (.binOp .geq 5 (.tmp 0) (.const (.int .u8 97)) 5) none,
  .run (.move (.tmp (far + 0))) (some ((.tmp 0), true)),
  .run (.binOp .leq 5 (.tmp 0) (.const (.int .u8 122)) 5) (some ((.tmp 1), true)),
  .run (.pick (.tmp 2) (.tmp 0) (.const (.bool false))) none,
  .run (.move (.tmp (far + 0))) (some ((.tmp 0), false)),
  .run (.binOp .geq 5 (.tmp 0) (.const (.int .u8 65)) 5) (some ((.tmp 1), false)),
  .run (.move (.tmp 0)) (some ((.tmp 2), false)),
  .run (.move (.tmp (far + 0))) (some ((.tmp 0), true)),
  .run (.binOp .leq 5 (.tmp 0) (.const (.int .u8 90)) 5) (some ((.tmp 1), true)),
  .run (.pick (.tmp 2) (.tmp 0) (.const (.bool false))) (some ((.tmp 5), false)),
  .run (.pick (.tmp 6) (.const (.bool true)) (.tmp 0)) none,
  .run (.move (.tmp (far + 0))) (some ((.tmp 0), false)),
  .run (.binOp .eql 5 (.tmp 0) (.const (.int .u8 95)) 5) (some ((.tmp 1), false)),
  .run (.pick (.tmp 2) (.const (.bool true)) (.tmp 0)) none] [(2, 0)]) (
.ret))
theorem fn_ref01_letter : V.F 24 = some Tryd.f24 := by kernel_rfl
theorem is_ref01_letter : (V.F 24).isSome = true := by rw [fn_ref01_letter]; rfl
noncomputable def c_ref01_letter : Code := match Tryd.f24.body with
  | some c => c
  | none => .skip
theorem b_ref01_letter : Tryd.f24.body = some c_ref01_letter := rfl
theorem pc_ref01_letter : pcOf V Tryd.f24.ntmps (some (liveOf Tryd.f24 c_ref01_letter)) c_ref01_letter = some P_ref01_letter := by kernel_rfl
theorem Lc.ref01_letter {O : Orc} {vs : List Value} {H : AH} {R : Value → AH → Prop} (ho : O 24 vs H = none) (hlen : vs.length ≤ Tryd.f24.ntmps) (hlive : (List.range vs.length).all (isLive (some (liveOf Tryd.f24 c_ref01_letter))) = true)
    (h : WP V O (some (liveOf Tryd.f24 c_ref01_letter)) Tryd.f24.ntmps P_ref01_letter (initL vs 0) H fun e l H' => (e = .normal ∨ e = .ret) ∧ ∃ rs, resL V l H' Tryd.f24.results.toList = some rs ∧ R (resOf rs) H') : ∃ v H', Lc V O 24 vs H v H' ∧ R v H' :=
  Lc.fnP ho fn_ref01_letter b_ref01_letter pc_ref01_letter hlen hlive h
/- bobbin/bobbinref01.digit -/
abbrev F_ref01_digit : FuncId := 25
def P_ref01_digit : PC :=
.seq (
.reg [.run (.assign (.const (.bool false))) none] [(2, 0)]) (
.seq (
.reg [.get 0,
  .run (.binOp .geq 5 (.tmp 0) (.const (.int .u8 48)) 5) none,
  .run (.move (.tmp (far + 0))) (some ((.tmp 0), true)),
  .run (.binOp .leq 5 (.tmp 0) (.const (.int .u8 57)) 5) (some ((.tmp 1), true)),
  .run (.pick (.tmp 2) (.tmp 0) (.const (.bool false))) none] [(2, 0)]) (
.ret))
theorem fn_ref01_digit : V.F 25 = some Tryd.f25 := by kernel_rfl
theorem is_ref01_digit : (V.F 25).isSome = true := by rw [fn_ref01_digit]; rfl
noncomputable def c_ref01_digit : Code := match Tryd.f25.body with
  | some c => c
  | none => .skip
theorem b_ref01_digit : Tryd.f25.body = some c_ref01_digit := rfl
theorem pc_ref01_digit : pcOf V Tryd.f25.ntmps (some (liveOf Tryd.f25 c_ref01_digit)) c_ref01_digit = some P_ref01_digit := by kernel_rfl
theorem Lc.ref01_digit {O : Orc} {vs : List Value} {H : AH} {R : Value → AH → Prop} (ho : O 25 vs H = none) (hlen : vs.length ≤ Tryd.f25.ntmps) (hlive : (List.range vs.length).all (isLive (some (liveOf Tryd.f25 c_ref01_digit))) = true)
    (h : WP V O (some (liveOf Tryd.f25 c_ref01_digit)) Tryd.f25.ntmps P_ref01_digit (initL vs 0) H fun e l H' => (e = .normal ∨ e = .ret) ∧ ∃ rs, resL V l H' Tryd.f25.results.toList = some rs ∧ R (resOf rs) H') : ∃ v H', Lc V O 25 vs H v H' ∧ R v H' :=
  Lc.fnP ho fn_ref01_digit b_ref01_digit pc_ref01_digit hlen hlive h
/- bobbin/bobbinref01.number -/
abbrev F_ref01_number : FuncId := 26
def P_ref01_number : PC :=
.seq (
.reg [.run (.assign (.const (.bool false))) none] [(2, 0)]) (
.seq (
.seq (
.reg [.get 0,
  .run (.call ⟨.builtin .len, #[(.tmp 0)], #[9]⟩) none,
  .run (.binOp .gtr 3 (.tmp 0) (.const (.int .i64 19)) 3) none,
  .run (.move (.tmp (far + 0))) (some ((.tmp 0), false)),
  .run (.call ⟨.builtin .len, #[(.tmp 0)], #[9]⟩) (some ((.tmp 1), false)),
  .run (.binOp .gtr 3 (.tmp 0) (.const (.int .i64 1)) 3) (some ((.tmp 2), false)),
  .run (.move (.tmp 0)) (some ((.tmp 3), false)),
  .run (.move (.tmp (far + 0))) (some ((.tmp 0), true)),
  .run (.index 9 (.tmp 0) (.const (.int .i64 0))) (some ((.tmp 1), true)),
  .run (.binOp .eql 5 (.tmp 0) (.const (.int .u8 48)) 5) (some ((.tmp 2), true)),
  .run (.pick (.tmp 3) (.tmp 0) (.const (.bool false))) (some ((.tmp 7), false)),
  .run (.pick (.tmp 8) (.const (.bool true)) (.tmp 0)) none] [(17, 0)]) (
.cond (.tmp 17) (
  .seq (
  .reg [.run (.assign (.const (.bool false))) none] [(2, 0)]) (
  .ret)) (
  .skip))) (
.seq (
.reg [.run (.assign (.const (.int .u64 0))) none] [(3, 0)]) (
.seq (
.seq (
.reg [.run (.assign (.const (.int .i64 0))) none] [(4, 0)]) (
.block 0 (
 .loop (
  .seq (
  .seq (
  .reg [.get 4,
    .get 0,
    .run (.call ⟨.builtin .len, #[(.tmp 0)], #[9]⟩) none,
    .run (.binOp .lss 3 (.tmp 2) (.tmp 0) 3) none] [(21, 0)]) (
  .cond (.tmp 21) (
    .skip) (
    .exit 0))) (
  .seq (
  .block 1 (
   .reg [.get 3,
     .run (.binOp .mul 52 (.tmp 0) (.const (.int .u64 10)) 52) none,
     .get 0,
     .get 4,
     .run (.index 9 (.tmp 1) (.tmp 0)) none,
     .run (.binOp .sub 5 (.tmp 0) (.const (.int .u8 48)) 5) none,
     .run (.convert 5 52 (.tmp 0)) none,
     .run (.binOp .add 52 (.tmp 5) (.tmp 0) 52) none] [(3, 0)])) (
  .reg [.get 4,
    .run (.binOp .add 3 (.tmp 0) (.const (.int .i64 1)) 3) none] [(4, 0)])))))) (
.seq (
.reg [.get 3,
  .run (.binOp .leq 52 (.tmp 0) (.const (.int .u64 9223372036854775808)) 52) none] [(2, 0)]) (
.ret)))))
theorem fn_ref01_number : V.F 26 = some Tryd.f26 := by kernel_rfl
theorem is_ref01_number : (V.F 26).isSome = true := by rw [fn_ref01_number]; rfl
noncomputable def c_ref01_number : Code := match Tryd.f26.body with
  | some c => c
  | none => .skip
theorem b_ref01_number : Tryd.f26.body = some c_ref01_number := rfl
theorem pc_ref01_number : pcOf V Tryd.f26.ntmps (some (liveOf Tryd.f26 c_ref01_number)) c_ref01_number = some P_ref01_number := by kernel_rfl
theorem Lc.ref01_number {O : Orc} {vs : List Value} {H : AH} {R : Value → AH → Prop} (ho : O 26 vs H = none) (hlen : vs.length ≤ Tryd.f26.ntmps) (hlive : (List.range vs.length).all (isLive (some (liveOf Tryd.f26 c_ref01_number))) = true)
    (h : WP V O (some (liveOf Tryd.f26 c_ref01_number)) Tryd.f26.ntmps P_ref01_number (initL vs 0) H fun e l H' => (e = .normal ∨ e = .ret) ∧ ∃ rs, resL V l H' Tryd.f26.results.toList = some rs ∧ R (resOf rs) H') : ∃ v H', Lc V O 26 vs H v H' ∧ R v H' :=
  Lc.fnP ho fn_ref01_number b_ref01_number pc_ref01_number hlen hlive h
/- bobbin/bobbinref01.sign -/
abbrev F_ref01_sign : FuncId := 27
def P_ref01_sign : PC :=
.seq (
.reg [.run (.assign (.const (.int .i64 0))) none] [(2, 0)]) (
.seq (
.seq (
.reg [.get 0,
  .run (.call ⟨.builtin .len, #[(.tmp 0)], #[9]⟩) none,
  .run (.binOp .gtr 3 (.tmp 0) (.const (.int .i64 1)) 3) none,
  .run (.move (.tmp (far + 0))) (some ((.tmp 0), true)),
  .run (.slice 9 (.tmp 0) none (some (.const (.int .i64 2))) none) (some ((.tmp 1), true)),
  .run (.buildSlice 28 6 #[(0, (.const (.string ⟨⟨[124, 124]⟩⟩))), (1, (.const (.string ⟨⟨[38, 38]⟩⟩))), (2, (.const (.string ⟨⟨[60, 61]⟩⟩))), (3, (.const (.string ⟨⟨[62, 61]⟩⟩))), (4, (.const (.string ⟨⟨[61, 61]⟩⟩))), (5, (.const (.string ⟨⟨[33, 61]⟩⟩)))]) (some ((.tmp 2), true)),
  .run (.call ⟨.value (.func 28), #[(.tmp 1), (.tmp 0)], #[9, 28]⟩) (some ((.tmp 3), true)),
  .run (.pick (.tmp 4) (.tmp 0) (.const (.bool false))) none] [(11, 0)]) (
.cond (.tmp 11) (
  .seq (
  .reg [.run (.assign (.const (.int .i64 2))) none] [(2, 0)]) (
  .ret)) (
  .skip))) (
.seq (
.seq (
.reg [.get 0,
  .run (.slice 9 (.tmp 0) none (some (.const (.int .i64 1))) none) none,
  .run (.buildSlice 28 17 #[(0, (.const (.string ⟨⟨[60]⟩⟩))), (1, (.const (.string ⟨⟨[62]⟩⟩))), (2, (.const (.string ⟨⟨[61]⟩⟩))), (3, (.const (.string ⟨⟨[43]⟩⟩))), (4, (.const (.string ⟨⟨[45]⟩⟩))), (5, (.const (.string ⟨⟨[42]⟩⟩))), (6, (.const (.string ⟨⟨[47]⟩⟩))), (7, (.const (.string ⟨⟨[37]⟩⟩))), (8, (.const (.string ⟨⟨[33]⟩⟩))), (9, (.const (.string ⟨⟨[40]⟩⟩))), (10, (.const (.string ⟨⟨[41]⟩⟩))), (11, (.const (.string ⟨⟨[123]⟩⟩))), (12, (.const (.string ⟨⟨[125]⟩⟩))), (13, (.const (.string ⟨⟨[91]⟩⟩))), (14, (.const (.string ⟨⟨[93]⟩⟩))), (15, (.const (.string ⟨⟨[59]⟩⟩))), (16, (.const (.string ⟨⟨[44]⟩⟩)))]) none,
  .run (.call ⟨.value (.func 28), #[(.tmp 1), (.tmp 0)], #[9, 28]⟩) none] [(15, 0)]) (
.cond (.tmp 15) (
  .seq (
  .reg [.run (.assign (.const (.int .i64 1))) none] [(2, 0)]) (
  .ret)) (
  .skip))) (
.seq (
.reg [.run (.assign (.const (.int .i64 0))) none] [(2, 0)]) (
.ret))))
theorem fn_ref01_sign : V.F 27 = some Tryd.f27 := by kernel_rfl
theorem is_ref01_sign : (V.F 27).isSome = true := by rw [fn_ref01_sign]; rfl
noncomputable def c_ref01_sign : Code := match Tryd.f27.body with
  | some c => c
  | none => .skip
theorem b_ref01_sign : Tryd.f27.body = some c_ref01_sign := rfl
theorem pc_ref01_sign : pcOf V Tryd.f27.ntmps (some (liveOf Tryd.f27 c_ref01_sign)) c_ref01_sign = some P_ref01_sign := by kernel_rfl
theorem Lc.ref01_sign {O : Orc} {vs : List Value} {H : AH} {R : Value → AH → Prop} (ho : O 27 vs H = none) (hlen : vs.length ≤ Tryd.f27.ntmps) (hlive : (List.range vs.length).all (isLive (some (liveOf Tryd.f27 c_ref01_sign))) = true)
    (h : WP V O (some (liveOf Tryd.f27 c_ref01_sign)) Tryd.f27.ntmps P_ref01_sign (initL vs 0) H fun e l H' => (e = .normal ∨ e = .ret) ∧ ∃ rs, resL V l H' Tryd.f27.results.toList = some rs ∧ R (resOf rs) H') : ∃ v H', Lc V O 27 vs H v H' ∧ R v H' :=
  Lc.fnP ho fn_ref01_sign b_ref01_sign pc_ref01_sign hlen hlive h
/- bobbin/bobbinref01.among -/
abbrev F_ref01_among : FuncId := 28
def P_ref01_among : PC :=
.seq (
.reg [.run (.assign (.const (.bool false))) none] [(4, 0)]) (
.seq (
.seq (
.reg [.run (.assign (.const (.int .i64 0))) none] [(5, 0)]) (
.block 0 (
 .loop (
  .seq (
  .seq (
  .reg [.get 5,
    .get 1,
    .run (.call ⟨.builtin .len, #[(.tmp 0)], #[28]⟩) none,
    .run (.binOp .lss 3 (.tmp 2) (.tmp 0) 3) none] [(9, 0)]) (
  .cond (.tmp 9) (
    .skip) (
    .exit 0))) (
  .seq (
  .block 1 (
   .seq (
   .reg [.get 1,
     .get 5,
     .run (.indexAddr 28 (.tmp 1) (.tmp 0)) none,
     .run (.load 9 (.tmp 0)) none,
     .get 0,
     .run (.binOp .eql 9 (.tmp 1) (.tmp 0) 9) none] [(17, 0)]) (
   .cond (.tmp 17) (
     .seq (
     .reg [.run (.assign (.const (.bool true))) none] [(4, 0)]) (
     .ret)) (
     .skip)))) (
  .reg [.get 5,
    .run (.binOp .add 3 (.tmp 0) (.const (.int .i64 1)) 3) none] [(5, 0)])))))) (
.seq (
.reg [.run (.assign (.const (.bool false))) none] [(4, 0)]) (
.ret)))
theorem fn_ref01_among : V.F 28 = some Tryd.f28 := by kernel_rfl
theorem is_ref01_among : (V.F 28).isSome = true := by rw [fn_ref01_among]; rfl
noncomputable def c_ref01_among : Code := match Tryd.f28.body with
  | some c => c
  | none => .skip
theorem b_ref01_among : Tryd.f28.body = some c_ref01_among := rfl
theorem pc_ref01_among : pcOf V Tryd.f28.ntmps (some (liveOf Tryd.f28 c_ref01_among)) c_ref01_among = some P_ref01_among := by kernel_rfl
theorem Lc.ref01_among {O : Orc} {vs : List Value} {H : AH} {R : Value → AH → Prop} (ho : O 28 vs H = none) (hlen : vs.length ≤ Tryd.f28.ntmps) (hlive : (List.range vs.length).all (isLive (some (liveOf Tryd.f28 c_ref01_among))) = true)
    (h : WP V O (some (liveOf Tryd.f28 c_ref01_among)) Tryd.f28.ntmps P_ref01_among (initL vs 0) H fun e l H' => (e = .normal ∨ e = .ret) ∧ ∃ rs, resL V l H' Tryd.f28.results.toList = some rs ∧ R (resOf rs) H') : ∃ v H', Lc V O 28 vs H v H' ∧ R v H' :=
  Lc.fnP ho fn_ref01_among b_ref01_among pc_ref01_among hlen hlive h
/- slices.Index[[]string,string] -/
abbrev F_slices_Index_s_string_string : FuncId := 29
def P_slices_Index_s_string_string : PC :=
.seq (
.reg [.run (.assign (.const (.int .i64 0))) none] [(4, 0)]) (
.seq (
.seq (
.reg [.get 0,
  .run (.call ⟨.builtin .len, #[(.tmp 0)], #[28]⟩) none,
  .run (.move (.const (.int .i64 0))) none] [(8, 0), (7, 1)]) (
.block 0 (
 .loop (
  .seq (
  .reg [.run (.binOp .lss 3 (.tmp (far + 8)) (.tmp (far + 7)) 3) none] [(9, 0)]) (
  .seq (
  .cond (.tmp 9) (
    .skip) (
    .exit 0)) (
  .seq (
  .block 1 (
   .seq (
   .reg [.get 8] [(5, 0)]) (
   .seq (
   .reg [.get 1,
     .get 0,
     .get 5,
     .run (.indexAddr 28 (.tmp 1) (.tmp 0)) none,
     .run (.load 9 (.tmp 0)) none,
     .run (.binOp .eql 9 (.tmp 4) (.tmp 0) 9) none] [(16, 0)]) (
   .cond (.tmp 16) (
     .seq (
     .reg [.get 5] [(4, 0)]) (
     .ret)) (
     .skip))))) (
  .reg [.run (.binOp .add 3 (.tmp (far + 8)) (.const (.int .i64 1)) 3) none] [(8, 0)]))))))) (
.seq (
.reg [.run (.assign (.const (.int .i64 (-1)))) none] [(4, 0)]) (
.ret)))
theorem fn_slices_Index_s_string_string : V.F 29 = some Tryd.f29 := by kernel_rfl
theorem is_slices_Index_s_string_string : (V.F 29).isSome = true := by rw [fn_slices_Index_s_string_string]; rfl
noncomputable def c_slices_Index_s_string_string : Code := match Tryd.f29.body with
  | some c => c
  | none => .skip
theorem b_slices_Index_s_string_string : Tryd.f29.body = some c_slices_Index_s_string_string := rfl
theorem pc_slices_Index_s_string_string : pcOf V Tryd.f29.ntmps (some (liveOf Tryd.f29 c_slices_Index_s_string_string)) c_slices_Index_s_string_string = some P_slices_Index_s_string_string := by kernel_rfl
theorem Lc.slices_Index_s_string_string {O : Orc} {vs : List Value} {H : AH} {R : Value → AH → Prop} (ho : O 29 vs H = none) (hlen : vs.length ≤ Tryd.f29.ntmps) (hlive : (List.range vs.length).all (isLive (some (liveOf Tryd.f29 c_slices_Index_s_string_string))) = true)
    (h : WP V O (some (liveOf Tryd.f29 c_slices_Index_s_string_string)) Tryd.f29.ntmps P_slices_Index_s_string_string (initL vs 0) H fun e l H' => (e = .normal ∨ e = .ret) ∧ ∃ rs, resL V l H' Tryd.f29.results.toList = some rs ∧ R (resOf rs) H') : ∃ v H', Lc V O 29 vs H v H' ∧ R v H' :=
  Lc.fnP ho fn_slices_Index_s_string_string b_slices_Index_s_string_string pc_slices_Index_s_string_string hlen hlive h
/- bobbin/lex.letter -/
abbrev F_lex_letter : FuncId := 30
def P_lex_letter : PC :=
.seq (
.reg [.run (.assign (.const (.bool false))) none] [(2, 0)]) (
.seq (
.reg [.get 0,
  .run (.binOp .geq 5 (.tmp 0) (.const (.int .u8 97)) 5) none,
  .run (.move (.tmp (far + 0))) (some ((.tmp 0), true)),
  .run (.binOp .leq 5 (.tmp 0) (.const (.int .u8 122)) 5) (some ((.tmp 1), true)),
  .run (.pick (.tmp 2) (.tmp 0) (.const (.bool false))) none,
  .run (.move (.tmp (far + 0))) (some ((.tmp 0), false)),
  .run (.binOp .geq 5 (.tmp 0) (.const (.int .u8 65)) 5) (some ((.tmp 1), false)),
  .run (.move (.tmp 0)) (some ((.tmp 2), false)),
  .run (.move (.tmp (far + 0))) (some ((.tmp 0), true)),
  .run (.binOp .leq 5 (.tmp 0) (.const (.int .u8 90)) 5) (some ((.tmp 1), true)),
  .run (.pick (.tmp 2) (.tmp 0) (.const (.bool false))) (some ((.tmp 5), false)),
  .run (.pick (.tmp 6) (.const (.bool true)) (.tmp 0)) none,
  .run (.move (.tmp (far + 0))) (some ((.tmp 0), false)),
  .run (.binOp .eql 5 (.tmp 0) (.const (.int .u8 95)) 5) (some ((.tmp 1), false)),
  .run (.pick (.tmp 2) (.const (.bool true)) (.tmp 0)) none] [(2, 0)]) (
.ret))
theorem fn_lex_letter : V.F 30 = some Tryd.f30 := by kernel_rfl
theorem is_lex_letter : (V.F 30).isSome = true := by rw [fn_lex_letter]; rfl
noncomputable def c_lex_letter : Code := match Tryd.f30.body with
  | some c => c
  | none => .skip
theorem b_lex_letter : Tryd.f30.body = some c_lex_letter := rfl
theorem pc_lex_letter : pcOf V Tryd.f30.ntmps (some (liveOf Tryd.f30 c_lex_letter)) c_lex_letter = some P_lex_letter := by kernel_rfl
theorem Lc.lex_letter {O : Orc} {vs : List Value} {H : AH} {R : Value → AH → Prop} (ho : O 30 vs H = none) (hlen : vs.length ≤ Tryd.f30.ntmps) (hlive : (List.range vs.length).all (isLive (some (liveOf Tryd.f30 c_lex_letter))) = true)
    (h : WP V O (some (liveOf Tryd.f30 c_lex_letter)) Tryd.f30.ntmps P_lex_letter (initL vs 0) H fun e l H' => (e = .normal ∨ e = .ret) ∧ ∃ rs, resL V l H' Tryd.f30.results.toList = some rs ∧ R (resOf rs) H') : ∃ v H', Lc V O 30 vs H v H' ∧ R v H' :=
  Lc.fnP ho fn_lex_letter b_lex_letter pc_lex_letter hlen hlive h
/- bobbin/lex.run -/
abbrev F_lex_run : FuncId := 31
def P_lex_run : PC :=
.seq (
.reg [.run (.assign (.const (.int .i64 0))) none] [(4, 0)]) (
.seq (
.reg [.run (.assign (.const (.int .i64 0))) none] [(5, 0)]) (
.seq (
.block 0 (
 .loop (
  .seq (
  .seq (
  .reg [.get 5,
    .get 0,
    .run (.call ⟨.builtin .len, #[(.tmp 0)], #[9]⟩) none,
    .run (.binOp .lss 3 (.tmp 2) (.tmp 0) 3) none,
    .run (.move (.tmp (far + 1))) (some ((.tmp 0), true)),
    .run (.move (.tmp (far + 0))) (some ((.tmp 1), true)),
    .run (.move (.tmp (far + 5))) (some ((.tmp 2), true)),
    .run (.index 9 (.tmp 1) (.tmp 0)) (some ((.tmp 3), true)),
    .run (.call ⟨.value (.tmp 3), #[(.tmp 0)], #[5]⟩) (some ((.tmp 4), true)),
    .run (.pick (.tmp 5) (.tmp 0) (.const (.bool false))) none] [(16, 0)]) (
  .cond (.tmp 16) (
    .skip) (
    .exit 0))) (
  .block 1 (
   .reg [.get 5,
     .run (.binOp .add 3 (.tmp 0) (.const (.int .i64 1)) 3) none] [(5, 0)]))))) (
.seq (
.reg [.get 5] [(4, 0)]) (
.ret))))
theorem fn_lex_run : V.F 31 = some Tryd.f31 := by kernel_rfl
theorem is_lex_run : (V.F 31).isSome = true := by rw [fn_lex_run]; rfl
noncomputable def c_lex_run : Code := match Tryd.f31.body with
  | some c => c
  | none => .skip
theorem b_lex_run : Tryd.f31.body = some c_lex_run := rfl
theorem pc_lex_run : pcOf V Tryd.f31.ntmps (some (liveOf Tryd.f31 c_lex_run)) c_lex_run = some P_lex_run := by kernel_rfl
theorem Lc.lex_run {O : Orc} {vs : List Value} {H : AH} {R : Value → AH → Prop} (ho : O 31 vs H = none) (hlen : vs.length ≤ Tryd.f31.ntmps) (hlive : (List.range vs.length).all (isLive (some (liveOf Tryd.f31 c_lex_run))) = true)
    (h : WP V O (some (liveOf Tryd.f31 c_lex_run)) Tryd.f31.ntmps P_lex_run (initL vs 0) H fun e l H' => (e = .normal ∨ e = .ret) ∧ ∃ rs, resL V l H' Tryd.f31.results.toList = some rs ∧ R (resOf rs) H') : ∃ v H', Lc V O 31 vs H v H' ∧ R v H' :=
  Lc.fnP ho fn_lex_run b_lex_run pc_lex_run hlen hlive h
/- bobbin/lex.word$1 -/
abbrev F_lex_word_q1 : FuncId := 32
def P_lex_word_q1 : PC :=
.seq (
.reg [.run (.assign (.const (.bool false))) none] [(2, 0)]) (
.seq (
.reg [.get 0,
  .run (.call ⟨.value (.func 30), #[(.tmp 0)], #[5]⟩) none,
  .run (.move (.tmp (far + 0))) (some ((.tmp 0), false)),
  .run (.call ⟨.value (.func 33), #[(.tmp 0)], #[5]⟩) (some ((.tmp 1), false)),
  .run (.pick (.tmp 2) (.const (.bool true)) (.tmp 0)) none] [(2, 0)]) (
.ret))
theorem fn_lex_word_q1 : V.F 32 = some Tryd.f32 := by kernel_rfl
theorem is_lex_word_q1 : (V.F 32).isSome = true := by rw [fn_lex_word_q1]; rfl
noncomputable def c_lex_word_q1 : Code := match Tryd.f32.body with
  | some c => c
  | none => .skip
theorem b_lex_word_q1 : Tryd.f32.body = some c_lex_word_q1 := rfl
theorem pc_lex_word_q1 : pcOf V Tryd.f32.ntmps (some (liveOf Tryd.f32 c_lex_word_q1)) c_lex_word_q1 = some P_lex_word_q1 := by kernel_rfl
theorem Lc.lex_word_q1 {O : Orc} {vs : List Value} {H : AH} {R : Value → AH → Prop} (ho : O 32 vs H = none) (hlen : vs.length ≤ Tryd.f32.ntmps) (hlive : (List.range vs.length).all (isLive (some (liveOf Tryd.f32 c_lex_word_q1))) = true)
    (h : WP V O (some (liveOf Tryd.f32 c_lex_word_q1)) Tryd.f32.ntmps P_lex_word_q1 (initL vs 0) H fun e l H' => (e = .normal ∨ e = .ret) ∧ ∃ rs, resL V l H' Tryd.f32.results.toList = some rs ∧ R (resOf rs) H') : ∃ v H', Lc V O 32 vs H v H' ∧ R v H' :=
  Lc.fnP ho fn_lex_word_q1 b_lex_word_q1 pc_lex_word_q1 hlen hlive h
/- bobbin/lex.digit -/
abbrev F_lex_digit : FuncId := 33
def P_lex_digit : PC :=
.seq (
.reg [.run (.assign (.const (.bool false))) none] [(2, 0)]) (
.seq (
.reg [.get 0,
  .run (.binOp .geq 5 (.tmp 0) (.const (.int .u8 48)) 5) none,
  .run (.move (.tmp (far + 0))) (some ((.tmp 0), true)),
  .run (.binOp .leq 5 (.tmp 0) (.const (.int .u8 57)) 5) (some ((.tmp 1), true)),
  .run (.pick (.tmp 2) (.tmp 0) (.const (.bool false))) none] [(2, 0)]) (
.ret))
theorem fn_lex_digit : V.F 33 = some Tryd.f33 := by kernel_rfl
theorem is_lex_digit : (V.F 33).isSome = true := by rw [fn_lex_digit]; rfl
noncomputable def c_lex_digit : Code := match Tryd.f33.body with
  | some c => c
  | none => .skip
theorem b_lex_digit : Tryd.f33.body = some c_lex_digit := rfl
theorem pc_lex_digit : pcOf V Tryd.f33.ntmps (some (liveOf Tryd.f33 c_lex_digit)) c_lex_digit = some P_lex_digit := by kernel_rfl
theorem Lc.lex_digit {O : Orc} {vs : List Value} {H : AH} {R : Value → AH → Prop} (ho : O 33 vs H = none) (hlen : vs.length ≤ Tryd.f33.ntmps) (hlive : (List.range vs.length).all (isLive (some (liveOf Tryd.f33 c_lex_digit))) = true)
    (h : WP V O (some (liveOf Tryd.f33 c_lex_digit)) Tryd.f33.ntmps P_lex_digit (initL vs 0) H fun e l H' => (e = .normal ∨ e = .ret) ∧ ∃ rs, resL V l H' Tryd.f33.results.toList = some rs ∧ R (resOf rs) H') : ∃ v H', Lc V O 33 vs H v H' ∧ R v H' :=
  Lc.fnP ho fn_lex_digit b_lex_digit pc_lex_digit hlen hlive h
/- bobbin/lex.blank$1 -/
abbrev F_lex_blank_q1 : FuncId := 34
def P_lex_blank_q1 : PC :=
.seq (
.reg [.run (.assign (.const (.bool false))) none] [(2, 0)]) (
.seq (
.reg [.get 0,
  .run (.binOp .neq 5 (.tmp 0) (.const (.int .u8 10)) 5) none] [(2, 0)]) (
.ret))
theorem fn_lex_blank_q1 : V.F 34 = some Tryd.f34 := by kernel_rfl
theorem is_lex_blank_q1 : (V.F 34).isSome = true := by rw [fn_lex_blank_q1]; rfl
noncomputable def c_lex_blank_q1 : Code := match Tryd.f34.body with
  | some c => c
  | none => .skip
theorem b_lex_blank_q1 : Tryd.f34.body = some c_lex_blank_q1 := rfl
theorem pc_lex_blank_q1 : pcOf V Tryd.f34.ntmps (some (liveOf Tryd.f34 c_lex_blank_q1)) c_lex_blank_q1 = some P_lex_blank_q1 := by kernel_rfl
theorem Lc.lex_blank_q1 {O : Orc} {vs : List Value} {H : AH} {R : Value → AH → Prop} (ho : O 34 vs H = none) (hlen : vs.length ≤ Tryd.f34.ntmps) (hlive : (List.range vs.length).all (isLive (some (liveOf Tryd.f34 c_lex_blank_q1))) = true)
    (h : WP V O (some (liveOf Tryd.f34 c_lex_blank_q1)) Tryd.f34.ntmps P_lex_blank_q1 (initL vs 0) H fun e l H' => (e = .normal ∨ e = .ret) ∧ ∃ rs, resL V l H' Tryd.f34.results.toList = some rs ∧ R (resOf rs) H') : ∃ v H', Lc V O 34 vs H v H' ∧ R v H' :=
  Lc.fnP ho fn_lex_blank_q1 b_lex_blank_q1 pc_lex_blank_q1 hlen hlive h
/- bobbin/lex.blank$2 -/
abbrev F_lex_blank_q2 : FuncId := 35
def P_lex_blank_q2 : PC :=
.seq (
.reg [.run (.assign (.const (.bool false))) none] [(2, 0)]) (
.seq (
.reg [.get 0,
  .run (.binOp .eql 5 (.tmp 0) (.const (.int .u8 32)) 5) none,
  .run (.move (.tmp (far + 0))) (some ((.tmp 0), false)),
  .run (.binOp .eql 5 (.tmp 0) (.const (.int .u8 9)) 5) (some ((.tmp 1), false)),
  .run (.pick (.tmp 2) (.const (.bool true)) (.tmp 0)) none,
  .run (.move (.tmp (far + 0))) (some ((.tmp 0), false)),
  .run (.binOp .eql 5 (.tmp 0) (.const (.int .u8 10)) 5) (some ((.tmp 1), false)),
  .run (.pick (.tmp 2) (.const (.bool true)) (.tmp 0)) none] [(2, 0)]) (
.ret))
theorem fn_lex_blank_q2 : V.F 35 = some Tryd.f35 := by kernel_rfl
theorem is_lex_blank_q2 : (V.F 35).isSome = true := by rw [fn_lex_blank_q2]; rfl
noncomputable def c_lex_blank_q2 : Code := match Tryd.f35.body with
  | some c => c
  | none => .skip
theorem b_lex_blank_q2 : Tryd.f35.body = some c_lex_blank_q2 := rfl
theorem pc_lex_blank_q2 : pcOf V Tryd.f35.ntmps (some (liveOf Tryd.f35 c_lex_blank_q2)) c_lex_blank_q2 = some P_lex_blank_q2 := by kernel_rfl
theorem Lc.lex_blank_q2 {O : Orc} {vs : List Value} {H : AH} {R : Value → AH → Prop} (ho : O 35 vs H = none) (hlen : vs.length ≤ Tryd.f35.ntmps) (hlive : (List.range vs.length).all (isLive (some (liveOf Tryd.f35 c_lex_blank_q2))) = true)
    (h : WP V O (some (liveOf Tryd.f35 c_lex_blank_q2)) Tryd.f35.ntmps P_lex_blank_q2 (initL vs 0) H fun e l H' => (e = .normal ∨ e = .ret) ∧ ∃ rs, resL V l H' Tryd.f35.results.toList = some rs ∧ R (resOf rs) H') : ∃ v H', Lc V O 35 vs H v H' ∧ R v H' :=
  Lc.fnP ho fn_lex_blank_q2 b_lex_blank_q2 pc_lex_blank_q2 hlen hlive h
/- bobbin/lex.number -/
abbrev F_lex_number : FuncId := 36
def P_lex_number : PC :=
.seq (
.reg [.run (.assign (.const (.bool false))) none] [(2, 0)]) (
.seq (
.reg [.get 0,
  .run (.binOp .eql 9 (.tmp 0) (.const (.string ⟨⟨[48]⟩⟩)) 9) none,
  .run (.move (.tmp (far + 0))) (some ((.tmp 0), false)),
  .run (.index 9 (.tmp 0) (.const (.int .i64 0))) (some ((.tmp 1), false)),
  .run (.binOp .neq 5 (.tmp 0) (.const (.int .u8 48)) 5) (some ((.tmp 2), false)),
  .run (.pick (.tmp 3) (.const (.bool true)) (.tmp 0)) none,
  .run (.move (.tmp (far + 0))) (some ((.tmp 0), true)),
  .run (.call ⟨.builtin .len, #[(.tmp 0)], #[9]⟩) (some ((.tmp 1), true)),
  .run (.binOp .lss 3 (.tmp 0) (.const (.int .i64 19)) 3) (some ((.tmp 2), true)),
  .run (.move (.tmp 0)) (some ((.tmp 3), true)),
  .run (.move (.tmp (far + 0))) (some ((.tmp 0), false)),
  .run (.call ⟨.builtin .len, #[(.tmp 0)], #[9]⟩) (some ((.tmp 1), false)),
  .run (.binOp .eql 3 (.tmp 0) (.const (.int .i64 19)) 3) (some ((.tmp 2), false)),
  .run (.move (.tmp 0)) (some ((.tmp 3), false)),
  .run (.move (.tmp (far + 0))) (some ((.tmp 0), true)),
  .run (.binOp .leq 9 (.tmp 0) (.const (.string ⟨⟨[57, 50, 50, 51, 51, 55, 50, 48, 51, 54, 56, 53, 52, 55, 55, 53, 56, 48, 56]⟩⟩)) 9) (some ((.tmp 1), true)),
  .run (.pick (.tmp 2) (.tmp 0) (.const (.bool false))) (some ((.tmp 6), false)),
  .run (.pick (.tmp 7) (.const (.bool true)) (.tmp 0)) (some ((.tmp 11), true)),
  .run (.pick (.tmp 12) (.tmp 0) (.const (.bool false))) none] [(2, 0)]) (
.ret))
theorem fn_lex_number : V.F 36 = some Tryd.f36 := by kernel_rfl
theorem is_lex_number : (V.F 36).isSome = true := by rw [fn_lex_number]; rfl
noncomputable def c_lex_number : Code := match Tryd.f36.body with
  | some c => c
  | none => .skip
theorem b_lex_number : Tryd.f36.body = some c_lex_number := rfl
theorem pc_lex_number : pcOf V Tryd.f36.ntmps (some (liveOf Tryd.f36 c_lex_number)) c_lex_number = some P_lex_number := by kernel_rfl
theorem Lc.lex_number {O : Orc} {vs : List Value} {H : AH} {R : Value → AH → Prop} (ho : O 36 vs H = none) (hlen : vs.length ≤ Tryd.f36.ntmps) (hlive : (List.range vs.length).all (isLive (some (liveOf Tryd.f36 c_lex_number))) = true)
    (h : WP V O (some (liveOf Tryd.f36 c_lex_number)) Tryd.f36.ntmps P_lex_number (initL vs 0) H fun e l H' => (e = .normal ∨ e = .ret) ∧ ∃ rs, resL V l H' Tryd.f36.results.toList = some rs ∧ R (resOf rs) H') : ∃ v H', Lc V O 36 vs H v H' ∧ R v H' :=
  Lc.fnP ho fn_lex_number b_lex_number pc_lex_number hlen hlive h
/- slices.IndexFunc[[]string,string] -/
abbrev F_slices_IndexFunc_s_string_string : FuncId := 37
def P_slices_IndexFunc_s_string_string : PC :=
.seq (
.reg [.run (.assign (.const (.int .i64 0))) none] [(4, 0)]) (
.seq (
.seq (
.reg [.get 0,
  .run (.call ⟨.builtin .len, #[(.tmp 0)], #[28]⟩) none,
  .run (.move (.const (.int .i64 0))) none] [(8, 0), (7, 1)]) (
.block 0 (
 .loop (
  .seq (
  .reg [.run (.binOp .lss 3 (.tmp (far + 8)) (.tmp (far + 7)) 3) none] [(9, 0)]) (
  .seq (
  .cond (.tmp 9) (
    .skip) (
    .exit 0)) (
  .seq (
  .block 1 (
   .seq (
   .reg [.get 8] [(5, 0)]) (
   .seq (
   .reg [.get 1,
     .get 0,
     .get 5,
     .run (.indexAddr 28 (.tmp 1) (.tmp 0)) none,
     .run (.load 9 (.tmp 0)) none,
     .run (.call ⟨.value (.tmp 4), #[(.tmp 0)], #[9]⟩) none] [(16, 0)]) (
   .cond (.tmp 16) (
     .seq (
     .reg [.get 5] [(4, 0)]) (
     .ret)) (
     .skip))))) (
  .reg [.run (.binOp .add 3 (.tmp (far + 8)) (.const (.int .i64 1)) 3) none] [(8, 0)]))))))) (
.seq (
.reg [.run (.assign (.const (.int .i64 (-1)))) none] [(4, 0)]) (
.ret)))
theorem fn_slices_IndexFunc_s_string_string : V.F 37 = some Tryd.f37 := by kernel_rfl
theorem is_slices_IndexFunc_s_string_string : (V.F 37).isSome = true := by rw [fn_slices_IndexFunc_s_string_string]; rfl
noncomputable def c_slices_IndexFunc_s_string_string : Code := match Tryd.f37.body with
  | some c => c
  | none => .skip
theorem b_slices_IndexFunc_s_string_string : Tryd.f37.body = some c_slices_IndexFunc_s_string_string := rfl
theorem pc_slices_IndexFunc_s_string_string : pcOf V Tryd.f37.ntmps (some (liveOf Tryd.f37 c_slices_IndexFunc_s_string_string)) c_slices_IndexFunc_s_string_string = some P_slices_IndexFunc_s_string_string := by kernel_rfl
theorem Lc.slices_IndexFunc_s_string_string {O : Orc} {vs : List Value} {H : AH} {R : Value → AH → Prop} (ho : O 37 vs H = none) (hlen : vs.length ≤ Tryd.f37.ntmps) (hlive : (List.range vs.length).all (isLive (some (liveOf Tryd.f37 c_slices_IndexFunc_s_string_string))) = true)
    (h : WP V O (some (liveOf Tryd.f37 c_slices_IndexFunc_s_string_string)) Tryd.f37.ntmps P_slices_IndexFunc_s_string_string (initL vs 0) H fun e l H' => (e = .normal ∨ e = .ret) ∧ ∃ rs, resL V l H' Tryd.f37.results.toList = some rs ∧ R (resOf rs) H') : ∃ v H', Lc V O 37 vs H v H' ∧ R v H' :=
  Lc.fnP ho fn_slices_IndexFunc_s_string_string b_slices_IndexFunc_s_string_string pc_slices_IndexFunc_s_string_string hlen hlive h
/- bobbin/lex.token$1 -/
abbrev F_lex_token_q1 : FuncId := 38
def P_lex_token_q1 : PC :=
.seq (
.reg [.run (.assign (.const (.bool false))) none] [(3, 0)]) (
.seq (
.reg [.run (.load 9 (.tmp (far + 1))) none,
  .get 0,
  .run (.call ⟨.value (.func 39), #[(.tmp 1), (.tmp 0)], #[9, 9]⟩) none] [(3, 0)]) (
.ret))
theorem fn_lex_token_q1 : V.F 38 = some Tryd.f38 := by kernel_rfl
theorem is_lex_token_q1 : (V.F 38).isSome = true := by rw [fn_lex_token_q1]; rfl
noncomputable def c_lex_token_q1 : Code := match Tryd.f38.body with
  | some c => c
  | none => .skip
theorem b_lex_token_q1 : Tryd.f38.body = some c_lex_token_q1 := rfl
theorem pc_lex_token_q1 : pcOf V Tryd.f38.ntmps (some (liveOf Tryd.f38 c_lex_token_q1)) c_lex_token_q1 = some P_lex_token_q1 := by kernel_rfl
theorem Lc.lex_token_q1 {O : Orc} {vs : List Value} {H : AH} {R : Value → AH → Prop} (ho : O 38 vs H = none) (hlen : vs.length ≤ Tryd.f38.ntmps) (hlive : (List.range vs.length).all (isLive (some (liveOf Tryd.f38 c_lex_token_q1))) = true)
    (h : WP V O (some (liveOf Tryd.f38 c_lex_token_q1)) Tryd.f38.ntmps P_lex_token_q1 (initL vs 0) H fun e l H' => (e = .normal ∨ e = .ret) ∧ ∃ rs, resL V l H' Tryd.f38.results.toList = some rs ∧ R (resOf rs) H') : ∃ v H', Lc V O 38 vs H v H' ∧ R v H' :=
  Lc.fnP ho fn_lex_token_q1 b_lex_token_q1 pc_lex_token_q1 hlen hlive h
/- strings.HasPrefix -/
abbrev F_strings_HasPrefix : FuncId := 39
def P_strings_HasPrefix : PC :=
.seq (
.reg [.run (.assign (.const (.bool false))) none] [(4, 0)]) (
.seq (
.reg [.get 0,
  .get 1,
  .run (.call ⟨.value (.func 40), #[(.tmp 1), (.tmp 0)], #[9, 9]⟩) none] [(4, 0)]) (
.ret))
theorem fn_strings_HasPrefix : V.F 39 = some Tryd.f39 := by kernel_rfl
theorem is_strings_HasPrefix : (V.F 39).isSome = true := by rw [fn_strings_HasPrefix]; rfl
noncomputable def c_strings_HasPrefix : Code := match Tryd.f39.body with
  | some c => c
  | none => .skip
theorem b_strings_HasPrefix : Tryd.f39.body = some c_strings_HasPrefix := rfl
theorem pc_strings_HasPrefix : pcOf V Tryd.f39.ntmps (some (liveOf Tryd.f39 c_strings_HasPrefix)) c_strings_HasPrefix = some P_strings_HasPrefix := by kernel_rfl
theorem Lc.strings_HasPrefix {O : Orc} {vs : List Value} {H : AH} {R : Value → AH → Prop} (ho : O 39 vs H = none) (hlen : vs.length ≤ Tryd.f39.ntmps) (hlive : (List.range vs.length).all (isLive (some (liveOf Tryd.f39 c_strings_HasPrefix))) = true)
    (h : WP V O (some (liveOf Tryd.f39 c_strings_HasPrefix)) Tryd.f39.ntmps P_strings_HasPrefix (initL vs 0) H fun e l H' => (e = .normal ∨ e = .ret) ∧ ∃ rs, resL V l H' Tryd.f39.results.toList = some rs ∧ R (resOf rs) H') : ∃ v H', Lc V O 39 vs H v H' ∧ R v H' :=
  Lc.fnP ho fn_strings_HasPrefix b_strings_HasPrefix pc_strings_HasPrefix hlen hlive h
/- internal/stringslite.HasPrefix -/
abbrev F_internal_stringslite_HasPrefix : FuncId := 40
def P_internal_stringslite_HasPrefix : PC :=
.seq (
.reg [.run (.assign (.const (.bool false))) none] [(4, 0)]) (
.seq (
.reg [.get 0,
  .run (.call ⟨.builtin .len, #[(.tmp 0)], #[9]⟩) none,
  .get 1,
  .run (.call ⟨.builtin .len, #[(.tmp 0)], #[9]⟩) none,
  .run (.binOp .geq 3 (.tmp 2) (.tmp 0) 3) none,
  .run (.move (.tmp (far + 0))) (some ((.tmp 0), true)),
  .run (.move (.tmp (far + 1))) (some ((.tmp 1), true)),
  .run (.call ⟨.builtin .len, #[(.tmp 0)], #[9]⟩) (some ((.tmp 2), true)),
  .run (.slice 9 (.tmp 2) none (some (.tmp 0)) none) (some ((.tmp 3), true)),
  .run (.move (.tmp (far + 1))) (some ((.tmp 4), true)),
  .run (.binOp .eql 9 (.tmp 1) (.tmp 0) 9) (some ((.tmp 5), true)),
  .run (.pick (.tmp 6) (.tmp 0) (.const (.bool false))) none] [(4, 0)]) (
.ret))
theorem fn_internal_stringslite_HasPrefix : V.F 40 = some Tryd.f40 := by kernel_rfl
theorem is_internal_stringslite_HasPrefix : (V.F 40).isSome = true := by rw [fn_internal_stringslite_HasPrefix]; rfl
noncomputable def c_internal_stringslite_HasPrefix : Code := match Tryd.f40.body with
  | some c => c
  | none => .skip
theorem b_internal_stringslite_HasPrefix : Tryd.f40.body = some c_internal_stringslite_HasPrefix := rfl
theorem pc_internal_stringslite_HasPrefix : pcOf V Tryd.f40.ntmps (some (liveOf Tryd.f40 c_internal_stringslite_HasPrefix)) c_internal_stringslite_HasPrefix = some P_internal_stringslite_HasPrefix := by kernel_rfl
theorem Lc.internal_stringslite_HasPrefix {O : Orc} {vs : List Value} {H : AH} {R : Value → AH → Prop} (ho : O 40 vs H = none) (hlen : vs.length ≤ Tryd.f40.ntmps) (hlive : (List.range vs.length).all (isLive (some (liveOf Tryd.f40 c_internal_stringslite_HasPrefix))) = true)
    (h : WP V O (some (liveOf Tryd.f40 c_internal_stringslite_HasPrefix)) Tryd.f40.ntmps P_internal_stringslite_HasPrefix (initL vs 0) H fun e l H' => (e = .normal ∨ e = .ret) ∧ ∃ rs, resL V l H' Tryd.f40.results.toList = some rs ∧ R (resOf rs) H') : ∃ v H', Lc V O 40 vs H v H' ∧ R v H' :=
  Lc.fnP ho fn_internal_stringslite_HasPrefix b_internal_stringslite_HasPrefix pc_internal_stringslite_HasPrefix hlen hlive h
end Go.Proofs.YtdkfcpadbahohaaDoor.U

